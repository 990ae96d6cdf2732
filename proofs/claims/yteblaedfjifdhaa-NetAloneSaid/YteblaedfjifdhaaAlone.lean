/-
  Plain facts for the law NetAlone: what is left in the second net is what is left in the first one of the message to node 0.
-/
import Derived.Test.YteblaedfjifdhaaOwnWalk
namespace Go.Proofs.Yteblaedfjifdhaa
open Go.RowKit

abbrev otherB : ByteArray := ⟨#[111, 116, 104, 101, 114]⟩
abbrev thisB : ByteArray := ⟨#[116, 104, 105, 115]⟩
def alN (s : List Tr) (ts : List Int) : Nat → NS
  | 0 => newNS 2 s
  | k + 1 => sendN (alN s ts k) (tat ts k) k 1 otherB
def alM (s : List Tr) : Nat → NS
  | 0 => newNS 2 s
  | k + 1 => sendN (alM s k) 0 0 5 ByteArray.empty
theorem alN_fix (s : List Tr) (ts : List Int) (k : Nat) : (alN s ts k).nodes = 2 ∧ (alN s ts k).s = s ∧ (alN s ts k).gr = (fun _ => 0) ∧ (alN s ts k).sent = k := by
  induction k with
  | zero => exact ⟨rfl, rfl, rfl, rfl⟩
  | succ k ih =>
    obtain ⟨a, b, c, d⟩ := sendN_fix (alN s ts k) (tat ts k) k 1 otherB
    obtain ⟨a', b', c', d'⟩ := ih
    exact ⟨a.trans a', b.trans b', c.trans c', d.trans (by rw [d'])⟩
theorem alM_drop (_s : List Tr) (N : NS) (h : N.nodes = 2) : dropB N 0 5 = true := by
  unfold dropB; rw [h]; simp [nodeB]
theorem alM_is (s : List Tr) (k : Nat) : alM s k = ⟨2, s, fun _ => 0, k, []⟩ := by
  induction k with
  | zero => rfl
  | succ k ih => rw [alM, ih, sendN, if_pos (alM_drop s _ rfl)]
theorem alN_good (s : List Tr) (ts : List Int) (k : Nat) : Good (alN s ts k) := by
  induction k with
  | zero => exact good_new _ _
  | succ k ih => exact good_send ih _ _ _ _
theorem alM_good (s : List Tr) (k : Nat) : Good (alM s k) := by
  induction k with
  | zero => exact good_new _ _
  | succ k ih => exact good_send ih _ _ _ _
theorem alN_to (s : List Tr) (ts : List Int) (k : Nat) : ∀ y ∈ (alN s ts k).L, y.to = 1 := by
  induction k with
  | zero => intro y hy; cases hy
  | succ k ih =>
    intro y hy
    rw [alN, sendN] at hy
    split at hy
    · exact ih y hy
    · rcases List.mem_append.1 ((insAll_perm _ _).mem_iff.1 hy) with h | h
      · obtain ⟨i, hi, rfl⟩ := mem_copiesTo.1 h
        rfl
      · exact ih y h
theorem alN_may (l : List Tr) (ts : List Int) (k : Nat) (ht : U16sWf ts) : MaySend (alN (scriptOf l) ts k) (tat ts k) k 1 := by
  obtain ⟨a, b, c, d⟩ := alN_fix (scriptOf l) ts k
  have h1 := ht k
  have h2 := trOf_delay (l := l) k
  refine .inr ⟨by omega, by omega, ?_⟩
  rw [b, d]; omega
theorem alM_may (s : List Tr) (k : Nat) : MaySend (alM s k) 0 0 5 := .inl (alM_drop s _ (by rw [alM_is]))

theorem ins_cons (x y : Wt) (l : List Wt) : ins x (y :: l) = if ltB x y then x :: y :: l else y :: ins x l := rfl
theorem filter_ins {p : Wt → Bool} {x : Wt} {l : List Wt} (h : Sorted l) (hp : p x = true) : (ins x l).filter p = ins x (l.filter p) := by
  induction l with
  | nil => simp [ins, hp]
  | cons y l ih =>
    obtain ⟨h1, h2⟩ := List.pairwise_cons.1 h
    rw [ins_cons]
    by_cases hxy : ltB x y = true
    · rw [if_pos hxy]
      have hall : ∀ z ∈ (y :: l).filter p, ltB x z = true := fun z hz => by
        rcases List.mem_cons.1 (List.mem_filter.1 hz).1 with rfl | hz
        · exact hxy
        · exact ltB_trans hxy (h1 z hz)
      rw [List.filter_cons_of_pos hp]
      cases hf : (y :: l).filter p with
      | nil => rfl
      | cons z m => rw [ins_cons, if_pos (hall z (by rw [hf]; exact List.mem_cons_self))]
    · rw [if_neg hxy]
      cases hpy : p y
      · rw [List.filter_cons_of_neg (by simp [hpy]), List.filter_cons_of_neg (by simp [hpy]), ih h2]
      · rw [List.filter_cons_of_pos hpy, List.filter_cons_of_pos hpy, ih h2, ins_cons, if_neg hxy]
theorem filter_copies {N : NS} (h : Good N) (now fr to : Int) (tx : ByteArray) {p : Wt → Bool} (hp : ∀ j, p (mkCopy N now fr to tx j) = true) (j : Nat) :
    (insAll (copiesTo N now fr to tx j) N.L).filter p = insAll (copiesTo N now fr to tx j) (N.L.filter p) := by
  induction j with
  | zero => rfl
  | succ j ih => rw [copiesTo, insAll, filter_ins (good_copies h _ _ _ _ _) (hp j), ih]; rfl

def to0 (y : Wt) : Bool := y.to == 0
/-- The two nets, behind the message. -/
structure Apart (N M : NS) (k : Nat) : Prop where
  eq : M.L = N.L.filter to0
  msg : ∀ y ∈ N.L, to0 y = true → y.fr = 7 ∧ y.to = 0 ∧ y.tx = thisB
  len : N.L.length + k ≤ 300
  goodN : Good N
  goodM : Good M
theorem copies_same {N M : NS} (hs : N.s = M.s) (hn : N.sent = M.sent) (now fr to : Int) (tx : ByteArray) (j : Nat) : copiesTo N now fr to tx j = copiesTo M now fr to tx j := by
  induction j with
  | zero => rfl
  | succ j ih => rw [copiesTo, copiesTo, ih]; congr 1; simp [mkCopy, hs, hn]
theorem apart_start (s : List Tr) (ts : List Int) (K : Nat) (now : Int) (hK : K ≤ 30) : Apart (sendN (alN s ts K) now 7 0 thisB) (sendN (alM s K) now 7 0 thisB) 0 := by
  obtain ⟨a, b, c, d⟩ := alN_fix s ts K
  have gN := good_send (alN_good s ts K) now 7 0 thisB
  have gM := good_send (alM_good s K) now 7 0 thisB
  have hlen : (sendN (alN s ts K) now 7 0 thisB).L.length + 0 ≤ 300 := by
    have h1 := gN.many
    have h2 := (sendN_fix (alN s ts K) now 7 0 thisB).2.2.2
    rw [h2, d] at h1
    omega
  have hdN : dropB (alN s ts K) 7 0 = (trOf s K).lost := by unfold dropB; rw [a, b, c, d]; simp [nodeB]
  have hdM : dropB (alM s K) 7 0 = (trOf s K).lost := by rw [alM_is]; unfold dropB; simp [nodeB]
  have hnone : (alN s ts K).L.filter to0 = [] := by
    rw [List.filter_eq_nil_iff]
    intro y hy h
    have := alN_to s ts K y hy
    simp [to0, this] at h
  refine ⟨?_, ?_, hlen, gN, gM⟩
  · rw [sendN, sendN, hdN, hdM]
    cases hl : (trOf s K).lost
    · simp only [Bool.false_eq_true, if_false]
      unfold copiesOf
      rw [filter_copies (alN_good s ts K) _ _ _ _ (fun j => rfl), hnone, b, d,
        copies_same (N := alN s ts K) (M := alM s K) (by rw [b, alM_is]) (by rw [d, alM_is])]
      rw [alM_is]
    · simp only [if_true]
      rw [hnone, alM_is]
  · intro y hy h0
    rw [sendN, hdN] at hy
    have old : y ∈ (alN s ts K).L → y.fr = 7 ∧ y.to = 0 ∧ y.tx = thisB := fun h => by
      have := alN_to s ts K y h
      simp [to0, this] at h0
    cases hl : (trOf s K).lost
    · rw [hl] at hy
      simp only [Bool.false_eq_true, if_false] at hy
      rcases List.mem_append.1 ((insAll_perm _ _).mem_iff.1 hy) with h | h
      · obtain ⟨i, hi, rfl⟩ := mem_copiesTo.1 h
        exact ⟨rfl, rfl, rfl⟩
      · exact old h
    · rw [hl] at hy
      exact old hy
theorem Apart.skip {N M : NS} {k : Nat} (h : Apart N M k) {y : Wt} {L : List Wt} (hL : N.L = y :: L) (hy : to0 y = false) : Apart (nextN N) M (k + 1) := by
  have hn : (nextN N).L = L := by unfold nextN; rw [hL]; rfl
  refine ⟨?_, fun z hz => ?_, ?_, good_next h.goodN, h.goodM⟩
  · rw [h.eq, hL, List.filter_cons_of_neg (by simp [hy]), hn]
  · rw [hn] at hz; exact h.msg z (by rw [hL]; exact List.mem_cons_of_mem _ hz)
  · have := h.len; rw [hL] at this; rw [hn]; simp at this; omega
theorem Apart.take {N M : NS} {k : Nat} (h : Apart N M k) {y : Wt} {L : List Wt} (hL : N.L = y :: L) (hy : to0 y = true) : M.L = y :: L.filter to0 ∧ Apart (nextN N) (nextN M) (k + 1) := by
  have hn : (nextN N).L = L := by unfold nextN; rw [hL]; rfl
  have hm : M.L = y :: L.filter to0 := by rw [h.eq, hL, List.filter_cons_of_pos hy]
  have hm2 : (nextN M).L = L.filter to0 := by unfold nextN; rw [hm]; rfl
  refine ⟨hm, ?_, fun z hz => ?_, ?_, good_next h.goodN, good_next h.goodM⟩
  · rw [hm2, hn]
  · rw [hn] at hz; exact h.msg z (by rw [hL]; exact List.mem_cons_of_mem _ hz)
  · have := h.len; rw [hL] at this; rw [hn]; simp at this; omega
theorem Apart.done {N M : NS} {k : Nat} (h : Apart N M k) (hL : N.L = []) : M.L = [] := by rw [h.eq, hL]; rfl

theorem Two.sub {w0 w : World} {F G : Nat → Prop} {b c : Nat} {N M : NS} {A B : List (Nat × Obj)} (h : Two w0 w F b N G c M A) (hB : ∀ e ∈ B, e ∈ A) : Two w0 w F b N G c M B :=
  ⟨⟨h.one.net, h.one.good, h.one.new, h.one.only, fun t o ht => h.one.apart t o (hB _ ht)⟩, ⟨h.two.net, h.two.good, h.two.new, h.two.only, fun t o ht => h.two.apart t o (hB _ ht)⟩, h.dis⟩
theorem may_this (l : List Tr) (N : NS) (now : Int) (h : N.s = scriptOf l) (h0 : 0 ≤ now) (h1 : now ≤ 65535) : MaySend N now 7 0 := by
  refine .inr ⟨by omega, by omega, ?_⟩
  rw [h]; have := trOf_delay (l := l) N.sent; omega
end Go.Proofs.Yteblaedfjifdhaa
