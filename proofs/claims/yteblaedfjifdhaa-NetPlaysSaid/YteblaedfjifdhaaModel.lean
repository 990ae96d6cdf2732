/-
  A net as plain data: the copies that wait, in order; what Send and Next make of them; the contracts in these words.
-/
import Derived.Test.YteblaedfjifdhaaPart
namespace Go.Proofs.Yteblaedfjifdhaa
open Go.RowKit

def ins (x : Wt) : List Wt → List Wt
  | [] => [x]
  | y :: l => if ltB x y then x :: y :: l else y :: ins x l
def insAll : List Wt → List Wt → List Wt
  | [], l => l
  | x :: xs, l => ins x (insAll xs l)
def Sorted (l : List Wt) : Prop := l.Pairwise (fun x y => ltB x y = true)

theorem ins_perm (x : Wt) (l : List Wt) : (ins x l).Perm (x :: l) := by
  induction l with
  | nil => exact List.Perm.refl _
  | cons y l ih =>
    unfold ins
    split
    · exact List.Perm.refl _
    · exact (ih.cons y).trans (List.Perm.swap x y l)
theorem insAll_perm (xs l : List Wt) : (insAll xs l).Perm (xs ++ l) := by
  induction xs with
  | nil => exact List.Perm.refl _
  | cons x xs ih => exact (ins_perm x _).trans (ih.cons x)
theorem ltB_trans {x y z : Wt} (h : ltB x y = true) (k : ltB y z = true) : ltB x z = true := by
  rw [ltB_true] at *; omega
theorem ins_sorted {x : Wt} {l : List Wt} (h : Sorted l) (hx : ∀ y ∈ l, ltB x y = true ∨ ltB y x = true) : Sorted (ins x l) := by
  induction l with
  | nil => exact List.pairwise_singleton _ _
  | cons y l ih =>
    unfold ins
    obtain ⟨h1, h2⟩ := List.pairwise_cons.1 h
    split
    · rename_i hxy
      refine List.pairwise_cons.2 ⟨fun z hz => ?_, h⟩
      rcases List.mem_cons.1 hz with rfl | hz
      · exact hxy
      · exact ltB_trans hxy (h1 z hz)
    · rename_i hxy
      refine List.pairwise_cons.2 ⟨fun z hz => ?_, ih h2 (fun z hz => hx z (List.mem_cons_of_mem _ hz))⟩
      rcases List.mem_cons.1 ((ins_perm x l).mem_iff.1 hz) with rfl | hz
      · rcases hx y (List.mem_cons_self) with h | h
        · exact absurd h hxy
        · exact h
      · exact h1 z hz

/-- Send, as plain data. -/
def sendN (N : NS) (now fr to : Int) (tx : ByteArray) : NS :=
  if dropB N fr to then { N with sent := N.sent + 1 } else { N with sent := N.sent + 1, L := insAll (copiesOf N now fr to tx) N.L }
def nextN (N : NS) : NS := { N with L := N.L.tail }

/-- A net that the walks speak of: its copies in order, their numbers less than the next one, not too many of all. -/
structure Good (N : NS) : Prop where
  sorted : Sorted N.L
  less : ∀ y ∈ N.L, y.nm < N.sent
  many : N.L.length ≤ 8 * N.sent

theorem good_new (nodes : Int) (s : List Tr) : Good (newNS nodes s) := ⟨List.Pairwise.nil, (fun y h => by cases h), Nat.le_refl _⟩
theorem good_part {N : NS} (h : Good N) (g : Int → Int) : Good { N with gr := g } := ⟨h.sorted, h.less, h.many⟩
theorem good_next {N : NS} (h : Good N) : Good (nextN N) := by
  unfold nextN
  refine ⟨h.sorted.sublist (List.tail_sublist _), fun y hy => h.less y (List.mem_of_mem_tail hy), ?_⟩
  have := h.many
  simp; omega
theorem mkCopy_lt (N : NS) (now fr to : Int) (tx : ByteArray) (i j : Nat) (h : i < j) : ltB (mkCopy N now fr to tx i) (mkCopy N now fr to tx j) = true := by
  rw [ltB_true]; left; simp only [mkCopy]; omega
theorem mem_copiesTo {N : NS} {now fr to : Int} {tx : ByteArray} {j : Nat} {y : Wt} : y ∈ copiesTo N now fr to tx j ↔ ∃ i, i < j ∧ y = mkCopy N now fr to tx i := by
  induction j with
  | zero => simp [copiesTo]
  | succ j ih =>
    simp only [copiesTo, List.mem_cons, ih]
    constructor
    · rintro (rfl | ⟨i, hi, rfl⟩)
      · exact ⟨j, by omega, rfl⟩
      · exact ⟨i, by omega, rfl⟩
    · rintro ⟨i, hi, rfl⟩
      by_cases e : i = j
      · exact .inl (by rw [e])
      · exact .inr ⟨i, by omega, rfl⟩
theorem good_copies {N : NS} (h : Good N) (now fr to : Int) (tx : ByteArray) (j : Nat) : Sorted (insAll (copiesTo N now fr to tx j) N.L) := by
  induction j with
  | zero => exact h.sorted
  | succ j ih =>
    refine ins_sorted ih fun y hy => ?_
    rcases List.mem_append.1 ((insAll_perm _ _).mem_iff.1 hy) with hy | hy
    · obtain ⟨i, hi, rfl⟩ := mem_copiesTo.1 hy
      exact .inr (mkCopy_lt _ _ _ _ _ _ _ hi)
    · have := h.less y hy
      have e : (mkCopy N now fr to tx j).nm = N.sent := rfl
      cases hl : ltB (mkCopy N now fr to tx j) y
      · right
        rw [ltB_false] at hl; rw [ltB_true]; rw [e] at *; omega
      · exact .inl rfl
theorem good_send {N : NS} (h : Good N) (now fr to : Int) (tx : ByteArray) : Good (sendN N now fr to tx) := by
  unfold sendN
  split
  · exact ⟨h.sorted, fun y hy => by have := h.less y hy; simp only; omega, by have := h.many; simp only; omega⟩
  · refine ⟨good_copies h _ _ _ _ _, fun y hy => ?_, ?_⟩
    · rcases List.mem_append.1 ((insAll_perm _ _).mem_iff.1 hy) with hy | hy
      · obtain ⟨i, hi, rfl⟩ := mem_copiesTo.1 hy
        simp only [mkCopy]; omega
      · have := h.less y hy; simp only; omega
    · have hb := trOf_bd N.s N.sent
      have hm := h.many
      rw [(insAll_perm _ _).length_eq, List.length_append, copiesOf, copiesTo_length]
      simp only; omega

/-- What a walk may send: at a time within bounds, or a message that is dropped. -/
def MaySend (N : NS) (now fr to : Int) : Prop := dropB N fr to = true ∨ (-10000000 ≤ now ∧ now ≤ 10000000 ∧ (trOf N.s N.sent).delay ≤ 10000000)

theorem send_any (F : Nat → Prop) (b : Nat) (N : NS) (now : Int) (fr to : Int) (tx : ByteArray) (w : World) (h : NetAt w F b N) (hG : Good N) (hs1 : N.sent < 100000) (hm : MaySend N now fr to)
    (wf1 : (Lit.int .i64 fr).wf = true) (wf2 : (Lit.int .i64 to).wf = true) :
    Calls Try.prog 15 #[.pointer (some ⟨b, 0, none⟩), .int .i64 now, .agg #[.int .i64 fr, .int .i64 to, .string tx]] w fun e w' => e = .returned (.tuple #[]) ∧ NLeft w F b (sendN N now fr to tx) w' := by
  unfold sendN
  cases hd : dropB N fr to
  · rw [if_neg (by simp)]
    rcases hm with hm | ⟨h1, h2, h3⟩
    · rw [hd] at hm; cases hm
    · refine (send_keep F b N now fr to tx w h (by omega) hd (by have := hG.many; omega) h1 h2 h3 wf1 wf2).mono ?_
      rintro e w' ⟨rfl, F', hN, r⟩
      exact ⟨rfl, F', hN.perm (insAll_perm _ _).symm, r⟩
  · rw [if_pos rfl]
    exact send_drop F b N now fr to tx w h (by omega) hd wf1 wf2

/-- The least is found, and it alone. -/
theorem least_of {x y : Wt} {L' M : List Wt} (hs : Sorted (y :: M)) (hp : (y :: M).Perm (x :: L')) (hm : ∀ z ∈ L', ltB z x = false) : x = y ∧ M.Perm L' := by
  have hx : x = y := by
    have hxm : x ∈ y :: M := hp.mem_iff.2 List.mem_cons_self
    have hym : y ∈ x :: L' := hp.mem_iff.1 List.mem_cons_self
    rcases List.mem_cons.1 hxm with h | h
    · exact h
    · rcases List.mem_cons.1 hym with h' | h'
      · exact h'.symm
      · have h1 := (List.pairwise_cons.1 hs).1 x h
        have h2 := hm y h'
        rw [h1] at h2; cases h2
  subst hx
  exact ⟨rfl, List.Perm.cons_inv hp⟩

theorem next_nil (F : Nat → Prop) (b : Nat) (N : NS) (w : World) (h : NetAt w F b N) (hL : N.L = []) :
    Calls Try.prog 19 #[.pointer (some ⟨b, 0, none⟩)] w fun e w' => e = .returned (.tuple #[.agg #[.int .i64 0, .int .i64 0, .string ByteArray.empty], .int .i64 0, .bool false]) ∧ NLeft w F b N w' := by
  obtain ⟨sv, gm, v, q, hq, hp, _⟩ := h.parts
  have hq0 : q = [] := by rw [hL] at hp; simpa using hp
  subst hq0
  obtain ⟨a, c, rfl⟩ := slice_of_own hq.own
  refine (next_empty b c a w hq.cell).mono ?_
  rintro e w' ⟨rfl, hO⟩
  exact ⟨rfl, F, h.frame hO (fun _ _ h => h), fun k hk => .inl hk, hO.mono (fun _ _ h => h.elim)⟩
theorem next_cons (F : Nat → Prop) (b : Nat) (N : NS) (w : World) (h : NetAt w F b N) (hG : Good N) (y : Wt) (M : List Wt) (hL : N.L = y :: M) :
    Calls Try.prog 19 #[.pointer (some ⟨b, 0, none⟩)] w fun e w' => e = .returned (.tuple #[.agg #[.int .i64 y.fr, .int .i64 y.to, .string y.tx], .int .i64 y.tm, .bool true]) ∧ NLeft w F b (nextN N) w' := by
  refine (next_some F b N w h (by rw [hL]; simp)).mono ?_
  rintro e w' ⟨x, L', rfl, hp, hm, F', hN, r⟩
  have hs := hG.sorted
  rw [hL] at hp hs
  obtain ⟨rfl, hM⟩ := least_of hs hp hm
  refine ⟨rfl, F', ?_, r⟩
  have := hN.perm hM.symm
  unfold nextN
  rw [hL]; exact this

theorem waiting_is (F : Nat → Prop) (b : Nat) (N : NS) (w : World) (z : Int) (h : NetAt w F b N) (hz : (N.L.length : Int) = z) :
    Calls Try.prog 21 #[.pointer (some ⟨b, 0, none⟩)] w fun e w' => e = .returned (.int .i64 z) ∧ w = w' := by
  subst hz; exact waiting_any F b N w h

/-- What is known of memory beside a net: blocks that are no part of it, with what they hold. -/
structure Own (w0 w : World) (F : Nat → Prop) (b : Nat) (N : NS) (A : List (Nat × Obj)) : Prop where
  net : NetAt w F b N
  good : Good N
  new : ∀ k, F k → w0.heap.size ≤ k
  only : Only (fun _ => False) w0 w
  apart : ∀ t o, (t, o) ∈ A → ¬ F t ∧ w.heap[t]? = some o
theorem Own.step {w0 w w' : World} {F : Nat → Prop} {b : Nat} {N N' : NS} {A : List (Nat × Obj)} (h : Own w0 w F b N A) (hl : NLeft w F b N' w') (hG : Good N') : ∃ F', Own w0 w' F' b N' A := by
  obtain ⟨F', h1, h2, h3⟩ := hl
  refine ⟨F', h1, hG, fun k hk => ?_, h.only.trans' h3 (fun i hi hf => ?_), fun t o ht => ?_⟩
  · rcases h2 k hk with h' | h'
    · exact h.new k h'
    · have := h.only.size; omega
  · have := h.new i hf; omega
  · obtain ⟨ha, hb⟩ := h.apart t o ht
    have hlt := (Array.getElem?_eq_some_iff.1 hb).1
    refine ⟨fun hf => ?_, by rw [h3.block t hlt ha]; exact hb⟩
    rcases h2 t hf with h' | h'
    · exact ha h'
    · omega
theorem Own.quiet {w0 w w' : World} {F : Nat → Prop} {b : Nat} {N : NS} {A : List (Nat × Obj)} (h : Own w0 w F b N A) (hO : Only (fun _ => False) w w') : Own w0 w' F b N A :=
  ⟨h.net.frame hO (fun _ _ h => h), h.good, h.new, h.only.trans hO, fun t o ht => ⟨(h.apart t o ht).1, by
    rw [hO.block t (Array.getElem?_eq_some_iff.1 (h.apart t o ht).2).1 (fun h => h)]; exact (h.apart t o ht).2⟩⟩
theorem Own.more {w0 w : World} {F : Nat → Prop} {b : Nat} {N : NS} {A : List (Nat × Obj)} (h : Own w0 w F b N A) (o : Obj) : Own w0 (w.alloc o) F b N ((w.heap.size, o) :: A) := by
  have h2 := h.quiet ((Only.refl _ w).alloc o)
  refine ⟨h2.net, h2.good, h2.new, h2.only, fun t o' ht => ?_⟩
  rcases List.mem_cons.1 ht with e | e
  · cases e
    exact ⟨fun hf => by have := h.net.lt _ hf; omega, heap_alloc_new w o⟩
  · exact h2.apart t o' e
theorem Own.keep {w0 w : World} {F : Nat → Prop} {b : Nat} {N : NS} {A : List (Nat × Obj)} (h : Own w0 w F b N A) (t : Nat) (o : Obj) (hb : w0.heap[t]? = some o) : Own w0 w F b N ((t, o) :: A) := by
  have hlt := (Array.getElem?_eq_some_iff.1 hb).1
  refine ⟨h.net, h.good, h.new, h.only, fun t' o' ht => ?_⟩
  rcases List.mem_cons.1 ht with e | e
  · cases e
    exact ⟨fun hf => by have := h.new _ hf; omega, by rw [h.only.block t hlt (fun h => h)]; exact hb⟩
  · exact h.apart t' o' e
theorem Own.of_new {w : World} {b : Nat} {F : Nat → Prop} {N : NS} {w' : World} (h1 : NetAt w' F b N) (hG : Good N) (h2 : ∀ k, F k → w.heap.size ≤ k) (h3 : Only (fun _ => False) w w') : Own w w' F b N [] :=
  ⟨h1, hG, h2, h3, fun _ _ h => by cases h⟩
end Go.Proofs.Yteblaedfjifdhaa
