/-
  The walk of the law NetDrains.
-/
import Derived.Test.YteblaedfjifdhaaTwo
namespace Go.Proofs.Yteblaedfjifdhaa
open Go.RowKit

def tat (ts : List Int) (k : Nat) : Int := ts.getD k 0
/-- A slice that reads as the times ts. -/
def U16sAt (w : World) (tv : Value) (ts : List Int) : Prop :=
  (∃ a c, tv = .slice a 0 c ∧ ts = []) ∨ ∃ gb off c, tv = .slice (some ⟨gb, off, none⟩) ts.length c ∧ gb < w.heap.size ∧ 0 < ts.length ∧ ts.length ≤ c ∧ c ≤ maxLen ∧
    ∀ j, j < ts.length → w.cell? ⟨gb, off + j, none⟩ = some (.int .u16 (tat ts j))
def U16sWf (ts : List Int) : Prop := ∀ j, 0 ≤ tat ts j ∧ tat ts j ≤ 65535

def drN (s : List Tr) (ts : List Int) : Nat → NS
  | 0 => newNS 1 s
  | k + 1 => sendN (drN s ts k) (tat ts k) k 0 ByteArray.empty
def cnt (s : List Tr) (k : Nat) : Int := if (trOf s k).lost then 0 else (trOf s k).copies
def drM (s : List Tr) : Nat → Int
  | 0 => 0
  | k + 1 => drM s k + cnt s k
theorem sendN_fix (N : NS) (now fr to : Int) (tx : ByteArray) : (sendN N now fr to tx).nodes = N.nodes ∧ (sendN N now fr to tx).s = N.s ∧ (sendN N now fr to tx).gr = N.gr ∧ (sendN N now fr to tx).sent = N.sent + 1 := by
  unfold sendN; split <;> exact ⟨rfl, rfl, rfl, rfl⟩
theorem drN_fix (s : List Tr) (ts : List Int) (k : Nat) : (drN s ts k).nodes = 1 ∧ (drN s ts k).s = s ∧ (drN s ts k).gr = (fun _ => 0) ∧ (drN s ts k).sent = k := by
  induction k with
  | zero => exact ⟨rfl, rfl, rfl, rfl⟩
  | succ k ih =>
    obtain ⟨a, b, c, d⟩ := sendN_fix (drN s ts k) (tat ts k) k 0 ByteArray.empty
    obtain ⟨a', b', c', d'⟩ := ih
    exact ⟨a.trans a', b.trans b', c.trans c', d.trans (by rw [d'])⟩
theorem drN_drop (s : List Tr) (ts : List Int) (k : Nat) : dropB (drN s ts k) k 0 = (trOf s k).lost := by
  obtain ⟨a, b, c, d⟩ := drN_fix s ts k
  unfold dropB
  rw [a, b, c, d]
  simp [nodeB]
theorem drN_good (s : List Tr) (ts : List Int) (k : Nat) : Good (drN s ts k) := by
  induction k with
  | zero => exact good_new _ _
  | succ k ih => exact good_send ih _ _ _ _
theorem cnt_bd (s : List Tr) (k : Nat) : 0 ≤ cnt s k ∧ cnt s k ≤ 8 := by
  have := trOf_bd s k
  unfold cnt; split <;> omega
theorem drM_bd (s : List Tr) (k : Nat) : 0 ≤ drM s k ∧ drM s k ≤ 8 * k := by
  induction k with
  | zero => exact ⟨Int.le_refl _, by simp [drM]⟩
  | succ k ih => have := cnt_bd s k; simp only [drM]; omega
theorem drN_len (s : List Tr) (ts : List Int) (k : Nat) : ((drN s ts k).L.length : Int) = drM s k := by
  induction k with
  | zero => rfl
  | succ k ih =>
    obtain ⟨a, b, c, d⟩ := drN_fix s ts k
    have hb := trOf_bd s k
    rw [drN, drM, sendN, drN_drop, cnt]
    cases hl : (trOf s k).lost
    · simp only [Bool.false_eq_true, if_false]
      rw [(insAll_perm _ _).length_eq, List.length_append, copiesOf, copiesTo_length, b, d]
      omega
    · simp only [if_true]; omega
theorem drN_mem (s : List Tr) (ts : List Int) (k : Nat) : ∀ y ∈ (drN s ts k).L, y.fr = y.nm ∧ 0 ≤ y.nm ∧ y.nm < k ∧ tat ts y.nm.toNat ≤ y.tm := by
  induction k with
  | zero => intro y hy; cases hy
  | succ k ih =>
    intro y hy
    obtain ⟨a, b, c, d⟩ := drN_fix s ts k
    rw [drN, sendN, drN_drop] at hy
    have old : y ∈ (drN s ts k).L → y.fr = y.nm ∧ 0 ≤ y.nm ∧ y.nm < ((k + 1 : Nat) : Int) ∧ tat ts y.nm.toNat ≤ y.tm := fun h => by
      obtain ⟨h1, h2, h3, h4⟩ := ih y h
      exact ⟨h1, h2, by omega, h4⟩
    cases hl : (trOf s k).lost
    · rw [hl] at hy
      simp only [Bool.false_eq_true, if_false] at hy
      rcases List.mem_append.1 ((insAll_perm _ _).mem_iff.1 hy) with h | h
      · obtain ⟨i, hi, rfl⟩ := mem_copiesTo.1 h
        have hb := trOf_bd s k
        simp only [mkCopy, d, b]
        refine ⟨trivial, by omega, by omega, ?_⟩
        simp only [Int.toNat_natCast]
        omega
      · exact old h
    · rw [hl] at hy
      exact old hy
theorem drN_may (l : List Tr) (ts : List Int) (k : Nat) (ht : U16sWf ts) : MaySend (drN (scriptOf l) ts k) (tat ts k) k 0 := by
  obtain ⟨a, b, c, d⟩ := drN_fix (scriptOf l) ts k
  have h1 := ht k
  have h2 := trOf_delay (l := l) k
  refine .inr ⟨by omega, by omega, ?_⟩
  rw [b, d]; omega

/-- What the law counts as the copies of message k. -/
theorem cnt_nil {s : List Tr} (h : s.length = 0) (k : Nat) : cnt s k = 1 := by simp [cnt, trOf, h]
theorem cnt_lost {s : List Tr} (h : 0 < s.length) (k : Nat) (hl : (tel s (k % s.length)).lost = true) : cnt s k = 0 := by
  simp [cnt, trOf, show ¬ s.length = 0 by omega, hl]
theorem cnt_kept {s : List Tr} (h : 0 < s.length) (k : Nat) (hl : (tel s (k % s.length)).lost = false) : cnt s k = min (max (tel s (k % s.length)).copies 1) 8 := by
  simp [cnt, trOf, show ¬ s.length = 0 by omega, hl]

/-- The copies that are left, behind the one that came last (time la, message fi). -/
structure Left (K : Nat) (ts : List Int) (many : Int) (k : Nat) (la fi : Int) (N : NS) : Prop where
  len : (N.L.length : Int) = many - k
  good : Good N
  all : ∀ y ∈ N.L, y.fr = y.nm ∧ 0 ≤ y.nm ∧ y.nm < K ∧ tat ts y.nm.toNat ≤ y.tm
  behind : ∀ y ∈ N.L, la < y.tm ∨ (la = y.tm ∧ fi ≤ y.fr)
theorem Left.next {K : Nat} {ts : List Int} {many : Int} {k : Nat} {la fi : Int} {N : NS} (h : Left K ts many k la fi N) {y : Wt} {M : List Wt} (hL : N.L = y :: M) : Left K ts many (k + 1) y.tm y.fr (nextN N) := by
  refine ⟨?_, good_next h.good, fun z hz => h.all z (by rw [hL]; exact List.mem_cons_of_mem _ (by unfold nextN at hz; rw [hL] at hz; exact hz)), fun z hz => ?_⟩
  · have := h.len; rw [hL] at this; unfold nextN; rw [hL]; simp at this ⊢; omega
  · have hz' : z ∈ M := by unfold nextN at hz; rw [hL] at hz; exact hz
    have hs := h.good.sorted
    rw [hL] at hs
    have h1 := (List.pairwise_cons.1 hs).1 z hz'
    have h2 := (h.all z (by rw [hL]; exact List.mem_cons_of_mem _ hz')).1
    have h3 := (h.all y (by rw [hL]; exact List.mem_cons_self)).1
    rw [ltB_true] at h1
    omega

theorem val_int {k : IntKind} {a b : Int} (h : a = b) : Value.int k a = Value.int k b := by rw [h]
/-- The script that the law made, where it has elements: its block, whole. -/
theorem own_parts {w : World} {base n c : Nat} {a : Option Addr} {s : List Tr} (h : w.ownsRow base 44 3 (.slice a n c) s.length (trow s)) :
    (a = none ∧ s.length = 0) ∨ ∃ g cur, a = some ⟨g, 0, none⟩ ∧ base ≤ g ∧ w.heap[g]? = some (.cells cur 44 (0, 0)) ∧ s.length ≤ c ∧ c ≤ maxLen ∧
      ∀ i, i < s.length → cur[i * 3]? = some (.bool (tel s i).lost) ∧ cur[i * 3 + 1]? = some (.int .i64 (tel s i).copies) := by
  rcases h.2 with ⟨h', h0⟩ | ⟨g, cap, cur, h', hb, hg, h1, h2, h3, ht⟩
  · simp only [Value.slice.injEq] at h'
    exact .inl ⟨h'.1, h0⟩
  · simp only [Value.slice.injEq] at h'
    obtain ⟨rfl, rfl, rfl⟩ := h'
    refine .inr ⟨g, cur, rfl, hb, hg, h1, h2, fun i hi => ?_⟩
    have e : ∀ j, j < 3 → cur[i * 3 + j]? = (tel s i).cells[j]? := fun j hj => by
      rw [← trow_get s i j hi hj, ← ht, List.getElem?_take, if_pos (by omega)]; simp
    exact ⟨e 0 (by omega), e 1 (by omega)⟩

end Go.Proofs.Yteblaedfjifdhaa
