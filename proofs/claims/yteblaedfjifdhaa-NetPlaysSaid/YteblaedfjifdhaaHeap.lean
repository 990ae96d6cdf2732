/-
  Plain facts on a heap of waiting copies, kept in a list: the order, the swap, one step up, one step down, the least element. No program in sight but for the form of the cells.
-/
import Derived.WalkKit
import Derived.WalkSpells
namespace Go.Proofs.Yteblaedfjifdhaa
open Go.RowKit

/-- A copy that waits: its message (from, to, text), its time, the number of its message. -/
structure Wt where
  fr : Int
  to : Int
  tx : ByteArray
  tm : Int
  nm : Int

def Wt.cells (x : Wt) : List Value := [.int .i64 x.fr, .int .i64 x.to, .string x.tx, .int .i64 x.tm, .int .i64 x.nm]
def Wt.val (x : Wt) : Value := .agg #[.int .i64 x.fr, .int .i64 x.to, .string x.tx, .int .i64 x.tm, .int .i64 x.nm]
def row : List Wt → List Value
  | [] => []
  | x :: q => x.cells ++ row q
def el (q : List Wt) (i : Nat) : Wt := q.getD i ⟨0, 0, ByteArray.empty, 0, 0⟩
def ltB (x y : Wt) : Bool := if x.tm ≠ y.tm then decide (x.tm < y.tm) else decide (x.nm < y.nm)
def swapQ (q : List Wt) (i j : Nat) : List Wt := (q.set i (el q j)).set j (el q i)

theorem ltB_true {x y : Wt} : ltB x y = true ↔ (x.tm < y.tm ∨ (x.tm = y.tm ∧ x.nm < y.nm)) := by
  unfold ltB; split <;> simp <;> omega
theorem ltB_false {x y : Wt} : ltB x y = false ↔ (y.tm < x.tm ∨ (x.tm = y.tm ∧ y.nm ≤ x.nm)) := by
  unfold ltB; split <;> simp <;> omega
theorem ltB_asymm {x y : Wt} (h : ltB x y = true) : ltB y x = false := by
  rw [ltB_true] at h; rw [ltB_false]; omega
theorem ltB_irr (x : Wt) : ltB x x = false := by rw [ltB_false]; omega
/-- y is not before x, z is not before y: z is not before x. -/
theorem le_tr {x y z : Wt} (h : ltB y x = false) (k : ltB z y = false) : ltB z x = false := by
  rw [ltB_false] at *; omega

theorem row_length (q : List Wt) : (row q).length = q.length * 5 := by
  induction q with
  | nil => rfl
  | cons x q ih => simp only [row, List.length_append, ih, List.length_cons, Wt.cells, List.length_nil]; omega
theorem row_append (q r : List Wt) : row (q ++ r) = row q ++ row r := by
  induction q with
  | nil => rfl
  | cons x q ih => simp only [List.cons_append, row, ih, List.append_assoc]
theorem row_one (x : Wt) : row [x] = x.cells := by simp [row]
theorem row_take (q : List Wt) (n : Nat) : row (q.take n) = (row q).take (n * 5) := by
  induction q generalizing n with
  | nil => simp [row]
  | cons x q ih =>
    cases n with
    | zero => simp [row]
    | succ n =>
      simp only [List.take_succ_cons, row, ih]
      have hl : x.cells.length = 5 := rfl
      rw [show (n + 1) * 5 = x.cells.length + n * 5 by rw [hl]; omega, List.take_length_add_append]

theorem row_get (q : List Wt) (i k : Nat) (hi : i < q.length) (hk : k < 5) : (row q)[i * 5 + k]? = (el q i).cells[k]? := by
  induction q generalizing i with
  | nil => simp at hi
  | cons x q ih =>
    have hl : x.cells.length = 5 := rfl
    cases i with
    | zero =>
      simp only [row, Nat.zero_mul, Nat.zero_add]
      rw [List.getElem?_append_left (by rw [hl]; omega)]; rfl
    | succ i =>
      simp only [row]
      rw [List.getElem?_append_right (by rw [hl]; omega), hl, show (i + 1) * 5 + k - 5 = i * 5 + k by omega, ih i (by simpa using hi)]
      rfl

theorem row_set (q : List Wt) (i : Nat) (x : Wt) (hi : i < q.length) :
    (((((row q).set (i * 5) (.int .i64 x.fr)).set (i * 5 + 1) (.int .i64 x.to)).set (i * 5 + 2) (.string x.tx)).set (i * 5 + 3) (.int .i64 x.tm)).set (i * 5 + 4) (.int .i64 x.nm) = row (q.set i x) := by
  induction q generalizing i with
  | nil => simp at hi
  | cons y q ih =>
    cases i with
    | zero => simp [row, Wt.cells]
    | succ i =>
      have hl : y.cells.length = 5 := rfl
      have e : ∀ (l : List Value) k u, (y.cells ++ l).set ((i + 1) * 5 + k) u = y.cells ++ l.set (i * 5 + k) u := by
        intro l k u
        rw [List.set_append_right _ _ (by rw [hl]; omega), hl, show (i + 1) * 5 + k - 5 = i * 5 + k by omega]
      have e0 := fun l u => e l 0 u
      simp only [Nat.add_zero] at e0
      simp only [row, List.set_cons_succ, e0, e]
      rw [ih i (by simpa using hi)]

theorem el_set_same (q : List Wt) (i : Nat) (x : Wt) (hi : i < q.length) : el (q.set i x) i = x := by
  simp [el, hi]
theorem el_set_other (q : List Wt) (i k : Nat) (x : Wt) (h : i ≠ k) : el (q.set i x) k = el q k := by
  simp [el, h]
theorem swapQ_length (q : List Wt) (i j : Nat) : (swapQ q i j).length = q.length := by simp [swapQ]
theorem el_swap_i (q : List Wt) (i j : Nat) (hi : i < q.length) (hij : i ≠ j) : el (swapQ q i j) i = el q j := by
  unfold swapQ; rw [el_set_other _ _ _ _ (Ne.symm hij), el_set_same _ _ _ hi]
theorem el_swap_j (q : List Wt) (i j : Nat) (hj : j < q.length) : el (swapQ q i j) j = el q i := by
  unfold swapQ; rw [el_set_same _ _ _ (by simpa using hj)]
theorem el_swap_k (q : List Wt) (i j k : Nat) (hi : k ≠ i) (hj : k ≠ j) : el (swapQ q i j) k = el q k := by
  unfold swapQ; rw [el_set_other _ _ _ _ (Ne.symm hj), el_set_other _ _ _ _ (Ne.symm hi)]
theorem swapQ_perm (q : List Wt) (i j : Nat) (hi : i < q.length) (hj : j < q.length) : (swapQ q i j).Perm q := by
  have h := (Array.swap_perm (xs := q.toArray) (i := i) (j := j) (by simpa using hi) (by simpa using hj)).toList
  have e : swapQ q i j = (q.toArray.swap i j (by simpa using hi) (by simpa using hj)).toList := by
    simp [swapQ, el, hi, hj]
  rw [e]; simpa using h
theorem swapQ_self (q : List Wt) (i : Nat) (hi : i < q.length) : swapQ q i i = q := by
  simp [swapQ, el, hi]

def par (i : Nat) : Nat := (i - 1) / 2
/-- The first n elements are a heap. -/
def Heap (q : List Wt) (n : Nat) : Prop := ∀ i, 0 < i → i < n → ltB (el q i) (el q (par i)) = false
def UpInv (q : List Wt) (j : Nat) : Prop :=
  (∀ i, 0 < i → i < q.length → i ≠ j → ltB (el q i) (el q (par i)) = false) ∧ (∀ c, 0 < j → 0 < c → c < q.length → par c = j → ltB (el q c) (el q (par j)) = false)
def DownInv (q : List Wt) (n i : Nat) : Prop :=
  (∀ k, 0 < k → k < n → par k ≠ i → ltB (el q k) (el q (par k)) = false) ∧ (0 < i → ∀ k, 0 < k → k < n → par k = i → ltB (el q k) (el q (par i)) = false)

theorem up_zero {q : List Wt} (h : UpInv q 0) : Heap q q.length := fun i h0 hi => h.1 i h0 hi (by omega)
theorem up_stop {q : List Wt} {j : Nat} (h : UpInv q j) (hl : ltB (el q j) (el q (par j)) = false) : Heap q q.length := by
  intro i h0 hi
  by_cases e : i = j
  · subst e; exact hl
  · exact h.1 i h0 hi e
theorem up_go {q : List Wt} {j : Nat} (h : UpInv q j) (hj0 : 0 < j) (hj : j < q.length) (hl : ltB (el q j) (el q (par j)) = true) : UpInv (swapQ q (par j) j) (par j) := by
  have hp : par j < j := by unfold par; omega
  have hpl : par j < q.length := by omega
  have hne : par j ≠ j := by omega
  refine ⟨?_, ?_⟩
  · intro k hk0 hk hkp
    rw [swapQ_length] at hk
    by_cases e : k = j
    · subst e
      rw [el_swap_j _ _ _ hj, el_swap_i _ _ _ hpl hne]
      exact ltB_asymm hl
    · rw [el_swap_k _ _ _ _ hkp e]
      have h1 := h.1 k hk0 hk e
      by_cases e1 : par k = j
      · rw [e1, el_swap_j _ _ _ hj]
        exact h.2 k hj0 hk0 hk e1
      · by_cases e2 : par k = par j
        · rw [e2, el_swap_i _ _ _ hpl hne]
          rw [e2] at h1
          exact le_tr (ltB_asymm hl) h1
        · rw [el_swap_k _ _ _ _ e2 e1]; exact h1
  · intro c hp0 hc0 hc hcp
    rw [swapQ_length] at hc
    have hpp : par (par j) < par j := by unfold par at hp0 ⊢; omega
    have hh := h.1 (par j) hp0 hpl hne
    rw [el_swap_k q (par j) j (par (par j)) (by omega) (by omega)]
    by_cases e : c = j
    · subst e; rw [el_swap_j _ _ _ hj]; exact hh
    · have hcne : c ≠ par j := by intro e'; rw [e'] at hcp; omega
      rw [el_swap_k _ _ _ _ hcne e]
      have h1 := h.1 c hc0 hc e
      rw [hcp] at h1
      exact le_tr hh h1

theorem par_cases {k i : Nat} (h0 : 0 < k) (h : par k = i) : k = 2 * i + 1 ∨ k = 2 * i + 2 := by unfold par at h; omega
theorem par_l (i : Nat) : par (2 * i + 1) = i := by unfold par; omega
theorem par_r (i : Nat) : par (2 * i + 2) = i := by unfold par; omega

theorem down_leaf {q : List Wt} {n i : Nat} (h : DownInv q n i) (hn : n ≤ 2 * i + 1) : Heap q n := by
  intro k h0 hk
  refine h.1 k h0 hk fun e => ?_
  rcases par_cases h0 e with e | e <;> omega
/-- j is the lesser child of i. -/
def Lesser (q : List Wt) (n i j : Nat) : Prop := j < n ∧ (j = 2 * i + 1 ∨ j = 2 * i + 2) ∧ ∀ k, 0 < k → k < n → par k = i → ltB (el q k) (el q j) = false
theorem lesser_l {q : List Wt} {n i : Nat} (h : 2 * i + 1 < n) (hr : n ≤ 2 * i + 2) : Lesser q n i (2 * i + 1) :=
  ⟨h, .inl rfl, fun k h0 hk e => by
    rcases par_cases h0 e with rfl | rfl
    · exact ltB_irr _
    · omega⟩
theorem lesser_l2 {q : List Wt} {n i : Nat} (h : 2 * i + 2 < n) (hl : ltB (el q (2 * i + 2)) (el q (2 * i + 1)) = false) : Lesser q n i (2 * i + 1) :=
  ⟨by omega, .inl rfl, fun k h0 _ e => by
    rcases par_cases h0 e with rfl | rfl
    · exact ltB_irr _
    · exact hl⟩
theorem lesser_r {q : List Wt} {n i : Nat} (h : 2 * i + 2 < n) (hl : ltB (el q (2 * i + 2)) (el q (2 * i + 1)) = true) : Lesser q n i (2 * i + 2) :=
  ⟨by omega, .inr rfl, fun k h0 _ e => by
    rcases par_cases h0 e with rfl | rfl
    · exact ltB_asymm hl
    · exact ltB_irr _⟩
theorem down_stop {q : List Wt} {n i j : Nat} (h : DownInv q n i) (hj : Lesser q n i j) (hl : ltB (el q j) (el q i) = false) : Heap q n := by
  intro k h0 hk
  by_cases e : par k = i
  · have := hj.2.2 k h0 hk e
    rw [e]; exact le_tr hl this
  · exact h.1 k h0 hk e
theorem down_go {q : List Wt} {n i j : Nat} (h : DownInv q n i) (hn : n ≤ q.length) (hj : Lesser q n i j) (hl : ltB (el q j) (el q i) = true) : DownInv (swapQ q i j) n j := by
  obtain ⟨hjn, hji, hall⟩ := hj
  have hpj : par j = i := by rcases hji with rfl | rfl <;> simp [par_l, par_r]
  have hij : i ≠ j := by omega
  have hjl : j < q.length := by omega
  have hil : i < q.length := by omega
  refine ⟨?_, ?_⟩
  · intro k h0 hk hkp
    by_cases e : k = j
    · subst e
      rw [hpj, el_swap_j _ _ _ hjl, el_swap_i _ _ _ hil hij]
      exact ltB_asymm hl
    · by_cases e1 : par k = i
      · have hki : k ≠ i := by rcases par_cases h0 e1 with rfl | rfl <;> omega
        rw [e1, el_swap_k _ _ _ _ hki e, el_swap_i _ _ _ hil hij]
        exact hall k h0 hk e1
      · by_cases e2 : k = i
        · subst e2
          have hpk : par k ≠ k := by unfold par; omega
          rw [el_swap_i _ _ _ hil hij, el_swap_k _ _ _ _ e1 hkp]
          exact h.2 h0 j (by omega) hjn hpj
        · rw [el_swap_k _ _ _ _ e2 e, el_swap_k _ _ _ _ e1 hkp]
          exact h.1 k h0 hk e1
  · intro _ k h0 hk hkp
    have hki : k ≠ i := by rcases par_cases h0 hkp with rfl | rfl <;> omega
    have hkj : k ≠ j := by rcases par_cases h0 hkp with rfl | rfl <;> omega
    rw [hpj, el_swap_k _ _ _ _ hki hkj, el_swap_i _ _ _ hil hij]
    have := h.1 k h0 hk (by rw [hkp]; exact Ne.symm hij)
    rw [hkp] at this; exact this

theorem heap_least {q : List Wt} {n : Nat} (h : Heap q n) : ∀ k, k < n → ltB (el q k) (el q 0) = false := by
  intro k
  induction k using Nat.strongRecOn with
  | _ k ih =>
    intro hk
    by_cases e : k = 0
    · subst e; exact ltB_irr _
    · have h1 := h k (by omega) hk
      have hp : par k < k := by unfold par; omega
      exact le_tr (ih (par k) hp (by omega)) h1

theorem downInv_start {q : List Wt} {n : Nat} (h : Heap q (n + 1)) (_hn : n < q.length) : DownInv (swapQ q 0 n) n 0 := by
  refine ⟨?_, fun h => absurd h (by omega)⟩
  intro k h0 hk hp
  have hpk : par k < k := by unfold par; omega
  rw [el_swap_k _ _ _ _ (by omega) (by omega), el_swap_k _ _ _ _ hp (by omega)]
  exact h k h0 (by omega)
theorem upInv_start {q : List Wt} {x : Wt} (h : Heap q q.length) : UpInv (q ++ [x]) q.length := by
  have e : ∀ i, i < q.length → el (q ++ [x]) i = el q i := fun i hi => by simp [el, List.getElem?_append_left hi]
  refine ⟨?_, ?_⟩
  · intro i h0 hi hne
    have hi' : i < q.length := by simp at hi; omega
    have hp : par i < i := by unfold par; omega
    rw [e i hi', e _ (by omega)]
    exact h i h0 hi'
  · intro c _ h0 hc hp
    have : par c < c := by unfold par; omega
    simp at hc; omega

theorem el_mem (q : List Wt) (i : Nat) (hi : i < q.length) : el q i ∈ q := by
  simp [el, hi]
theorem mem_el {q : List Wt} {x : Wt} (h : x ∈ q) : ∃ i, i < q.length ∧ el q i = x := by
  obtain ⟨i, hi, rfl⟩ := List.getElem_of_mem h
  exact ⟨i, hi, by simp [el, hi]⟩
theorem heap_take {q : List Wt} {n : Nat} (h : Heap q n) (hn : n ≤ q.length) : Heap (q.take n) (q.take n).length := by
  have e : ∀ i, i < n → el (q.take n) i = el q i := fun i hi => by simp [el, hi]
  intro i h0 hi
  have hi' : i < n := by simp at hi; omega
  have hp : par i < i := by unfold par; omega
  rw [e i hi', e _ (by omega)]
  exact h i h0 hi'
/-- What Pop takes out, and what it leaves. -/
theorem pop_parts {q r : List Wt} {n : Nat} (hq : Heap q q.length) (hn : q.length = n + 1) (hp : r.Perm q) (hr : el r n = el q 0) (hh : Heap r n) :
    q.Perm (el q 0 :: r.take n) ∧ Heap (r.take n) (r.take n).length ∧ ∀ y ∈ r.take n, ltB y (el q 0) = false := by
  have hrl : r.length = n + 1 := by rw [hp.length_eq, hn]
  have e : r = r.take n ++ [el q 0] := by
    rw [← hr]
    conv => lhs; rw [← List.take_append_drop n r]
    congr 1
    rw [List.drop_eq_getElem_cons (by omega)]
    simp only [el]
    rw [List.drop_of_length_le (by omega)]
    simp [hrl]
  have hperm : q.Perm (el q 0 :: r.take n) := by
    refine hp.symm.trans ?_
    conv => lhs; rw [e]
    exact List.perm_append_singleton _ _
  refine ⟨hperm, heap_take hh (by omega), ?_⟩
  intro y hy
  have : y ∈ q := hp.mem_iff.1 (List.mem_of_mem_take hy)
  obtain ⟨i, hi, rfl⟩ := mem_el this
  exact heap_least hq i hi
end Go.Proofs.Yteblaedfjifdhaa
