/-
  Numbers modulo m, plainly: what the group's functions compute.
  The number Q of the group is prime: plain numbers, no program. By one large prime factor of n - 1 (Pocklington), from 95189 up.
  The factors of different points: by one inverse, and by many, are the same.
  Digits to the base 2^24, plainly.
-/
namespace Go.Proofs.YteikkpiginfbkaaGreatDoor

theorem emod_self_lt (a m : Int) (hm : 0 < m) : 0 ≤ a % m ∧ a % m < m := ⟨Int.emod_nonneg a (by omega), Int.emod_lt_of_pos a hm⟩

/-- Euclid's way: x, y, s, t. -/
def eg : Nat → Int → Int → Int → Int → Int × Int
  | 0, x, _, s, _ => (x, s)
  | f + 1, x, y, s, t => if y ≤ 0 then (x, s) else eg f y (x % y) t (s - x / y * t)
theorem eg_zero (f : Nat) (x y s t : Int) (h : y ≤ 0) : eg f x y s t = (x, s) := by
  cases f with
  | zero => rfl
  | succ f => rw [eg, if_pos h]
theorem eg_step (f : Nat) (x y s t : Int) (h : 0 < y) : eg (f + 1) x y s t = eg f y (x % y) t (s - x / y * t) := by rw [eg, if_neg (by omega)]
theorem prod_half (x y : Int) (hy : 0 < y) (hx : y ≤ x) : 2 * (y * (x % y)) ≤ x * y := by
  have h1 := Int.emod_nonneg x (show y ≠ 0 by omega)
  have h2 := Int.emod_lt_of_pos x hy
  have h3 := Int.mul_ediv_add_emod x y
  have h4 : 1 ≤ x / y := (Int.le_ediv_iff_mul_le hy).2 (by omega)
  have h5 : y ≤ y * (x / y) := by
    have := Int.mul_le_mul_of_nonneg_left h4 (show 0 ≤ y by omega)
    omega
  have h6 : 2 * (x % y) ≤ x := by omega
  have h7 := Int.mul_le_mul_of_nonneg_left h6 (show 0 ≤ y by omega)
  have h8 : y * (2 * (x % y)) = 2 * (y * (x % y)) := by rw [Int.mul_left_comm]
  have h9 : x * y = y * x := Int.mul_comm x y
  omega
theorem eg_more : ∀ (f : Nat) (x y s t : Int), 0 ≤ y → y ≤ x → x * y < 2 ^ f → eg (f + 1) x y s t = eg f x y s t := by
  intro f
  induction f with
  | zero =>
    intro x y s t hy hx h
    have : y ≤ 0 := by
      rcases Int.lt_or_le 0 y with h1 | h1
      · have : 1 * 1 ≤ x * y := Int.mul_le_mul (by omega) (by omega) (by omega) (by omega)
        simp at h; omega
      · exact h1
    rw [eg_zero _ _ _ _ _ this, eg_zero _ _ _ _ _ this]
  | succ f ih =>
    intro x y s t hy hx h
    by_cases h0 : y ≤ 0
    · rw [eg_zero _ _ _ _ _ h0, eg_zero _ _ _ _ _ h0]
    · rw [eg_step (f + 1) x y s t (by omega), eg_step f x y s t (by omega)]
      have h1 := emod_self_lt x y (by omega)
      have := prod_half x y (by omega) hx
      refine ih y (x % y) _ _ h1.1 (by omega) ?_
      have e : (2 : Int) ^ (f + 1) = 2 * 2 ^ f := by rw [Int.pow_succ, Int.mul_comm]
      omega
theorem eg_round (x y s t : Int) (hy : 0 < y) (hx : y ≤ x) (h : x * y < 2 ^ 129) : eg 130 x y s t = eg 130 y (x % y) t (s - x / y * t) ∧ y * (x % y) < 2 ^ 129 := by
  have h1 := emod_self_lt x y hy
  have h2 := prod_half x y hy hx
  have h3 : y * (x % y) < 2 ^ 129 := by
    have : 0 ≤ y * (x % y) := Int.mul_nonneg (by omega) h1.1
    omega
  refine ⟨?_, h3⟩
  rw [eg_step 129 x y s t hy]
  exact (eg_more 129 y (x % y) _ _ h1.1 (by omega) h3).symm
end Go.Proofs.YteikkpiginfbkaaGreatDoor

namespace Go.Proofs.YteikkpiginfbkaaGreatDoor

end Go.Proofs.YteikkpiginfbkaaGreatDoor

namespace Go.Proofs.YteikkpiginfbkaaGreatDoor

/-- The points that come. -/
def ptAt (l : List Int) (j : Nat) : Int := l.getD j 0
end Go.Proofs.YteikkpiginfbkaaGreatDoor

namespace Go.Proofs.YteikkpiginfbkaaGreatDoor

/-- The digits of a number, the least one first, the last one not 0. -/
def dgL (n : Nat) : List Int := if _h : n = 0 then [] else ((n % 16777216 : Nat) : Int) :: dgL (n / 16777216)
termination_by n
decreasing_by omega
theorem dgL_zero : dgL 0 = [] := by rw [dgL]; simp
theorem dgL_pos {n : Nat} (h : n ≠ 0) : dgL n = ((n % 16777216 : Nat) : Int) :: dgL (n / 16777216) := by rw [dgL, dif_neg h]
/-- The number of digits. -/
def dval : List Int → Nat
  | [] => 0
  | x :: t => x.toNat + 16777216 * dval t
def Digs (l : List Int) : Prop := ∀ x ∈ l, 0 ≤ x ∧ x < 16777216
theorem dval_dgL (n : Nat) : dval (dgL n) = n := by
  induction n using Nat.strongRecOn with
  | _ n ih =>
    by_cases h : n = 0
    · rw [h, dgL_zero]; rfl
    · rw [dgL_pos h, dval, ih (n / 16777216) (by omega), Int.toNat_natCast]; omega
theorem digs_dgL (n : Nat) : Digs (dgL n) := by
  induction n using Nat.strongRecOn with
  | _ n ih =>
    by_cases h : n = 0
    · rw [h, dgL_zero]; intro x hx; simp at hx
    · rw [dgL_pos h]
      intro x hx
      simp only [List.mem_cons] at hx
      rcases hx with rfl | hx
      · omega
      · exact ih (n / 16777216) (by omega) x hx
theorem dgL_len {k : Nat} : ∀ {n : Nat}, n < 16777216 ^ k → (dgL n).length ≤ k := by
  induction k with
  | zero => intro n h; have : n = 0 := by simp at h; exact h
            rw [this, dgL_zero]; simp
  | succ k ih =>
    intro n h
    by_cases h0 : n = 0
    · rw [h0, dgL_zero]; simp
    · rw [dgL_pos h0]
      have : n / 16777216 < 16777216 ^ k := by rw [Nat.pow_succ] at h; exact Nat.div_lt_of_lt_mul (by rw [Nat.mul_comm]; exact h)
      have := ih this
      simp; omega
theorem dval_append (a b : List Int) : dval (a ++ b) = dval a + 16777216 ^ a.length * dval b := by
  induction a with
  | nil => simp [dval]
  | cons x t ih => simp only [List.cons_append, dval, ih, List.length_cons, Nat.pow_succ]; grind
theorem dval_snoc (a : List Int) (x : Int) : dval (a ++ [x]) = dval a + 16777216 ^ a.length * x.toNat := by rw [dval_append]; simp [dval]
theorem dval_lt : ∀ (l : List Int), Digs l → dval l < 16777216 ^ l.length
  | [], _ => by simp [dval]
  | x :: t, h => by
    have h1 := h x (by simp)
    have h2 := dval_lt t (fun y hy => h y (by simp [hy]))
    rw [dval, List.length_cons, Nat.pow_succ]
    omega
theorem digs_snoc {l : List Int} {x : Int} (h : Digs l) (h0 : 0 ≤ x) (h1 : x < 16777216) : Digs (l ++ [x]) := by
  intro y hy
  rw [List.mem_append] at hy
  rcases hy with hy | hy
  · exact h y hy
  · simp at hy; subst hy; exact ⟨h0, h1⟩
/-- Digits whose last one is not 0 are those of their number. -/
theorem dgL_of : ∀ (l : List Int), Digs l → (∀ h : l ≠ [], l.getLast h ≠ 0) → l = dgL (dval l)
  | [], _, _ => by rw [dval, dgL_zero]
  | x :: t, h, hl => by
    have h1 := h x (by simp)
    by_cases ht : t = []
    · subst ht
      have h2 := hl (by simp)
      simp at h2
      rw [dval, dval, dgL_pos (by omega), show (x.toNat + 16777216 * 0) / 16777216 = 0 by omega, dgL_zero, show (x.toNat + 16777216 * 0) % 16777216 = x.toNat by omega, Int.toNat_of_nonneg h1.1]
    · have h2 := dgL_of t (fun y hy => h y (by simp [hy])) (fun h' => by have := hl (by simp); rwa [List.getLast_cons h'] at this)
      have h3 : dval t ≠ 0 := by
        intro h0
        rw [h0, dgL_zero] at h2
        exact ht h2
      rw [dval, dgL_pos (by omega), show (x.toNat + 16777216 * dval t) / 16777216 = dval t by omega, ← h2, show (x.toNat + 16777216 * dval t) % 16777216 = x.toNat by omega, Int.toNat_of_nonneg h1.1]
theorem dgL_last (n : Nat) (h : dgL n ≠ []) : (dgL n).getLast h ≠ 0 := by
  induction n using Nat.strongRecOn with
  | _ n ih =>
    by_cases h0 : n = 0
    · subst h0; exact absurd dgL_zero h
    · by_cases h1 : n / 16777216 = 0
      · have e : dgL n = [((n % 16777216 : Nat) : Int)] := by rw [dgL_pos h0, h1, dgL_zero]
        simp only [e]
        simp
        omega
      · have h2 : dgL (n / 16777216) ≠ [] := by rw [dgL_pos h1]; simp
        have e : dgL n = ((n % 16777216 : Nat) : Int) :: dgL (n / 16777216) := dgL_pos h0
        simp only [e, List.getLast_cons h2]
        exact ih (n / 16777216) (by omega) h2
theorem dval_take (l : List Int) (k : Nat) (h : k ≤ l.length) (hz : ∀ j, k ≤ j → j < l.length → ptAt l j = 0) : dval (l.take k) = dval l := by
  have e : l = l.take k ++ l.drop k := (List.take_append_drop k l).symm
  have h0 : dval (l.drop k) = 0 := by
    have : ∀ (m : List Int), (∀ j, j < m.length → ptAt m j = 0) → dval m = 0 := by
      intro m
      induction m with
      | nil => intro _; rfl
      | cons x t ih =>
        intro hm
        have h1 := hm 0 (by simp)
        have h2 := ih (fun j hj => by have := hm (j + 1) (by simp; omega); simpa [ptAt] using this)
        simp [ptAt] at h1
        rw [dval, h2, h1]; rfl
    refine this _ (fun j hj => ?_)
    rw [List.length_drop] at hj
    have := hz (k + j) (by omega) (by omega)
    unfold ptAt at this ⊢
    rw [List.getD_eq_getElem?_getD, List.getElem?_drop]
    rw [List.getD_eq_getElem?_getD] at this
    exact this
  conv => rhs; rw [e, dval_append, h0, Nat.mul_zero, Nat.add_zero]
theorem digs_take {l : List Int} (h : Digs l) (k : Nat) : Digs (l.take k) := fun x hx => h x (List.mem_of_mem_take hx)
theorem digs_at {l : List Int} (h : Digs l) (j : Nat) : 0 ≤ ptAt l j ∧ ptAt l j < 16777216 := by
  unfold ptAt
  by_cases hj : j < l.length
  · simp only [List.getD, List.getElem?_eq_getElem hj, Option.getD_some]
    exact h _ (List.getElem_mem hj)
  · simp only [List.getD, List.getElem?_eq_none (by omega : l.length ≤ j), Option.getD_none]
    decide
theorem dval_parts (l : List Int) (k : Nat) (h : k < l.length) : dval l = dval (l.take k) + 16777216 ^ k * ((ptAt l k).toNat + 16777216 * dval (l.drop (k + 1))) := by
  have e : l = l.take k ++ (ptAt l k :: l.drop (k + 1)) := by
    have : l.drop k = ptAt l k :: l.drop (k + 1) := by
      rw [List.drop_eq_getElem_cons h]; simp [ptAt, List.getD, h]
    rw [← this, List.take_append_drop]
  conv => lhs; rw [e, dval_append, List.length_take, Nat.min_eq_left (by omega), dval]
theorem dval_less {xs ys : List Int} {k : Nat} (hl : xs.length = ys.length) (hk : k < xs.length) (hx : Digs xs) (hy : Digs ys) (h : ∀ j, k < j → j < xs.length → ptAt xs j = ptAt ys j) (hlt : ptAt xs k < ptAt ys k) : dval xs < dval ys := by
  rw [dval_parts xs k hk, dval_parts ys k (by omega)]
  have e : xs.drop (k + 1) = ys.drop (k + 1) := by
    apply List.ext_getElem
    · rw [List.length_drop, List.length_drop, hl]
    · intro j h1 h2
      rw [List.length_drop] at h1
      have := h (k + 1 + j) (by omega) (by omega)
      simp only [List.getElem_drop]
      simpa [ptAt, List.getD, show k + 1 + j < xs.length by omega, show k + 1 + j < ys.length by omega] using this
  have h1 := dval_lt (xs.take k) (digs_take hx k)
  rw [List.length_take, Nat.min_eq_left (by omega)] at h1
  rw [e]
  have h2 := (digs_at hx k).1
  have h3 := (digs_at hy k).1
  have h4 : (ptAt xs k).toNat + 1 ≤ (ptAt ys k).toNat := by omega
  generalize dval (ys.drop (k + 1)) = D at *
  generalize (ptAt xs k).toNat = p at *
  generalize (ptAt ys k).toNat = q at *
  generalize 16777216 ^ k = P at *
  have h5 : P * (p + 16777216 * D) + P ≤ P * (q + 16777216 * D) := by
    have : P * (p + 16777216 * D) + P = P * ((p + 1) + 16777216 * D) := by grind
    rw [this]
    exact Nat.mul_le_mul_left _ (by omega)
  omega
theorem dgL_shorter {a b : Nat} (h : (dgL a).length < (dgL b).length) : a < b := by
  rcases Nat.lt_or_ge a b with h1 | h1
  · exact h1
  · exfalso
    have h2 := dval_lt (dgL a) (digs_dgL a)
    rw [dval_dgL] at h2
    have hne : dgL b ≠ [] := by intro e; rw [e] at h; simp at h
    have hk : (dgL b).length - 1 < (dgL b).length := by omega
    have h3 := dval_parts (dgL b) ((dgL b).length - 1) hk
    have h4 := dgL_last b hne
    rw [List.getLast_eq_getElem] at h4
    have h5 : ptAt (dgL b) ((dgL b).length - 1) ≠ 0 := by
      simpa [ptAt, List.getD, hk] using h4
    have h6 := (digs_at (digs_dgL b) ((dgL b).length - 1)).1
    rw [dval_dgL] at h3
    have h7 : 16777216 ^ (dgL a).length ≤ 16777216 ^ ((dgL b).length - 1) := Nat.pow_le_pow_right (by decide) (by omega)
    have h8 : 1 ≤ (ptAt (dgL b) ((dgL b).length - 1)).toNat := by omega
    have h9 : 16777216 ^ ((dgL b).length - 1) * 1 ≤ 16777216 ^ ((dgL b).length - 1) * ((ptAt (dgL b) ((dgL b).length - 1)).toNat + 16777216 * dval ((dgL b).drop ((dgL b).length - 1 + 1))) := Nat.mul_le_mul_left _ (by omega)
    omega
theorem dgL_same {a b : Nat} (hl : (dgL a).length = (dgL b).length) (h : ∀ j, j < (dgL a).length → ptAt (dgL a) j = ptAt (dgL b) j) : a = b := by
  have : dgL a = dgL b := by
    apply List.ext_getElem hl
    intro j h1 h2
    have := h j h1
    simpa [ptAt, List.getD, h1, h2] using this
  rw [← dval_dgL a, this, dval_dgL]
end Go.Proofs.YteikkpiginfbkaaGreatDoor
