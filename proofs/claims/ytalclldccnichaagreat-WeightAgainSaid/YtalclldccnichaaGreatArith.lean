/-
  Numbers modulo m, plainly: what the group's functions compute.
-/
namespace Go.Proofs.YtalclldccnichaaGreat

theorem tmod_fix (a m : Int) (hm : 0 < m) : (if a.tmod m < 0 then a.tmod m + m else a.tmod m) = a % m := by
  have h := Int.tmod_eq_emod (a := a) (b := m)
  have h0 := Int.emod_nonneg a (show m ≠ 0 by omega)
  have h1 := Int.emod_lt_of_pos a hm
  by_cases hd : 0 ≤ a ∨ m ∣ a
  · rw [if_pos hd] at h
    rw [if_neg (by omega)]; omega
  · rw [if_neg hd] at h
    have : (m.natAbs : Int) = m := Int.natAbs_of_nonneg (by omega)
    rw [if_pos (by omega)]; omega

theorem mul_res (a b m : Int) : a * (b % m) % m = a * b % m := by rw [Int.mul_emod, Int.emod_emod_of_dvd _ (Int.dvd_refl m), ← Int.mul_emod]
theorem res_mul (a b m : Int) : a % m * b % m = a * b % m := by rw [Int.mul_comm, mul_res, Int.mul_comm]
theorem emod_self_lt (a m : Int) (hm : 0 < m) : 0 ≤ a % m ∧ a % m < m := ⟨Int.emod_nonneg a (by omega), Int.emod_lt_of_pos a hm⟩

/-- plus of two residues. -/
theorem plus_mod (x y m : Int) (hx : 0 ≤ x ∧ x < m) (hy : 0 ≤ y ∧ y < m) : (if m ≤ x + y then x + y - m else x + y) = (x + y) % m := by
  split
  · rename_i h
    have : (x + y) % m = (x + y - m) % m := by rw [Int.sub_emod_right]
    rw [this, Int.emod_eq_of_lt (by omega) (by omega)]
  · rw [Int.emod_eq_of_lt (by omega) (by omega)]

/-- a^n modulo m, by squares: out, x, n. -/
def powZ (m : Int) : Nat → Int → Int → Int → Int
  | 0, out, _, _ => out
  | f + 1, out, x, n => if n ≤ 0 then out else powZ m f (if n % 2 = 1 then out * x % m else out) (x * x % m) (n / 2)
theorem powZ_step (m : Int) (f : Nat) (out x n : Int) (h : 0 < n) : powZ m (f + 1) out x n = powZ m f (if n % 2 = 1 then out * x % m else out) (x * x % m) (n / 2) := by
  rw [powZ, if_neg (by omega)]
theorem powZ_zero (m : Int) (f : Nat) (out x n : Int) (h : n ≤ 0) : powZ m f out x n = out := by
  cases f with
  | zero => rfl
  | succ f => rw [powZ, if_pos h]
/-- Enough is enough. -/
theorem powZ_more (m : Int) : ∀ (f : Nat) (out x n : Int), n < 2 ^ f → powZ m (f + 1) out x n = powZ m f out x n := by
  intro f
  induction f with
  | zero =>
    intro out x n h
    rw [powZ_zero m 1 out x n (by simp at h; omega), powZ_zero m 0 out x n (by simp at h; omega)]
  | succ f ih =>
    intro out x n h
    by_cases hn : n ≤ 0
    · rw [powZ_zero m _ out x n hn, powZ_zero m _ out x n hn]
    · rw [powZ_step m (f + 1) out x n (by omega), powZ_step m f out x n (by omega)]
      refine ih _ _ _ ?_
      have : (2 : Int) ^ (f + 1) = 2 * 2 ^ f := by rw [Int.pow_succ, Int.mul_comm]
      omega
/-- A factor that is not reduced yet is as good. -/
theorem powZ_res (m : Int) (f : Nat) (out x n : Int) : powZ m f out (x % m) n = (if n ≤ 0 ∨ f = 0 then out else powZ m f out x n) := by
  cases f with
  | zero => simp [powZ]
  | succ f =>
    by_cases hn : n ≤ 0
    · rw [powZ_zero m _ _ _ _ hn, if_pos (.inl hn)]
    · rw [if_neg (by omega), powZ_step m f _ _ _ (by omega), powZ_step m f _ _ _ (by omega)]
      have e1 : out * (x % m) % m = out * x % m := mul_res _ _ _
      have e2 : x % m * (x % m) % m = x * x % m := by rw [← Int.mul_emod]
      rw [e1, e2]
def powM (a n m : Int) : Int := powZ m 64 (1 % m) (a % m) n

/-- Euclid's way: x, y, s, t. -/
def eg : Nat → Int → Int → Int → Int → Int × Int
  | 0, x, _, s, _ => (x, s)
  | f + 1, x, y, s, t => if y ≤ 0 then (x, s) else eg f y (x % y) t (s - x / y * t)
theorem eg_zero (f : Nat) (x y s t : Int) (h : y ≤ 0) : eg f x y s t = (x, s) := by
  cases f with
  | zero => rfl
  | succ f => rw [eg, if_pos h]
theorem eg_step (f : Nat) (x y s t : Int) (h : 0 < y) : eg (f + 1) x y s t = eg f y (x % y) t (s - x / y * t) := by rw [eg, if_neg (by omega)]
theorem prod_half (x y : Int) (hy : 0 < y) (hx : y ≤ x) : 2 * (y * (x % y)) ≤ x * y := by
  have h1 := Int.emod_nonneg x (show y ≠ 0 by omega)
  have h2 := Int.emod_lt_of_pos x hy
  have h3 := Int.mul_ediv_add_emod x y
  have h4 : 1 ≤ x / y := (Int.le_ediv_iff_mul_le hy).2 (by omega)
  have h5 : y ≤ y * (x / y) := by
    have := Int.mul_le_mul_of_nonneg_left h4 (show 0 ≤ y by omega)
    omega
  have h6 : 2 * (x % y) ≤ x := by omega
  have h7 := Int.mul_le_mul_of_nonneg_left h6 (show 0 ≤ y by omega)
  have h8 : y * (2 * (x % y)) = 2 * (y * (x % y)) := by rw [Int.mul_left_comm]
  have h9 : x * y = y * x := Int.mul_comm x y
  omega
theorem eg_more : ∀ (f : Nat) (x y s t : Int), 0 ≤ y → y ≤ x → x * y < 2 ^ f → eg (f + 1) x y s t = eg f x y s t := by
  intro f
  induction f with
  | zero =>
    intro x y s t hy hx h
    have : y ≤ 0 := by
      rcases Int.lt_or_le 0 y with h1 | h1
      · have : 1 * 1 ≤ x * y := Int.mul_le_mul (by omega) (by omega) (by omega) (by omega)
        simp at h; omega
      · exact h1
    rw [eg_zero _ _ _ _ _ this, eg_zero _ _ _ _ _ this]
  | succ f ih =>
    intro x y s t hy hx h
    by_cases h0 : y ≤ 0
    · rw [eg_zero _ _ _ _ _ h0, eg_zero _ _ _ _ _ h0]
    · rw [eg_step (f + 1) x y s t (by omega), eg_step f x y s t (by omega)]
      have h1 := emod_self_lt x y (by omega)
      have := prod_half x y (by omega) hx
      refine ih y (x % y) _ _ h1.1 (by omega) ?_
      have e : (2 : Int) ^ (f + 1) = 2 * 2 ^ f := by rw [Int.pow_succ, Int.mul_comm]
      omega
theorem eg_round (x y s t : Int) (hy : 0 < y) (hx : y ≤ x) (h : x * y < 2 ^ 129) : eg 130 x y s t = eg 130 y (x % y) t (s - x / y * t) ∧ y * (x % y) < 2 ^ 129 := by
  have h1 := emod_self_lt x y hy
  have h2 := prod_half x y hy hx
  have h3 : y * (x % y) < 2 ^ 129 := by
    have : 0 ≤ y * (x % y) := Int.mul_nonneg (by omega) h1.1
    omega
  refine ⟨?_, h3⟩
  rw [eg_step 129 x y s t hy]
  exact (eg_more 129 y (x % y) _ _ h1.1 (by omega) h3).symm
/-- The inverse modulo m, or 0. -/
def invM (a m : Int) : Int := if (eg 130 m (a % m) 0 1).1 = 1 then (eg 130 m (a % m) 0 1).2 % m else 0
def invB (a m : Int) : Bool := decide ((eg 130 m (a % m) 0 1).1 = 1)

/-- What Euclid's way finds. -/
theorem eg_spec (m a : Int) : ∀ (f : Nat) (x y s t : Int), m ∣ s * a - x → m ∣ t * a - y → m ∣ (eg f x y s t).2 * a - (eg f x y s t).1 := by
  intro f
  induction f with
  | zero => intro x y s t h1 _; exact h1
  | succ f ih =>
    intro x y s t h1 h2
    rw [eg]
    split
    · exact h1
    · refine ih _ _ _ _ h2 ?_
      have e : (s - x / y * t) * a - x % y = (s * a - x) - x / y * (t * a - y) := by
        have := Int.mul_ediv_add_emod x y
        have e1 : x % y = x - y * (x / y) := by omega
        rw [e1, Int.sub_mul, Int.mul_sub, Int.mul_assoc, Int.mul_comm y (x / y)]
        omega
      rw [e]
      exact Int.dvd_sub h1 (Int.dvd_mul_of_dvd_right h2)
theorem eg_gcd : ∀ (f : Nat) (x y s t : Int), 0 ≤ y → y ≤ x → x * y < 2 ^ f → (eg f x y s t).1 = Int.gcd x y := by
  intro f
  induction f with
  | zero =>
    intro x y s t hy hx h
    have h0 : y = 0 := by
      rcases Int.lt_or_le 0 y with h1 | h1
      · have : 1 * 1 ≤ x * y := Int.mul_le_mul (by omega) (by omega) (by omega) (by omega)
        simp at h; omega
      · omega
    subst h0
    simp [eg]
    omega
  | succ f ih =>
    intro x y s t hy hx h
    rw [eg]
    split
    · have h0 : y = 0 := by omega
      subst h0
      simp
      omega
    · have h1 := emod_self_lt x y (by omega)
      have h2 := prod_half x y (by omega) hx
      have e : (2 : Int) ^ (f + 1) = 2 * 2 ^ f := by rw [Int.pow_succ, Int.mul_comm]
      rw [ih _ _ _ _ h1.1 (by omega) (by omega)]
      congr 1
      have e1 : x % y = x - y * (x / y) := by have := Int.mul_ediv_add_emod x y; omega
      rw [e1, Int.gcd_sub_right_right_of_dvd x (Int.dvd_mul_right y (x / y)), Int.gcd_comm]
end Go.Proofs.YtalclldccnichaaGreat
