/-
  The factors of different points: by one inverse, and by many, are the same.
-/
import Derived.Test.YtalclldccnichaaGreatPrime
import Derived.Test.YtalclldccnichaaGreatArith
namespace Go.Proofs.YtalclldccnichaaGreat

def gQ : Int := 1152921504606845789
def gP : Int := 2305843009213691579
theorem gQ_val : gQ = 1152921504606845789 := rfl
theorem gQ_pos : 1 < gQ := by decide

theorem emod_gcd (a m : Int) : Int.gcd (a % m) m = Int.gcd a m := by
  have e1 : a % m = a - m * (a / m) := by have := Int.mul_ediv_add_emod a m; omega
  rw [e1, Int.gcd_comm, Int.gcd_sub_right_right_of_dvd a (Int.dvd_mul_right m (a / m)), Int.gcd_comm]
theorem gcd_mul_one (a b m : Int) (h1 : Int.gcd a m = 1) (h2 : Int.gcd b m = 1) : Int.gcd (a * b) m = 1 := by
  unfold Int.gcd at *
  rw [Int.natAbs_mul]
  exact Nat.Coprime.mul_left h1 h2
theorem gcd_Q (d : Int) (h0 : d % gQ ≠ 0) : Int.gcd d gQ = 1 := by
  rw [← emod_gcd]
  have h1 := emod_self_lt d gQ (by decide)
  have := primeQ.coprime (e := (d % gQ).natAbs) (by omega) (show (d % gQ).natAbs < 1152921504606845789 by have h2 : d % gQ < 1152921504606845789 := h1.2; omega)
  exact this

theorem inv_gcd (a m : Int) (hm : 1 < m) (hb : m < 2 ^ 62) : (eg 130 m (a % m) 0 1).1 = Int.gcd a m := by
  have h1 := emod_self_lt a m (by omega)
  have h2 : m * (a % m) ≤ m * m := Int.mul_le_mul_of_nonneg_left (by omega) (by omega)
  have h3 : m * m ≤ 2 ^ 62 * 2 ^ 62 := Int.mul_le_mul (by omega) (by omega) (by omega) (by decide)
  rw [eg_gcd 130 m (a % m) 0 1 h1.1 (by omega) (by have : (2 : Int) ^ 62 * 2 ^ 62 < 2 ^ 130 := by decide
                                                   omega)]
  rw [Int.gcd_comm, emod_gcd]
theorem inv_bd (a m : Int) (hm : 1 < m) : 0 ≤ invM a m ∧ invM a m < m := by
  unfold invM
  split
  · exact emod_self_lt _ _ (by omega)
  · omega
theorem inv_spec (a m : Int) (hm : 1 < m) (hb : m < 2 ^ 62) (hg : Int.gcd a m = 1) : a * invM a m % m = 1 := by
  have h1 := inv_gcd a m hm hb
  rw [hg] at h1
  have h2 := eg_spec m a 130 m (a % m) 0 1 ⟨-1, by omega⟩ (by
    rw [Int.one_mul]
    exact ⟨a / m, by have := Int.mul_ediv_add_emod a m; omega⟩)
  unfold invM
  rw [if_pos (by rw [h1]; rfl), mul_res]
  rw [h1] at h2
  obtain ⟨c, hc⟩ := h2
  have : a * (eg 130 m (a % m) 0 1).2 = 1 + m * c := by
    rw [Int.mul_comm]
    have : (((1 : Nat) : Int)) = 1 := rfl
    omega
  rw [this, Int.add_mul_emod_self_left]
  exact Int.emod_eq_of_lt (by omega) (by omega)

/-- The points that come. -/
def ptAt (l : List Int) (j : Nat) : Int := l.getD j 0
def aboveTo (l : List Int) (i : Nat) : Nat → Int
  | 0 => 1
  | j + 1 => if j = i then aboveTo l i j else aboveTo l i j * ptAt l j % gQ
def belowTo (l : List Int) (i : Nat) : Nat → Int
  | 0 => 1
  | j + 1 => if j = i then belowTo l i j else belowTo l i j * ((ptAt l j - ptAt l i) % gQ) % gQ
def facP (l : List Int) (i : Nat) : Int := aboveTo l i l.length * invM (belowTo l i l.length) gQ % gQ
def facTo (l : List Int) (i : Nat) : Nat → Int
  | 0 => 1
  | j + 1 => if j = i then facTo l i j else facTo l i j * (ptAt l j * invM ((ptAt l j - ptAt l i) % gQ) gQ % gQ) % gQ
def facR (l : List Int) (i : Nat) : Int := facTo l i l.length

structure Points (l : List Int) : Prop where
  bd : ∀ j, j < l.length → 1 ≤ ptAt l j ∧ ptAt l j < gQ
  ne : ∀ j k, j < l.length → k < l.length → j ≠ k → ptAt l j ≠ ptAt l k

theorem belowTo_gcd (l : List Int) (h : Points l) (i : Nat) (hi : i < l.length) : ∀ n, n ≤ l.length → Int.gcd (belowTo l i n) gQ = 1 := by
  intro n
  induction n with
  | zero => intro _; simp [belowTo]
  | succ n ih =>
    intro hn
    rw [belowTo]
    split
    · exact ih (by omega)
    · rename_i hne
      rw [emod_gcd]
      refine gcd_mul_one _ _ _ (ih (by omega)) ?_
      rw [emod_gcd]
      refine gcd_Q _ (fun h0 => ?_)
      have h1 := h.bd n (by omega)
      have h2 := h.bd i hi
      have h3 := h.ne n i (by omega) hi hne
      obtain ⟨c, hc⟩ := Int.dvd_of_emod_eq_zero h0
      have hq : gQ = 1152921504606845789 := rfl
      rcases Int.lt_trichotomy c 0 with hc0 | hc0 | hc0
      · have : gQ * c ≤ gQ * (-1) := Int.mul_le_mul_of_nonneg_left (by omega) (by decide)
        omega
      · subst hc0; omega
      · have : gQ * 1 ≤ gQ * c := Int.mul_le_mul_of_nonneg_left (by omega) (by decide)
        omega
theorem fac_step (l : List Int) (h : Points l) (i : Nat) (hi : i < l.length) : ∀ n, n ≤ l.length → facTo l i n * belowTo l i n % gQ = aboveTo l i n % gQ := by
  intro n
  induction n with
  | zero => intro _; rfl
  | succ n ih =>
    intro hn
    rw [facTo, belowTo, aboveTo]
    by_cases e : n = i
    · rw [if_pos e, if_pos e, if_pos e]; exact ih (by omega)
    · rw [if_neg e, if_neg e, if_neg e]
      have hI := ih (by omega)
      have hg : Int.gcd ((ptAt l n - ptAt l i) % gQ) gQ = 1 := by
        rw [emod_gcd]
        refine gcd_Q _ (fun h0 => ?_)
        have h1 := h.bd n (by omega)
        have h2 := h.bd i hi
        have h3 := h.ne n i (by omega) hi e
        obtain ⟨c, hc⟩ := Int.dvd_of_emod_eq_zero h0
        rcases Int.lt_trichotomy c 0 with hc0 | hc0 | hc0
        · have : gQ * c ≤ gQ * (-1) := Int.mul_le_mul_of_nonneg_left (by omega) (by decide)
          omega
        · subst hc0; omega
        · have : gQ * 1 ≤ gQ * c := Int.mul_le_mul_of_nonneg_left (by omega) (by decide)
          omega
      have hs := inv_spec ((ptAt l n - ptAt l i) % gQ) gQ (by decide) (by decide) hg
      generalize (ptAt l n - ptAt l i) % gQ = d at *
      generalize invM d gQ = v at *
      generalize facTo l i n = f at *
      generalize belowTo l i n = b at *
      generalize aboveTo l i n = a at *
      generalize ptAt l n = p at *
      rw [Int.emod_emod_of_dvd _ (Int.dvd_refl gQ), res_mul, mul_res]
      have e1 : f * (p * v % gQ) * (b * d) % gQ = f * b * p * (d * v) % gQ := by
        have : f * (p * v % gQ) * (b * d) = f * (b * d) * (p * v % gQ) := by
          rw [Int.mul_assoc, Int.mul_comm (p * v % gQ), ← Int.mul_assoc]
        rw [this, mul_res]
        congr 1
        have e2 : f * (b * d) * (p * v) = f * b * p * (d * v) := by
          simp only [Int.mul_left_comm, Int.mul_comm]
        exact e2
      rw [e1, Int.mul_emod, hs, Int.mul_one, Int.emod_emod_of_dvd _ (Int.dvd_refl gQ), ← res_mul, hI, res_mul]
theorem facTo_bd (l : List Int) (i : Nat) : ∀ n, 0 ≤ facTo l i n ∧ facTo l i n < gQ := by
  intro n
  induction n with
  | zero => exact ⟨show (0 : Int) ≤ 1 by decide, gQ_pos⟩
  | succ n ih =>
    rw [facTo]
    split
    · exact ih
    · exact emod_self_lt _ _ (by decide)
theorem fac_eq (l : List Int) (h : Points l) (i : Nat) (hi : i < l.length) : facP l i = facR l i := by
  unfold facP facR
  have h1 := fac_step l h i hi l.length (Nat.le_refl _)
  have h2 := inv_spec (belowTo l i l.length) gQ (by decide) (by decide) (belowTo_gcd l h i hi l.length (Nat.le_refl _))
  have h3 := facTo_bd l i l.length
  generalize facTo l i l.length = f at *
  generalize belowTo l i l.length = b at *
  generalize aboveTo l i l.length = a at *
  generalize invM b gQ = v at *
  rw [← res_mul, ← h1, res_mul, Int.mul_assoc, Int.mul_emod, h2, Int.mul_one, Int.emod_emod_of_dvd _ (Int.dvd_refl gQ)]
  exact Int.emod_eq_of_lt h3.1 h3.2
end Go.Proofs.YtalclldccnichaaGreat
