/-
  Powers in the group, plainly: powM is the power; members; exponents count modulo Q.
-/
import Derived.Test.YtalclldccnichaaGreatFermat
import Derived.Test.YtalclldccnichaaGreatMember
namespace Go.Proofs.YtalclldccnichaaGreat

theorem powZ_cong (m : Int) : ∀ (f : Nat) (out x n : Int), 0 ≤ n → n < 2 ^ f → Cong m (powZ m f out x n) (out * x ^ n.toNat) := by
  intro f
  induction f with
  | zero =>
    intro out x n h0 h1
    have : n = 0 := by simp at h1; omega
    subst this
    exact Cong.of_eq (by simp [powZ])
  | succ f ih =>
    intro out x n h0 h1
    by_cases hn : n ≤ 0
    · have : n = 0 := by omega
      subst this
      rw [powZ_zero m _ out x 0 (by omega)]
      exact Cong.of_eq (by simp)
    · rw [powZ_step m f out x n (by omega)]
      have h2 : n / 2 < 2 ^ f := by
        have : (2 : Int) ^ (f + 1) = 2 * 2 ^ f := by rw [Int.pow_succ, Int.mul_comm]
        omega
      refine (ih _ _ _ (by omega) h2).trans ?_
      have e0 : Cong m ((x * x % m) ^ (n / 2).toNat) ((x * x) ^ (n / 2).toNat) := by
        generalize (n / 2).toNat = k
        induction k with
        | zero => simp only [Int.pow_zero]; exact Cong.refl _ _
        | succ k ih => rw [Int.pow_succ, Int.pow_succ]; exact ih.mul (Cong.mod _ _)
      have e1 : (x * x) ^ (n / 2).toNat = x ^ (2 * (n / 2).toNat) := by rw [Int.pow_mul, Int.pow_succ, Int.pow_succ, Int.pow_zero, Int.one_mul]
      rw [e1] at e0
      by_cases hb : n % 2 = 1
      · rw [if_pos hb]
        have e2 : n.toNat = 2 * (n / 2).toNat + 1 := by omega
        rw [e2, Int.pow_succ]
        exact ((Cong.mod m (out * x)).mul e0).trans (Cong.of_eq (by grind))
      · rw [if_neg hb]
        have e2 : n.toNat = 2 * (n / 2).toNat := by omega
        rw [e2]
        exact (Cong.refl m out).mul e0
theorem powZ_bd (m : Int) (hm : 0 < m) : ∀ (f : Nat) (out x n : Int), 0 ≤ out → out < m → 0 ≤ powZ m f out x n ∧ powZ m f out x n < m := by
  intro f
  induction f with
  | zero => intro out x n h0 h1; exact ⟨h0, h1⟩
  | succ f ih =>
    intro out x n h0 h1
    by_cases hn : n ≤ 0
    · rw [powZ_zero m _ out x n hn]; exact ⟨h0, h1⟩
    · rw [powZ_step m f out x n (by omega)]
      refine ih _ _ _ ?_ ?_ <;> split
      · exact (emod_self_lt _ _ hm).1
      · exact h0
      · exact (emod_self_lt _ _ hm).2
      · exact h1
theorem cong_pow {m a b : Int} (h : Cong m a b) : ∀ k : Nat, Cong m (a ^ k) (b ^ k)
  | 0 => by simp only [Int.pow_zero]; exact Cong.refl _ _
  | k + 1 => by rw [Int.pow_succ, Int.pow_succ]; exact (cong_pow h k).mul h
theorem powM_bd (a n m : Int) (hm : 0 < m) : 0 ≤ powM a n m ∧ powM a n m < m :=
  powZ_bd m hm _ _ _ _ (emod_self_lt _ _ hm).1 (emod_self_lt _ _ hm).2
theorem powM_cong (a n m : Int) (h0 : 0 ≤ n) (h1 : n < 2 ^ 64) : Cong m (powM a n m) (a ^ n.toNat) :=
  (powZ_cong m 64 _ _ n h0 h1).trans (((Cong.mod m 1).mul (cong_pow (Cong.mod m a) _)).trans (Cong.of_eq (Int.one_mul _)))
theorem powM_eq (a n m : Int) (hm : 0 < m) (h0 : 0 ≤ n) (h1 : n < 2 ^ 64) : powM a n m = a ^ n.toNat % m := by
  have := (powM_cong a n m h0 h1).emod
  have hb := powM_bd a n m hm
  rwa [Int.emod_eq_of_lt hb.1 hb.2] at this

/-- A member's power with Q is 1. -/
def InG (a : Int) : Prop := Cong gP (a ^ 1152921504606845789) 1
theorem memB_iff (a : Int) : memB a = true ↔ 1 ≤ a ∧ a < gP ∧ InG a := by
  have hq : (1152921504606845789 : Int).toNat = 1152921504606845789 := by decide
  unfold memB InG
  simp only [Bool.and_eq_true, decide_eq_true_eq, beq_iff_eq]
  constructor
  · rintro ⟨⟨h1, h2⟩, h3⟩
    refine ⟨h1, h2, ?_⟩
    have := powM_cong a gQ gP (by decide) (by decide)
    rw [h3, show gQ.toNat = 1152921504606845789 from hq] at this
    exact this.symm
  · rintro ⟨h1, h2, h3⟩
    refine ⟨⟨h1, h2⟩, ?_⟩
    have := powM_cong a gQ gP (by decide) (by decide)
    rw [show gQ.toNat = 1152921504606845789 from hq] at this
    have hb := powM_bd a gQ gP (by decide)
    exact (this.trans h3).eq hb.1 hb.2 (by decide) (by decide)
theorem InG.cong {a b : Int} (h : InG a) (hab : Cong gP b a) : InG b := (cong_pow hab _).trans h
theorem InG.mul {a b : Int} (h : InG a) (h2 : InG b) : InG (a * b) := by
  unfold InG at *
  rw [Int.mul_pow]
  exact (Cong.mul h h2).trans (Cong.of_eq (Int.one_mul 1))
theorem cong_one_pow {m a : Int} (h : Cong m a 1) (k : Nat) : Cong m (a ^ k) 1 := (cong_pow h k).trans (Cong.of_eq (Int.one_pow))
theorem InG.pow {a : Int} (h : InG a) (k : Nat) : InG (a ^ k) := by
  unfold InG
  rw [← Int.pow_mul, Nat.mul_comm, Int.pow_mul]
  exact cong_one_pow h k
/-- Exponents count modulo Q. -/
theorem InG.exp {a : Int} (h : InG a) (n : Nat) : Cong gP (a ^ n) (a ^ (n % 1152921504606845789)) := by
  unfold InG at h
  generalize (1152921504606845789 : Nat) = Q at *
  have e : n = Q * (n / Q) + n % Q := (Nat.div_add_mod _ _).symm
  have h2 : Cong gP (a ^ (Q * (n / Q) + n % Q)) (a ^ (n % Q)) := by
    rw [Int.pow_add, Int.pow_mul]
    exact ((cong_one_pow h (n / Q)).mul (Cong.refl _ _)).trans (Cong.of_eq (Int.one_mul _))
  rw [← e] at h2
  exact h2
theorem InG.ne {a : Int} (h : InG a) : a % gP ≠ 0 := by
  intro h0
  have : Cong gP a 0 := Cong.of_emod (by rw [h0]; rfl)
  have h1 := cong_pow this 1152921504606845789
  have h2 : (0 : Int) ^ 1152921504606845789 = 0 := by rw [Int.zero_pow (by decide)]
  rw [h2] at h1
  have := (h1.symm.trans h).emod
  revert this; decide
theorem mem_of {a : Int} (h : InG a) : memB (a % gP) = true := by
  rw [memB_iff]
  have hb := emod_self_lt a gP (by decide)
  have := h.ne
  exact ⟨by omega, hb.2, h.cong (Cong.mod _ _)⟩
theorem mem_mul {a b : Int} (h : memB a = true) (h2 : memB b = true) : memB (a * b % gP) = true :=
  mem_of (((memB_iff a).1 h).2.2.mul ((memB_iff b).1 h2).2.2)
theorem mem_pow {a n : Int} (h : memB a = true) (h0 : 0 ≤ n) (h1 : n < 2 ^ 64) : memB (powM a n gP) = true := by
  rw [powM_eq a n gP (by decide) h0 h1]
  exact mem_of (((memB_iff a).1 h).2.2.pow _)
theorem mem_one : memB 1 = true := by rw [memB_iff]; exact ⟨by decide, by decide, Cong.of_eq Int.one_pow⟩
/-- The square of what is not 0. -/
theorem sq_pow (x : Int) (k : Nat) : (x * x) ^ k = x ^ (2 * k) := by rw [Int.pow_mul, show x ^ 2 = x * x by rw [Int.pow_succ, Int.pow_succ, Int.pow_zero, Int.one_mul]]
theorem natPow_mod (n k m : Nat) : ((n : Int) ^ k) % (m : Int) = ((n ^ k % m : Nat) : Int) := by rw [Int.natCast_emod, Int.natCast_pow]
theorem in_square {x : Int} (h : x % gP ≠ 0) : InG (x * x) := by
  unfold InG
  have hb := emod_self_lt x gP (by decide)
  obtain ⟨n, hn⟩ := Int.eq_ofNat_of_zero_le hb.1
  have hc : Cong gP x n := by rw [← hn]; exact (Cong.mod _ _).symm
  have hP : gP = ((2305843009213691579 : Nat) : Int) := rfl
  have hf := fermat (a := n) primeP (by rw [Nat.mod_eq_of_lt (by rw [hn, hP] at hb; omega)]; intro e; rw [hn, e] at h; exact h rfl)
  have e2 : 2 * 1152921504606845789 = 2305843009213691579 - 1 := by decide
  rw [sq_pow, e2]
  refine (cong_pow hc _).trans (Cong.of_emod ?_)
  rw [hP, natPow_mod, hf]; rfl
theorem mem_four : memB 4 = true := by
  have := mem_of (in_square (x := 2) (by decide))
  exact this
end Go.Proofs.YtalclldccnichaaGreat
