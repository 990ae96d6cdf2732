/-
  The walks of package group: Inv, Pow, Member.
-/
import Derived.Test.YtalclldccnichaaGreatGroup
import Derived.Test.YtalclldccnichaaGreatFactor
import Derived.BigRegion
namespace Go.Proofs.YtalclldccnichaaGreat
open Go.RowKit

/-- Euclid's numbers at the head of a round: their sizes. -/
structure EgAt (m x y s t : Int) : Prop where
  y0 : 0 ≤ y
  yx : y ≤ x
  x1 : 1 ≤ x
  xm : x ≤ m
  sz : x * y < 2 ^ 129
  sg : ∃ u v : Int, 0 ≤ u ∧ 0 ≤ v ∧ u * x + v * y = m ∧ ((t = u ∧ s = -v) ∨ (t = -u ∧ s = v))
theorem EgAt.bd {m x y s t : Int} (h : EgAt m x y s t) : -m ≤ t ∧ t ≤ m := by
  obtain ⟨u, v, hu, hv, e, hs⟩ := h.sg
  have h1 : u * 1 ≤ u * x := Int.mul_le_mul_of_nonneg_left h.x1 hu
  have h2 : 0 ≤ v * y := Int.mul_nonneg hv h.y0
  rcases hs with ⟨rfl, _⟩ | ⟨rfl, _⟩ <;> omega
theorem egAt_start {m a : Int} (hm : 1 < m) (hb : m < 2 ^ 62) : EgAt m m (a % m) 0 1 := by
  have h1 := emod_self_lt a m (by omega)
  have h2 : m * (a % m) ≤ m * m := Int.mul_le_mul_of_nonneg_left (by omega) (by omega)
  have h3 : m * m ≤ 2 ^ 62 * 2 ^ 62 := Int.mul_le_mul (by omega) (by omega) (by omega) (by decide)
  have h4 : (2 : Int) ^ 62 * 2 ^ 62 < 2 ^ 129 := by decide
  exact ⟨h1.1, by omega, by omega, Int.le_refl _, by omega, 1, 0, by decide, by decide, by omega, .inl ⟨rfl, by decide⟩⟩
theorem EgAt.next {m x y s t : Int} (h : EgAt m x y s t) (hy : 0 < y) : EgAt m y (x % y) t (s - x / y * t) ∧ (-m ≤ x / y * t ∧ x / y * t ≤ m) ∧ (-m ≤ s - x / y * t ∧ s - x / y * t ≤ m) := by
  have h1 := emod_self_lt x y hy
  have hn : EgAt m y (x % y) t (s - x / y * t) := by
    refine ⟨h1.1, by omega, by omega, by have := h.yx; have := h.xm; omega, (eg_round x y s t hy h.yx h.sz).2, ?_⟩
    obtain ⟨u, v, hu, hv, e, hs⟩ := h.sg
    have hq : 0 ≤ x / y := Int.ediv_nonneg (by have := h.x1; omega) (by omega)
    have hqu : 0 ≤ x / y * u := Int.mul_nonneg hq hu
    refine ⟨v + x / y * u, u, by omega, hu, ?_, ?_⟩
    · have e1 : x % y = x - y * (x / y) := by have := Int.mul_ediv_add_emod x y; omega
      rw [e1, Int.add_mul, Int.mul_sub, ← e]
      have e2 : x / y * u * y = u * (y * (x / y)) := by rw [Int.mul_comm (x / y) u, Int.mul_assoc, Int.mul_comm (x / y) y]
      omega
    · rcases hs with ⟨rfl, rfl⟩ | ⟨rfl, rfl⟩
      · right; exact ⟨by omega, rfl⟩
      · left
        have : x / y * -u = -(x / y * u) := by rw [Int.mul_neg]
        exact ⟨by omega, rfl⟩
  refine ⟨hn, ?_, hn.bd⟩
  obtain ⟨u, v, hu, hv, e, hs⟩ := h.sg
  have hq : 0 ≤ x / y := Int.ediv_nonneg (by have := h.x1; omega) (by omega)
  have hqu : 0 ≤ x / y * u := Int.mul_nonneg hq hu
  have h3 := hn.bd
  rcases hs with ⟨rfl, rfl⟩ | ⟨rfl, rfl⟩
  · omega
  · have : x / y * -u = -(x / y * u) := by rw [Int.mul_neg]
    omega

/-- What Inv hands back. -/
def invV (a m : Int) : Value := .tuple #[.int .i64 (invM a m), .bool (invB a m)]

set_option maxHeartbeats 400000 in
theorem inv_any (a m : Int) (w : World) (hm : 1 < m) (hm2 : m < 4611686018427387904) :
    Calls Tryz.prog 101 #[.int .i64 a, .int .i64 m] w fun e w' => e = .returned (invV a m) ∧ ∃ n, w' = w.drewN n := by
  have hE := egAt_start (a := a) hm (by omega)
  obtain ⟨r, hr⟩ : ∃ r, eg 130 m (a % m) 0 1 = r := ⟨_, rfl⟩
  have HR := Lib.hid hr
  have HV := Lib.hid (show invV a m = .tuple #[.int .i64 (if r.1 = 1 then r.2 % m else 0), .bool (decide (r.1 = 1))] by unfold invV invM invB; rw [hr])
  have HE := Lib.hid hE
  clear hr hE
  go_enter Tryz.func101, Tryz.ntmps101
  go_wp2_with fail
  refine (residue_any a m w (by omega) (by omega)).mono ?_
  rintro e w' ⟨rfl, rfl⟩
  go_wp2_with fail
  go_loopw [6, 7, 8, 9] (fun vx vy vs vt wr => ∃ (x y s t : Int) (nq : Nat), vx = .int .i64 x ∧ vy = .int .i64 y ∧ vs = .int .i64 s ∧ vt = .int .i64 t ∧ EgAt m x y s t ∧ eg 130 x y s t = r ∧ wr = w.drewN nq) (fun _ vy _ _ _ => (intOf vy).toNat)
  case atStart => exact ⟨m, a % m, 0, 1, 0, rfl, rfl, rfl, rfl, HE.out, HR.out, rfl⟩
  case round =>
    clear HE HR
    obtain ⟨x, y, s, t, nq, rfl, rfl, rfl, rfl, hA, hr, rfl⟩ := hrel
    obtain ⟨y0, yx, x1, xm, hsz, _⟩ := id hA
    by_cases hy : 0 < y
    · obtain ⟨hN, ⟨q0, q1⟩, ⟨z0, z1⟩⟩ := hA.next hy
      have HN := Lib.hid hN
      have HRD := Lib.hid (eg_round x y s t hy yx hsz).1
      have HR := Lib.hid hr
      have hb := hA.bd
      obtain ⟨b0, b1⟩ := hb
      have HM := Lib.hid (emod_self_lt x y hy)
      have hyb : (y == 0) = false := beq_eq_false_iff_ne.2 (by omega)
      have htm : x.tmod y = x % y := Int.tmod_eq_emod_of_nonneg (by omega)
      clear hA hN hr hsz
      go_wp2_with fail
      go_quiet (fail)
      go_wp2
      go_roundw
      case rel => exact ⟨y, x % y, t, s - x / y * t, _, rfl, rfl, rfl, rfl, HN.out, by rw [← HRD.out]; exact HR.out, rfl⟩
      case measure => have := HM.out; simp [intOf]; omega
    · have hrr : r = (x, s) := by rw [← hr]; exact eg_zero _ _ _ _ _ (by omega)
      have HRR := Lib.hid hrr
      clear hA hr hrr
      by_cases h1 : x = 1
      · have hb : (x != 1) = false := by simp [h1]
        have HX := Lib.hid h1
        clear h1
        go_wp2_with fail
        refine (residue_any s m _ (by omega) (by omega)).mono ?_
        rintro e w' ⟨rfl, rfl⟩
        go_wp2
        go_ret2
        refine ⟨?_, nq, rfl⟩
        rw [HV.out, HRR.out]
        simp [HX.out]
      · have hb : (x != 1) = true := by simp [h1]
        have HX := Lib.hid h1
        clear h1
        go_wp2
        go_ret2
        refine ⟨?_, nq, rfl⟩
        rw [HV.out, HRR.out]
        simp [HX.out]

/-- The closure of Pow: x * y modulo m; m is captured. -/
theorem times_any (bm : Nat) (x y m : Int) (w : World) (hc : w.cell? ⟨bm, 0, none⟩ = some (.int .i64 m)) (hm : 0 < m) (hm2 : m ≤ 9223372036854775807) :
    Calls Tryz.prog 96 #[.int .i64 x, .int .i64 y, .pointer (some ⟨bm, 0, none⟩)] w fun e w' => e = .returned (.int .i64 (x * y % m)) ∧ w = w' := by
  go_enter Tryz.func96, Tryz.ntmps96
  go_wp2_with fail
  refine (mul_any x y m w hm hm2).mono ?_
  rintro e w' ⟨rfl, rfl⟩
  go_wp2
  go_ret
  exact ⟨rfl, rfl⟩

/-- What a call leaves that makes blocks of its own and turns nothing. -/
def Quiet (w w' : World) : Prop := Below w.heap.size w w'

set_option maxHeartbeats 400000 in
theorem pow_any (a n m : Int) (w : World) (hm : 0 < m) (hm2 : m ≤ 9223372036854775807) (hn : 0 ≤ n) (hn2 : n ≤ 9223372036854775807) :
    Calls Tryz.prog 71 #[.int .i64 a, .int .i64 n, .int .i64 m] w fun e w' => e = .returned (.int .i64 (powM a n m)) ∧ w' = w.alloc (.cells #[.int .i64 m] 3) := by
  have hd : decide (m < 1) = false := decide_eq_false (by omega)
  obtain ⟨R, hR⟩ : ∃ R, powM a n m = R := ⟨_, rfl⟩
  have hS : powZ m 64 (1 % m) a n = R := by
    rw [← hR]; unfold powM
    rw [powZ_res]
    by_cases h0 : n ≤ 0
    · rw [if_pos (.inl h0), powZ_zero _ _ _ _ _ h0]
    · rw [if_neg (by omega)]
  rw [hR]
  have HS := Lib.hid hS
  have hcm : (w.alloc (.cells #[.int .i64 m] 3)).cell? ⟨w.heap.size, 0, none⟩ = some (.int .i64 m) := by
    rw [World.cell?_alloc_new]; rfl
  have HCM := Lib.hid hcm
  clear hR hS hcm
  go_enter Tryz.func71, Tryz.ntmps71
  go_wp2_with fail
  refine (residue_any 1 m _ hm hm2).mono ?_
  rintro e w' ⟨rfl, rfl⟩
  go_wp2_with fail
  generalize hw1 : w.alloc (.cells #[.int .i64 m] 3) = w1 at *
  have HW1 := Lib.hid hw1
  clear hw1
  go_loop [0, 1, 8] (fun va vn vp => ∃ (x k out : Int) (f : Nat), va = .int .i64 x ∧ vn = .int .i64 k ∧ vp = .int .i64 out ∧ 0 ≤ k ∧ k ≤ 9223372036854775807 ∧ k < 2 ^ f ∧ powZ m f out x k = R) (fun _ vn _ => (intOf vn).toNat)
  case atStart => exact ⟨a, n, 1 % m, 64, rfl, rfl, rfl, hn, hn2, Int.lt_of_le_of_lt hn2 (by decide), HS.out⟩
  case round =>
    clear HS
    obtain ⟨x, k, out, f, rfl, rfl, rfl, hk, hk2, hkf, hp⟩ := hrel
    by_cases h0 : 0 < k
    · obtain ⟨f, rfl⟩ : ∃ g, f = g + 1 := by
        cases f with
        | zero => simp at hkf; omega
        | succ g => exact ⟨g, rfl⟩
      rw [powZ_step m f out x k h0] at hp
      have hkf2 : k / 2 < 2 ^ f := by
        have : (2 : Int) ^ (f + 1) = 2 * 2 ^ f := by rw [Int.pow_succ, Int.mul_comm]
        omega
      have hbit : bits BinOp.and IntKind.i64 k 1 = k % 2 := by
        obtain ⟨z, rfl⟩ := Int.eq_ofNat_of_zero_le hk
        rw [bits_one_i64 z (by omega)]; rfl
      have HKF := Lib.hid hkf2
      by_cases hb : k % 2 = 1
      · rw [if_pos hb] at hp
        have hb2 : (bits BinOp.and IntKind.i64 k 1 == 1) = true := by rw [hbit, hb]; rfl
        have HP := Lib.hid hp
        clear hb hbit hp hkf hkf2
        go_wp2_with fail
        refine (times_any w.heap.size out x m w1 HCM.out hm hm2).mono ?_
        rintro e w' ⟨rfl, rfl⟩
        go_wp2_with fail
        refine (times_any w.heap.size x x m w1 HCM.out hm hm2).mono ?_
        rintro e w' ⟨rfl, rfl⟩
        go_wp2
        go_round
        case rel => exact ⟨x * x % m, k / 2, out * x % m, f, rfl, by simp, rfl, by omega, by omega, HKF.out, HP.out⟩
        case measure => simp [intOf]; omega
      · rw [if_neg hb] at hp
        have hb2 : (bits BinOp.and IntKind.i64 k 1 == 1) = false := by rw [hbit]; simp; omega
        have HP := Lib.hid hp
        clear hb hbit hp hkf hkf2
        go_wp2_with fail
        refine (times_any w.heap.size x x m w1 HCM.out hm hm2).mono ?_
        rintro e w' ⟨rfl, rfl⟩
        go_wp2
        go_round
        case rel => exact ⟨x * x % m, k / 2, out, f, rfl, by simp, rfl, by omega, by omega, HKF.out, HP.out⟩
        case measure => simp [intOf]; omega
    · have he : out = R := by rw [← hp, powZ_zero _ _ _ _ _ (by omega)]
      have HE := Lib.hid he
      clear he hp hkf
      go_wp2
      go_ret
      exact ⟨ret_int HE.out, HW1.out.symm⟩
end Go.Proofs.YtalclldccnichaaGreat
