/-
  The walks of the reference's group: Residue, plus, Add, Sub, Mul, Pow, Inv.
-/
import Derived.Test.YtalclldccnichaaGreatGroup2
namespace Go.Proofs.YtalclldccnichaaGreat
open Go.RowKit

theorem rres_any (a m : Int) (w : World) (hm : 0 < m) (hm2 : m ≤ 9223372036854775807) :
    Calls Tryz.prog 64 #[.int .i64 a, .int .i64 m] w fun e w' => e = .returned (.int .i64 (a % m)) ∧ w = w' := by
  have h1 := Int.lt_tmod_of_pos a hm
  have h2 := Int.tmod_lt_of_pos a hm
  have HF := Lib.hid (tmod_fix a m hm)
  have hz : (m == 0) = false := beq_eq_false_iff_ne.2 (by omega)
  by_cases h0 : a.tmod m < 0
  · go_enter Tryz.func64, Tryz.ntmps64
    go_wp2
    go_ret
    refine ⟨ret_int ?_, rfl⟩
    rw [← HF.out, if_pos h0]
  · go_enter Tryz.func64, Tryz.ntmps64
    go_wp2
    go_ret
    refine ⟨ret_int ?_, rfl⟩
    rw [← HF.out, if_neg (by omega)]

theorem rplus_any (x y m : Int) (w : World) (hx : 0 ≤ x) (hx2 : x < m) (hy : 0 ≤ y) (hy2 : y < m) (hm : m ≤ 9223372036854775807) :
    Calls Tryz.prog 63 #[.int .i64 x, .int .i64 y, .int .i64 m] w fun e w' => e = .returned (.int .i64 ((x + y) % m)) ∧ w = w' := by
  have HF := Lib.hid (plus_mod x y m ⟨hx, hx2⟩ ⟨hy, hy2⟩)
  by_cases h0 : m ≤ x + y
  · have h1 : m - y ≤ x := by omega
    go_enter Tryz.func63, Tryz.ntmps63
    go_wp2
    go_ret
    refine ⟨ret_int ?_, rfl⟩
    rw [← HF.out, if_pos h0]; omega
  · have h1 : x < m - y := by omega
    go_enter Tryz.func63, Tryz.ntmps63
    go_wp2
    go_ret
    refine ⟨ret_int ?_, rfl⟩
    rw [← HF.out, if_neg (by omega)]

theorem radd_any (a b m : Int) (w : World) (hm : 0 < m) (hm2 : m ≤ 9223372036854775807) :
    Calls Tryz.prog 36 #[.int .i64 a, .int .i64 b, .int .i64 m] w fun e w' => e = .returned (.int .i64 ((a + b) % m)) ∧ w = w' := by
  obtain ⟨x0, x1⟩ := emod_self_lt a m hm
  obtain ⟨y0, y1⟩ := emod_self_lt b m hm
  have HE := Lib.hid (show (a % m + b % m) % m = (a + b) % m by rw [← Int.add_emod])
  go_enter Tryz.func36, Tryz.ntmps36
  go_wp2_with fail
  refine (rres_any a m w hm hm2).mono ?_
  rintro e w' ⟨rfl, rfl⟩
  generalize a % m = x at *
  go_wp2_with fail
  refine (rres_any b m w hm hm2).mono ?_
  rintro e w' ⟨rfl, rfl⟩
  generalize b % m = y at *
  go_wp2_with fail
  refine (rplus_any x y m w x0 x1 y0 y1 hm2).mono ?_
  rintro e w' ⟨rfl, rfl⟩
  obtain ⟨z, hz⟩ : ∃ z, (x + y) % m = z := ⟨_, rfl⟩
  rw [hz]
  have HZ := Lib.hid hz
  clear hz
  go_wp2
  go_ret
  exact ⟨ret_int (by rw [← HE.out, HZ.out]), rfl⟩

theorem sub_mod (x y m : Int) (hx : 0 ≤ x ∧ x < m) (hy : 0 ≤ y ∧ y < m) : (if x < y then x + (m - y) else x - y) = (x - y) % m := by
  split
  · have : (x - y) % m = (x - y + m) % m := by rw [Int.add_emod_right]
    rw [this, Int.emod_eq_of_lt (by omega) (by omega)]; omega
  · rw [Int.emod_eq_of_lt (by omega) (by omega)]
theorem rsub_any (a b m : Int) (w : World) (hm : 0 < m) (hm2 : m ≤ 9223372036854775807) :
    Calls Tryz.prog 76 #[.int .i64 a, .int .i64 b, .int .i64 m] w fun e w' => e = .returned (.int .i64 ((a - b) % m)) ∧ w = w' := by
  obtain ⟨x0, x1⟩ := emod_self_lt a m hm
  obtain ⟨y0, y1⟩ := emod_self_lt b m hm
  have HE := Lib.hid (show (a % m - b % m) % m = (a - b) % m by rw [← Int.sub_emod])
  have HM := Lib.hid (sub_mod (a % m) (b % m) m ⟨x0, x1⟩ ⟨y0, y1⟩)
  go_enter Tryz.func76, Tryz.ntmps76
  go_wp2_with fail
  refine (rres_any a m w hm hm2).mono ?_
  rintro e w' ⟨rfl, rfl⟩
  generalize a % m = x at *
  go_wp2_with fail
  refine (rres_any b m w hm hm2).mono ?_
  rintro e w' ⟨rfl, rfl⟩
  generalize b % m = y at *
  by_cases hlt : x < y
  · go_wp2
    go_ret
    exact ⟨ret_int (by rw [← HE.out, ← HM.out, if_pos hlt]), rfl⟩
  · go_wp2
    go_ret
    exact ⟨ret_int (by rw [← HE.out, ← HM.out, if_neg (by omega)]), rfl⟩

theorem dbl_step (out x y m : Int) : ((if y % 2 = 1 then (out + x) % m else out) + (x + x) % m * (y / 2)) % m = (out + x * y) % m := by
  have h2 : y = 2 * (y / 2) + y % 2 := by omega
  have e1 : ∀ u : Int, (u + (x + x) % m * (y / 2)) % m = (u + (x + x) * (y / 2)) % m := fun u => by
    rw [Int.add_emod, res_mul, ← Int.add_emod]
  rw [e1]
  have e2 : (x + x) * (y / 2) = x * (2 * (y / 2)) := by rw [← Int.two_mul, Int.mul_assoc, Int.mul_left_comm]
  split
  · rename_i h
    rw [Int.emod_add_emod, e2]
    congr 1
    conv => rhs; rw [h2, h, Int.mul_add, Int.mul_one]
    omega
  · rename_i h
    have h0 : y % 2 = 0 := by omega
    rw [e2]
    congr 1
    conv => rhs; rw [h2, h0, Int.add_zero]

set_option maxHeartbeats 400000 in
theorem rmul_any (a b m : Int) (w : World) (hm : 0 < m) (hm2 : m ≤ 9223372036854775807) :
    Calls Tryz.prog 50 #[.int .i64 a, .int .i64 b, .int .i64 m] w fun e w' => e = .returned (.int .i64 (a * b % m)) ∧ w = w' := by
  obtain ⟨x0, x1⟩ := emod_self_lt a m hm
  obtain ⟨y0, y1⟩ := emod_self_lt b m hm
  have HE := Lib.hid (show (a % m) * (b % m) % m = a * b % m by rw [← Int.mul_emod])
  have hz : (m == 0) = false := beq_eq_false_iff_ne.2 (by omega)
  go_enter Tryz.func50, Tryz.ntmps50
  go_wp2_with fail
  refine (rres_any a m w hm hm2).mono ?_
  rintro e w' ⟨rfl, rfl⟩
  generalize a % m = x at *
  go_wp2_with fail
  refine (rres_any b m w hm hm2).mono ?_
  rintro e w' ⟨rfl, rfl⟩
  generalize b % m = y at *
  by_cases hs : x < 2147483648 ∧ y < 2147483648
  · obtain ⟨s1, s2⟩ := hs
    have p0 : 0 ≤ x * y := Int.mul_nonneg x0 y0
    have p1 : x * y ≤ 2147483648 * 2147483648 := Int.mul_le_mul (by omega) (by omega) (by omega) (by omega)
    go_wp2
    go_ret
    exact ⟨ret_int HE.out, rfl⟩
  · obtain ⟨T, hT⟩ : ∃ T, x * y % m = T := ⟨_, rfl⟩
    have HT := Lib.hid hT
    clear hT
    by_cases s1 : x < 2147483648
    · have s2 : ¬ y < 2147483648 := fun h => hs ⟨s1, h⟩
      have d1 : decide (y < 2147483648) = false := decide_eq_false s2
      clear hs
      go_wp2_with fail
      go_loop [7, 8, 9] (fun vx vy vo => ∃ x y out : Int, vx = .int .i64 x ∧ vy = .int .i64 y ∧ vo = .int .i64 out ∧ 0 ≤ x ∧ x < m ∧ 0 ≤ y ∧ y < m ∧ 0 ≤ out ∧ out < m ∧ (out + x * y) % m = T) (fun _ vy _ => (intOf vy).toNat)
      case atStart => exact ⟨x, y, 0, rfl, rfl, rfl, x0, x1, y0, y1, Int.le_refl _, hm, by rw [Int.zero_add]; exact HT.out⟩
      case round =>
        clear s1 s2 d1
        obtain ⟨x, y, out, rfl, rfl, rfl, x0, x1, y0, y1, o0, o1, hp⟩ := hrel
        by_cases hy : 0 < y
        · have HD := Lib.hid (dbl_step out x y m)
          have HP := Lib.hid hp
          have HB := Lib.hid (emod_self_lt (x + x) m hm)
          have HO := Lib.hid (emod_self_lt (out + x) m hm)
          clear hp
          by_cases hb : y % 2 = 1
          · have hb2 : (y % 2 == 1) = true := by rw [hb]; rfl
            have HBB := Lib.hid hb
            clear hb
            go_wp2_with fail
            refine (rplus_any out x m w o0 o1 x0 x1 hm2).mono ?_
            rintro e w' ⟨rfl, rfl⟩
            go_wp2_with fail
            refine (rplus_any x x m w x0 x1 x0 x1 hm2).mono ?_
            rintro e w' ⟨rfl, rfl⟩
            go_wp2
            go_round
            case rel => exact ⟨(x + x) % m, y / 2, (out + x) % m, rfl, rfl, rfl, HB.out.1, HB.out.2, by omega, by omega, HO.out.1, HO.out.2, by have := HD.out; rw [if_pos HBB.out] at this; rw [this]; exact HP.out⟩
            case measure => simp [intOf]; omega
          · have hb2 : (y % 2 == 1) = false := beq_eq_false_iff_ne.2 hb
            have HBB := Lib.hid hb
            clear hb
            go_wp2_with fail
            refine (rplus_any x x m w x0 x1 x0 x1 hm2).mono ?_
            rintro e w' ⟨rfl, rfl⟩
            go_wp2
            go_round
            case rel => exact ⟨(x + x) % m, y / 2, out, rfl, rfl, rfl, HB.out.1, HB.out.2, by omega, by omega, o0, o1, by have := HD.out; rw [if_neg HBB.out] at this; rw [this]; exact HP.out⟩
            case measure => simp [intOf]; omega
        · have hy0 : y = 0 := by omega
          have HEQ := Lib.hid (show out = T by rw [← hp, hy0, Int.mul_zero, Int.add_zero, Int.emod_eq_of_lt o0 o1])
          clear hp hy0
          go_wp2
          go_ret
          exact ⟨ret_int (by rw [HEQ.out, ← HE.out, HT.out]), rfl⟩
    · have d1 : decide (x < 2147483648) = false := decide_eq_false s1
      clear hs
      go_wp2_with fail
      go_loop [7, 8, 9] (fun vx vy vo => ∃ x y out : Int, vx = .int .i64 x ∧ vy = .int .i64 y ∧ vo = .int .i64 out ∧ 0 ≤ x ∧ x < m ∧ 0 ≤ y ∧ y < m ∧ 0 ≤ out ∧ out < m ∧ (out + x * y) % m = T) (fun _ vy _ => (intOf vy).toNat)
      case atStart => exact ⟨x, y, 0, rfl, rfl, rfl, x0, x1, y0, y1, Int.le_refl _, hm, by rw [Int.zero_add]; exact HT.out⟩
      case round =>
        clear s1 d1
        obtain ⟨x, y, out, rfl, rfl, rfl, x0, x1, y0, y1, o0, o1, hp⟩ := hrel
        by_cases hy : 0 < y
        · have HD := Lib.hid (dbl_step out x y m)
          have HP := Lib.hid hp
          have HB := Lib.hid (emod_self_lt (x + x) m hm)
          have HO := Lib.hid (emod_self_lt (out + x) m hm)
          clear hp
          by_cases hb : y % 2 = 1
          · have hb2 : (y % 2 == 1) = true := by rw [hb]; rfl
            have HBB := Lib.hid hb
            clear hb
            go_wp2_with fail
            refine (rplus_any out x m w o0 o1 x0 x1 hm2).mono ?_
            rintro e w' ⟨rfl, rfl⟩
            go_wp2_with fail
            refine (rplus_any x x m w x0 x1 x0 x1 hm2).mono ?_
            rintro e w' ⟨rfl, rfl⟩
            go_wp2
            go_round
            case rel => exact ⟨(x + x) % m, y / 2, (out + x) % m, rfl, rfl, rfl, HB.out.1, HB.out.2, by omega, by omega, HO.out.1, HO.out.2, by have := HD.out; rw [if_pos HBB.out] at this; rw [this]; exact HP.out⟩
            case measure => simp [intOf]; omega
          · have hb2 : (y % 2 == 1) = false := beq_eq_false_iff_ne.2 hb
            have HBB := Lib.hid hb
            clear hb
            go_wp2_with fail
            refine (rplus_any x x m w x0 x1 x0 x1 hm2).mono ?_
            rintro e w' ⟨rfl, rfl⟩
            go_wp2
            go_round
            case rel => exact ⟨(x + x) % m, y / 2, out, rfl, rfl, rfl, HB.out.1, HB.out.2, by omega, by omega, o0, o1, by have := HD.out; rw [if_neg HBB.out] at this; rw [this]; exact HP.out⟩
            case measure => simp [intOf]; omega
        · have hy0 : y = 0 := by omega
          have HEQ := Lib.hid (show out = T by rw [← hp, hy0, Int.mul_zero, Int.add_zero, Int.emod_eq_of_lt o0 o1])
          clear hp hy0
          go_wp2
          go_ret
          exact ⟨ret_int (by rw [HEQ.out, ← HE.out, HT.out]), rfl⟩

set_option maxHeartbeats 400000 in
theorem rpow_any (a n m : Int) (w : World) (hm : 0 < m) (hm2 : m ≤ 9223372036854775807) (hn : 0 ≤ n) (hn2 : n ≤ 9223372036854775807) :
    Calls Tryz.prog 59 #[.int .i64 a, .int .i64 n, .int .i64 m] w fun e w' => e = .returned (.int .i64 (powM a n m)) ∧ w = w' := by
  have hd : decide (m < 1) = false := decide_eq_false (by omega)
  obtain ⟨R, hR⟩ : ∃ R, powM a n m = R := ⟨_, rfl⟩
  have HS := Lib.hid (show powZ m 64 (1 % m) (a % m) n = R from hR)
  rw [hR]
  clear hR
  go_enter Tryz.func59, Tryz.ntmps59
  go_wp2_with fail
  refine (rres_any 1 m _ hm hm2).mono ?_
  rintro e w' ⟨rfl, rfl⟩
  go_wp2_with fail
  refine (rres_any a m _ hm hm2).mono ?_
  rintro e w' ⟨rfl, rfl⟩
  go_wp2_with fail
  go_loop [1, 7, 8] (fun vn vp va => ∃ (x k out : Int) (f : Nat), va = .int .i64 x ∧ vn = .int .i64 k ∧ vp = .int .i64 out ∧ 0 ≤ k ∧ k ≤ 9223372036854775807 ∧ k < 2 ^ f ∧ powZ m f out x k = R) (fun vn _ _ => (intOf vn).toNat)
  case atStart => exact ⟨a % m, n, 1 % m, 64, rfl, rfl, rfl, hn, hn2, Int.lt_of_le_of_lt hn2 (by decide), HS.out⟩
  case round =>
    clear HS
    obtain ⟨x, k, out, f, rfl, rfl, rfl, hk, hk2, hkf, hp⟩ := hrel
    by_cases h0 : 0 < k
    · obtain ⟨f, rfl⟩ : ∃ g, f = g + 1 := by
        cases f with
        | zero => simp at hkf; omega
        | succ g => exact ⟨g, rfl⟩
      rw [powZ_step m f out x k h0] at hp
      have hkf2 : k / 2 < 2 ^ f := by
        have : (2 : Int) ^ (f + 1) = 2 * 2 ^ f := by rw [Int.pow_succ, Int.mul_comm]
        omega
      have HKF := Lib.hid hkf2
      by_cases hb : k % 2 = 1
      · rw [if_pos hb] at hp
        have hb2 : (k % 2 == 1) = true := by rw [hb]; rfl
        have HP := Lib.hid hp
        clear hb hp hkf hkf2
        go_wp2_with fail
        refine (rmul_any out x m w hm hm2).mono ?_
        rintro e w' ⟨rfl, rfl⟩
        go_wp2_with fail
        refine (rmul_any x x m w hm hm2).mono ?_
        rintro e w' ⟨rfl, rfl⟩
        go_wp2
        go_round
        case rel => exact ⟨x * x % m, k / 2, out * x % m, f, rfl, rfl, rfl, by omega, by omega, HKF.out, HP.out⟩
        case measure => simp [intOf]; omega
      · rw [if_neg hb] at hp
        have hb2 : (k % 2 == 1) = false := beq_eq_false_iff_ne.2 hb
        have HP := Lib.hid hp
        clear hb hp hkf hkf2
        go_wp2_with fail
        refine (rmul_any x x m w hm hm2).mono ?_
        rintro e w' ⟨rfl, rfl⟩
        go_wp2
        go_round
        case rel => exact ⟨x * x % m, k / 2, out, f, rfl, rfl, rfl, by omega, by omega, HKF.out, HP.out⟩
        case measure => simp [intOf]; omega
    · have he : out = R := by rw [← hp, powZ_zero _ _ _ _ _ (by omega)]
      have HE := Lib.hid he
      clear he hp hkf
      go_wp2
      go_ret
      exact ⟨ret_int HE.out, rfl⟩

set_option maxHeartbeats 400000 in
theorem rinv_any (a m : Int) (w : World) (hm : 1 < m) (hm2 : m < 4611686018427387904) :
    Calls Tryz.prog 75 #[.int .i64 a, .int .i64 m] w fun e w' => e = .returned (invV a m) ∧ w = w' := by
  have hE := egAt_start (a := a) hm (by omega)
  obtain ⟨r, hr⟩ : ∃ r, eg 130 m (a % m) 0 1 = r := ⟨_, rfl⟩
  have HR := Lib.hid hr
  have HV := Lib.hid (show invV a m = .tuple #[.int .i64 (if r.1 = 1 then r.2 % m else 0), .bool (decide (r.1 = 1))] by unfold invV invM invB; rw [hr])
  have HE := Lib.hid hE
  have H1 := Lib.hid (show (0 : Int) = 0 % m ∧ (1 : Int) = 1 % m from ⟨by simp, (Int.emod_eq_of_lt (by omega) hm).symm⟩)
  clear hr hE
  go_enter Tryz.func75, Tryz.ntmps75
  go_wp2_with fail
  refine (rres_any a m w (by omega) (by omega)).mono ?_
  rintro e w' ⟨rfl, rfl⟩
  go_wp2_with fail
  go_loop [6, 7, 8, 9] (fun vx vy vs vt => ∃ (x y s t : Int), vx = .int .i64 x ∧ vy = .int .i64 y ∧ vs = .int .i64 (s % m) ∧ vt = .int .i64 (t % m) ∧ EgAt m x y s t ∧ eg 130 x y s t = r) (fun _ vy _ _ => (intOf vy).toNat)
  case atStart => exact ⟨m, a % m, 0, 1, rfl, rfl, by rw [← H1.out.1], by rw [← H1.out.2], HE.out, HR.out⟩
  case round =>
    clear HE HR H1
    obtain ⟨x, y, s, t, rfl, rfl, rfl, rfl, hA, hr⟩ := hrel
    obtain ⟨y0, yx, x1, xm, hsz, _⟩ := id hA
    by_cases hy : 0 < y
    · have HN := Lib.hid (hA.next hy).1
      have HRD := Lib.hid (eg_round x y s t hy yx hsz).1
      have HR := Lib.hid hr
      have HM := Lib.hid (emod_self_lt x y hy)
      have hyb : (y == 0) = false := beq_eq_false_iff_ne.2 (by omega)
      have hq0 : 0 ≤ x / y * y := Int.mul_nonneg (Int.ediv_nonneg (by omega) (by omega)) (by omega)
      have hq1 : x / y * y ≤ x := Int.ediv_mul_le x (by omega)
      have HQ := Lib.hid (show x - x / y * y = x % y by have := Int.mul_ediv_add_emod x y; rw [Int.mul_comm] at this; omega)
      have HZ := Lib.hid (show (s % m - x / y * (t % m) % m) % m = (s - x / y * t) % m by rw [mul_res, ← Int.sub_emod])
      have HZ2 := Lib.hid (show (s - x / y * (t % m)) % m = (s - x / y * t) % m by rw [Int.sub_emod, mul_res, ← Int.sub_emod])
      clear hA hr hsz
      go_wp2_with fail
      refine (rmul_any (x / y) (t % m) m w (by omega) (by omega)).mono ?_
      rintro e w' ⟨rfl, rfl⟩
      go_wp2_with fail
      refine (rsub_any (s % m) (x / y * (t % m) % m) m w (by omega) (by omega)).mono ?_
      rintro e w' ⟨rfl, rfl⟩
      go_wp2
      go_round
      case rel => exact ⟨y, x % y, t, s - x / y * t, rfl, by first | rfl | (exact congrArg (Value.int .i64) (by have := HQ.out; omega)), rfl, by first | exact congrArg (Value.int .i64) HZ.out | exact congrArg (Value.int .i64) HZ2.out, HN.out, by rw [← HRD.out]; exact HR.out⟩
      case measure => have := HM.out; have := HQ.out; simp [intOf]; omega
    · have hrr : r = (x, s) := by rw [← hr]; exact eg_zero _ _ _ _ _ (by omega)
      have HRR := Lib.hid hrr
      clear hA hr hrr
      by_cases h1 : x = 1
      · have hb : (x != 1) = false := by simp [h1]
        have HX := Lib.hid h1
        clear h1
        go_wp2
        go_ret2
        refine ⟨?_, rfl⟩
        rw [HV.out, HRR.out]
        simp [HX.out]
      · have hb : (x != 1) = true := by simp [h1]
        have HX := Lib.hid h1
        clear h1
        go_wp2
        go_ret2
        refine ⟨?_, rfl⟩
        rw [HV.out, HRR.out]
        simp [HX.out]
end Go.Proofs.YtalclldccnichaaGreat
