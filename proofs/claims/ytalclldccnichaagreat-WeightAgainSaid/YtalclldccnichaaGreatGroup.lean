/-
  The walks of package group: residue, plus, Mul, Add, Sub.
-/
import Derived.Test.YtalclldccnichaaGreatRows
import Derived.Test.YtalclldccnichaaGreatArith
import Derived.Test.YtalclldccnichaaGreatBits
import Derived.WalkKit
import Derived.WalkSpells
import Derived.WalkLawsBesides
import Derived.Deep.QuietTactic
import Derived.BigQuiet
import Derived.Lib.Hide
namespace Go.Proofs.YtalclldccnichaaGreat
open Go.RowKit

theorem ret_int {k : IntKind} {a b : Int} (h : a = b) : Ending.returned (.int k a) = .returned (.int k b) := by rw [h]

theorem bits_one_u64 (z : Nat) (h : z < 18446744073709551616) : bits BinOp.and IntKind.u64 (z : Int) 1 = (z % 2 : Nat) := by
  have e : (BitVec.ofInt 64 (z : Int) &&& BitVec.ofInt 64 1).toNat = z % 2 := by
    rw [BitVec.toNat_and, BitVec.toNat_ofInt, BitVec.toNat_ofInt]
    have h1 : ((z : Int) % (2 ^ 64 : Nat)).toNat = z := by omega
    have h2 : ((1 : Int) % (2 ^ 64 : Nat)).toNat = 1 := by decide
    rw [h1, h2, Nat.and_one_is_mod]
  have hw : ∀ n : Nat, n < 2 → IntKind.u64.wrap (n : Int) = n := by
    intro n hn
    rcases (show n = 0 ∨ n = 1 by omega) with rfl | rfl <;> decide
  show IntKind.u64.wrap ((BitVec.ofInt 64 (z : Int) &&& BitVec.ofInt 64 1).toNat : Int) = _
  rw [e]
  exact hw _ (by omega)
theorem bits_one_i64 (z : Nat) (h : z < 18446744073709551616) : bits BinOp.and IntKind.i64 (z : Int) 1 = (z % 2 : Nat) := by
  have e : (BitVec.ofInt 64 (z : Int) &&& BitVec.ofInt 64 1).toNat = z % 2 := by
    rw [BitVec.toNat_and, BitVec.toNat_ofInt, BitVec.toNat_ofInt]
    have h1 : ((z : Int) % (2 ^ 64 : Nat)).toNat = z := by omega
    have h2 : ((1 : Int) % (2 ^ 64 : Nat)).toNat = 1 := by decide
    rw [h1, h2, Nat.and_one_is_mod]
  have hw : ∀ n : Nat, n < 2 → IntKind.i64.wrap (n : Int) = n := by
    intro n hn
    rcases (show n = 0 ∨ n = 1 by omega) with rfl | rfl <;> decide
  show IntKind.i64.wrap ((BitVec.ofInt 64 (z : Int) &&& BitVec.ofInt 64 1).toNat : Int) = _
  rw [e]
  exact hw _ (by omega)
/-- One binary digit more. -/
theorem dig_more (x m : Int) (y c k : Nat) (hk : k < c) (_ : 0 < m) :
    x * (y / 2 ^ (c - (k + 1)) : Nat) % m = (if y / 2 ^ (c - 1 - k) % 2 = 1 then ((x * (y / 2 ^ (c - k) : Nat) % m + x * (y / 2 ^ (c - k) : Nat) % m) % m + x) % m else (x * (y / 2 ^ (c - k) : Nat) % m + x * (y / 2 ^ (c - k) : Nat) % m) % m) := by
  have e1 : c - (k + 1) = c - 1 - k := by omega
  have e2 : c - k = (c - 1 - k) + 1 := by omega
  rw [e1, e2, Nat.pow_succ, ← Nat.div_div_eq_div_mul]
  generalize y / 2 ^ (c - 1 - k) = z
  have h2 : z = 2 * (z / 2) + z % 2 := by omega
  have h3 : (z : Int) = 2 * (z / 2 : Nat) + (z % 2 : Nat) := by omega
  rw [← Int.add_emod]
  split
  · rename_i h
    rw [Int.emod_add_emod]
    congr 1
    rw [h3, h, Int.mul_add]
    have : x * (2 * ((z / 2 : Nat) : Int)) = x * ((z / 2 : Nat) : Int) + x * ((z / 2 : Nat) : Int) := by rw [Int.mul_left_comm, Int.two_mul]
    have h1 : x * ((1 : Nat) : Int) = x := by simp
    rw [this, h1]
  · rename_i h
    have h0 : z % 2 = 0 := by omega
    congr 1
    rw [h3, h0, Int.mul_add]
    have : x * (2 * ((z / 2 : Nat) : Int)) = x * ((z / 2 : Nat) : Int) + x * ((z / 2 : Nat) : Int) := by rw [Int.mul_left_comm, Int.two_mul]
    rw [this]; simp
theorem residue_any (a m : Int) (w : World) (hm : 0 < m) (hm2 : m ≤ 9223372036854775807) :
    Calls Tryz.prog 68 #[.int .i64 a, .int .i64 m] w fun e w' => e = .returned (.int .i64 (a % m)) ∧ w = w' := by
  have h1 := Int.lt_tmod_of_pos a hm
  have h2 := Int.tmod_lt_of_pos a hm
  have HF := Lib.hid (tmod_fix a m hm)
  have hz : (m == 0) = false := beq_eq_false_iff_ne.2 (by omega)
  by_cases h0 : a.tmod m < 0
  · go_enter Tryz.func68, Tryz.ntmps68
    go_wp2
    go_ret
    refine ⟨ret_int ?_, rfl⟩
    rw [← HF.out, if_pos h0]
  · go_enter Tryz.func68, Tryz.ntmps68
    go_wp2
    go_ret
    refine ⟨ret_int ?_, rfl⟩
    rw [← HF.out, if_neg (by omega)]

theorem plus_any (x y m : Int) (w : World) (hx : 0 ≤ x) (hx2 : x < m) (hy : 0 ≤ y) (hy2 : y < m) (hm : m ≤ 9223372036854775807) :
    Calls Tryz.prog 70 #[.int .u64 x, .int .u64 y, .int .u64 m] w fun e w' => e = .returned (.int .u64 ((x + y) % m)) ∧ w = w' := by
  have HF := Lib.hid (plus_mod x y m ⟨hx, hx2⟩ ⟨hy, hy2⟩)
  by_cases h0 : m ≤ x + y
  · go_enter Tryz.func70, Tryz.ntmps70
    go_wp2
    go_ret
    refine ⟨ret_int ?_, rfl⟩
    rw [← HF.out, if_pos h0]
  · go_enter Tryz.func70, Tryz.ntmps70
    go_wp2
    go_ret
    refine ⟨ret_int ?_, rfl⟩
    rw [← HF.out, if_neg (by omega)]

set_option maxHeartbeats 400000 in
theorem mul_core (a b m : Int) (w : World) (hm : 0 < m) (hm2 : m ≤ 9223372036854775807) :
    Calls Tryz.prog 41 #[.int .i64 a, .int .i64 b, .int .i64 m] w fun e w' => e = .returned (.int .i64 (a * b % m)) ∧ w = w' := by
  obtain ⟨x0, x1⟩ := emod_self_lt a m hm
  obtain ⟨y0, y1⟩ := emod_self_lt b m hm
  obtain ⟨x, hx⟩ : ∃ x, a % m = x := ⟨_, rfl⟩
  obtain ⟨y, hy⟩ : ∃ y : Nat, b % m = y := Int.eq_ofNat_of_zero_le y0
  have HX := Lib.hid hx
  have HY := Lib.hid hy
  have ra := residue_any a m
  have rb := residue_any b m
  rw [hx] at x0 x1 ra
  rw [hy] at y1 rb
  have RA := Lib.hid ra
  have RB := Lib.hid rb
  clear hx hy ra rb y0
  go_enter Tryz.func41, Tryz.ntmps41
  go_wp2_with fail
  refine (RA.out w hm hm2).mono ?_
  rintro e w' ⟨rfl, rfl⟩
  go_wp2_with fail
  refine (RB.out w hm hm2).mono ?_
  rintro e w' ⟨rfl, rfl⟩
  go_wp2_with fail
  refine (len64_any y w (by omega)).mono ?_
  rintro e w' ⟨c, hc, hyc, rfl, rfl⟩
  have HYC := Lib.hid hyc
  clear hyc
  go_wp2_with fail
  go_loop [10, 28] (fun r i => ∃ k : Nat, k ≤ c ∧ i = .int .i64 k ∧ r = .int .u64 (x * (y / 2 ^ (c - k) : Nat) % m)) (fun _ i => c - (intOf i).toNat)
  case atStart => exact ⟨0, Nat.zero_le _, rfl, by rw [Nat.sub_zero, Nat.div_eq_of_lt HYC.out]; simp⟩
  case round =>
    obtain ⟨k, hk, rfl, rfl⟩ := hrel
    obtain ⟨r0, r1⟩ := emod_self_lt (x * (y / 2 ^ (c - k) : Nat)) m hm
    obtain ⟨r, hr⟩ : ∃ r, x * (y / 2 ^ (c - k) : Nat) % m = r := ⟨_, rfl⟩
    rw [hr] at r0 r1 ⊢
    have HR := Lib.hid hr
    clear hr
    by_cases hlt : k < c
    · go_wp2_with fail
      refine (plus_any r r m w r0 r1 r0 r1 hm2).mono ?_
      rintro e w' ⟨rfl, rfl⟩
      obtain ⟨s0, s1⟩ := emod_self_lt (r + r) m hm
      have hyk : y / 2 ^ (c - 1 - k) < 18446744073709551616 := Nat.lt_of_le_of_lt (Nat.div_le_self _ _) (by omega)
      have hbit := bits_one_u64 (y / 2 ^ (c - 1 - k)) hyk
      have hcast : ((y / 2 ^ (c - 1 - k) : Nat) : Int) = (y : Int) / 2 ^ (c - 1 - k) := by rw [Int.natCast_ediv, Int.natCast_pow]; rfl
      rw [hcast] at hbit
      have HDM := Lib.hid (dig_more x m y c k hlt hm)
      obtain ⟨s, hs⟩ : ∃ s, (r + r) % m = s := ⟨_, rfl⟩
      rw [hs] at s0 s1 ⊢
      have HSS := Lib.hid hs
      clear hs hcast
      by_cases hb : y / 2 ^ (c - 1 - k) % 2 = 1
      · have hb2 : (bits BinOp.and IntKind.u64 ((y : Int) / 2 ^ (c - 1 - k)) 1 == 1) = true := by rw [hbit, hb]; rfl
        have HB := Lib.hid hb
        clear hb hbit
        go_wp2_with fail
        refine (plus_any s x m w s0 s1 x0 x1 hm2).mono ?_
        rintro e w' ⟨rfl, rfl⟩
        go_wp2
        go_round
        case rel => exact ⟨k + 1, by omega, by go_num, by rw [HDM.out, if_pos HB.out, HR.out, HSS.out]⟩
        case measure => simp [intOf]; omega
      · have hb0 : y / 2 ^ (c - 1 - k) % 2 = 0 := by omega
        have hb2 : (bits BinOp.and IntKind.u64 ((y : Int) / 2 ^ (c - 1 - k)) 1 == 1) = false := by rw [hbit, hb0]; rfl
        have HB := Lib.hid hb
        clear hb hbit hb0
        go_wp2
        go_round
        case rel => exact ⟨k + 1, by omega, by go_num, by rw [HDM.out, if_neg HB.out, HR.out, HSS.out]⟩
        case measure => simp [intOf]; omega
    · go_wp2
      go_ret
      refine ⟨ret_int ?_, rfl⟩
      rw [← HR.out, show c - k = 0 by omega, Nat.pow_zero, Nat.div_one, ← HX.out, ← HY.out, ← Int.mul_emod]

theorem mul_any (a b m : Int) (w : World) (hm : 0 < m) (hm2 : m ≤ 9223372036854775807) :
    Calls Tryz.prog 41 #[.int .i64 a, .int .i64 b, .int .i64 m] w fun e w' => e = .returned (.int .i64 (a * b % m)) ∧ w = w' := mul_core a b m w hm hm2

theorem add_any (a b m : Int) (w : World) (hm : 0 < m) (hm2 : m ≤ 9223372036854775807) :
    Calls Tryz.prog 92 #[.int .i64 a, .int .i64 b, .int .i64 m] w fun e w' => e = .returned (.int .i64 ((a + b) % m)) ∧ w = w' := by
  obtain ⟨x0, x1⟩ := emod_self_lt a m hm
  obtain ⟨y0, y1⟩ := emod_self_lt b m hm
  obtain ⟨z0, z1⟩ := emod_self_lt (a % m + b % m) m hm
  have HE := Lib.hid (show (a % m + b % m) % m = (a + b) % m by rw [← Int.add_emod])
  go_enter Tryz.func92, Tryz.ntmps92
  go_wp2_with fail
  refine (residue_any a m w hm hm2).mono ?_
  rintro e w' ⟨rfl, rfl⟩
  generalize a % m = x at *
  go_wp2_with fail
  refine (residue_any b m w hm hm2).mono ?_
  rintro e w' ⟨rfl, rfl⟩
  generalize b % m = y at *
  go_wp2_with fail
  refine (plus_any x y m w x0 x1 y0 y1 hm2).mono ?_
  rintro e w' ⟨rfl, rfl⟩
  obtain ⟨z, hz⟩ : ∃ z, (x + y) % m = z := ⟨_, rfl⟩
  rw [hz] at z0 z1 ⊢
  have HZ := Lib.hid hz
  clear hz
  go_wp2
  go_ret
  exact ⟨ret_int (by rw [← HE.out, HZ.out]), rfl⟩

theorem sub_any (a b m : Int) (w : World) (hm : 0 < m) (hm2 : m ≤ 9223372036854775807) :
    Calls Tryz.prog 100 #[.int .i64 a, .int .i64 b, .int .i64 m] w fun e w' => e = .returned (.int .i64 ((a - b) % m)) ∧ w = w' := by
  obtain ⟨x0, x1⟩ := emod_self_lt a m hm
  obtain ⟨y0, y1⟩ := emod_self_lt b m hm
  have HE := Lib.hid (show (a % m - b % m) % m = (a - b) % m by rw [← Int.sub_emod])
  go_enter Tryz.func100, Tryz.ntmps100
  go_wp2_with fail
  refine (residue_any a m w hm hm2).mono ?_
  rintro e w' ⟨rfl, rfl⟩
  generalize a % m = x at *
  go_wp2_with fail
  refine (residue_any b m w hm hm2).mono ?_
  rintro e w' ⟨rfl, rfl⟩
  generalize b % m = y at *
  go_wp2_with fail
  refine (residue_any (x - y) m w hm hm2).mono ?_
  rintro e w' ⟨rfl, rfl⟩
  obtain ⟨z, hz⟩ : ∃ z, (x - y) % m = z := ⟨_, rfl⟩
  rw [hz]
  have HZ := Lib.hid hz
  clear hz
  go_wp2
  go_ret
  exact ⟨ret_int (by rw [← HE.out, HZ.out]), rfl⟩
end Go.Proofs.YtalclldccnichaaGreat
