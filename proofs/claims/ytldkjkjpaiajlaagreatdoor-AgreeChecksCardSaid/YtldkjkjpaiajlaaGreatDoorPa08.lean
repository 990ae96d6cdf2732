/-
  The walks of package group: residue, plus, Mul, Add, Sub.
  The walks of package group: Inv, Pow, Member.
  The walks of the reference's group: Residue, plus, Add, Sub, Mul, Pow, Inv.
  The walks of Member, of the program and of the reference.
  Powers in the group, plainly: powM is the power; members; exponents count modulo Q.
-/
import Derived.Test.YtldkjkjpaiajlaaGreatDoorRows
import Derived.Test.YtldkjkjpaiajlaaGreatDoorPa00
import Derived.Test.YtldkjkjpaiajlaaGreatDoorPa03
import Derived.WalkKit
import Derived.WalkSpells
import Derived.WalkLawsBesides
import Derived.Deep.QuietTactic
import Derived.BigQuiet
import Derived.Lib.Hide
import Derived.BigRegion
import Derived.Test.YtldkjkjpaiajlaaGreatDoorPa04
namespace Go.Proofs.YtldkjkjpaiajlaaGreatDoor
open Go.RowKit

theorem ret_int {k : IntKind} {a b : Int} (h : a = b) : Ending.returned (.int k a) = .returned (.int k b) := by rw [h]

theorem bits_one_u64 (z : Nat) (h : z < 18446744073709551616) : bits BinOp.and IntKind.u64 (z : Int) 1 = (z % 2 : Nat) := by
  have e : (BitVec.ofInt 64 (z : Int) &&& BitVec.ofInt 64 1).toNat = z % 2 := by
    rw [BitVec.toNat_and, BitVec.toNat_ofInt, BitVec.toNat_ofInt]
    have h1 : ((z : Int) % (2 ^ 64 : Nat)).toNat = z := by omega
    have h2 : ((1 : Int) % (2 ^ 64 : Nat)).toNat = 1 := by decide
    rw [h1, h2, Nat.and_one_is_mod]
  have hw : ∀ n : Nat, n < 2 → IntKind.u64.wrap (n : Int) = n := by
    intro n hn
    rcases (show n = 0 ∨ n = 1 by omega) with rfl | rfl <;> decide
  show IntKind.u64.wrap ((BitVec.ofInt 64 (z : Int) &&& BitVec.ofInt 64 1).toNat : Int) = _
  rw [e]
  exact hw _ (by omega)
theorem bits_one_i64 (z : Nat) (h : z < 18446744073709551616) : bits BinOp.and IntKind.i64 (z : Int) 1 = (z % 2 : Nat) := by
  have e : (BitVec.ofInt 64 (z : Int) &&& BitVec.ofInt 64 1).toNat = z % 2 := by
    rw [BitVec.toNat_and, BitVec.toNat_ofInt, BitVec.toNat_ofInt]
    have h1 : ((z : Int) % (2 ^ 64 : Nat)).toNat = z := by omega
    have h2 : ((1 : Int) % (2 ^ 64 : Nat)).toNat = 1 := by decide
    rw [h1, h2, Nat.and_one_is_mod]
  have hw : ∀ n : Nat, n < 2 → IntKind.i64.wrap (n : Int) = n := by
    intro n hn
    rcases (show n = 0 ∨ n = 1 by omega) with rfl | rfl <;> decide
  show IntKind.i64.wrap ((BitVec.ofInt 64 (z : Int) &&& BitVec.ofInt 64 1).toNat : Int) = _
  rw [e]
  exact hw _ (by omega)
/-- One binary digit more. -/
theorem dig_more (x m : Int) (y c k : Nat) (hk : k < c) (_ : 0 < m) :
    x * (y / 2 ^ (c - (k + 1)) : Nat) % m = (if y / 2 ^ (c - 1 - k) % 2 = 1 then ((x * (y / 2 ^ (c - k) : Nat) % m + x * (y / 2 ^ (c - k) : Nat) % m) % m + x) % m else (x * (y / 2 ^ (c - k) : Nat) % m + x * (y / 2 ^ (c - k) : Nat) % m) % m) := by
  have e1 : c - (k + 1) = c - 1 - k := by omega
  have e2 : c - k = (c - 1 - k) + 1 := by omega
  rw [e1, e2, Nat.pow_succ, ← Nat.div_div_eq_div_mul]
  generalize y / 2 ^ (c - 1 - k) = z
  have h2 : z = 2 * (z / 2) + z % 2 := by omega
  have h3 : (z : Int) = 2 * (z / 2 : Nat) + (z % 2 : Nat) := by omega
  rw [← Int.add_emod]
  split
  · rename_i h
    rw [Int.emod_add_emod]
    congr 1
    rw [h3, h, Int.mul_add]
    have : x * (2 * ((z / 2 : Nat) : Int)) = x * ((z / 2 : Nat) : Int) + x * ((z / 2 : Nat) : Int) := by rw [Int.mul_left_comm, Int.two_mul]
    have h1 : x * ((1 : Nat) : Int) = x := by simp
    rw [this, h1]
  · rename_i h
    have h0 : z % 2 = 0 := by omega
    congr 1
    rw [h3, h0, Int.mul_add]
    have : x * (2 * ((z / 2 : Nat) : Int)) = x * ((z / 2 : Nat) : Int) + x * ((z / 2 : Nat) : Int) := by rw [Int.mul_left_comm, Int.two_mul]
    rw [this]; simp
theorem residue_any (a m : Int) (w : World) (hm : 0 < m) (hm2 : m ≤ 9223372036854775807) :
    Calls Tryz.prog 158 #[.int .i64 a, .int .i64 m] w fun e w' => e = .returned (.int .i64 (a % m)) ∧ w = w' := by
  have h1 := Int.lt_tmod_of_pos a hm
  have h2 := Int.tmod_lt_of_pos a hm
  have HF := Lib.hid (tmod_fix a m hm)
  have hz : (m == 0) = false := beq_eq_false_iff_ne.2 (by omega)
  by_cases h0 : a.tmod m < 0
  · go_enter Tryz.func158, Tryz.ntmps158
    go_wp2
    go_ret
    refine ⟨ret_int ?_, rfl⟩
    rw [← HF.out, if_pos h0]
  · go_enter Tryz.func158, Tryz.ntmps158
    go_wp2
    go_ret
    refine ⟨ret_int ?_, rfl⟩
    rw [← HF.out, if_neg (by omega)]

theorem plus_any (x y m : Int) (w : World) (hx : 0 ≤ x) (hx2 : x < m) (hy : 0 ≤ y) (hy2 : y < m) (hm : m ≤ 9223372036854775807) :
    Calls Tryz.prog 160 #[.int .u64 x, .int .u64 y, .int .u64 m] w fun e w' => e = .returned (.int .u64 ((x + y) % m)) ∧ w = w' := by
  have HF := Lib.hid (plus_mod x y m ⟨hx, hx2⟩ ⟨hy, hy2⟩)
  by_cases h0 : m ≤ x + y
  · go_enter Tryz.func160, Tryz.ntmps160
    go_wp2
    go_ret
    refine ⟨ret_int ?_, rfl⟩
    rw [← HF.out, if_pos h0]
  · go_enter Tryz.func160, Tryz.ntmps160
    go_wp2
    go_ret
    refine ⟨ret_int ?_, rfl⟩
    rw [← HF.out, if_neg (by omega)]

set_option maxHeartbeats 400000 in
theorem mul_core (a b m : Int) (w : World) (hm : 0 < m) (hm2 : m ≤ 9223372036854775807) :
    Calls Tryz.prog 117 #[.int .i64 a, .int .i64 b, .int .i64 m] w fun e w' => e = .returned (.int .i64 (a * b % m)) ∧ w = w' := by
  obtain ⟨x0, x1⟩ := emod_self_lt a m hm
  obtain ⟨y0, y1⟩ := emod_self_lt b m hm
  obtain ⟨x, hx⟩ : ∃ x, a % m = x := ⟨_, rfl⟩
  obtain ⟨y, hy⟩ : ∃ y : Nat, b % m = y := Int.eq_ofNat_of_zero_le y0
  have HX := Lib.hid hx
  have HY := Lib.hid hy
  have ra := residue_any a m
  have rb := residue_any b m
  rw [hx] at x0 x1 ra
  rw [hy] at y1 rb
  have RA := Lib.hid ra
  have RB := Lib.hid rb
  clear hx hy ra rb y0
  go_enter Tryz.func117, Tryz.ntmps117
  go_wp2_with fail
  refine (RA.out w hm hm2).mono ?_
  rintro e w' ⟨rfl, rfl⟩
  go_wp2_with fail
  refine (RB.out w hm hm2).mono ?_
  rintro e w' ⟨rfl, rfl⟩
  go_wp2_with fail
  refine (len64_any y w (by omega)).mono ?_
  rintro e w' ⟨c, hc, hyc, rfl, rfl⟩
  have HYC := Lib.hid hyc
  clear hyc
  go_wp2_with fail
  go_loop [10, 28] (fun r i => ∃ k : Nat, k ≤ c ∧ i = .int .i64 k ∧ r = .int .u64 (x * (y / 2 ^ (c - k) : Nat) % m)) (fun _ i => c - (intOf i).toNat)
  case atStart => exact ⟨0, Nat.zero_le _, rfl, by rw [Nat.sub_zero, Nat.div_eq_of_lt HYC.out]; simp⟩
  case round =>
    obtain ⟨k, hk, rfl, rfl⟩ := hrel
    obtain ⟨r0, r1⟩ := emod_self_lt (x * (y / 2 ^ (c - k) : Nat)) m hm
    obtain ⟨r, hr⟩ : ∃ r, x * (y / 2 ^ (c - k) : Nat) % m = r := ⟨_, rfl⟩
    rw [hr] at r0 r1 ⊢
    have HR := Lib.hid hr
    clear hr
    by_cases hlt : k < c
    · go_wp2_with fail
      refine (plus_any r r m w r0 r1 r0 r1 hm2).mono ?_
      rintro e w' ⟨rfl, rfl⟩
      obtain ⟨s0, s1⟩ := emod_self_lt (r + r) m hm
      have hyk : y / 2 ^ (c - 1 - k) < 18446744073709551616 := Nat.lt_of_le_of_lt (Nat.div_le_self _ _) (by omega)
      have hbit := bits_one_u64 (y / 2 ^ (c - 1 - k)) hyk
      have hcast : ((y / 2 ^ (c - 1 - k) : Nat) : Int) = (y : Int) / 2 ^ (c - 1 - k) := by rw [Int.natCast_ediv, Int.natCast_pow]; rfl
      rw [hcast] at hbit
      have HDM := Lib.hid (dig_more x m y c k hlt hm)
      obtain ⟨s, hs⟩ : ∃ s, (r + r) % m = s := ⟨_, rfl⟩
      rw [hs] at s0 s1 ⊢
      have HSS := Lib.hid hs
      clear hs hcast
      by_cases hb : y / 2 ^ (c - 1 - k) % 2 = 1
      · have hb2 : (bits BinOp.and IntKind.u64 ((y : Int) / 2 ^ (c - 1 - k)) 1 == 1) = true := by rw [hbit, hb]; rfl
        have HB := Lib.hid hb
        clear hb hbit
        go_wp2_with fail
        refine (plus_any s x m w s0 s1 x0 x1 hm2).mono ?_
        rintro e w' ⟨rfl, rfl⟩
        go_wp2
        go_round
        case rel => exact ⟨k + 1, by omega, by go_num, by rw [HDM.out, if_pos HB.out, HR.out, HSS.out]⟩
        case measure => simp [intOf]; omega
      · have hb0 : y / 2 ^ (c - 1 - k) % 2 = 0 := by omega
        have hb2 : (bits BinOp.and IntKind.u64 ((y : Int) / 2 ^ (c - 1 - k)) 1 == 1) = false := by rw [hbit, hb0]; rfl
        have HB := Lib.hid hb
        clear hb hbit hb0
        go_wp2
        go_round
        case rel => exact ⟨k + 1, by omega, by go_num, by rw [HDM.out, if_neg HB.out, HR.out, HSS.out]⟩
        case measure => simp [intOf]; omega
    · go_wp2
      go_ret
      refine ⟨ret_int ?_, rfl⟩
      rw [← HR.out, show c - k = 0 by omega, Nat.pow_zero, Nat.div_one, ← HX.out, ← HY.out, ← Int.mul_emod]

theorem mul_any (a b m : Int) (w : World) (hm : 0 < m) (hm2 : m ≤ 9223372036854775807) :
    Calls Tryz.prog 117 #[.int .i64 a, .int .i64 b, .int .i64 m] w fun e w' => e = .returned (.int .i64 (a * b % m)) ∧ w = w' := mul_core a b m w hm hm2

theorem add_any (a b m : Int) (w : World) (hm : 0 < m) (hm2 : m ≤ 9223372036854775807) :
    Calls Tryz.prog 204 #[.int .i64 a, .int .i64 b, .int .i64 m] w fun e w' => e = .returned (.int .i64 ((a + b) % m)) ∧ w = w' := by
  obtain ⟨x0, x1⟩ := emod_self_lt a m hm
  obtain ⟨y0, y1⟩ := emod_self_lt b m hm
  obtain ⟨z0, z1⟩ := emod_self_lt (a % m + b % m) m hm
  have HE := Lib.hid (show (a % m + b % m) % m = (a + b) % m by rw [← Int.add_emod])
  go_enter Tryz.func204, Tryz.ntmps204
  go_wp2_with fail
  refine (residue_any a m w hm hm2).mono ?_
  rintro e w' ⟨rfl, rfl⟩
  generalize a % m = x at *
  go_wp2_with fail
  refine (residue_any b m w hm hm2).mono ?_
  rintro e w' ⟨rfl, rfl⟩
  generalize b % m = y at *
  go_wp2_with fail
  refine (plus_any x y m w x0 x1 y0 y1 hm2).mono ?_
  rintro e w' ⟨rfl, rfl⟩
  obtain ⟨z, hz⟩ : ∃ z, (x + y) % m = z := ⟨_, rfl⟩
  rw [hz] at z0 z1 ⊢
  have HZ := Lib.hid hz
  clear hz
  go_wp2
  go_ret
  exact ⟨ret_int (by rw [← HE.out, HZ.out]), rfl⟩

end Go.Proofs.YtldkjkjpaiajlaaGreatDoor

namespace Go.Proofs.YtldkjkjpaiajlaaGreatDoor
open Go.RowKit

/-- Euclid's numbers at the head of a round: their sizes. -/
structure EgAt (m x y s t : Int) : Prop where
  y0 : 0 ≤ y
  yx : y ≤ x
  x1 : 1 ≤ x
  xm : x ≤ m
  sz : x * y < 2 ^ 129
  sg : ∃ u v : Int, 0 ≤ u ∧ 0 ≤ v ∧ u * x + v * y = m ∧ ((t = u ∧ s = -v) ∨ (t = -u ∧ s = v))
theorem EgAt.bd {m x y s t : Int} (h : EgAt m x y s t) : -m ≤ t ∧ t ≤ m := by
  obtain ⟨u, v, hu, hv, e, hs⟩ := h.sg
  have h1 : u * 1 ≤ u * x := Int.mul_le_mul_of_nonneg_left h.x1 hu
  have h2 : 0 ≤ v * y := Int.mul_nonneg hv h.y0
  rcases hs with ⟨rfl, _⟩ | ⟨rfl, _⟩ <;> omega
theorem EgAt.next {m x y s t : Int} (h : EgAt m x y s t) (hy : 0 < y) : EgAt m y (x % y) t (s - x / y * t) ∧ (-m ≤ x / y * t ∧ x / y * t ≤ m) ∧ (-m ≤ s - x / y * t ∧ s - x / y * t ≤ m) := by
  have h1 := emod_self_lt x y hy
  have hn : EgAt m y (x % y) t (s - x / y * t) := by
    refine ⟨h1.1, by omega, by omega, by have := h.yx; have := h.xm; omega, (eg_round x y s t hy h.yx h.sz).2, ?_⟩
    obtain ⟨u, v, hu, hv, e, hs⟩ := h.sg
    have hq : 0 ≤ x / y := Int.ediv_nonneg (by have := h.x1; omega) (by omega)
    have hqu : 0 ≤ x / y * u := Int.mul_nonneg hq hu
    refine ⟨v + x / y * u, u, by omega, hu, ?_, ?_⟩
    · have e1 : x % y = x - y * (x / y) := by have := Int.mul_ediv_add_emod x y; omega
      rw [e1, Int.add_mul, Int.mul_sub, ← e]
      have e2 : x / y * u * y = u * (y * (x / y)) := by rw [Int.mul_comm (x / y) u, Int.mul_assoc, Int.mul_comm (x / y) y]
      omega
    · rcases hs with ⟨rfl, rfl⟩ | ⟨rfl, rfl⟩
      · right; exact ⟨by omega, rfl⟩
      · left
        have : x / y * -u = -(x / y * u) := by rw [Int.mul_neg]
        exact ⟨by omega, rfl⟩
  refine ⟨hn, ?_, hn.bd⟩
  obtain ⟨u, v, hu, hv, e, hs⟩ := h.sg
  have hq : 0 ≤ x / y := Int.ediv_nonneg (by have := h.x1; omega) (by omega)
  have hqu : 0 ≤ x / y * u := Int.mul_nonneg hq hu
  have h3 := hn.bd
  rcases hs with ⟨rfl, rfl⟩ | ⟨rfl, rfl⟩
  · omega
  · have : x / y * -u = -(x / y * u) := by rw [Int.mul_neg]
    omega

/-- The closure of Pow: x * y modulo m; m is captured. -/
theorem times_any (bm : Nat) (x y m : Int) (w : World) (hc : w.cell? ⟨bm, 0, none⟩ = some (.int .i64 m)) (hm : 0 < m) (hm2 : m ≤ 9223372036854775807) :
    Calls Tryz.prog 161 #[.int .i64 x, .int .i64 y, .pointer (some ⟨bm, 0, none⟩)] w fun e w' => e = .returned (.int .i64 (x * y % m)) ∧ w = w' := by
  go_enter Tryz.func161, Tryz.ntmps161
  go_wp2_with fail
  refine (mul_any x y m w hm hm2).mono ?_
  rintro e w' ⟨rfl, rfl⟩
  go_wp2
  go_ret
  exact ⟨rfl, rfl⟩

set_option maxHeartbeats 400000 in
theorem pow_any (a n m : Int) (w : World) (hm : 0 < m) (hm2 : m ≤ 9223372036854775807) (hn : 0 ≤ n) (hn2 : n ≤ 9223372036854775807) :
    Calls Tryz.prog 118 #[.int .i64 a, .int .i64 n, .int .i64 m] w fun e w' => e = .returned (.int .i64 (powM a n m)) ∧ w' = w.alloc (.cells #[.int .i64 m] 3) := by
  have hd : decide (m < 1) = false := decide_eq_false (by omega)
  obtain ⟨R, hR⟩ : ∃ R, powM a n m = R := ⟨_, rfl⟩
  have hS : powZ m 64 (1 % m) a n = R := by
    rw [← hR]; unfold powM
    rw [powZ_res]
    by_cases h0 : n ≤ 0
    · rw [if_pos (.inl h0), powZ_zero _ _ _ _ _ h0]
    · rw [if_neg (by omega)]
  rw [hR]
  have HS := Lib.hid hS
  have hcm : (w.alloc (.cells #[.int .i64 m] 3)).cell? ⟨w.heap.size, 0, none⟩ = some (.int .i64 m) := by
    rw [World.cell?_alloc_new]; rfl
  have HCM := Lib.hid hcm
  clear hR hS hcm
  go_enter Tryz.func118, Tryz.ntmps118
  go_wp2_with fail
  refine (residue_any 1 m _ hm hm2).mono ?_
  rintro e w' ⟨rfl, rfl⟩
  go_wp2_with fail
  generalize hw1 : w.alloc (.cells #[.int .i64 m] 3) = w1 at *
  have HW1 := Lib.hid hw1
  clear hw1
  go_loop [0, 1, 8] (fun va vn vp => ∃ (x k out : Int) (f : Nat), va = .int .i64 x ∧ vn = .int .i64 k ∧ vp = .int .i64 out ∧ 0 ≤ k ∧ k ≤ 9223372036854775807 ∧ k < 2 ^ f ∧ powZ m f out x k = R) (fun _ vn _ => (intOf vn).toNat)
  case atStart => exact ⟨a, n, 1 % m, 64, rfl, rfl, rfl, hn, hn2, Int.lt_of_le_of_lt hn2 (by decide), HS.out⟩
  case round =>
    clear HS
    obtain ⟨x, k, out, f, rfl, rfl, rfl, hk, hk2, hkf, hp⟩ := hrel
    by_cases h0 : 0 < k
    · obtain ⟨f, rfl⟩ : ∃ g, f = g + 1 := by
        cases f with
        | zero => simp at hkf; omega
        | succ g => exact ⟨g, rfl⟩
      rw [powZ_step m f out x k h0] at hp
      have hkf2 : k / 2 < 2 ^ f := by
        have : (2 : Int) ^ (f + 1) = 2 * 2 ^ f := by rw [Int.pow_succ, Int.mul_comm]
        omega
      have hbit : bits BinOp.and IntKind.i64 k 1 = k % 2 := by
        obtain ⟨z, rfl⟩ := Int.eq_ofNat_of_zero_le hk
        rw [bits_one_i64 z (by omega)]; rfl
      have HKF := Lib.hid hkf2
      by_cases hb : k % 2 = 1
      · rw [if_pos hb] at hp
        have hb2 : (bits BinOp.and IntKind.i64 k 1 == 1) = true := by rw [hbit, hb]; rfl
        have HP := Lib.hid hp
        clear hb hbit hp hkf hkf2
        go_wp2_with fail
        refine (times_any w.heap.size out x m w1 HCM.out hm hm2).mono ?_
        rintro e w' ⟨rfl, rfl⟩
        go_wp2_with fail
        refine (times_any w.heap.size x x m w1 HCM.out hm hm2).mono ?_
        rintro e w' ⟨rfl, rfl⟩
        go_wp2
        go_round
        case rel => exact ⟨x * x % m, k / 2, out * x % m, f, rfl, by simp, rfl, by omega, by omega, HKF.out, HP.out⟩
        case measure => simp [intOf]; omega
      · rw [if_neg hb] at hp
        have hb2 : (bits BinOp.and IntKind.i64 k 1 == 1) = false := by rw [hbit]; simp; omega
        have HP := Lib.hid hp
        clear hb hbit hp hkf hkf2
        go_wp2_with fail
        refine (times_any w.heap.size x x m w1 HCM.out hm hm2).mono ?_
        rintro e w' ⟨rfl, rfl⟩
        go_wp2
        go_round
        case rel => exact ⟨x * x % m, k / 2, out, f, rfl, by simp, rfl, by omega, by omega, HKF.out, HP.out⟩
        case measure => simp [intOf]; omega
    · have he : out = R := by rw [← hp, powZ_zero _ _ _ _ _ (by omega)]
      have HE := Lib.hid he
      clear he hp hkf
      go_wp2
      go_ret
      exact ⟨ret_int HE.out, HW1.out.symm⟩
end Go.Proofs.YtldkjkjpaiajlaaGreatDoor

namespace Go.Proofs.YtldkjkjpaiajlaaGreatDoor
open Go.RowKit

theorem rres_any (a m : Int) (w : World) (hm : 0 < m) (hm2 : m ≤ 9223372036854775807) :
    Calls Tryz.prog 149 #[.int .i64 a, .int .i64 m] w fun e w' => e = .returned (.int .i64 (a % m)) ∧ w = w' := by
  have h1 := Int.lt_tmod_of_pos a hm
  have h2 := Int.tmod_lt_of_pos a hm
  have HF := Lib.hid (tmod_fix a m hm)
  have hz : (m == 0) = false := beq_eq_false_iff_ne.2 (by omega)
  by_cases h0 : a.tmod m < 0
  · go_enter Tryz.func149, Tryz.ntmps149
    go_wp2
    go_ret
    refine ⟨ret_int ?_, rfl⟩
    rw [← HF.out, if_pos h0]
  · go_enter Tryz.func149, Tryz.ntmps149
    go_wp2
    go_ret
    refine ⟨ret_int ?_, rfl⟩
    rw [← HF.out, if_neg (by omega)]

theorem rplus_any (x y m : Int) (w : World) (hx : 0 ≤ x) (hx2 : x < m) (hy : 0 ≤ y) (hy2 : y < m) (hm : m ≤ 9223372036854775807) :
    Calls Tryz.prog 155 #[.int .i64 x, .int .i64 y, .int .i64 m] w fun e w' => e = .returned (.int .i64 ((x + y) % m)) ∧ w = w' := by
  have HF := Lib.hid (plus_mod x y m ⟨hx, hx2⟩ ⟨hy, hy2⟩)
  by_cases h0 : m ≤ x + y
  · have h1 : m - y ≤ x := by omega
    go_enter Tryz.func155, Tryz.ntmps155
    go_wp2
    go_ret
    refine ⟨ret_int ?_, rfl⟩
    rw [← HF.out, if_pos h0]; omega
  · have h1 : x < m - y := by omega
    go_enter Tryz.func155, Tryz.ntmps155
    go_wp2
    go_ret
    refine ⟨ret_int ?_, rfl⟩
    rw [← HF.out, if_neg (by omega)]

theorem radd_any (a b m : Int) (w : World) (hm : 0 < m) (hm2 : m ≤ 9223372036854775807) :
    Calls Tryz.prog 112 #[.int .i64 a, .int .i64 b, .int .i64 m] w fun e w' => e = .returned (.int .i64 ((a + b) % m)) ∧ w = w' := by
  obtain ⟨x0, x1⟩ := emod_self_lt a m hm
  obtain ⟨y0, y1⟩ := emod_self_lt b m hm
  have HE := Lib.hid (show (a % m + b % m) % m = (a + b) % m by rw [← Int.add_emod])
  go_enter Tryz.func112, Tryz.ntmps112
  go_wp2_with fail
  refine (rres_any a m w hm hm2).mono ?_
  rintro e w' ⟨rfl, rfl⟩
  generalize a % m = x at *
  go_wp2_with fail
  refine (rres_any b m w hm hm2).mono ?_
  rintro e w' ⟨rfl, rfl⟩
  generalize b % m = y at *
  go_wp2_with fail
  refine (rplus_any x y m w x0 x1 y0 y1 hm2).mono ?_
  rintro e w' ⟨rfl, rfl⟩
  obtain ⟨z, hz⟩ : ∃ z, (x + y) % m = z := ⟨_, rfl⟩
  rw [hz]
  have HZ := Lib.hid hz
  clear hz
  go_wp2
  go_ret
  exact ⟨ret_int (by rw [← HE.out, HZ.out]), rfl⟩

theorem dbl_step (out x y m : Int) : ((if y % 2 = 1 then (out + x) % m else out) + (x + x) % m * (y / 2)) % m = (out + x * y) % m := by
  have h2 : y = 2 * (y / 2) + y % 2 := by omega
  have e1 : ∀ u : Int, (u + (x + x) % m * (y / 2)) % m = (u + (x + x) * (y / 2)) % m := fun u => by
    rw [Int.add_emod, res_mul, ← Int.add_emod]
  rw [e1]
  have e2 : (x + x) * (y / 2) = x * (2 * (y / 2)) := by rw [← Int.two_mul, Int.mul_assoc, Int.mul_left_comm]
  split
  · rename_i h
    rw [Int.emod_add_emod, e2]
    congr 1
    conv => rhs; rw [h2, h, Int.mul_add, Int.mul_one]
    omega
  · rename_i h
    have h0 : y % 2 = 0 := by omega
    rw [e2]
    congr 1
    conv => rhs; rw [h2, h0, Int.add_zero]

set_option maxHeartbeats 400000 in
theorem rmul_any (a b m : Int) (w : World) (hm : 0 < m) (hm2 : m ≤ 9223372036854775807) :
    Calls Tryz.prog 113 #[.int .i64 a, .int .i64 b, .int .i64 m] w fun e w' => e = .returned (.int .i64 (a * b % m)) ∧ w = w' := by
  obtain ⟨x0, x1⟩ := emod_self_lt a m hm
  obtain ⟨y0, y1⟩ := emod_self_lt b m hm
  have HE := Lib.hid (show (a % m) * (b % m) % m = a * b % m by rw [← Int.mul_emod])
  have hz : (m == 0) = false := beq_eq_false_iff_ne.2 (by omega)
  go_enter Tryz.func113, Tryz.ntmps113
  go_wp2_with fail
  refine (rres_any a m w hm hm2).mono ?_
  rintro e w' ⟨rfl, rfl⟩
  generalize a % m = x at *
  go_wp2_with fail
  refine (rres_any b m w hm hm2).mono ?_
  rintro e w' ⟨rfl, rfl⟩
  generalize b % m = y at *
  by_cases hs : x < 2147483648 ∧ y < 2147483648
  · obtain ⟨s1, s2⟩ := hs
    have p0 : 0 ≤ x * y := Int.mul_nonneg x0 y0
    have p1 : x * y ≤ 2147483648 * 2147483648 := Int.mul_le_mul (by omega) (by omega) (by omega) (by omega)
    go_wp2
    go_ret
    exact ⟨ret_int HE.out, rfl⟩
  · obtain ⟨T, hT⟩ : ∃ T, x * y % m = T := ⟨_, rfl⟩
    have HT := Lib.hid hT
    clear hT
    by_cases s1 : x < 2147483648
    · have s2 : ¬ y < 2147483648 := fun h => hs ⟨s1, h⟩
      have d1 : decide (y < 2147483648) = false := decide_eq_false s2
      clear hs
      go_wp2_with fail
      go_loop [7, 8, 9] (fun vx vy vo => ∃ x y out : Int, vx = .int .i64 x ∧ vy = .int .i64 y ∧ vo = .int .i64 out ∧ 0 ≤ x ∧ x < m ∧ 0 ≤ y ∧ y < m ∧ 0 ≤ out ∧ out < m ∧ (out + x * y) % m = T) (fun _ vy _ => (intOf vy).toNat)
      case atStart => exact ⟨x, y, 0, rfl, rfl, rfl, x0, x1, y0, y1, Int.le_refl _, hm, by rw [Int.zero_add]; exact HT.out⟩
      case round =>
        clear s1 s2 d1
        obtain ⟨x, y, out, rfl, rfl, rfl, x0, x1, y0, y1, o0, o1, hp⟩ := hrel
        by_cases hy : 0 < y
        · have HD := Lib.hid (dbl_step out x y m)
          have HP := Lib.hid hp
          have HB := Lib.hid (emod_self_lt (x + x) m hm)
          have HO := Lib.hid (emod_self_lt (out + x) m hm)
          clear hp
          by_cases hb : y % 2 = 1
          · have hb2 : (y % 2 == 1) = true := by rw [hb]; rfl
            have HBB := Lib.hid hb
            clear hb
            go_wp2_with fail
            refine (rplus_any out x m w o0 o1 x0 x1 hm2).mono ?_
            rintro e w' ⟨rfl, rfl⟩
            go_wp2_with fail
            refine (rplus_any x x m w x0 x1 x0 x1 hm2).mono ?_
            rintro e w' ⟨rfl, rfl⟩
            go_wp2
            go_round
            case rel => exact ⟨(x + x) % m, y / 2, (out + x) % m, rfl, rfl, rfl, HB.out.1, HB.out.2, by omega, by omega, HO.out.1, HO.out.2, by have := HD.out; rw [if_pos HBB.out] at this; rw [this]; exact HP.out⟩
            case measure => simp [intOf]; omega
          · have hb2 : (y % 2 == 1) = false := beq_eq_false_iff_ne.2 hb
            have HBB := Lib.hid hb
            clear hb
            go_wp2_with fail
            refine (rplus_any x x m w x0 x1 x0 x1 hm2).mono ?_
            rintro e w' ⟨rfl, rfl⟩
            go_wp2
            go_round
            case rel => exact ⟨(x + x) % m, y / 2, out, rfl, rfl, rfl, HB.out.1, HB.out.2, by omega, by omega, o0, o1, by have := HD.out; rw [if_neg HBB.out] at this; rw [this]; exact HP.out⟩
            case measure => simp [intOf]; omega
        · have hy0 : y = 0 := by omega
          have HEQ := Lib.hid (show out = T by rw [← hp, hy0, Int.mul_zero, Int.add_zero, Int.emod_eq_of_lt o0 o1])
          clear hp hy0
          go_wp2
          go_ret
          exact ⟨ret_int (by rw [HEQ.out, ← HE.out, HT.out]), rfl⟩
    · have d1 : decide (x < 2147483648) = false := decide_eq_false s1
      clear hs
      go_wp2_with fail
      go_loop [7, 8, 9] (fun vx vy vo => ∃ x y out : Int, vx = .int .i64 x ∧ vy = .int .i64 y ∧ vo = .int .i64 out ∧ 0 ≤ x ∧ x < m ∧ 0 ≤ y ∧ y < m ∧ 0 ≤ out ∧ out < m ∧ (out + x * y) % m = T) (fun _ vy _ => (intOf vy).toNat)
      case atStart => exact ⟨x, y, 0, rfl, rfl, rfl, x0, x1, y0, y1, Int.le_refl _, hm, by rw [Int.zero_add]; exact HT.out⟩
      case round =>
        clear s1 d1
        obtain ⟨x, y, out, rfl, rfl, rfl, x0, x1, y0, y1, o0, o1, hp⟩ := hrel
        by_cases hy : 0 < y
        · have HD := Lib.hid (dbl_step out x y m)
          have HP := Lib.hid hp
          have HB := Lib.hid (emod_self_lt (x + x) m hm)
          have HO := Lib.hid (emod_self_lt (out + x) m hm)
          clear hp
          by_cases hb : y % 2 = 1
          · have hb2 : (y % 2 == 1) = true := by rw [hb]; rfl
            have HBB := Lib.hid hb
            clear hb
            go_wp2_with fail
            refine (rplus_any out x m w o0 o1 x0 x1 hm2).mono ?_
            rintro e w' ⟨rfl, rfl⟩
            go_wp2_with fail
            refine (rplus_any x x m w x0 x1 x0 x1 hm2).mono ?_
            rintro e w' ⟨rfl, rfl⟩
            go_wp2
            go_round
            case rel => exact ⟨(x + x) % m, y / 2, (out + x) % m, rfl, rfl, rfl, HB.out.1, HB.out.2, by omega, by omega, HO.out.1, HO.out.2, by have := HD.out; rw [if_pos HBB.out] at this; rw [this]; exact HP.out⟩
            case measure => simp [intOf]; omega
          · have hb2 : (y % 2 == 1) = false := beq_eq_false_iff_ne.2 hb
            have HBB := Lib.hid hb
            clear hb
            go_wp2_with fail
            refine (rplus_any x x m w x0 x1 x0 x1 hm2).mono ?_
            rintro e w' ⟨rfl, rfl⟩
            go_wp2
            go_round
            case rel => exact ⟨(x + x) % m, y / 2, out, rfl, rfl, rfl, HB.out.1, HB.out.2, by omega, by omega, o0, o1, by have := HD.out; rw [if_neg HBB.out] at this; rw [this]; exact HP.out⟩
            case measure => simp [intOf]; omega
        · have hy0 : y = 0 := by omega
          have HEQ := Lib.hid (show out = T by rw [← hp, hy0, Int.mul_zero, Int.add_zero, Int.emod_eq_of_lt o0 o1])
          clear hp hy0
          go_wp2
          go_ret
          exact ⟨ret_int (by rw [HEQ.out, ← HE.out, HT.out]), rfl⟩

set_option maxHeartbeats 400000 in
theorem rpow_any (a n m : Int) (w : World) (hm : 0 < m) (hm2 : m ≤ 9223372036854775807) (hn : 0 ≤ n) (hn2 : n ≤ 9223372036854775807) :
    Calls Tryz.prog 104 #[.int .i64 a, .int .i64 n, .int .i64 m] w fun e w' => e = .returned (.int .i64 (powM a n m)) ∧ w = w' := by
  have hd : decide (m < 1) = false := decide_eq_false (by omega)
  obtain ⟨R, hR⟩ : ∃ R, powM a n m = R := ⟨_, rfl⟩
  have HS := Lib.hid (show powZ m 64 (1 % m) (a % m) n = R from hR)
  rw [hR]
  clear hR
  go_enter Tryz.func104, Tryz.ntmps104
  go_wp2_with fail
  refine (rres_any 1 m _ hm hm2).mono ?_
  rintro e w' ⟨rfl, rfl⟩
  go_wp2_with fail
  refine (rres_any a m _ hm hm2).mono ?_
  rintro e w' ⟨rfl, rfl⟩
  go_wp2_with fail
  go_loop [1, 7, 8] (fun vn vp va => ∃ (x k out : Int) (f : Nat), va = .int .i64 x ∧ vn = .int .i64 k ∧ vp = .int .i64 out ∧ 0 ≤ k ∧ k ≤ 9223372036854775807 ∧ k < 2 ^ f ∧ powZ m f out x k = R) (fun vn _ _ => (intOf vn).toNat)
  case atStart => exact ⟨a % m, n, 1 % m, 64, rfl, rfl, rfl, hn, hn2, Int.lt_of_le_of_lt hn2 (by decide), HS.out⟩
  case round =>
    clear HS
    obtain ⟨x, k, out, f, rfl, rfl, rfl, hk, hk2, hkf, hp⟩ := hrel
    by_cases h0 : 0 < k
    · obtain ⟨f, rfl⟩ : ∃ g, f = g + 1 := by
        cases f with
        | zero => simp at hkf; omega
        | succ g => exact ⟨g, rfl⟩
      rw [powZ_step m f out x k h0] at hp
      have hkf2 : k / 2 < 2 ^ f := by
        have : (2 : Int) ^ (f + 1) = 2 * 2 ^ f := by rw [Int.pow_succ, Int.mul_comm]
        omega
      have HKF := Lib.hid hkf2
      by_cases hb : k % 2 = 1
      · rw [if_pos hb] at hp
        have hb2 : (k % 2 == 1) = true := by rw [hb]; rfl
        have HP := Lib.hid hp
        clear hb hp hkf hkf2
        go_wp2_with fail
        refine (rmul_any out x m w hm hm2).mono ?_
        rintro e w' ⟨rfl, rfl⟩
        go_wp2_with fail
        refine (rmul_any x x m w hm hm2).mono ?_
        rintro e w' ⟨rfl, rfl⟩
        go_wp2
        go_round
        case rel => exact ⟨x * x % m, k / 2, out * x % m, f, rfl, rfl, rfl, by omega, by omega, HKF.out, HP.out⟩
        case measure => simp [intOf]; omega
      · rw [if_neg hb] at hp
        have hb2 : (k % 2 == 1) = false := beq_eq_false_iff_ne.2 hb
        have HP := Lib.hid hp
        clear hb hp hkf hkf2
        go_wp2_with fail
        refine (rmul_any x x m w hm hm2).mono ?_
        rintro e w' ⟨rfl, rfl⟩
        go_wp2
        go_round
        case rel => exact ⟨x * x % m, k / 2, out, f, rfl, rfl, rfl, by omega, by omega, HKF.out, HP.out⟩
        case measure => simp [intOf]; omega
    · have he : out = R := by rw [← hp, powZ_zero _ _ _ _ _ (by omega)]
      have HE := Lib.hid he
      clear he hp hkf
      go_wp2
      go_ret
      exact ⟨ret_int HE.out, rfl⟩

end Go.Proofs.YtldkjkjpaiajlaaGreatDoor

namespace Go.Proofs.YtldkjkjpaiajlaaGreatDoor
open Go.RowKit

/-- Is a number a member of the group? -/
def memB (a : Int) : Bool := decide (1 ≤ a) && decide (a < gP) && (powM a gQ gP == 1)

theorem memB_low {a : Int} (h : a < 1) : memB a = false := by
  have : decide (1 ≤ a) = false := decide_eq_false (by omega)
  unfold memB; rw [this]; rfl
theorem memB_high {a : Int} (h : gP ≤ a) : memB a = false := by
  have : decide (a < gP) = false := decide_eq_false (by omega)
  unfold memB; rw [this]; simp
theorem memB_mid {a : Int} (h1 : 1 ≤ a) (h2 : a < gP) : memB a = (powM a gQ gP == 1) := by
  have e1 : decide (1 ≤ a) = true := decide_eq_true h1
  have e2 : decide (a < gP) = true := decide_eq_true h2
  unfold memB; rw [e1, e2]; rfl

set_option maxHeartbeats 400000 in
theorem member_is (a : Int) (bb : Bool) (w : World) (hb : memB a = bb) :
    Calls Tryz.prog 114 #[.int .i64 a] w fun e w' => e = .returned (.bool bb) ∧ Only (fun _ => False) w w' := by
  by_cases h1 : 1 ≤ a
  · by_cases h2 : a < 2305843009213691579
    · have d1 : decide (1 ≤ a) = true := decide_eq_true h1
      have d2 : decide (a ≤ 2305843009213691578) = true := decide_eq_true (by omega)
      have hp : (powM a gQ gP == 1) = bb := by rw [← memB_mid h1 h2]; exact hb
      obtain ⟨R, hR⟩ : ∃ R, powM a gQ gP = R := ⟨_, rfl⟩
      rw [hR] at hp
      have HR := Lib.hid (show powM a 1152921504606845789 2305843009213691579 = R from hR)
      clear hR hb
      cases bb
      all_goals
        go_enter Tryz.func114, Tryz.ntmps114
        go_wp2_with fail
        refine (pow_any a 1152921504606845789 2305843009213691579 w (by decide) (by decide) (by decide) (by decide)).mono ?_
        rintro e w' ⟨rfl, rfl⟩
        rw [HR.out]
        go_wp2
        go_ret
        exact ⟨rfl, (Only.refl _ w).alloc _⟩
    · have d1 : decide (1 ≤ a) = true := decide_eq_true h1
      have d2 : decide (a ≤ 2305843009213691578) = false := decide_eq_false (by omega)
      have hf : bb = false := by rw [← hb]; exact memB_high (show gP ≤ a by unfold gP; omega)
      subst hf
      clear hb
      go_enter Tryz.func114, Tryz.ntmps114
      go_wp2
      go_ret
      exact ⟨rfl, Only.refl _ _⟩
  · have d1 : decide (1 ≤ a) = false := decide_eq_false h1
    have hf : bb = false := by rw [← hb]; exact memB_low (by omega)
    subst hf
    clear hb
    go_enter Tryz.func114, Tryz.ntmps114
    go_wp2
    go_ret
    exact ⟨rfl, Only.refl _ _⟩

set_option maxHeartbeats 400000 in
theorem rmember_is (a : Int) (bb : Bool) (w : World) (hb : memB a = bb) :
    Calls Tryz.prog 127 #[.int .i64 a] w fun e w' => e = .returned (.bool bb) ∧ w = w' := by
  by_cases h1 : 1 ≤ a
  · by_cases h2 : a < 2305843009213691579
    · have d1 : decide (1 ≤ a) = true := decide_eq_true h1
      have d2 : decide (a < 2305843009213691579) = true := decide_eq_true h2
      have hp : (powM a gQ gP == 1) = bb := by rw [← memB_mid h1 h2]; exact hb
      obtain ⟨R, hR⟩ : ∃ R, powM a gQ gP = R := ⟨_, rfl⟩
      rw [hR] at hp
      have HR := Lib.hid (show powM a 1152921504606845789 2305843009213691579 = R from hR)
      clear hR hb
      cases bb
      all_goals
        go_enter Tryz.func127, Tryz.ntmps127
        go_wp2_with fail
        refine (rpow_any a 1152921504606845789 2305843009213691579 w (by decide) (by decide) (by decide) (by decide)).mono ?_
        rintro e w' ⟨rfl, rfl⟩
        rw [HR.out]
        go_wp2
        go_ret
        exact ⟨rfl, rfl⟩
    · have d1 : decide (1 ≤ a) = true := decide_eq_true h1
      have d2 : decide (a < 2305843009213691579) = false := decide_eq_false h2
      have hf : bb = false := by rw [← hb]; exact memB_high (show gP ≤ a by unfold gP; omega)
      subst hf
      clear hb
      go_enter Tryz.func127, Tryz.ntmps127
      go_wp2
      go_ret
      exact ⟨rfl, rfl⟩
  · have d1 : decide (1 ≤ a) = false := decide_eq_false h1
    have hf : bb = false := by rw [← hb]; exact memB_low (by omega)
    subst hf
    clear hb
    go_enter Tryz.func127, Tryz.ntmps127
    go_wp2
    go_ret
    exact ⟨rfl, rfl⟩
end Go.Proofs.YtldkjkjpaiajlaaGreatDoor

namespace Go.Proofs.YtldkjkjpaiajlaaGreatDoor

theorem powZ_cong (m : Int) : ∀ (f : Nat) (out x n : Int), 0 ≤ n → n < 2 ^ f → Cong m (powZ m f out x n) (out * x ^ n.toNat) := by
  intro f
  induction f with
  | zero =>
    intro out x n h0 h1
    have : n = 0 := by simp at h1; omega
    subst this
    exact Cong.of_eq (by simp [powZ])
  | succ f ih =>
    intro out x n h0 h1
    by_cases hn : n ≤ 0
    · have : n = 0 := by omega
      subst this
      rw [powZ_zero m _ out x 0 (by omega)]
      exact Cong.of_eq (by simp)
    · rw [powZ_step m f out x n (by omega)]
      have h2 : n / 2 < 2 ^ f := by
        have : (2 : Int) ^ (f + 1) = 2 * 2 ^ f := by rw [Int.pow_succ, Int.mul_comm]
        omega
      refine (ih _ _ _ (by omega) h2).trans ?_
      have e0 : Cong m ((x * x % m) ^ (n / 2).toNat) ((x * x) ^ (n / 2).toNat) := by
        generalize (n / 2).toNat = k
        induction k with
        | zero => simp only [Int.pow_zero]; exact Cong.refl _ _
        | succ k ih => rw [Int.pow_succ, Int.pow_succ]; exact ih.mul (Cong.mod _ _)
      have e1 : (x * x) ^ (n / 2).toNat = x ^ (2 * (n / 2).toNat) := by rw [Int.pow_mul, Int.pow_succ, Int.pow_succ, Int.pow_zero, Int.one_mul]
      rw [e1] at e0
      by_cases hb : n % 2 = 1
      · rw [if_pos hb]
        have e2 : n.toNat = 2 * (n / 2).toNat + 1 := by omega
        rw [e2, Int.pow_succ]
        exact ((Cong.mod m (out * x)).mul e0).trans (Cong.of_eq (by grind))
      · rw [if_neg hb]
        have e2 : n.toNat = 2 * (n / 2).toNat := by omega
        rw [e2]
        exact (Cong.refl m out).mul e0
theorem powZ_bd (m : Int) (hm : 0 < m) : ∀ (f : Nat) (out x n : Int), 0 ≤ out → out < m → 0 ≤ powZ m f out x n ∧ powZ m f out x n < m := by
  intro f
  induction f with
  | zero => intro out x n h0 h1; exact ⟨h0, h1⟩
  | succ f ih =>
    intro out x n h0 h1
    by_cases hn : n ≤ 0
    · rw [powZ_zero m _ out x n hn]; exact ⟨h0, h1⟩
    · rw [powZ_step m f out x n (by omega)]
      refine ih _ _ _ ?_ ?_ <;> split
      · exact (emod_self_lt _ _ hm).1
      · exact h0
      · exact (emod_self_lt _ _ hm).2
      · exact h1
theorem cong_pow {m a b : Int} (h : Cong m a b) : ∀ k : Nat, Cong m (a ^ k) (b ^ k)
  | 0 => by simp only [Int.pow_zero]; exact Cong.refl _ _
  | k + 1 => by rw [Int.pow_succ, Int.pow_succ]; exact (cong_pow h k).mul h
theorem powM_bd (a n m : Int) (hm : 0 < m) : 0 ≤ powM a n m ∧ powM a n m < m :=
  powZ_bd m hm _ _ _ _ (emod_self_lt _ _ hm).1 (emod_self_lt _ _ hm).2
theorem powM_cong (a n m : Int) (h0 : 0 ≤ n) (h1 : n < 2 ^ 64) : Cong m (powM a n m) (a ^ n.toNat) :=
  (powZ_cong m 64 _ _ n h0 h1).trans (((Cong.mod m 1).mul (cong_pow (Cong.mod m a) _)).trans (Cong.of_eq (Int.one_mul _)))
theorem powM_eq (a n m : Int) (hm : 0 < m) (h0 : 0 ≤ n) (h1 : n < 2 ^ 64) : powM a n m = a ^ n.toNat % m := by
  have := (powM_cong a n m h0 h1).emod
  have hb := powM_bd a n m hm
  rwa [Int.emod_eq_of_lt hb.1 hb.2] at this

/-- A member's power with Q is 1. -/
def InG (a : Int) : Prop := Cong gP (a ^ 1152921504606845789) 1
theorem memB_iff (a : Int) : memB a = true ↔ 1 ≤ a ∧ a < gP ∧ InG a := by
  have hq : (1152921504606845789 : Int).toNat = 1152921504606845789 := by decide
  unfold memB InG
  simp only [Bool.and_eq_true, decide_eq_true_eq, beq_iff_eq]
  constructor
  · rintro ⟨⟨h1, h2⟩, h3⟩
    refine ⟨h1, h2, ?_⟩
    have := powM_cong a gQ gP (by decide) (by decide)
    rw [h3, show gQ.toNat = 1152921504606845789 from hq] at this
    exact this.symm
  · rintro ⟨h1, h2, h3⟩
    refine ⟨⟨h1, h2⟩, ?_⟩
    have := powM_cong a gQ gP (by decide) (by decide)
    rw [show gQ.toNat = 1152921504606845789 from hq] at this
    have hb := powM_bd a gQ gP (by decide)
    exact (this.trans h3).eq hb.1 hb.2 (by decide) (by decide)
theorem InG.cong {a b : Int} (h : InG a) (hab : Cong gP b a) : InG b := (cong_pow hab _).trans h
theorem InG.mul {a b : Int} (h : InG a) (h2 : InG b) : InG (a * b) := by
  unfold InG at *
  rw [Int.mul_pow]
  exact (Cong.mul h h2).trans (Cong.of_eq (Int.one_mul 1))
theorem cong_one_pow {m a : Int} (h : Cong m a 1) (k : Nat) : Cong m (a ^ k) 1 := (cong_pow h k).trans (Cong.of_eq (Int.one_pow))
theorem InG.pow {a : Int} (h : InG a) (k : Nat) : InG (a ^ k) := by
  unfold InG
  rw [← Int.pow_mul, Nat.mul_comm, Int.pow_mul]
  exact cong_one_pow h k
/-- Exponents count modulo Q. -/
theorem InG.exp {a : Int} (h : InG a) (n : Nat) : Cong gP (a ^ n) (a ^ (n % 1152921504606845789)) := by
  unfold InG at h
  generalize (1152921504606845789 : Nat) = Q at *
  have e : n = Q * (n / Q) + n % Q := (Nat.div_add_mod _ _).symm
  have h2 : Cong gP (a ^ (Q * (n / Q) + n % Q)) (a ^ (n % Q)) := by
    rw [Int.pow_add, Int.pow_mul]
    exact ((cong_one_pow h (n / Q)).mul (Cong.refl _ _)).trans (Cong.of_eq (Int.one_mul _))
  rw [← e] at h2
  exact h2
theorem InG.ne {a : Int} (h : InG a) : a % gP ≠ 0 := by
  intro h0
  have : Cong gP a 0 := Cong.of_emod (by rw [h0]; rfl)
  have h1 := cong_pow this 1152921504606845789
  have h2 : (0 : Int) ^ 1152921504606845789 = 0 := by rw [Int.zero_pow (by decide)]
  rw [h2] at h1
  have := (h1.symm.trans h).emod
  revert this; decide
theorem mem_of {a : Int} (h : InG a) : memB (a % gP) = true := by
  rw [memB_iff]
  have hb := emod_self_lt a gP (by decide)
  have := h.ne
  exact ⟨by omega, hb.2, h.cong (Cong.mod _ _)⟩
theorem mem_pow {a n : Int} (h : memB a = true) (h0 : 0 ≤ n) (h1 : n < 2 ^ 64) : memB (powM a n gP) = true := by
  rw [powM_eq a n gP (by decide) h0 h1]
  exact mem_of (((memB_iff a).1 h).2.2.pow _)
/-- The square of what is not 0. -/
theorem sq_pow (x : Int) (k : Nat) : (x * x) ^ k = x ^ (2 * k) := by rw [Int.pow_mul, show x ^ 2 = x * x by rw [Int.pow_succ, Int.pow_succ, Int.pow_zero, Int.one_mul]]
theorem natPow_mod (n k m : Nat) : ((n : Int) ^ k) % (m : Int) = ((n ^ k % m : Nat) : Int) := by rw [Int.natCast_emod, Int.natCast_pow]
theorem in_square {x : Int} (h : x % gP ≠ 0) : InG (x * x) := by
  unfold InG
  have hb := emod_self_lt x gP (by decide)
  obtain ⟨n, hn⟩ := Int.eq_ofNat_of_zero_le hb.1
  have hc : Cong gP x n := by rw [← hn]; exact (Cong.mod _ _).symm
  have hP : gP = ((2305843009213691579 : Nat) : Int) := rfl
  have hf := fermat (a := n) primeP (by rw [Nat.mod_eq_of_lt (by rw [hn, hP] at hb; omega)]; intro e; rw [hn, e] at h; exact h rfl)
  have e2 : 2 * 1152921504606845789 = 2305843009213691579 - 1 := by decide
  rw [sq_pow, e2]
  refine (cong_pow hc _).trans (Cong.of_emod ?_)
  rw [hP, natPow_mod, hf]; rfl
theorem mem_four : memB 4 = true := by
  have := mem_of (in_square (x := 2) (by decide))
  exact this
end Go.Proofs.YtldkjkjpaiajlaaGreatDoor
