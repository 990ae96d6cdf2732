/-
  Numbers of hashes: the reference's number, Scalar, Element, Key.
-/
import Derived.Test.YtalclldccnichaaGreatSha
import Derived.Test.YtalclldccnichaaGreatMember
namespace Go.Proofs.YtalclldccnichaaGreat
open Go.RowKit

structure Bytes32 (h : List Int) : Prop where
  len : h.length = 32
  bd : ∀ j, 0 ≤ ptAt h j ∧ ptAt h j ≤ 255
theorem shaL_bytes (s : ByteArray) : Bytes32 (shaL s) := by
  refine ⟨hashOf_len _, fun j => ?_⟩
  unfold shaL hashOf ptAt
  by_cases h : j < 32
  · simp only [List.getD, List.getElem?_map, List.getElem?_range h]
    show 0 ≤ byteOf _ j ∧ byteOf _ j ≤ 255
    unfold byteOf
    omega
  · simp only [List.getD, List.getElem?_map]
    rw [List.getElem?_eq_none (by simp; omega)]
    show (0 : Int) ≤ 0 ∧ (0 : Int) ≤ 255
    decide
def numTo (h : List Int) : Nat → Int
  | 0 => ptAt h 0 % 128
  | k + 1 => numTo h k * 256 + ptAt h (k + 1)
theorem numTo_bd {h : List Int} (hb : Bytes32 h) : ∀ k, 0 ≤ numTo h k ∧ numTo h k < 128 * 256 ^ k
  | 0 => by rw [numTo]; omega
  | k + 1 => by
    rw [numTo, Int.pow_succ]
    have := numTo_bd hb k
    have := hb.bd (k + 1)
    omega
/-- The number of a hash. -/
def numZ (h : List Int) : Int := numTo h 7
theorem numZ_bd {h : List Int} (hb : Bytes32 h) : 0 ≤ numZ h ∧ numZ h ≤ 9223372036854775807 := by
  have := numTo_bd hb 7
  unfold numZ
  omega
theorem byRow_at (h : List Int) (i : Nat) (hi : i < h.length) : (byRow h)[i]? = some (.int .u8 (ptAt h i)) := by
  simp [byRow, ptAt, List.getD, hi]

set_option maxRecDepth 100000 in
set_option maxHeartbeats 1000000 in
theorem rnumber_any (h : List Int) (w : World) (hb : Bytes32 h) :
    Calls Tryz.prog 84 #[.agg (byRow h)] w fun e w' => e = .returned (.int .i64 (numZ h)) ∧ Only (fun _ => False) w w' := by
  have hc : ∀ i, i < 32 → (w.alloc (.cells (byRow h) 110)).cell? ⟨w.heap.size, i, none⟩ = some (.int .u8 (ptAt h i)) := fun i hi => by
    rw [World.cell?_alloc_new]; exact byRow_at h i (by rw [hb.len]; exact hi)
  have HC := Lib.hid hc
  have c0 := hc 0 (by decide)
  have b0 := hb.bd 0
  have HB := Lib.hid hb
  have HN0 := Lib.hid (show numTo h 0 = ptAt h 0 % 128 from rfl)
  obtain ⟨b00, b01⟩ := b0
  clear hc hb
  generalize hx : ptAt h 0 = x0 at *
  have HO := Lib.hid ((Only.refl (fun _ => False) w).alloc (.cells (byRow h) 110))
  have hl : w.heap.size < (w.alloc (.cells (byRow h) 110)).heap.size := by simp
  clear hx
  go_enter Tryz.func84, Tryz.ntmps84
  go_wp2_with fail
  generalize w.alloc (.cells (byRow h) 110) = w1 at *
  go_loop [3, 4] (fun vn vi => ∃ j : Nat, j ≤ 7 ∧ vi = .int .i64 (1 + (j : Int)) ∧ vn = .int .i64 (numTo h j)) (fun _ vi => 8 - (intOf vi).toNat)
  case atStart => exact ⟨0, by omega, rfl, by rw [HN0.out]⟩
  case round =>
    clear HN0 c0
    obtain ⟨j, hj, rfl, rfl⟩ := hrel
    by_cases hlt : j < 7
    · have c := HC.out (1 + j) (by omega)
      obtain ⟨b2, b3⟩ := HB.out.bd (1 + j)
      have hn := numTo_bd HB.out j
      have hp : (256 : Int) ^ j ≤ 256 ^ 6 := by
        have : (256 : Nat) ^ j ≤ 256 ^ 6 := Nat.pow_le_pow_right (by decide) (by omega)
        have h2 : ((256 ^ j : Nat) : Int) ≤ ((256 ^ 6 : Nat) : Int) := Int.ofNat_le.2 this
        simpa using h2
      have n0 := hn.1
      have n1 : numTo h j ≤ 36028797018963967 := by omega
      have HNX := Lib.hid (show numTo h (j + 1) = numTo h j * 256 + ptAt h (1 + j) by rw [numTo, Nat.add_comm])
      have i1 : (1 + (j : Int)) < 8 := by omega
      clear hn hp hj
      generalize ptAt h (1 + j) = x at *
      generalize numTo h j = n at *
      go_wp2
      go_round
      case rel => exact ⟨j + 1, by omega, by congr 1, by rw [HNX.out]⟩
      case measure => simp [intOf]; omega
    · obtain rfl : j = 7 := by omega
      go_wp2
      go_ret
      exact ⟨rfl, HO.out⟩

def strS : ByteArray := ⟨#[115, 47]⟩
def strE : ByteArray := ⟨#[101, 47]⟩
def strK : ByteArray := ⟨#[107]⟩
def scalarZ (s : ByteArray) : Int := numZ (shaL (strS ++ s)) % 1152921504606845789
def elemX (s : ByteArray) : Int := 1 + numZ (shaL (strE ++ s)) % 2305843009213691578
def elemZ (s : ByteArray) : Int := elemX s * elemX s % 2305843009213691579
theorem scalarZ_bd (s : ByteArray) : 0 ≤ scalarZ s ∧ scalarZ s < 1152921504606845789 := emod_self_lt _ _ (by decide)

set_option maxHeartbeats 1000000 in
theorem rscalar_any (s : ByteArray) (w : World) (hs : s.size ≤ 900000) :
    Calls Tryz.prog 55 #[.string s] w fun e w' => e = .returned (.int .i64 (scalarZ s)) ∧ Only (fun _ => False) w w' := by
  have HS := Lib.hid (rsum_any (strS ++ s) w (by rw [ByteArray.size_append]; show 2 + _ ≤ _; omega))
  have HB := Lib.hid (shaL_bytes (strS ++ s))
  obtain ⟨z0, z1⟩ := numZ_bd (shaL_bytes (strS ++ s))
  have HZ := Lib.hid (show scalarZ s = numZ (shaL (strS ++ s)) % 1152921504606845789 from rfl)
  go_enter Tryz.func55, Tryz.ntmps55
  go_wp2_with fail
  refine HS.out.mono ?_
  rintro e w1 ⟨rfl, hO⟩
  have HO := Lib.hid hO
  clear hO HS
  go_wp2_with fail
  refine (rnumber_any _ _ HB.out).mono ?_
  rintro e w2 ⟨rfl, hO2⟩
  have HO2 := Lib.hid (HO.out.trans hO2)
  clear hO2 HO
  generalize numZ (shaL (strS ++ s)) = z at *
  go_wp2
  go_ret
  exact ⟨by rw [HZ.out]; rfl, HO2.out⟩
def keyS (s : ByteArray) : Int := max (scalarZ (strK ++ s)) 1
def keyP (s : ByteArray) : Int := powM 4 (keyS s) 2305843009213691579
theorem keyS_bd (s : ByteArray) : 1 ≤ keyS s ∧ keyS s < 1152921504606845789 := by have := scalarZ_bd (strK ++ s); unfold keyS; omega
theorem rpositive_any (s : ByteArray) (w : World) (hs : s.size ≤ 900000) :
    Calls Tryz.prog 73 #[.string s] w fun e w' => e = .returned (.int .i64 (max (scalarZ s) 1)) ∧ Only (fun _ => False) w w' := by
  obtain ⟨z0, z1⟩ := scalarZ_bd s
  have HC := Lib.hid (rscalar_any s w hs)
  generalize scalarZ s = z at *
  go_enter Tryz.func73, Tryz.ntmps73
  go_wp2_with fail
  refine HC.out.mono ?_
  rintro e w1 ⟨rfl, hO⟩
  have HO := Lib.hid hO
  clear hO HC
  go_wp2
  go_ret
  exact ⟨rfl, HO.out⟩
theorem rexponent_any (n : Int) (w : World) : Calls Tryz.prog 97 #[.int .i64 n] w fun e w' => e = .returned (.int .i64 (n % 1152921504606845789)) ∧ w = w' := by
  have HF := Lib.hid (tmod_fix n 1152921504606845789 (by decide))
  have h1 := Int.lt_tmod_of_pos n (show (0 : Int) < 1152921504606845789 by decide)
  have h2 := Int.tmod_lt_of_pos n (show (0 : Int) < 1152921504606845789 by decide)
  by_cases h0 : n.tmod 1152921504606845789 < 0
  · go_enter Tryz.func97, Tryz.ntmps97
    go_wp2
    go_ret
    exact ⟨ret_int (by rw [← HF.out, if_pos h0]), rfl⟩
  · go_enter Tryz.func97, Tryz.ntmps97
    go_wp2
    go_ret
    exact ⟨ret_int (by rw [← HF.out, if_neg (by omega)]), rfl⟩
theorem rpublic5_any (n : Int) (w : World) : Calls Tryz.prog 74 #[.int .i64 n] w fun e w' => e = .returned (.int .i64 (powM 4 (n % 1152921504606845789) 2305843009213691579)) ∧ w = w' := by
  obtain ⟨z0, z1⟩ := emod_self_lt n 1152921504606845789 (by decide)
  have HC := Lib.hid (rexponent_any n w)
  generalize n % 1152921504606845789 = z at *
  go_enter Tryz.func74, Tryz.ntmps74
  go_wp2_with fail
  refine HC.out.mono ?_
  rintro e w1 ⟨rfl, rfl⟩
  go_wp2_with fail
  refine (rpow_any 4 z 2305843009213691579 _ (by decide) (by decide) z0 (by omega)).mono ?_
  rintro e w1 ⟨rfl, rfl⟩
  go_wp2
  go_ret
  exact ⟨rfl, rfl⟩
theorem rkey_any (s : ByteArray) (w : World) (hs : s.size ≤ 800000) :
    Calls Tryz.prog 48 #[.string s] w fun e w' => e = .returned (.tuple #[.int .i64 (keyS s), .int .i64 (keyP s)]) ∧ Only (fun _ => False) w w' := by
  have hz := keyS_bd s
  have HP := Lib.hid (rpositive_any (strK ++ s) w (by rw [ByteArray.size_append]; show 1 + _ ≤ _; omega))
  have HQ := Lib.hid (rpublic5_any (keyS s))
  have HE := Lib.hid (show powM 4 (keyS s % 1152921504606845789) 2305843009213691579 = keyP s by rw [Int.emod_eq_of_lt (by omega) hz.2]; rfl)
  go_enter Tryz.func48, Tryz.ntmps48
  go_wp2_with fail
  refine HP.out.mono ?_
  rintro e w1 ⟨rfl, hO⟩
  have HO := Lib.hid hO
  clear hO HP
  change Hid (∀ w, Calls Tryz.prog 74 #[.int .i64 (max (scalarZ (strK ++ s)) 1)] w _) at HQ
  go_wp2_with fail
  refine (HQ.out _).mono ?_
  rintro e w2 ⟨rfl, rfl⟩
  go_wp2
  go_ret2
  exact ⟨by rw [HE.out]; rfl, HO.out⟩
end Go.Proofs.YtalclldccnichaaGreat
