/-
  The reference's dealings: Pad, Seal, Value, members.
-/
import Derived.Test.YtalclldccnichaaGreatText
import Derived.Test.YtalclldccnichaaGreatInterp
import Derived.IntWalk
namespace Go.Proofs.YtalclldccnichaaGreat
open Go.RowKit

def padS (k i : Nat) : ByteArray := (⟨#[98, 111, 120, 47]⟩ : ByteArray) ++ decB k ++ ⟨#[47]⟩ ++ decB i
def padL (k i : Nat) : List Int := shaL (padS k i)
theorem padL_bytes (k i : Nat) : Bytes32 (padL k i) := shaL_bytes _

set_option maxHeartbeats 1000000 in
theorem rpad_any (k i : Nat) (w : World) (hk : k < 9223372036854775808) (hi : i < 9223372036854775808) :
    Calls Tryz.prog 94 #[.int .i64 k, .int .i64 i] w fun e w' => e = .returned (.agg (byRow (padL k i))) ∧ Only (fun _ => False) w w' := by
  have s1 := decB_size hk
  have s2 := decB_size hi
  have H1 := Lib.hid (fun w => rdecimal_any k w hk)
  have H2 := Lib.hid (fun w => rdecimal_any i w hi)
  have hb : (⟨#[98, 111, 120, 47]⟩ : ByteArray).size = 4 := rfl
  have hb2 : (⟨#[47]⟩ : ByteArray).size = 1 := rfl
  have HS := Lib.hid (fun w => rsum_any (padS k i) w (by unfold padS; rw [ByteArray.size_append, ByteArray.size_append, ByteArray.size_append, hb, hb2]; omega))
  have HP := Lib.hid (show padL k i = shaL (padS k i) from rfl)
  have HIZ := Lib.hid (show (Tryz.prog.info? 110).map (·.size) = some (byRow (shaL (padS k i))).size by rw [byRow_size, (shaL_bytes _).len]; exact Tryz.infoH)
  have HSZ := Lib.hid (show 32 = (byRow (shaL (padS k i))).size by rw [byRow_size, (shaL_bytes _).len])
  have HON := Lib.hid (byRow_one (shaL (padS k i)))
  obtain ⟨R, hR⟩ : ∃ R, byRow (shaL (padS k i)) = R := ⟨_, rfl⟩
  rw [hR] at HS HIZ HSZ HON
  have HRR := Lib.hid (show byRow (padL k i) = R from hR)
  unfold padS at HS
  clear hb hb2 hR
  generalize decB k = d1 at *
  generalize decB i = d2 at *
  go_enter Tryz.func94, Tryz.ntmps94
  go_wp2_with fail
  refine (H1.out _).mono ?_
  rintro e w1 ⟨rfl, hO1⟩
  have HZ1 := Lib.hid (row_kept hO1)
  have HO1 := Lib.hid (((Only.refl (fun _ => False) w).alloc _).trans hO1)
  clear hO1
  go_wp2_with fail
  refine (H2.out _).mono ?_
  rintro e w2 ⟨rfl, hO2⟩
  have HZ2 := Lib.hid (row_still hO2 HZ1.out)
  have HO2 := Lib.hid (HO1.out.trans hO2)
  clear hO2 HO1 HZ1
  go_wp2_with fail
  refine (HS.out _).mono ?_
  rintro e w3 ⟨rfl, hO3⟩
  have HZ3 := Lib.hid (row_still hO3 HZ2.out)
  have HO3 := Lib.hid (HO2.out.trans hO3)
  clear hO3 HO2 HZ2
  go_wp2_with (first | (refine wpList_store_row rfl 110 _ _ rfl w.heap.size R rfl rfl 110 _ HZ3.out HIZ.out HSZ.out HON.out ?_))
  exact bodyPost_ret (v := .agg R) (results_cell_row rfl _ _ w.heap.size 110 R (0, 0) _ rfl (setRow_heap _ _ _ _ _ _ HZ3.out) Tryz.underlying110 rfl HIZ.out) rfl ⟨by rw [HRR.out], HO3.out.setRow (Nat.le_refl _) _⟩

def xor8 (x y : Int) : Int := bits BinOp.xor IntKind.u8 x y
/-- The first bytes of a box. -/
def sbTo (y : Int) (h : List Int) : Nat → List Int
  | 0 => []
  | k + 1 => sbTo y h k ++ [xor8 (y / 2 ^ (56 - 8 * k) % 256) (ptAt h k)]
theorem sbTo_len (y : Int) (h : List Int) : ∀ k, (sbTo y h k).length = k
  | 0 => rfl
  | k + 1 => by rw [sbTo, List.length_append, sbTo_len y h k]; rfl
/-- A box. -/
def sealL (y : Int) (k i : Nat) : List Int := sbTo y (padL k i) 8 ++ ((padL k i).drop 8).take 8
theorem sealL_len (y : Int) (k i : Nat) : (sealL y k i).length = 16 := by
  unfold sealL
  rw [List.length_append, sbTo_len, List.length_take, List.length_drop, (padL_bytes k i).len]; rfl

set_option maxRecDepth 100000 in
set_option maxHeartbeats 2000000 in
theorem rseal_any (y : Int) (k i : Nat) (w : World) (_hy0 : 0 ≤ y) (_hy1 : y ≤ 9223372036854775807) (hk : k < 9223372036854775808) (hi : i < 9223372036854775808) :
    Calls Tryz.prog 66 #[.int .i64 y, .int .i64 k, .int .i64 i] w fun e w' => e = .returned (.string (strOfNums (sealL y k i))) ∧ Only (fun _ => False) w w' := by
  obtain ⟨i0, hi0, hz0, hz1, hz2⟩ := info_parts Tryz.infoB
  have HP := Lib.hid (rpad_any k i w hk hi)
  have HB := Lib.hid (padL_bytes k i)
  have HSE := Lib.hid (show sealL y k i = sbTo y (padL k i) 8 ++ ((padL k i).drop 8).take 8 from rfl)
  have HIZ := Lib.hid (show (Tryz.prog.info? 110).map (·.size) = some (byRow (padL k i)).size by rw [byRow_size, (padL_bytes k i).len]; exact Tryz.infoH)
  have HSZ := Lib.hid (show 32 = (byRow (padL k i)).size by rw [byRow_size, (padL_bytes k i).len])
  have HON := Lib.hid (byRow_one (padL k i))
  generalize padL k i = h at *
  clear hk hi
  go_enter Tryz.func66, Tryz.ntmps66
  go_wp2_with fail
  refine HP.out.mono ?_
  rintro e w1 ⟨rfl, hO1⟩
  have HO1 := Lib.hid (hO1.alloc (.cells (byRow h) 110))
  have HCH := Lib.hid (show ∀ j, j < 32 → (w1.alloc (.cells (byRow h) 110)).cell? ⟨w1.heap.size, j, none⟩ = some (.int .u8 (ptAt h j)) from fun j hj => by
    rw [World.cell?_alloc_new]; exact byRow_at h j (by rw [HB.out.len]; exact hj))
  have hsz1 := hO1.size
  have hl1 : w1.heap.size < (w1.alloc (.cells (byRow h) 110)).heap.size := by simp
  clear hO1
  go_wp2_with (first | (refine wpList_store_row rfl 110 _ _ rfl w1.heap.size (byRow h) rfl rfl 110 _ (heap_alloc_last w1 _) HIZ.out HSZ.out HON.out ?_; rw [World.setRow_alloc_new]))
  generalize w1.alloc (.cells (byRow h) 110) = w2 at *
  clear HP
  generalize w1.heap.size = g at *
  go_loopw [8, 9] (fun vb vi wr => ∃ j : Nat, j ≤ 8 ∧ vi = .int .i64 j ∧ wr.ownsRow w2.heap.size 5 1 vb j (brow (sbTo y h j)) ∧ Only (fun _ => False) w2 wr) (fun _ vi _ => 8 - (intOf vi).toNat)
  case atStart => exact ⟨0, by omega, rfl, World.ownsRow_nil _ _ _ _, Only.refl _ _⟩
  case round =>
    obtain ⟨j, hj, rfl, hown, hO⟩ := hrel
    have HO := Lib.hid hO
    have hsz := hO.size
    by_cases hlt : j < 8
    · have ck := hO.cell (HCH.out j (by omega)) (fun h => h)
      obtain ⟨b0, b1⟩ := HB.out.bd j
      have HSN := Lib.hid (show sbTo y h (j + 1) = sbTo y h j ++ [xor8 (y / 2 ^ (56 - 8 * j) % 256) (ptAt h j)] from rfl)
      generalize ptAt h j = x at *
      have i1 : 0 ≤ 56 - 8 * (j : Int) := by omega
      have i2 : 56 - 8 * (j : Int) ≤ 56 := by omega
      have i3 : 0 ≤ (j : Int) := by omega
      have i4 : (j : Int) < 32 := by omega
      have i5 : (j : Int) < 8 := by omega
      have i6 : (56 - 8 * (j : Int)).toNat = 56 - 8 * j := by omega
      have k1 : IntKind.i64.wrap (8 * (j : Int)) = 8 * j := IntWalk.i64_in _ (by omega)
      have k2 : IntKind.i64.wrap (56 - 8 * (j : Int)) = 56 - 8 * j := IntWalk.i64_in _ (by omega)
      have hbw : g < wr.heap.size := by omega
      have HFAR := Lib.hid (show u8.ownBlock ≠ some g from fun h => by have := (own_lt hown h).2; omega)
      have HOWN := Lib.hid hown
      obtain ⟨av, cv, rfl⟩ := slice_of_own hown
      clear hO hown hj
      go_wp2_with fail
      go_region_held3 (fun w' => w'.cell? ⟨g, j, none⟩ = some (.int .u8 x))
        (first
          | go_keep
          | (rw [hgrow.cell_far _ (by simp; omega) (Ne.symm HFAR.out)]; assumption))
        ((refine step_append_lies _ (by rfl) _ _ _ (by rfl) w2.heap.size 5 i0 _ 1 1 Tryz.underlying118 hi0 hz0 hz1 hz2 rfl (by omega) (.slice av j cv) j (brow (sbTo y h j)) (by rfl) ((HOWN.out.alloc _).drew)
            ⟨wr.heap.size, 0, none⟩ 1 1 [.int .u8 (bits BinOp.xor IntKind.u8 (IntKind.u8.wrap (y / 2 ^ (56 - 8 * j))) x)] (by rfl) (by rfl) (World.news_of_block (cs := #[.int .u8 (bits BinOp.xor IntKind.u8 (IntKind.u8.wrap (y / 2 ^ (56 - 8 * j))) x)]) (t := 5) (fr := (0, 0)) (heap_alloc_new wr _)) (by simp [Value.oneCell'])
            (by omega) (by unfold maxLen; omega) (by omega) (by simp; omega) (wr.heap.size + 1) (by simp) ?_; intro gg cap w3 hown1 hgrow hat hlt))
      have HO1 := Lib.hid ((HO.out.alloc _).drew.grow (owns_drew (HOWN.out.alloc _)) (Nat.le_refl _) hgrow)
      have HOW1 := Lib.hid hown1
      clear hown1 hgrow hat i6 k1 k2
      go_wp2
      go_roundw
      case rel => exact ⟨j + 1, by omega, by go_num, by rw [HSN.out, brow_append]; exact HOW1.out, HO1.out⟩
      case measure => simp [intOf]; omega
    · obtain rfl : j = 8 := by omega
      have HNW := Lib.hid (show ∀ j u, (brow ((h.drop 8).take 8))[j]? = some u → wr.cell? ((⟨g, 8, none⟩ : Addr).add j) = some u from fun j u hu => by
        have hl : ((h.drop 8).take 8).length = 8 := by rw [List.length_take, List.length_drop, HB.out.len]; rfl
        have hj : j < 8 := by have := (List.getElem?_eq_some_iff.1 hu).1; rw [brow_len, hl] at this; exact this
        have e : (brow ((h.drop 8).take 8))[j]? = some (.int .u8 (ptAt h (8 + j))) := by
          unfold brow ptAt
          rw [List.getElem?_map, List.getElem?_take_of_lt hj, List.getElem?_drop]
          have : 8 + j < h.length := by rw [HB.out.len]; omega
          simp [List.getD, this]
        rw [e] at hu
        have hadd : (⟨g, 8, none⟩ : Addr).add j = ⟨g, 8 + j, none⟩ := by unfold Addr.add; split <;> simp_all
        rw [hadd, ← hu]
        exact hO.cell (HCH.out (8 + j) (by omega)) (fun h => h))
      have HNL := Lib.hid (show (brow ((h.drop 8).take 8)).length = 8 * 1 by rw [brow_len, List.length_take, List.length_drop, HB.out.len]; rfl)
      have HN1 := Lib.hid (show ∀ u ∈ brow ((h.drop 8).take 8), u.oneCell' = true from fun u hu => by unfold brow at hu; rw [List.mem_map] at hu; obtain ⟨z, _, rfl⟩ := hu; rfl)
      have HSL := Lib.hid (show (sbTo y h 8 ++ (h.drop 8).take 8).length = 8 + 8 by rw [List.length_append, sbTo_len, List.length_take, List.length_drop, HB.out.len]; rfl)
      have HOWN := Lib.hid hown
      have hbw : g < wr.heap.size := by omega
      obtain ⟨av, cv, rfl⟩ := slice_of_own hown
      clear hO hown hlt hj
      go_wp2_with (at_builtin; refine wpList_append_lies _ rfl _ _ 118 rfl w2.heap.size 5 i0 _ 1 1 Tryz.underlying118 hi0 hz0 hz1 hz2 rfl (by decide) _ 8 (brow (sbTo y h 8)) rfl HOWN.out ⟨g, 8, none⟩ 8 24 (brow ((h.drop 8).take 8)) rfl HNL.out HNW.out HN1.out (by decide) ?c1 ?c2 ?c3 _ rfl ?_)
      case c1 => unfold maxLen; omega
      case c2 => omega
      case c3 => first | omega | (simp; omega)
      intro g3 cp3 w3 ho3 hg3 ha3 hgl3
      rw [← brow_append] at ho3
      have hcv := conv_own 9 Tryz.underlying9 ho3 HSL.out
      have HO3 := Lib.hid (HO1.out.trans (HO.out.grow HOWN.out (Nat.le_refl _) hg3))
      clear ho3 hg3 ha3 HNW
      rw [← HSE.out] at hcv
      obtain ⟨S, hS⟩ : ∃ S, strOfNums (sealL y k i) = S := ⟨_, rfl⟩
      rw [hS] at hcv
      have HS := Lib.hid hS
      clear hS
      go_wp2
      go_ret
      exact ⟨by rw [HS.out]; rfl, HO3.out⟩
end Go.Proofs.YtalclldccnichaaGreat
