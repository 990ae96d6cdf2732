/-
  The walk of the law BeaconFinds.
-/
import Derived.Test.YtlhfgbkonmgahaaGreatDoorPa21
import Derived.Deep.CutBlock
namespace Go.Proofs.YtlhfgbkonmgahaaGreatDoor
open Go.RowKit

/-- The shares of all points in memory. -/
def ShrAt (W : World) (sv : Value) (C : List Int) (n : Nat) : Prop := ∀ k, k < n → ∃ b off c, sv = .slice (some ⟨b, off, none⟩) n c ∧ b < W.heap.size ∧ n ≤ c ∧ c ≤ 9223372036854775807 ∧ W.cell? ⟨b, off + k * 2, none⟩ = some (.int .i64 ((k : Int) + 1)) ∧ W.cell? ⟨b, off + k * 2 + 1, none⟩ = some (.int .i64 (valZ C ((k : Int) + 1)))
theorem ShrAt.only {A B : World} {sv : Value} {C : List Int} {n : Nat} (h : ShrAt A sv C n) (hO : Only (fun _ => False) A B) : ShrAt B sv C n := fun k hk => by
  obtain ⟨b, off, c, h1, h2, h3, h4, h5, h6⟩ := h k hk
  exact ⟨b, off, c, h1, Nat.lt_of_lt_of_le h2 hO.size, h3, h4, hO.cell h5 id, hO.cell h6 id⟩
/-- The bit of a point. -/
def bitB (m : Int) (k : Nat) : Bool := bits BinOp.and IntKind.u32 (m / 2 ^ (k % 32)) 1 == 1
/-- The partials and the points that are changed, in memory. -/
structure FndAt (w wr : World) (va vw : Value) (L : List Pt4) (B : List Int) : Prop where
  own1 : wr.ownsRow w.heap.size 30 4 va L.length (prow L)
  own2 : wr.ownsRow w.heap.size 3 1 vw B.length (irow B)
  only : Only (fun _ => False) w wr
theorem FndAt.frame {w wr w2 : World} {va vw : Value} {L : List Pt4} {B : List Int} (h : FndAt w wr va vw L B) (hO : Only (fun _ => False) wr w2) : FndAt w w2 va vw L B :=
  ⟨hO.owns h.own1 (fun _ _ h => h), hO.owns h.own2 (fun _ _ h => h), h.only.trans hO⟩
theorem FndAt.put {w wr : World} {va vw : Value} {L : List Pt4} {B : List Int} (h : FndAt w wr va vw L B) {nx : Nat} (hn : w.heap.size ≤ nx) (h1 : va.ownBlock ≠ some nx) (h2 : vw.ownBlock ≠ some nx) (o : Nat) (v : Value) : FndAt w (wr.setCell ⟨nx, o, none⟩ v) va vw L B :=
  ⟨ownsRow_setCell_other h.own1 h1 v, ownsRow_setCell_other h.own2 h2 v, h.only.setCell (.inr hn) v⟩
theorem FndAt.want {w wr w1 : World} {va vw : Value} {L : List Pt4} {B : List Int} (h : FndAt w wr va vw L B) {z : Int} {k g cap : Nat} (hk : B.length = k)
    (hown : w1.ownsRow w.heap.size 3 1 (.slice (some ⟨g, 0, none⟩) (k + 1) cap) (k + 1) (irow B ++ [.int .i64 z])) (hg : wr.grownBy w1 vw.ownBlock) : FndAt w w1 va (.slice (some ⟨g, 0, none⟩) (k + 1) cap) L (B ++ [z]) := by
  subst hk
  have hO : Only (fun i => vw.ownBlock = some i) wr w1 := (Only.refl _ _).grown hg (fun i e _ => e)
  exact ⟨hO.owns h.own1 (fun i hi e => own_ne_ty h.own1 h.own2 (by decide) i hi e), by rw [List.length_append, List.length_singleton, irow_append]; exact hown, h.only.trans' hO (fun i hi e => by have := own_low' h.own2 e; omega)⟩
theorem FndAt.all {w wr w1 : World} {va vw : Value} {L : List Pt4} {B : List Int} (h : FndAt w wr va vw L B) {p : Pt4} {k g cap : Nat} (hk : L.length = k)
    (hown : w1.ownsRow w.heap.size 30 4 (.slice (some ⟨g, 0, none⟩) (k + 1) cap) (k + 1) (prow L ++ prow [p])) (hg : wr.grownBy w1 va.ownBlock) : FndAt w w1 (.slice (some ⟨g, 0, none⟩) (k + 1) cap) vw (L ++ [p]) B := by
  subst hk
  have hO : Only (fun i => va.ownBlock = some i) wr w1 := (Only.refl _ _).grown hg (fun i e _ => e)
  exact ⟨by rw [List.length_append, List.length_singleton, prow_append]; exact hown, hO.owns h.own2 (fun i hi e => own_ne_ty h.own2 h.own1 (by decide) i hi e), h.only.trans' hO (fun i hi e => by have := own_low' h.own1 e; omega)⟩
set_option maxRecDepth 100000 in
set_option maxHeartbeats 8000000 in
theorem bn_walk (sv cv : Value) (ws cs : List Int) (r m : Int) (w : World) (hB : BytsAt w sv ws) (hC : PtsAt w.heap.size w cv cs) (hW : IntsW cs) (hlw : ws.length ≤ 9223372036854775807) (hlc : cs.length ≤ 9223372036854775807) (hr : (-9223372036854775808 ≤ r ∧ r ≤ 9223372036854775807)) (hm : 0 ≤ m ∧ m ≤ 4294967295) (hG : Glob w) :
    Calls Tryz.prog 6 #[.agg #[sv, cv], .int .i64 r, .int .u32 m] w fun e w' => e = .returned (.bool true) ∧ Below w.heap.size w w' := by
  have hA := (Only.refl (fun _ => False) w).alloc (.cells #[sv, cv] 36)
  have hz0 := heap_alloc_last w (.cells #[sv, cv] 36)
  have HA := Lib.hid hA
  have HZ0 := Lib.hid hz0
  have HBC := Lib.hid (fun W (hO : Only (fun _ => False) w W) => (⟨hB.only hO, hC.only hO⟩ : BytsAt W sv ws ∧ PtsAt W.heap.size W cv cs))
  have HGW := Lib.hid (fun W (hO : Only (fun _ => False) w W) => hG.only hO)
  have HW := Lib.hid hW
  clear hA hB hC hG hW hz0
  go_enter Tryz.func6, Tryz.ntmps6
  go_wp2_with fail
  refine (sanity9_any _ (HGW.out _ HA.out)).mono ?_
  rintro e w1 ⟨rfl, hO1⟩
  have HO1 := Lib.hid (HA.out.trans hO1)
  have e0 : _ = some sv := cell_of_row _ _ 0 _ _ _ (row_still hO1 HZ0.out)
  have e1 : _ = some cv := cell_of_row _ _ 1 _ _ _ (row_still hO1 HZ0.out)
  have HZ0 := Lib.hid (row_still hO1 HZ0.out)
  clear hO1 HA
  go_wp2_with fail
  refine (make_any sv cv ws cs w1 (HBC.out _ HO1.out).1 (HBC.out _ HO1.out).2 HW.out hlw hlc).mono ?_
  rintro e w2 ⟨hO2, cv', kv, pv, rfl, hPL⟩
  obtain ⟨ac, ak, ap, cc, ck, cp, rfl, rfl, rfl⟩ := hPL.keys
  have HKY := Lib.hid (ky_start hPL)
  have HOK := Lib.hid (pl_ok ws cs)
  have HO2 := Lib.hid (HO1.out.trans hO2)
  have HZ0 := Lib.hid (row_still (hO2.alloc (.cells #[.slice ak (plK ws cs).length ck, .slice ap (plR ws).length cp] 41)) HZ0.out)
  have HO3 := Lib.hid (HO2.out.alloc (.cells #[.slice ak (plK ws cs).length ck, .slice ap (plR ws).length cp] 41))
  have HLAW := Lib.hid (finds_law ws cs r (bitB m))
  clear hPL hO2 HO1 HO2 e0 e1 HBC
  go_wp2_with fail
  generalize w2.alloc (.cells #[.slice ak (plK ws cs).length ck, .slice ap (plR ws).length cp] 41) = w3 at *
  generalize w2.heap.size = nk at *
  generalize plC ws cs = C at *
  generalize plK ws cs = K at *
  generalize plR ws = R at *
  generalize plN ws = n at *
  generalize plD ws = nd at *
  obtain ⟨h0a, h0b⟩ := hr
  obtain ⟨i3, i4⟩ := hm
  refine (HKY.out.shares HOK.out).mono ?_
  rintro e w4 ⟨hO4, shv, rfl, hown⟩
  have hn1 := HOK.out.n1
  have hn2 := HOK.out.n2
  have hd1 := HOK.out.d1
  have hd2 := HOK.out.d2
  have HCL := Lib.hid HOK.out.cl
  have HKL := Lib.hid HOK.out.kl
  have HKY4 := Lib.hid (HKY.out.only hO4)
  have HO4 := Lib.hid (HO3.out.trans hO4)
  have HSH := Lib.hid (show ShrAt w4 shv C n from HOK.out.share hown)
  obtain ⟨asv, csv, rfl⟩ := slice_of_own hown
  have HBS := Lib.hid (fun w hG => pbase_any r w h0a h0b hG)
  clear hO4 hown HKY HZ0 HO3
  go_wp2_with fail
  refine (HBS.out _ (HGW.out _ HO4.out)).mono ?_
  rintro e w5 ⟨rfl, hO5⟩
  have HKY5 := Lib.hid (HKY4.out.only hO5)
  have HO5 := Lib.hid (HO4.out.trans hO5)
  have HSH5 := Lib.hid (HSH.out.only hO5)
  have HEV := Lib.hid (fun x w hG => (show Calls Tryz.prog 13 #[.agg #[.int .i64 x, .int .i64 (valZ C x)], .int .i64 r] w fun e w' => e = .returned (.agg #[.int .i64 (evS C r x).1, .int .i64 (evS C r x).2.1, .int .i64 (evS C r x).2.2.1, .int .i64 (evS C r x).2.2.2]) ∧ Only (fun _ => False) w w' from peval_any x (valZ C x) r w h0a h0b hG))
  have HMB := Lib.hid (base_mem r)
  obtain ⟨p0, hp0, hpz0, hpz1, hpz2⟩ := info_parts Tryz.infoP4
  obtain ⟨t0, ht0, htz0, htz1, htz2⟩ := info_parts Tryz.infoI
  clear hO5 HKY4 HO4 HSH
  rw [HCL.out]
  go_upto_block 0 with fail
  go_wp2_with fail
  go_loopw [12, 13, 14] (fun va vw vi wr => ∃ k : Nat, k ≤ n ∧ vi = .int .i64 k ∧ FndAt w5 wr va vw (chTo C r (bitB m) k) (bdTo (bitB m) k) ∧ (∀ i, i < k → bitB m i = true → acB (n : Nat) K r (chS C r (bitB m) i) = false)) (fun _ _ vi _ => n - (intOf vi).toNat)
  case atStart => exact ⟨0, Nat.zero_le _, rfl, ⟨World.ownsRow_nil _ _ _ _, World.ownsRow_nil _ _ _ _, Only.refl _ _⟩, fun i hi => by omega⟩
  case round =>
    obtain ⟨k, hk, rfl, hF, hall⟩ := hrel
    have HF := Lib.hid hF
    have HALL := Lib.hid hall
    clear hall
    by_cases hlt : k < n
    · have i1 : (k : Int) < n := by omega
      have i2 : 0 ≤ (k : Int) := by omega
      obtain ⟨sb, so, sc, hv, hsb, hsc1, hsc2, c0, c1⟩ := HSH5.out _ hlt
      simp only [Value.slice.injEq, true_and] at hv
      obtain ⟨rfl, rfl⟩ := hv
      have d0 := hF.only.cell c0 id
      have d1 := hF.only.cell c1 id
      have hsz := hF.only.size
      have hsb2 : sb < wr.heap.size := by omega
      have HEJ := Lib.hid (HEV.out ((k : Int) + 1) wr (HGW.out _ (HO5.out.trans hF.only)))
      generalize valZ C ((k : Int) + 1) = y at *
      clear hF c0 c1 hsb
      go_wp2_with fail
      refine HEJ.out.mono ?_
      rintro e w6 ⟨rfl, hO6⟩
      have hA6 := hO6.alloc (.cells #[.int .i64 (evS C r ((k : Int) + 1)).1, .int .i64 (evS C r ((k : Int) + 1)).2.1, .int .i64 (evS C r ((k : Int) + 1)).2.2.1, .int .i64 (evS C r ((k : Int) + 1)).2.2.2] 30)
      have HX7 := Lib.hid (heap_alloc_last w6 (.cells #[.int .i64 (evS C r ((k : Int) + 1)).1, .int .i64 (evS C r ((k : Int) + 1)).2.1, .int .i64 (evS C r ((k : Int) + 1)).2.2.1, .int .i64 (evS C r ((k : Int) + 1)).2.2.2] 30))
      have HF7 := Lib.hid (HF.out.frame hA6)
      have HNX := Lib.hid (show (w5.heap.size ≤ w6.heap.size ∧ u12.ownBlock ≠ some w6.heap.size) ∧ u13.ownBlock ≠ some w6.heap.size from ⟨⟨(HF.out.frame hO6).only.size, fun e => by have := (own_lt (HF.out.frame hO6).own1 e).1; omega⟩, fun e => by have := (own_lt (HF.out.frame hO6).own2 e).1; omega⟩)
      have HEP := Lib.hid (evS_parts C r (x := (k : Int) + 1) (by omega) (by omega))
      have HCH := Lib.hid (show chS C r (bitB m) k = if bitB m k then ((evS C r ((k : Int) + 1)).1, (evS C r ((k : Int) + 1)).2.1 * 4 % 2305843009213691579, (evS C r ((k : Int) + 1)).2.2.1, (evS C r ((k : Int) + 1)).2.2.2) else evS C r ((k : Int) + 1) from rfl)
      have HCN := Lib.hid (show chTo C r (bitB m) (k + 1) = chTo C r (bitB m) k ++ [chS C r (bitB m) k] from rfl)
      have HBN := Lib.hid (show bdTo (bitB m) (k + 1) = if bitB m k then bdTo (bitB m) k ++ [(k : Int) + 1] else bdTo (bitB m) k from rfl)
      have HXX := Lib.hid (show (evS C r ((k : Int) + 1)).1 = (k : Int) + 1 by rw [HEP.out])
      have HCB := Lib.hid (show 0 ≤ (evS C r ((k : Int) + 1)).2.2.1 ∧ (evS C r ((k : Int) + 1)).2.2.1 < 1152921504606845789 by rw [HEP.out]; exact wscZ_bd _ _)
      have HZB := Lib.hid (show 0 ≤ (evS C r ((k : Int) + 1)).2.2.2 ∧ (evS C r ((k : Int) + 1)).2.2.2 < 1152921504606845789 by rw [HEP.out]; exact emod_self_lt _ _ (by decide))
      have HL1 := Lib.hid (chTo_len C r (bitB m) k)
      have HLB := Lib.hid (show (bdTo (bitB m) k).length ≤ k by have := bd_gd_len (bitB m) k; omega)
      have hbit : (bits BinOp.and IntKind.u32 (m / 2 ^ (k % 32)) 1 == 1) = bitB m k := rfl
      go_upto_if 51 with fail
      generalize hbb : bitB m k = bb at *
      generalize evS C r ((k : Int) + 1) = p at *
      obtain ⟨px, pv, pc, pz⟩ := p
      dsimp only at HX7 HCH HXX HCB HZB
      obtain rfl := HXX.out
      generalize hq : chS C r (bitB m) k = q at *
      have HQQ := Lib.hid hq
      have HBB := Lib.hid hbb
      generalize chTo C r (bitB m) k = LA at *
      generalize hbd : bdTo (bitB m) k = LB at *
      clear hbit hO6 hA6 HEJ HXX HEP hq hbb hbd HF d0 d1
      go_upto_if 51 with fail
      generalize w6.alloc (.cells #[.int .i64 ((k : Int) + 1), .int .i64 pv, .int .i64 pc, .int .i64 pz] 30) = w7 at *
      generalize w6.heap.size = nx at *
      go_cut [13] (fun v13 wx => wx.heap[nx]? = some (.cells #[.int .i64 q.1, .int .i64 q.2.1, .int .i64 q.2.2.1, .int .i64 q.2.2.2] 30 (0, 0)) ∧ FndAt w5 wx u12 v13 LA (bdTo (bitB m) (k + 1)) ∧ (bb = true → acB (n : Nat) K r q = false))
      case first =>
        cases bb
        · have HQ2 := Lib.hid (show q = ((k : Int) + 1, pv, pc, pz) from HCH.out)
          have HB2 := Lib.hid (show bdTo (bitB m) (k + 1) = LB from HBN.out)
          go_wp2_with fail
          go_meet
          exact ⟨by rw [HQ2.out]; exact HX7.out, by rw [HB2.out]; exact HF7.out, fun h => by cases h⟩
        · have HQ2 := Lib.hid (show q = ((k : Int) + 1, pv * 4 % 2305843009213691579, pc, pz) from HCH.out)
          have HB2 := Lib.hid (show bdTo (bitB m) (k + 1) = LB ++ [(k : Int) + 1] from HBN.out)
          obtain ⟨⟨hnx, hne1⟩, hne2⟩ := HNX.out
          have HHN := Lib.hid hne1
          have HHM := Lib.hid hne2
          obtain ⟨cb0, cb1⟩ := HCB.out
          obtain ⟨zb0, zb1⟩ := HZB.out
          have x1 : _ = some (Value.int .i64 pv) := cell_of_row _ _ 1 _ _ _ HX7.out
          have f1 := frozen_of_row _ _ 1 _ _ HX7.out
          have l1 := own_lt0 HX7.out
          have HMU := Lib.hid (fun w => mul_any pv 4 2305843009213691579 w (by decide) (by decide))
          have hv4 := emod_self_lt (pv * 4) 2305843009213691579 (by decide)
          generalize pv * 4 % 2305843009213691579 = v4 at *
          clear hne1 hne2
          go_wp2_with fail
          refine (HMU.out _).mono ?_
          rintro e w' ⟨rfl, rfl⟩
          go_upto_region 13 with fail
          have HX8 := Lib.hid (show (w7.setCell ⟨nx, 1, none⟩ (.int .i64 v4)).heap[nx]? = some (.cells #[.int .i64 ((k : Int) + 1), .int .i64 v4, .int .i64 pc, .int .i64 pz] 30 (0, 0)) from heap_setCell_same w7 nx 1 _ _ _ HX7.out)
          have HF8 := Lib.hid (HF7.out.put hnx HHN.out HHM.out 1 (.int .i64 v4))
          generalize w7.setCell ⟨nx, 1, none⟩ (.int .i64 v4) = w8 at *
          have x0 : _ = some (Value.int .i64 ((k : Int) + 1)) := cell_of_row _ _ 0 _ _ _ HX8.out
          have l8 := own_lt0 HX8.out
          have hsz8 := HF8.out.only.size
          have hlb := HLB.out
          obtain ⟨a13, c13, hv13⟩ := slice_of_own HF8.out.own2
          subst hv13
          clear x1 f1 l1 HF7
          go_wp2_with (at_builtin; refine wpList_append_lies _ rfl _ _ 34 rfl w5.heap.size 3 t0 _ 1 8 Tryz.underlying34 ht0 htz0 htz1 htz2 rfl (by decide) _ LB.length (irow LB) rfl (HF8.out.own2.alloc _) ⟨w8.heap.size, 0, none⟩ 1 1 [.int .i64 ((k : Int) + 1)] rfl rfl (cell_one_new _ _ _) (one_int _) (by decide) ?d1 ?d2 ?d3 _ rfl ?_)
          case d1 => unfold maxLen; omega
          case d2 => omega
          case d3 => first | omega | (simp; omega)
          intro g1 cp1 w9 ho1 hg1 ha1 _
          have hO89 : Only (fun i => (Value.slice a13 LB.length c13).ownBlock = some i) (w8.alloc (.cells #[.int .i64 ((k : Int) + 1)] 3)) w9 := (Only.refl _ _).grown hg1 (fun i e _ => e)
          have HF9 := Lib.hid ((HF8.out.frame ((Only.refl (fun _ => False) w8).alloc (.cells #[.int .i64 ((k : Int) + 1)] 3))).want rfl ho1 hg1)
          have HX9 := Lib.hid (show w9.heap[nx]? = some (.cells #[.int .i64 ((k : Int) + 1), .int .i64 v4, .int .i64 pc, .int .i64 pz] 30 (0, 0)) from (hO89.block nx (by simp; omega) HHM.out).trans (row_still ((Only.refl (fun _ => False) w8).alloc _) HX8.out))
          clear ho1 hg1 ha1 hO89 HF8 HX8 x0 l8 hsz8 HHM HHN
          have HKY9 := Lib.hid (HKY5.out.only HF9.out.only)
          have x0 : _ = some (Value.int .i64 ((k : Int) + 1)) := cell_of_row _ _ 0 _ _ _ HX9.out
          have x2 : _ = some (Value.int .i64 pc) := cell_of_row _ _ 2 _ _ _ HX9.out
          have k0 : _ = some (Value.slice ak K.length ck) := cell_of_row _ _ 0 _ _ _ HKY9.out.row
          have HAT := Lib.hid (fun W (h : KyAt W nk ac ak ap cc ck cp C K R) => rat_any (.slice ak K.length ck) K ((k : Int) + 1) W h.cm (by have := HKL.out; omega))
          rw [← atZ_eq] at HAT
          have HMT := Lib.hid (show memB (atZ K ((k : Int) + 1)) = true by
            have hy := valZ_bd C ((k : Int) + 1)
            rw [HOK.out.eq, at_law C _ HOK.out.cb]
            exact mem_pow memFour hy.1 (by have hq : gQ = 1152921504606845789 := rfl; omega))
          have HBAD := Lib.hid (fun (h : wscZ wEq (vNums 4 (atZ K ((k : Int) + 1)) (baseZ r) v4 pc pz) ≠ pc) => show acB (n : Nat) K r q = false by rw [HQ2.out]; exact ch_bad h)
          generalize atZ K ((k : Int) + 1) = ta at *
          generalize baseZ r = b at *
          have HS1 := Lib.hid (show sideZ 4 ta pc pz = powM 4 pz 2305843009213691579 * powM ta (1152921504606845789 - pc) 2305843009213691579 % 2305843009213691579 from rfl)
          have HS2 := Lib.hid (show sideZ b v4 pc pz = powM b pz 2305843009213691579 * powM v4 (1152921504606845789 - pc) 2305843009213691579 % 2305843009213691579 from rfl)
          have HVN := Lib.hid (show vNums 4 ta b v4 pc pz = [4, ta, b, v4, sideZ 4 ta pc pz, sideZ b v4 pc pz] from rfl)
          have HNT := Lib.hid (show Nats [4, ta, b, v4, sideZ 4 ta pc pz, sideZ b v4 pc pz] by
            have h1 := memB_bd HMT.out
            have h2 := memB_bd HMB.out
            have h3 := sideZ_bd 4 ta pc pz
            have h4 := sideZ_bd b v4 pc pz
            intro x hx
            simp only [List.mem_cons, List.not_mem_nil, or_false] at hx
            rcases hx with rfl | rfl | rfl | rfl | rfl | rfl <;> omega)
          rw [HVN.out] at HBAD
          generalize sideZ 4 ta pc pz = sd1 at *
          generalize sideZ b v4 pc pz = sd2 at *
          have HWS := Lib.hid (show ∀ W, Calls Tryz.prog 25 #[.slice (some ⟨W.heap.size, 0, none⟩) 6 6] (W.alloc (.cells #[.int .i64 4, .int .i64 ta, .int .i64 b, .int .i64 v4, .int .i64 sd1, .int .i64 sd2] 3)) fun e w' => e = .returned (.int .i64 (wscZ wEq [4, ta, b, v4, sd1, sd2])) ∧ Only (fun _ => False) W w' from fun W =>
            (rchal_any _ 6 [4, ta, b, v4, sd1, sd2] _ (pts_lit W [4, ta, b, v4, sd1, sd2] 3 (by show 6 ≤ _; decide)) HNT.out (by show 6 ≤ _; decide)).mono fun _ _ h => ⟨h.1, ((Only.refl _ W).alloc _).trans h.2⟩)
          generalize wscZ wEq [4, ta, b, v4, sd1, sd2] = ch at *
          have y0 := fun (d : Nat) (os : Array Obj) => cell_regrown x0 d os
          have y1 := fun (d : Nat) (os : Array Obj) => cell_regrown x2 d os
          have y2 := fun (d : Nat) (os : Array Obj) => cell_regrown k0 d os
          clear HVN HNT HMT x0 x2 k0 hlb
          go_wp2_with fail
          refine wp_region_quiet_below (by kernel_rfl) (by kernel_rfl) ?_
          repeat (go_big_quiet_step ((go_at_call 24; exact Calls.regrown_of ((HAT.out _ (HKY9.out.only (Only.ofBelow (below_regrown _ _ _) _))).mono fun _ _ h => ⟨h.1, by rw [← h.2]; exact Below.refl _ _⟩))))
          refine wpQuiet_nil ?_
          intro w10 hw'
          obtain ⟨pq2, hw''⟩ := hw'
          have HO910 := Lib.hid (Only.ofBelow (below_regrown w9 pq2.d pq2.os) (fun _ => False))
          rw [← hw''] at HO910
          have HF10 := Lib.hid (HF9.out.frame HO910.out)
          have HX10 := Lib.hid (row_still HO910.out HX9.out)
          have x3 : _ = some (Value.int .i64 pz) := cell_of_row _ _ 3 _ _ _ HX10.out
          clear hw'' y0 y1 y2 HO910 HKY9 HX9 HF9 HAT
          have HP1 := Lib.hid (fun w => pow_any 4 pz 2305843009213691579 w (by decide) (by decide) zb0 (by omega))
          have HP2 := Lib.hid (fun w => pow_any ta (1152921504606845789 - pc) 2305843009213691579 w (by decide) (by decide) (by omega) (by omega))
          have HP3 := Lib.hid (fun w => pow_any b pz 2305843009213691579 w (by decide) (by decide) zb0 (by omega))
          have HP4 := Lib.hid (fun w => pow_any v4 (1152921504606845789 - pc) 2305843009213691579 w (by decide) (by decide) (by omega) (by omega))
          generalize powM 4 pz 2305843009213691579 = p1 at *
          generalize powM ta (1152921504606845789 - pc) 2305843009213691579 = p2 at *
          generalize powM b pz 2305843009213691579 = p3 at *
          generalize powM v4 (1152921504606845789 - pc) 2305843009213691579 = p4 at *
          have HM1 := Lib.hid (fun w => mul_any p1 p2 2305843009213691579 w (by decide) (by decide))
          have HM2 := Lib.hid (fun w => mul_any p3 p4 2305843009213691579 w (by decide) (by decide))
          rw [← HS1.out] at HM1
          rw [← HS2.out] at HM2
          go_wp2_with fail
          refine (HP1.out _).mono ?_
          rintro e w' ⟨rfl, rfl⟩
          go_wp2_with fail
          refine (HP2.out _).mono ?_
          rintro e w' ⟨rfl, rfl⟩
          go_wp2_with fail
          refine (HM1.out _).mono ?_
          rintro e w' ⟨rfl, rfl⟩
          have hA11 := ((Only.refl (fun _ => False) w10).alloc (.cells #[.int .i64 2305843009213691579] 3)).alloc (.cells #[.int .i64 2305843009213691579] 3)
          have HF11 := Lib.hid (HF10.out.frame hA11)
          have HX11 := Lib.hid (row_still hA11 HX10.out)
          clear hA11 x3 HF10 HX10
          go_upto_region 16 with fail
          generalize (w10.alloc (.cells #[.int .i64 2305843009213691579] 3)).alloc (.cells #[.int .i64 2305843009213691579] 3) = w11 at *
          have x1 : _ = some (Value.int .i64 v4) := cell_of_row _ _ 1 _ _ _ HX11.out
          have x3 : _ = some (Value.int .i64 pz) := cell_of_row _ _ 3 _ _ _ HX11.out
          have y0 := fun (d : Nat) (os : Array Obj) => cell_regrown x1 d os
          have y1 := fun (d : Nat) (os : Array Obj) => cell_regrown x3 d os
          have hs : wrap64 (1152921504606845789 - pc) = 1152921504606845789 - pc := by unfold wrap64; omega
          clear x1 x3
          refine wp_region_quiet_below (by kernel_rfl) (by kernel_rfl) ?_
          repeat (go_big_quiet_step ((first | (go_at_call 20; with_reducible exact Calls.regrown_of ((HP3.out _).mono fun _ _ h => ⟨h.1, by rw [h.2]; exact (Below.refl _ _).alloc (Nat.le_refl _) _⟩)) | (go_at_call 20; with_reducible exact Calls.regrown_of ((HP4.out _).mono fun _ _ h => ⟨h.1, by rw [h.2]; exact (Below.refl _ _).alloc (Nat.le_refl _) _⟩)) | (go_at_call 23; exact Calls.regrown_of ((HM2.out _).mono fun _ _ h => ⟨h.1, by rw [← h.2]; exact Below.refl _ _⟩)))))
          refine wpQuiet_nil ?_
          intro w12 hw'
          obtain ⟨pq3, hw''⟩ := hw'
          have HO1112 := Lib.hid (Only.ofBelow (below_regrown w11 pq3.d pq3.os) (fun _ => False))
          rw [← hw''] at HO1112
          have HF12 := Lib.hid (HF11.out.frame HO1112.out)
          have HX12 := Lib.hid (row_still HO1112.out HX11.out)
          have x1 : _ = some (Value.int .i64 v4) := cell_of_row _ _ 1 _ _ _ HX12.out
          clear hw'' y0 y1 hs HO1112 HX11 HF11
          go_wp2_with fail
          refine (HWS.out w12).mono ?_
          rintro e w13 ⟨rfl, hO13⟩
          have HF13 := Lib.hid (HF12.out.frame hO13)
          have HX13 := Lib.hid (row_still hO13 HX12.out)
          clear hO13 x1 HF12 HX12
          by_cases hch : ch = pc
          · have q1 : (ch == pc) = true := beq_iff_eq.2 hch
            have HOF := Lib.hid (HO5.out.trans HF13.out.only)
            clear hch
            go_wp2
            go_ret
            exact ⟨rfl, HOF.out.below (Nat.le_refl _) (fun _ _ h => h)⟩
          · have q1 : (ch == pc) = false := beq_eq_false_iff_ne.2 hch
            have HBA := Lib.hid (HBAD.out hch)
            clear hch
            go_wp2_with fail
            go_meet
            exact ⟨by rw [HQ2.out]; exact HX13.out, by rw [HB2.out]; exact HF13.out, fun _ => HBA.out⟩
      case rest =>
        obtain ⟨hx, hF, hac⟩ := hcut
        have HX8 := Lib.hid hx
        have HF8 := Lib.hid hF
        have HAC := Lib.hid hac
        generalize wc = w8 at *
        have hsz8 := hF.only.size
        clear hx hF hac HF7 HX7 HNX HCH
        obtain ⟨qx, qv, qc, qz⟩ := q
        have HX9 := Lib.hid (show w8.heap[nx]? = some (.cells #[.int .i64 qx, .int .i64 qv, .int .i64 qc, .int .i64 qz] 30 (0, 0)) from HX8.out)
        have x0 : _ = some (Value.int .i64 qx) := cell_of_row _ _ 0 _ _ _ HX9.out
        have x1 : _ = some (Value.int .i64 qv) := cell_of_row _ _ 1 _ _ _ HX9.out
        have x2 : _ = some (Value.int .i64 qc) := cell_of_row _ _ 2 _ _ _ HX9.out
        have x3 : _ = some (Value.int .i64 qz) := cell_of_row _ _ 3 _ _ _ HX9.out
        have lx := own_lt0 HX9.out
        have HOW8 := Lib.hid (show w8.ownsRow w5.heap.size 30 4 u12 k (prow LA) by have := HF8.out.own1; rw [HL1.out] at this; exact this)
        obtain ⟨a12, c12, rfl⟩ := slice_of_own HOW8.out
        clear HX8
        go_wp2_with (at_builtin; refine wpList_append_lies _ rfl _ _ 44 rfl w5.heap.size 30 p0 _ 4 32 Tryz.underlying44 hp0 hpz0 hpz1 hpz2 rfl (by decide) _ k (prow LA) rfl (HOW8.out.alloc _) ⟨w8.heap.size, 0, none⟩ 1 1 (prow [(qx, qv, qc, qz)]) rfl rfl (World.news_of_block (cs := #[.int .i64 qx, .int .i64 qv, .int .i64 qc, .int .i64 qz]) (t := 30) (fr := (0, 0)) (heap_alloc_new w8 _)) ?e0 (by decide) ?e1 ?e2 ?e3 _ rfl ?_)
        case e0 => exact p4_one _
        case e1 => unfold maxLen; omega
        case e2 => omega
        case e3 => first | omega | (simp; omega)
        intro g1 cp1 w9 ho1 hg1 ha1 _
        have HF9 := Lib.hid (show FndAt w5 w9 (.slice (some ⟨g1, 0, none⟩) (k + 1) cp1) u13 (chTo C r (bitB m) (k + 1)) (bdTo (bitB m) (k + 1)) by
          rw [HCN.out]
          exact (HF8.out.frame ((Only.refl (fun _ => False) w8).alloc (.cells #[.int .i64 qx, .int .i64 qv, .int .i64 qc, .int .i64 qz] 30))).all HL1.out ho1 hg1)
        have HAL := Lib.hid (show ∀ i, i < k + 1 → bitB m i = true → acB (n : Nat) K r (chS C r (bitB m) i) = false from fun i hi hb => by
          by_cases e : i = k
          · subst e
            rw [HQQ.out]
            exact HAC.out (by rw [← HBB.out]; exact hb)
          · exact HALL.out i (by omega) hb)
        clear ho1 hg1 ha1 x0 x1 x2 x3
        go_wp2
        go_roundw
        case rel => exact ⟨k + 1, by omega, by go_num, HF9.out, HAL.out⟩
        case measure => simp [intOf]; omega
    · obtain rfl : k = n := by omega
      have i1 : ¬ (k : Int) < k := by omega
      have HKYr := Lib.hid (HKY5.out.only hF.only)
      have HP4 := Lib.hid (p4s_of_own hF.own1)
      have hbl : (bdTo (bitB m) k).length ≤ k := by have := bd_gd_len (bitB m) k; omega
      have HCO := Lib.hid (HKYr.out.combine HOK.out r _ _ HP4.out (by rw [chTo_len]; omega) h0a h0b (HGW.out _ (HO5.out.trans hF.only)))
      rw [HLAW.out HALL.out] at HCO
      have k0 : _ = some (Value.slice ak K.length ck) := cell_of_row _ _ 0 _ _ _ HKYr.out.row
      have k1 : _ = some (Value.slice ap R.length cp) := cell_of_row _ _ 1 _ _ _ HKYr.out.row
      have lk := own_lt0 HKYr.out.row
      have HOW2 := Lib.hid hF.own2
      have HOr := Lib.hid (HO5.out.trans hF.only)
      have HW0 := Lib.hid (show wantZ C r = powM (baseZ r) (ptAt C 0) 2305843009213691579 from rfl)
      obtain ⟨c00, c01⟩ := HOK.out.cb 0
      have HPW := Lib.hid (fun w => pow_any (baseZ r) (ptAt C 0) 2305843009213691579 w (by decide) (by decide) c00 (by omega))
      rw [← HW0.out] at HPW
      generalize wantZ C r = wz at *
      generalize baseZ r = b at *
      have HF1 := Lib.hid (show wr.ownsRow w5.heap.size 30 4 u12 k (prow (chTo C r (bitB m) k)) by have := hF.own1; rw [chTo_len] at this; exact this)
      obtain ⟨av, cvv, rfl⟩ := slice_of_own HF1.out
      generalize bdTo (bitB m) k = B at *
      obtain ⟨aw, cww, rfl⟩ := slice_of_own hF.own2
      clear hF HF HF1
      have hcl := HCL.out
      by_cases h : k - B.length < nd
      · rw [if_pos h] at HCO
        have q1 : (k : Int) - B.length < nd := by omega
        go_wp2_with fail
        refine HCO.out.mono ?_
        rintro e w6 ⟨u, rfl, hown6, hO6⟩
        have HOW6 := Lib.hid (hO6.owns HOW2.out (fun _ _ h => h))
        have HO6 := Lib.hid (HOr.out.trans hO6)
        have HI := Lib.hid (rints9_is u (.slice aw B.length cww) B B true w6 (by omega) (pts_of_own hown6 (by omega)) (pts_of_own HOW6.out (by omega)) (by simp))
        obtain ⟨au, cu, rfl⟩ := slice_of_own hown6
        clear hown6 hO6 k0 k1 lk h hcl
        go_wp2_with fail
        refine HI.out.mono ?_
        rintro e w7 ⟨rfl, q7, hw7⟩
        have HO7 := Lib.hid (show Only (fun _ => False) w w7 by rw [hw7]; exact HO6.out.drewN q7)
        clear hw7
        go_wp2
        go_ret
        exact ⟨rfl, HO7.out.below (Nat.le_refl _) (fun _ _ h => h)⟩
      · rw [if_neg h] at HCO
        have q1 : ¬ (k : Int) - B.length < nd := by omega
        have hc0 : 0 < C.length := by omega
        go_wp2_with fail
        refine HCO.out.mono ?_
        rintro e w6 ⟨u, rfl, hown6, hO6⟩
        have HOW6 := Lib.hid (hO6.owns HOW2.out (fun _ _ h => h))
        have HO6 := Lib.hid (HOr.out.trans hO6)
        have HI := Lib.hid (rints9_is u (.slice aw B.length cww) B B true w6 (by omega) (pts_of_own hown6 (by omega)) (pts_of_own HOW6.out (by omega)) (by simp))
        obtain ⟨au, cu, rfl⟩ := slice_of_own hown6
        have HKY6 := Lib.hid (HKYr.out.only hO6)
        clear hown6 hO6 k0 k1 lk h hcl
        go_wp2_with fail
        refine HI.out.mono ?_
        rintro e w7 ⟨rfl, q7, hw7⟩
        have HO67 := Lib.hid (show Only (fun _ => False) w6 w7 by rw [hw7]; exact (Only.refl _ w6).drewN q7)
        have HO7 := Lib.hid (HO6.out.trans HO67.out)
        obtain ⟨bc, oc, rfl, hb, hl0, hcp1, hcp2, hcell⟩ := (HKY6.out.only HO67.out).cf.cellAt hc0
        have hcell0 : w7.cell? ⟨bc, oc, none⟩ = some (.int .i64 (ptAt C 0)) := hcell
        have j1 : 0 < nd := by omega
        generalize ptAt C 0 = c0 at *
        have qz : (wz == wz) = true := by simp
        clear hw7 hl0 hc0
        go_wp2_with fail
        refine (HPW.out _).mono ?_
        rintro e w' ⟨rfl, rfl⟩
        have HO8 := Lib.hid (HO7.out.alloc (.cells #[.int .i64 2305843009213691579] 3))
        go_wp2
        go_ret
        exact ⟨rfl, HO8.out.below (Nat.le_refl _) (fun _ _ h => h)⟩
end Go.Proofs.YtlhfgbkonmgahaaGreatDoor
