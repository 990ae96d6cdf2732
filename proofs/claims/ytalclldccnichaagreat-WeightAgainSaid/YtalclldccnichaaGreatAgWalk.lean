/-
  The walk of the law WeightAgain.
-/
import Derived.Test.YtalclldccnichaaGreatRs
import Derived.Test.YtalclldccnichaaGreatOpen
namespace Go.Proofs.YtalclldccnichaaGreat
open Go.RowKit

theorem rs_short (M : List Mb) (F C : List Int) (seed : ByteArray) (nd n : Nat) (hn : n ≤ 60) (hnd : nd ≤ 60) (hb : (boxTo M M.length).length ≤ 60) : DlsS (rsTo M F C seed nd n) := ⟨by rw [rsTo_len]; omega, fun j hj => by
  rw [rsTo_len] at hj
  rw [rsTo_at _ _ _ _ _ _ _ hj]
  unfold rsDl dealZ
  dsimp only
  rw [cmTo_len, rsP_len, bxTo_len]
  omega⟩
/-- The values of the dealings' polynomials. -/
def valsTo (F C : List Int) (nd : Nat) (x : Int) : Nat → List Int
  | 0 => []
  | k + 1 => valsTo F C nd x k ++ [valZ (rsP F C againS nd k) x]
theorem valsTo_len (F C : List Int) (nd : Nat) (x : Int) : ∀ k, (valsTo F C nd x k).length = k
  | 0 => rfl
  | k + 1 => by rw [valsTo, List.length_append, valsTo_len F C nd x k]; rfl
theorem valsTo_at (F C : List Int) (nd : Nat) (x : Int) : ∀ n k, k < n → ptAt (valsTo F C nd x n) k = valZ (rsP F C againS nd k) x
  | n + 1, k, h => by
    rw [valsTo, ptAt_append, valsTo_len]
    by_cases e : k < n
    · rw [if_pos e, valsTo_at F C nd x n k e]
    · rw [if_neg e, if_pos (by omega), show k = n by omega]
def againS1 : ByteArray := ⟨#[97, 103, 97, 105, 110, 32]⟩
theorem againS_eq (d : ByteArray) : againS1 ++ d = againS ++ ⟨#[32]⟩ ++ d := by
  have : againS ++ (⟨#[32]⟩ : ByteArray) = againS1 := by decide
  rw [this]

set_option maxRecDepth 100000 in
set_option maxHeartbeats 4000000 in
theorem ag_walk (l0 l1 p0 p1 : Value) (zs zs1 q0 q1 : List Int) (w : World) (hl0 : PtsAt w.heap.size w l0 zs) (hl1 : PtsAt w.heap.size w l1 zs1) (hp0 : PtsAt w.heap.size w p0 q0) (hp1 : PtsAt w.heap.size w p1 q1)
    (cl0 : ∃ a c, l0 = .slice a zs.length c ∧ zs.length ≤ c ∧ c ≤ 9223372036854775807) (cl1 : ∃ a c, l1 = .slice a zs1.length c ∧ zs1.length ≤ c ∧ c ≤ 9223372036854775807) (cp0 : ∃ a c, p0 = .slice a q0.length c ∧ q0.length ≤ c ∧ c ≤ 9223372036854775807) (cp1 : ∃ a c, p1 = .slice a q1.length c ∧ q1.length ≤ c ∧ c ≤ 9223372036854775807) :
    Calls Tryz.prog 4 #[.agg #[l0, l1], .agg #[p0, p1]] w fun e w' => e = .returned (.bool true) ∧ Below w.heap.size w w' := by
  obtain ⟨i0, hi0, hz0, hz1, hz2⟩ := info_parts Tryz.infoI
  obtain ⟨j0, hj0, hy0, hy1, hy2⟩ := info_parts Tryz.infoS
  obtain ⟨la0, lc0, rfl, hla0, hlb0⟩ := cl0
  obtain ⟨la1, lc1, rfl, hla1, hlb1⟩ := cl1
  obtain ⟨pa0, pc0, rfl, hpa0, hpb0⟩ := cp0
  obtain ⟨pa1, pc1, rfl, hpa1, hpb1⟩ := cp1
  obtain ⟨wA, hwA⟩ : ∃ wA, (w.alloc (.cells #[.slice la0 zs.length lc0, .slice la1 zs1.length lc1] 43)).alloc (.cells #[.slice pa0 q0.length pc0, .slice pa1 q1.length pc1] 43) = wA := ⟨_, rfl⟩
  have hA : Only (fun _ => False) w wA := by rw [← hwA]; exact ((Only.refl _ w).alloc _).alloc _
  have HA := Lib.hid hA
  have HX1 := Lib.hid (show wA.heap[w.heap.size + 1]? = some (.cells #[.slice pa0 q0.length pc0, .slice pa1 q1.length pc1] 43 (0, 0)) by rw [← hwA]; have := heap_alloc_last (w.alloc (.cells #[.slice la0 zs.length lc0, .slice la1 zs1.length lc1] 43)) (.cells #[.slice pa0 q0.length pc0, .slice pa1 q1.length pc1] 43); rwa [World.size_alloc] at this)
  have HX0 := Lib.hid (show wA.heap[w.heap.size]? = some (.cells #[.slice la0 zs.length lc0, .slice la1 zs1.length lc1] 43 (0, 0)) by rw [← hwA]; exact row_still ((Only.refl _ _).alloc _) (heap_alloc_last w _))
  have HWA := Lib.hid hwA
  have HL0 := Lib.hid (hl0.only hA)
  have HL1 := Lib.hid (hl1.only hA)
  have HP0 := Lib.hid (hp0.only hA)
  have HP1 := Lib.hid (hp1.only hA)
  clear hl0 hl1 hp0 hp1 hA hwA
  go_enter Tryz.func4, Tryz.ntmps4
  go_wp2_with fail
  rw [HWA.out]
  clear HWA
  refine (sanity_any _).mono ?_
  rintro e w1 ⟨rfl, hO1⟩
  have HO1 := Lib.hid hO1
  have hx0 := row_still hO1 HX0.out
  have o0 : _ = some (Value.slice la0 zs.length lc0) := cell_of_row _ _ 0 _ _ _ hx0
  have ol := own_lt0 hx0
  clear hO1 hx0
  go_wp2_with fail
  refine (rmade_any _ zs w1 (HL0.out.only HO1.out) (by omega)).mono ?_
  rintro e w2 ⟨hO2, vm, vs, vc, vk, vp, rfl, hM, hS, hC, hK, hG⟩
  have HO2 := Lib.hid (HO1.out.trans hO2)
  obtain ⟨KN, NC, hrs, hncd⟩ := rs_all zs zs1 q0
  have HR0 := Lib.hid (made_right zs)
  have hok0 := made_ok zs
  have HM := Lib.hid hM
  have HC := Lib.hid hC
  have HK := Lib.hid hK
  have HG := Lib.hid hG
  have HCC := Lib.hid (comm_coef zs)
  have hcl : (coefZ zs).length = ndZ zs := coefTo_len _ _ _
  have hkl : (commZ zs).length = ndZ zs := mixL_len _ _ _
  have HNF := Lib.hid (show ndZ zs = ndOf (crewZ zs) from rfl)
  have HCB := Lib.hid (fun j => show 0 ≤ ptAt (coefZ zs) j ∧ ptAt (coefZ zs) j < 1152921504606845789 from coefTo_bd (crewZ zs) (ndZ zs) (crewZ zs).length j)
  have hR1 : rightB (crewB zs1) = true := crew_right zs1 11
  have hok1 : CrewOk (crewB zs1) (ndOf (crewB zs1)) := crew_ok zs1 11 (by decide)
  have HWT1 := Lib.hid (fun j => show 0 ≤ (mbAt (crewB zs1) j).wt ∧ (mbAt (crewB zs1) j).wt ≤ 3 from crew_wt zs1 11 (manyZ zs1) j)
  have hle : ndZ zs ≤ nOf (crewZ zs) := by have := right_sum HR0.out; rw [HNF.out]; exact this.2.2.2.2.2.2.1
  have hn60 : nOf (crewZ zs) ≤ 60 := (right_sum HR0.out).2.2.2.1
  have HFL := Lib.hid (choZ_len q0 (nOf (crewZ zs)) (ndZ zs) hle)
  have HFB := Lib.hid (choZ_bd q0 (nOf (crewZ zs)) (ndZ zs) hle hn60)
  have HFW := Lib.hid (show IntsW (choZ q0 (nOf (crewZ zs)) (ndZ zs)) from ⟨fun j => by have := choZ_bd q0 (nOf (crewZ zs)) (ndZ zs) hle hn60 j; omega⟩)
  have HTT := Lib.hid (show totZ (crewZ zs) = (nOf (crewZ zs) : Nat) from (right_sum HR0.out).2.2.2.2.2.2.2)
  have HOK0 := Lib.hid hok0
  have HOK1 := Lib.hid hok1
  have HR1 := Lib.hid hR1
  have HRS := Lib.hid hrs
  have HAGB := Lib.hid hrs.ag
  have HNC := Lib.hid hncd
  obtain ⟨am, cm, rfl⟩ := hM.slice
  obtain ⟨ax, cx, rfl⟩ := hS.slice
  obtain ⟨ac, cc, rfl⟩ := hC.slice
  obtain ⟨ak, ck, rfl⟩ := hK.slice
  obtain ⟨ap, cpg, rfl⟩ := hG.slice
  have hnd1 := hok0.nd1
  have hnd60 : ndZ zs ≤ 60 := by omega
  have hmm : ndOf (crewB zs1) ≤ 60 := Nat.le_trans hok1.nd2 hok1.many
  have hmm1 := hok1.nd1
  have HC13 := Lib.hid (show MbsW (crewB zs1) from hok1.w)
  have hcrew : crewB zs1 = crewTo zs1 11 (manyZ zs1) := rfl
  generalize (secTo 1 (manyZ zs)).length = ns at *
  clear hO2 hM hS hC hK hG hrs hncd hok0 hok1 hR1 HO1
  rw [hcl] at HC ⊢
  rw [hkl] at HK ⊢
  generalize hM0 : crewZ zs = M0 at *
  generalize hnd0 : ndZ zs = nd0 at *
  generalize hC0 : coefZ zs = C at *
  generalize hKC0 : commZ zs = KC at *
  clear hM0 hnd0 hC0 hKC0
  have HB := Lib.hid (heap_alloc_last w2 (.cells #[.slice am M0.length cm, .slice ax ns cx, .slice ac nd0 cc, .slice ak nd0 ck, .slice ap (pointsOf M0).length cpg] 30))
  have HO3 := Lib.hid (HO2.out.alloc (.cells #[.slice am M0.length cm, .slice ax ns cx, .slice ac nd0 cc, .slice ak nd0 ck, .slice ap (pointsOf M0).length cpg] 30))
  have HO23 := Lib.hid ((Only.refl (fun _ => False) w2).alloc (.cells #[.slice am M0.length cm, .slice ax ns cx, .slice ac nd0 cc, .slice ak nd0 ck, .slice ap (pointsOf M0).length cpg] 30))
  have hx0 := row_still HO3.out HX0.out
  have o1 : _ = some (Value.slice la1 zs1.length lc1) := cell_of_row _ _ 1 _ _ _ hx0
  have ol1 := own_lt0 hx0
  clear hx0 o0 ol
  go_wp2_with fail
  refine (rcrew_any _ zs1 11 _ (HL1.out.only HO3.out) (by decide) (by omega)).mono ?_
  rintro e w3 ⟨hO4, vm1, vs1, rfl, hM1, hS1⟩
  rw [← hcrew] at hM1
  clear hcrew
  obtain ⟨ax1, cx1, rfl⟩ := hS1.slice
  generalize (secTo 11 (manyZ zs1)).length = ns1 at *
  obtain ⟨bm, om, cm1, hvm, hbm, hcm1, hcm2, hmc⟩ : ∃ b off c, vm1 = .slice (some ⟨b, off, none⟩) (crewB zs1).length c ∧ b < w3.heap.size ∧ (crewB zs1).length ≤ c ∧ c ≤ 9223372036854775807 ∧ ∀ j, j < (crewB zs1).length → w3.cell? ⟨b, off + j * 3, none⟩ = some (.int .i64 (mbAt (crewB zs1) j).id) ∧ w3.cell? ⟨b, off + j * 3 + 1, none⟩ = some (.int .i64 (mbAt (crewB zs1) j).wt) ∧ w3.cell? ⟨b, off + j * 3 + 2, none⟩ = some (.int .i64 (mbAt (crewB zs1) j).pb) := by
    rcases hM1 with ⟨_, _, _, h0⟩ | ⟨b, off, cap, hv, hb, h1, h2, hc⟩
    · have := HOK1.out.len1; rw [h0] at this; simp at this
    · exact ⟨b, off, cap, hv, hb, h1, h2, hc⟩
  subst hvm
  have HM1 := Lib.hid hM1
  have HMC := Lib.hid hmc
  have HO4 := Lib.hid (HO3.out.trans hO4)
  have HO24 := Lib.hid (HO23.out.trans hO4)
  have HB4 := Lib.hid (row_still hO4 HB.out)
  have hx1 := row_still HO4.out HX1.out
  have o0 : _ = some (Value.slice pa0 q0.length pc0) := cell_of_row _ _ 0 _ _ _ hx1
  have ol := own_lt0 hx1
  obtain ⟨B, hB⟩ : ∃ B, w2.heap.size = B := ⟨_, rfl⟩
  rw [hB] at HB4
  clear hO4 hM1 hS1 hmc hx1 o1 ol1 HB HO3 HO23
  go_wp2_with (refine wpList_load_row rfl 30 _ rfl B rfl 30 #[.slice am M0.length cm, .slice ax ns cx, .slice ac nd0 cc, .slice ak nd0 ck, .slice ap (pointsOf M0).length cpg] (0, 0) _ HB4.out Tryz.underlying30 rfl Tryz.infoG ?_)
  clear hB
  refine (rchosen_any _ _ _ _ _ _ _ _ _ _ _ _ _ M0 q0 (nOf M0) nd0 _ (HM.out.only HO24.out) HOK0.out.w HTT.out hle hn60 (HP0.out.only HO4.out) (by omega)).mono ?_
  rintro e w4 ⟨vF, rfl, hownF, hO5⟩
  have HF := Lib.hid (pts_of_own hownF (by rw [HFL.out]; omega))
  obtain ⟨aF, cF, rfl⟩ := slice_of_own hownF
  rw [HFL.out] at HF ⊢
  have HO5 := Lib.hid (HO4.out.trans hO5)
  have HO25 := Lib.hid (HO24.out.trans hO5)
  have HO35 := Lib.hid hO5
  have HB5 := Lib.hid (row_still hO5 HB4.out)
  generalize choZ q0 (nOf M0) nd0 = F at *
  clear hownF hO5 o0 ol
  obtain ⟨ds, hds⟩ : ∃ ds, rsTo (crewB zs1) F C againS (ndOf (crewB zs1)) nd0 = ds := ⟨_, rfl⟩
  obtain ⟨s1, s2, s3, s4, s5, s6, s7, s8⟩ := right_sum HR0.out
  have HGS0 := Lib.hid (fun k (hk : k ≤ (pointsOf M0).length) => s1 k (by rw [pointsOf_len] at hk; exact hk))
  have HDSS := Lib.hid (show DlsS ds by rw [← hds]; exact rs_short _ _ _ _ _ _ hnd60 hmm HOK1.out.many)
  have HRSH := Lib.hid (show ∀ w', Only (fun _ => False) w4 w' → Calls Tryz.prog 18 #[.agg #[.slice am M0.length cm, .slice ax ns cx, .slice ac nd0 cc, .slice ak nd0 ck, .slice ap (pointsOf M0).length cpg], .slice (some ⟨bm, om, none⟩) (crewB zs1).length cm1, .slice ax1 ns1 cx1, .slice aF nd0 cF, .string ⟨#[97, 103, 97, 105, 110]⟩] w' (fun e wR => Only (fun _ => False) w' wR ∧ ∃ a2 c2 a3 c3 a4 c4 a5 c5, e = .returned (.tuple #[.agg #[.slice (some ⟨bm, om, none⟩) (crewB zs1).length cm1, .slice ax1 ns1 cx1, .slice a2 (ndOf (crewB zs1)) c2, .slice a3 (ndOf (crewB zs1)) c3, .slice a4 (pointsOf (crewB zs1)).length c4], .slice a5 ds.length c5]) ∧ PtsAt wR.heap.size wR (.slice a3 (ndOf (crewB zs1)) c3) KN ∧ GridAt wR (.slice a4 (pointsOf (crewB zs1)).length c4) (pointsOf (crewB zs1)) ∧ DlsAt wR (.slice a5 ds.length c5) ds) from fun w' h => by
    have hC := HC.out.only (HO25.out.trans h)
    have hK := HK.out.only (HO25.out.trans h)
    rw [← hcl] at hC
    rw [← hkl] at hK
    have hag := HAGB.out
    have hmx := HRS.out.mx
    have hb' : bm < w'.heap.size := by have h1 := HO35.out.size; have h2 := h.size; omega
    have hF := HF.out.only h
    rw [← HFL.out] at hF hag hmx
    have := (reshared_any am ax ac ak ap ax1 M0.length ns cm cx cc ck cpg ns1 cx1 bm om cm1 (.slice aF F.length cF) (crewB zs1) F C KC (pointsOf M0) againS (ndOf (crewB zs1)) w' hC (by omega) hK (HG.out.only (HO25.out.trans h)) HGS0.out hb' hcm1 hcm2
      (fun j hj => ⟨(HO35.out.trans h).cell (HMC.out j hj).1 id, (HO35.out.trans h).cell (HMC.out j hj).2.1 id, (HO35.out.trans h).cell (HMC.out j hj).2.2 id⟩) HOK1.out HR1.out rfl hF (by rw [HFL.out]; exact hnd1) (by rw [HFL.out]; exact hnd60) (fun j _ => HFB.out j) (by decide) hag)
    rw [hcl, hkl, HFL.out] at this
    refine this.mono fun e wR hh => ?_
    obtain ⟨hO, vc, vk, vp, vd, he, hP1, hP2, hG, hD⟩ := hh
    rw [hmx] at hP2
    rw [HFL.out, hds] at hD
    rw [← HNC.out] at hP1
    obtain ⟨a2, c2, rfl⟩ := hP1.slice
    obtain ⟨a3, c3, rfl⟩ := hP2.slice
    obtain ⟨a4, c4, rfl⟩ := hG.slice
    obtain ⟨a5, c5, rfl⟩ := hD.slice
    rw [HRS.out.ncl, HRS.out.knl] at he
    rw [HRS.out.knl] at hP2
    exact ⟨hO, a2, c2, a3, c3, a4, c4, a5, c5, he, hP2, hG, hD⟩)
  have HAG := Lib.hid (show ∀ w' dv, Only (fun _ => False) w4 w' → DlsAt w' dv ds → Calls Tryz.prog 19 #[.agg #[.slice ak nd0 ck, .slice ap (pointsOf M0).length cpg], .slice (some ⟨bm, om, none⟩) (crewB zs1).length cm1, .slice aF nd0 cF, dv] w' (fun e wX => Only (fun _ => False) w' wX ∧ ∃ a1 c1 a2 c2, e = .returned (.tuple #[.agg #[.slice a1 (ndOf (crewB zs1)) c1, .slice a2 (pointsOf (crewB zs1)).length c2], .bool true]) ∧ PtsAt wX.heap.size wX (.slice a1 (ndOf (crewB zs1)) c1) KN ∧ GridAt wX (.slice a2 (pointsOf (crewB zs1)).length c2) (pointsOf (crewB zs1))) from fun w' dv h hD => by
    have hK := HK.out.only (HO25.out.trans h)
    rw [← hkl] at hK
    have hag := HAGB.out
    rw [hds] at hag
    have := again_is ak ap ck cpg (.slice (some ⟨bm, om, none⟩) (crewB zs1).length cm1) (.slice aF nd0 cF) dv (pointsOf M0) KC (crewB zs1) F ds w' hK (HG.out.only (HO25.out.trans h)) HGS0.out (by omega) (HM1.out.only (HO35.out.trans h)) HC13.out (HF.out.only h) HFW.out (by rw [HFL.out]; omega) hD HDSS.out
    rw [hkl] at this
    refine this.mono fun e wX hh => ?_
    obtain ⟨hO, ⟨_, v1, v2, he, hown, hG⟩ | ⟨hb, _⟩⟩ := hh
    · have hkn := HRS.out.kn
      rw [hds] at hkn
      rw [hkn] at hown
      have hP := pts_of_own hown (by rw [HRS.out.knl]; omega)
      obtain ⟨a1, c1, rfl⟩ := hP.slice
      obtain ⟨a2, c2, rfl⟩ := hG.slice
      rw [HRS.out.knl] at he hP
      exact ⟨hO, a1, c1, a2, c2, he, hP, hG⟩
    · rw [hag] at hb; exact absurd hb (by decide))
  have HKF := Lib.hid HRS.out.first
  have HRK := Lib.hid HRS.out.right
  have HKNL := Lib.hid HRS.out.knl
  have HNCL := Lib.hid HRS.out.ncl
  have HNC0 := Lib.hid HRS.out.sec
  have HNCB := Lib.hid HRS.out.ncb
  have HPUB := Lib.hid HRS.out.pub
  have HSHR := Lib.hid HRS.out.share
  have HW1 := Lib.hid (right_sum HR1.out)
  have HNC13 : (crewB zs1).length ≤ 13 := HOK1.out.len2
  clear HRS HNC HAGB hds s1 s2 s3 s5 s6 s7 s8 HTT
  generalize crewB zs1 = M at *
  generalize hnd : ndOf M = nd at *
  have hdl := HDSS.out.len
  clear HB4
  go_wp2_with (refine wpList_load_row rfl 30 _ rfl B rfl 30 #[.slice am M0.length cm, .slice ax ns cx, .slice ac nd0 cc, .slice ak nd0 ck, .slice ap (pointsOf M0).length cpg] (0, 0) _ HB5.out Tryz.underlying30 rfl Tryz.infoG ?_)
  refine (HRSH.out w4 (Only.refl _ _)).mono ?_
  rintro e w5 ⟨hO6, a2, c2, a3, c3, a4, c4, a5, c5, rfl, hPk, hGk, hDk⟩
  have hA6 : Only (fun _ => False) w5 (w5.alloc (.cells #[.slice (some ⟨bm, om, none⟩) M.length cm1, .slice ax1 ns1 cx1, .slice a2 nd c2, .slice a3 nd c3, .slice a4 (pointsOf M).length c4] 30)) := (Only.refl _ w5).alloc _
  have HO6 := Lib.hid (hO6.trans hA6)
  have HH6 := Lib.hid (heap_alloc_last w5 (.cells #[.slice (some ⟨bm, om, none⟩) M.length cm1, .slice ax1 ns1 cx1, .slice a2 nd c2, .slice a3 nd c3, .slice a4 (pointsOf M).length c4] 30))
  have HPK := Lib.hid (hPk.only hA6)
  have HGK := Lib.hid (hGk.only hA6)
  have HDK := Lib.hid (hDk.only hA6)
  have hb6 := row_still HO6.out HB5.out
  have y3 : _ = some (Value.slice ak nd0 ck) := cell_of_row _ _ 3 _ _ _ hb6
  have y4 : _ = some (Value.slice ap (pointsOf M0).length cpg) := cell_of_row _ _ 4 _ _ _ hb6
  have yl := own_lt0 hb6
  clear hO6 hA6 hPk hGk hDk hb6 HRSH
  go_wp2_with fail
  generalize hw5 : w5.alloc (.cells #[.slice (some ⟨bm, om, none⟩) M.length cm1, .slice ax1 ns1 cx1, .slice a2 nd c2, .slice a3 nd c3, .slice a4 (pointsOf M).length c4] 30) = w6 at *
  refine (HAG.out w6 _ HO6.out HDK.out).mono ?_
  rintro e w7 ⟨hO7, a6, c6, a7, c7, rfl, hPa, hGa⟩
  have hA8 : Only (fun _ => False) w7 (w7.alloc (.cells #[.slice a6 nd c6, .slice a7 (pointsOf M).length c7] 28)) := (Only.refl _ w7).alloc _
  have HO8 := Lib.hid (HO6.out.trans (hO7.trans hA8))
  have HO68 := Lib.hid (hO7.trans hA8)
  have HKY := Lib.hid (heap_alloc_last w7 (.cells #[.slice a6 nd c6, .slice a7 (pointsOf M).length c7] 28))
  have HPA := Lib.hid (hPa.only hA8)
  have HGA := Lib.hid (hGa.only hA8)
  have HH8 := Lib.hid (row_still HO68.out HH6.out)
  have HB8 := Lib.hid (row_still HO8.out HB5.out)
  clear hO7 hA8 hPa hGa HAG y3 y4 yl
  obtain ⟨H, hH⟩ : ∃ H, w5.heap.size = H := ⟨_, rfl⟩
  obtain ⟨KY, hKY⟩ : ∃ KY, w7.heap.size = KY := ⟨_, rfl⟩
  rw [hH] at HH8 HH6
  rw [hKY] at HKY
  have z0 : _ = some (Value.slice a6 nd c6) := cell_of_row _ _ 0 _ _ _ HKY.out
  have z1 : _ = some (Value.slice a7 (pointsOf M).length c7) := cell_of_row _ _ 1 _ _ _ HKY.out
  have z2 : _ = some (Value.slice a3 nd c3) := cell_of_row _ _ 3 _ _ _ HH8.out
  have z3 : _ = some (Value.slice a4 (pointsOf M).length c4) := cell_of_row _ _ 4 _ _ _ HH8.out
  have z4 : _ = some (Value.slice ak nd0 ck) := cell_of_row _ _ 3 _ _ _ HB8.out
  have zl0 := own_lt0 HKY.out
  have zl1 := own_lt0 HH8.out
  have zl2 := own_lt0 HB8.out
  obtain ⟨b6, f6, rfl, hb6, hl6, hc61, hc62, hx6⟩ := HPA.out.cellAt (k := 0) (by rw [HKNL.out]; omega)
  have hK8 := HK.out.only (HO25.out.trans HO8.out)
  obtain ⟨bk, fk, rfl, hbk, hlk, hck1, hck2, hxk⟩ := hK8.cellAt (k := 0) (by omega)
  rw [HKF.out] at hx6
  rw [Nat.add_zero] at hx6 hxk
  have hc63 : nd ≤ c6 := by have := HKNL.out; omega
  have hck3 : nd0 ≤ ck := by omega
  generalize ptAt KC 0 = k0 at *
  clear hl6 hlk hK8 hc61 hck1
  go_upto_region 7 with fail
  rw [hH, hKY] at *
  generalize w7.alloc (.cells #[.slice (some ⟨b6, f6, none⟩) nd c6, .slice a7 (pointsOf M).length c7] 28) = w8 at *
  have HSM := Lib.hid (fun (w' : World) (h : Only (fun _ => False) w8 w') => rsame_is (.slice (some ⟨b6, f6, none⟩) nd c6) (.slice a3 nd c3) (.slice a7 (pointsOf M).length c7) (.slice a4 (pointsOf M).length c4) KN KN (pointsOf M) (pointsOf M) true w' (by rw [HKNL.out]; omega) (short_points HR1.out) (by rw [pointsOf_len]; omega) (HPA.out.only h) (HPK.out.only (HO68.out.trans h)) (HGA.out.only h) (HGK.out.only (HO68.out.trans h)) (decide_eq_true ⟨rfl, rfl⟩))
  have HRI := Lib.hid (fun (w' : World) (h : Only (fun _ => False) w8 w') => show Calls Tryz.prog 13 #[.agg #[.slice (some ⟨b6, f6, none⟩) nd c6, .slice a7 (pointsOf M).length c7]] w' (fun e wT => e = .returned (.bool true) ∧ Only (fun _ => False) w' wT) from by
    have := right_is (some ⟨b6, f6, none⟩) a7 c6 c7 KN (pointsOf M) true w' (by rw [HKNL.out]; exact HPA.out.only h) (HGA.out.only h) (fun k hk => HW1.out.1 k (by rw [pointsOf_len] at hk; exact hk)) (by rw [HKNL.out]; omega) HRK.out
    rw [HKNL.out] at this
    exact this)
  have q1x : (k0 != k0) = false := by simp
  have y0 := fun (d : Nat) (os : Array Obj) => cell_regrown z0 d os
  have y1 := fun (d : Nat) (os : Array Obj) => cell_regrown z1 d os
  have y2 := fun (d : Nat) (os : Array Obj) => cell_regrown z2 d os
  have y3 := fun (d : Nat) (os : Array Obj) => cell_regrown z3 d os
  have y4 := fun (d : Nat) (os : Array Obj) => cell_regrown z4 d os
  have y5 := fun (d : Nat) (os : Array Obj) => cell_regrown hx6 d os
  have y6 := fun (d : Nat) (os : Array Obj) => cell_regrown hxk d os
  clear z0 z1 z2 z3 z4 hx6 hxk
  refine wp_region_quiet_below (by kernel_rfl) (by kernel_rfl) ?_
  repeat (go_big_quiet_step ((first | (go_at_call 10; exact Calls.regrown_of ((HSM.out _ (Only.ofBelow (below_regrown _ _ _) _)).mono fun _ _ h => ⟨h.1, h.2.below (Nat.le_refl _) (fun _ _ h => h)⟩)) | (go_at_call 13; exact Calls.regrown_of ((HRI.out _ (Only.ofBelow (below_regrown _ _ _) _)).mono fun _ _ h => ⟨h.1, h.2.below (Nat.le_refl _) (fun _ _ h => h)⟩)))))
  refine wpQuiet_nil ?_
  intro w9 hw'
  obtain ⟨pq, hw''⟩ := hw'
  have HO89 := Lib.hid (Only.ofBelow (below_regrown w8 pq.d pq.os) (fun _ => False))
  rw [← hw''] at HO89
  have HO59 := Lib.hid (HO8.out.trans HO89.out)
  have HH9 := Lib.hid (row_still HO89.out HH8.out)
  have HB9 := Lib.hid (row_still HO89.out HB8.out)
  have HY9 := Lib.hid (row_still HO89.out HKY.out)
  have hx1 := row_still (HO5.out.trans HO59.out) HX1.out
  have o1 : _ = some (Value.slice pa1 q1.length pc1) := cell_of_row _ _ 1 _ _ _ hx1
  have ol1 := own_lt0 hx1
  obtain ⟨t1, t2, t3, t4, t5, t6, t7, t8⟩ := HW1.out
  have HT8 := Lib.hid t8
  have HPTL := Lib.hid (choZ_len q1 (nOf M) nd t7)
  have HPTB := Lib.hid (choZ_bd q1 (nOf M) nd t7 t4)
  have HPTD := Lib.hid (choZ_diff q1 (nOf M) nd t7 t4)
  clear hw'' y0 y1 y2 y3 y4 y5 y6 HSM HRI q1x hx1 t1 t2 t3 t5 t6 t8 zl0 zl1 zl2
  go_wp2_with (refine wpList_load_row rfl 30 _ rfl H rfl 30 #[.slice (some ⟨bm, om, none⟩) M.length cm1, .slice ax1 ns1 cx1, .slice a2 nd c2, .slice a3 nd c3, .slice a4 (pointsOf M).length c4] (0, 0) _ HH9.out Tryz.underlying30 rfl Tryz.infoG ?_)
  refine (rchosen_any _ _ _ _ _ _ _ _ _ _ _ _ _ M q1 (nOf M) nd _ (HM1.out.only (HO35.out.trans HO59.out)) HC13.out HT8.out t7 t4 (HP1.out.only (HO5.out.trans HO59.out)) (by omega)).mono ?_
  rintro e w10 ⟨vP, rfl, hownP, hO10⟩
  have HPT := Lib.hid (pts_of_own hownP (by rw [HPTL.out]; omega))
  obtain ⟨aP, cP, rfl⟩ := slice_of_own hownP
  rw [HPTL.out] at HPT ⊢
  have HO510 := Lib.hid (HO59.out.trans hO10)
  have HB10 := Lib.hid (row_still hO10 HB9.out)
  have HY10 := Lib.hid (row_still hO10 HY9.out)
  have HPA10 := Lib.hid (HPA.out.only (HO89.out.trans hO10))
  have HF10 := Lib.hid (HF.out.only HO510.out)
  have HC10 := Lib.hid (HC.out.only (HO25.out.trans HO510.out))
  have HK10 := Lib.hid (HK.out.only (HO25.out.trans HO510.out))
  have HG10 := Lib.hid (HG.out.only (HO25.out.trans HO510.out))
  generalize choZ q1 (nOf M) nd = PT at *
  clear hownP hO10 o1 ol1 t4 t7 HH9 HB9 HY9 HK10 HG10
  go_wp2_with fail
  go_loopw [14, 16] (fun vs vi wr => ∃ i : Nat, i ≤ nd ∧ vi = .int .i64 i ∧ JnAt w10 wr vs (jnTo PT NC [] i)) (fun _ vi _ => nd - (intOf vi).toNat)
  case atStart => exact ⟨0, Nat.zero_le _, rfl, World.ownsRow_nil _ _ _ _, Only.refl _ _⟩
  case round =>
    obtain ⟨i, hi, rfl, hJ⟩ := hrel
    generalize wr = w11 at *
    have HJ := Lib.hid hJ
    have hjl := (jnTo_len PT NC [] i).1
    obtain ⟨sl, hsl⟩ : ∃ sl, (jnTo PT NC [] i).length = sl := ⟨_, rfl⟩
    have HSL := Lib.hid hsl
    obtain ⟨av, cv, hv⟩ := slice_of_own hJ.own
    subst hv
    rw [hsl] at hjl ⊢
    clear hsl hJ
    by_cases hlt : i < nd
    · have hip : i < PT.length := by rw [HPTL.out]; exact hlt
      have i1 : (i : Int) < nd := by omega
      have i1' : 0 ≤ (i : Int) := by omega
      obtain ⟨bP, fP, rfl, hbP, hlP, hcP1, hcP2, hxP⟩ := HPT.out.cellAt hip
      have HXP := Lib.hid hxP
      have HJN := Lib.hid (show jnTo PT NC [] (i + 1) = jnTo PT NC [] i ++ [(ptAt PT i, valZ NC (ptAt PT i))] from rfl)
      have HSHX := Lib.hid (fun V h1 h2 => HSHR.out V (ptAt PT i) h1 h2)
      have HPBX := Lib.hid (HPUB.out (ptAt PT i))
      have hpb := HPTB.out i
      have hvz := valZ_r NC (ptAt PT i)
      have hvz0 := valZ_bd NC (ptAt PT i)
      obtain ⟨xp, hxp⟩ : ∃ xp, ptAt PT i = xp := ⟨_, rfl⟩
      rw [hxp] at HXP HJN HSHX HPBX hpb hvz hvz0
      clear hlP hxP hxp
      have hcP3 : nd ≤ cP := by have := HPTL.out; omega
      go_wp2_with fail
      go_loopw [17, 18] (fun vv vj wr => ∃ j : Nat, j ≤ nd0 ∧ vj = .int .i64 j ∧ wr.ownsRow w11.heap.size 3 1 vv j (irow (valsTo F C nd xp j)) ∧ Only (fun _ => False) w11 wr) (fun _ vj _ => nd0 - (intOf vj).toNat)
      case atStart => exact ⟨0, Nat.zero_le _, rfl, World.ownsRow_nil _ _ _ _, Only.refl _ _⟩
      case round =>
        obtain ⟨j, hj, rfl, hown, hO⟩ := hrel
        generalize wr = w12 at *
        have HOWN := Lib.hid hown
        have HO12 := Lib.hid hO
        have HO1012 := Lib.hid (HJ.out.only.trans hO)
        obtain ⟨av2, cv2, hv⟩ := slice_of_own hown
        subst hv
        clear hown hO
        by_cases hjl2 : j < nd0
        · have hjF : j < F.length := by rw [HFL.out]; exact hjl2
          have i2 : (j : Int) < nd0 := by omega
          have i3 : 0 ≤ (j : Int) := by omega
          obtain ⟨bF, fF, rfl, hbF, hlF, hcF1, hcF2, hcF⟩ := (HF10.out.only HO1012.out).cellAt hjF
          obtain ⟨x0, x1⟩ := HFB.out j
          obtain ⟨xn, hxn⟩ : ∃ xn : Nat, ptAt F j = xn := ⟨(ptAt F j).toNat, by omega⟩
          have hxn2 : xn < 9223372036854775808 := by omega
          have hcF3 : nd0 ≤ cF := by have := HFL.out; omega
          rw [hxn] at hcF
          have HRP := Lib.hid (show rsP F C againS nd j = (polyTo (dlSeed againS xn) nd).set 0 (valZ C xn) by unfold rsP; rw [hxn, Int.toNat_natCast])
          have HVN := Lib.hid (show valsTo F C nd xp (j + 1) = valsTo F C nd xp j ++ [valZ (rsP F C againS nd j) xp] from rfl)
          have HPL := Lib.hid (rsP_len F C againS nd j)
          have s1 : (decB xn).size ≤ 21 := decB_size hxn2
          have HSS := Lib.hid (show (⟨#[97, 103, 97, 105, 110, 32]⟩ : ByteArray) ++ decB xn = dlSeed againS xn from againS_eq _)
          have hb1 : (⟨#[97, 103, 97, 105, 110, 32]⟩ : ByteArray).size = 6 := rfl
          have HPLY := Lib.hid (fun w => rpoly_any (dlSeed againS xn) nd w (by rw [← HSS.out, ByteArray.size_append, hb1]; omega) (by omega))
          generalize hdn : decB xn = dn at HSS s1
          rw [← HSS.out] at HPLY HRP
          have hy := row_still HO1012.out HY10.out
          have HY12 := Lib.hid hy
          have z0 : _ = some (Value.slice (some ⟨b6, f6, none⟩) nd c6) := cell_of_row _ _ 0 _ _ _ hy
          have zl0 := own_lt0 hy
          have HTX := Lib.hid (show ∀ w', (w'.cell? ⟨bF, fF + j, none⟩ = some (.int .i64 xn) ∧ w'.cell? ⟨KY, 0, none⟩ = some (.slice (some ⟨b6, f6, none⟩) nd c6) ∧ Only (fun _ => False) w12 w') → Calls Tryz.prog 21 #[.int .i64 xn] w' (fun e wT => e = .returned (.string dn) ∧ Only (fun _ => False) w12 wT) from fun w' h => (rtext8_any xn w' hxn2).mono fun e wT hh => ⟨by rw [← hdn]; exact hh.1, h.2.2.trans hh.2⟩)
          have HPY := Lib.hid (show ∀ w', (w'.cell? ⟨bF, fF + j, none⟩ = some (.int .i64 xn) ∧ w'.cell? ⟨KY, 0, none⟩ = some (.slice (some ⟨b6, f6, none⟩) nd c6) ∧ Only (fun _ => False) w12 w') → Calls Tryz.prog 20 #[.string (⟨#[97, 103, 97, 105, 110, 32]⟩ ++ dn), .int .i64 nd] w' (fun e wP => (∃ v, e = .returned v ∧ wP.ownsRow w12.heap.size 3 1 v (polyTo (⟨#[97, 103, 97, 105, 110, 32]⟩ ++ dn) nd).length (irow (polyTo (⟨#[97, 103, 97, 105, 110, 32]⟩ ++ dn) nd))) ∧ Only (fun _ => False) w12 wP) from fun w' h => (HPLY.out w').mono fun e wP hh => by
            obtain ⟨v, he, hv, hO⟩ := hh
            exact ⟨⟨v, he, own_base hv h.2.2.size⟩, h.2.2.trans hO⟩)
          have HPN := Lib.hid (polyTo_len (⟨#[97, 103, 97, 105, 110, 32]⟩ ++ dn) nd)
          generalize polyTo (⟨#[97, 103, 97, 105, 110, 32]⟩ ++ dn) nd = PO at *
          have HKS := Lib.hid (show ∀ W, Only (fun _ => False) w12 W → W.cell? ⟨bF, fF + j, none⟩ = some (.int .i64 xn) ∧ W.cell? ⟨KY, 0, none⟩ = some (.slice (some ⟨b6, f6, none⟩) nd c6) ∧ Only (fun _ => False) w12 W from fun W h => ⟨h.cell hcF id, h.cell z0 id, h⟩)
          clear hlF x0 x1 hxn hy hdn HPLY HSS
          go_wp2_with fail
          go_cut [19] (fun v19 wx => wx.ownsRow w12.heap.size 3 1 v19 PO.length (irow PO) ∧ Only (fun _ => False) w12 wx)
          case first =>
            have hz2' : (⟨#[97, 103, 97, 105, 110, 32]⟩ : ByteArray).size = 6 := rfl
            have p1 : ¬ 6 + dn.size > 9223372036854775807 := by omega
            have p2 : ¬ 9223372036854775807 < 6 + dn.size := by omega
            have p3 : ¬ (⟨#[97, 103, 97, 105, 110, 32]⟩ : ByteArray).size + dn.size > 9223372036854775807 := by omega
            go_region_held3 (fun w' => w'.cell? ⟨bF, fF + j, none⟩ = some (.int .i64 xn) ∧ w'.cell? ⟨KY, 0, none⟩ = some (.slice (some ⟨b6, f6, none⟩) nd c6) ∧ Only (fun _ => False) w12 w')
              (first
                | with_reducible exact HKS.out _ ((Only.refl _ w12).drew)
                | with_reducible exact HKS.out _ hST
                | with_reducible exact HKS.out _ hSP)
              (first
                | (go_at_call 21; refine (HTX.out _ (by assumption)).mono ?_; rintro e wT ⟨rfl, hST⟩)
                | (go_at_call 20; refine (HPY.out _ (by assumption)).mono ?_; rintro e wP ⟨⟨vP, rfl, hvP⟩, hSP⟩))
            all_goals (clear HTX HPY HKS p1 p2 p3 hz2')
            all_goals (go_wp2_with fail)
            all_goals (go_meet)
            all_goals (exact ⟨hvP, hSP⟩)
          case rest =>
            obtain ⟨hPO, hOc⟩ := hcut
            generalize wc = w13 at *
            obtain ⟨gp, cp, rfl, hgp, hgp1, hgp2, _⟩ := own_cells hPO HPN.out hmm1
            have hgpC := own_low' hPO rfl
            have HPO := Lib.hid hPO
            have HO13 := Lib.hid (HO1012.out.trans hOc)
            have HOc := Lib.hid hOc
            have HB13 := Lib.hid (row_still HO13.out HB10.out)
            have z2 : _ = some (Value.slice am M0.length cm) := cell_of_row _ _ 0 _ _ _ HB13.out
            have z3 : _ = some (Value.slice ax ns cx) := cell_of_row _ _ 1 _ _ _ HB13.out
            have z4 : _ = some (Value.slice ac nd0 cc) := cell_of_row _ _ 2 _ _ _ HB13.out
            have z5 : _ = some (Value.slice (some ⟨bk, fk, none⟩) nd0 ck) := cell_of_row _ _ 3 _ _ _ HB13.out
            have z6 : _ = some (Value.slice ap (pointsOf M0).length cpg) := cell_of_row _ _ 4 _ _ _ HB13.out
            have zl2 := own_lt0 HB13.out
            have hcF13 := hOc.cell hcF id
            have hbF13 : bF < w13.heap.size := Nat.lt_of_lt_of_le hbF hOc.size
            have HAT := Lib.hid (fun (w' : World) (h : Only (fun _ => False) w13 w') => show Calls Tryz.prog 22 #[.agg #[.slice am M0.length cm, .slice ax ns cx, .slice ac nd0 cc, .slice (some ⟨bk, fk, none⟩) nd0 ck, .slice ap (pointsOf M0).length cpg], .int .i64 xn] w' (fun e wT => e = .returned (.agg #[.int .i64 xn, .int .i64 (valZ C xn)]) ∧ Only (fun _ => False) w' wT) from by
              have hC := HC10.out.only (HO13.out.trans h)
              rw [← hcl] at hC ⊢
              exact rgat_any am ax ac (some ⟨bk, fk, none⟩) ap M0.length ns C.length (pointsOf M0).length cm cx cc ck cpg C xn w' hC (by omega))
            generalize valZ C xn = vy at *
            have hfd := Tryz.fieldY
            have y2 := fun (d : Nat) (os : Array Obj) => cell_regrown z2 d os
            have y3 := fun (d : Nat) (os : Array Obj) => cell_regrown z3 d os
            have y4 := fun (d : Nat) (os : Array Obj) => cell_regrown z4 d os
            have y5 := fun (d : Nat) (os : Array Obj) => cell_regrown z5 d os
            have y6 := fun (d : Nat) (os : Array Obj) => cell_regrown z6 d os
            have y7 := fun (d : Nat) (os : Array Obj) => cell_regrown hcF13 d os
            clear hPO hOc z0 zl0 HTX HPY HKS
            go_wp2_with fail
            clear z2 z3 z4 z5 z6 hcF13
            refine wp_region_below_split 9 (by kernel_rfl) (by kernel_rfl) (by kernel_rfl) ?_
            simp only [List.take_succ_cons, List.take_zero, List.drop_succ_cons, List.drop_zero]
            repeat (go_big_quiet_step ((go_at_call 22; exact Calls.regrown_of ((HAT.out _ (Only.ofBelow (below_regrown _ _ _) _)).mono fun _ _ h => ⟨h.1, h.2.below (Nat.le_refl _) (fun _ _ h => h)⟩))))
            refine wpQuiet_nil ?_
            intro w14 hw'
            obtain ⟨pq2, hw''⟩ := hw'
            have HO14 := Lib.hid (Only.ofBelow (below_regrown w13 pq2.d pq2.os) (fun _ => False))
            rw [← hw''] at HO14
            have hP14 := HO14.out.owns HPO.out (fun _ _ h => h)
            obtain ⟨o1, _, _, o4, o5⟩ := own_at hP14 HPN.out (by omega : 0 < nd)
            have HP15 := Lib.hid (show (w14.setCell ⟨gp, 0, none⟩ (.int .i64 vy)).ownsRow w12.heap.size 3 1 (.slice (some ⟨gp, 0, none⟩) nd cp) (PO.set 0 vy).length (irow (PO.set 0 vy)) by
              rw [List.length_set, ← irow_set, HPN.out]
              rw [HPN.out] at hP14
              exact own_set' hP14 _)
            have HO15 := Lib.hid (show Only (fun _ => False) w12 (w14.setCell ⟨gp, 0, none⟩ (.int .i64 vy)) from (HOc.out.trans HO14.out).setCell (.inr hgpC) _)
            rw [← HRP.out] at HP15
            clear hw'' hP14 y2 y3 y4 y5 y6 y7 HAT HB13 zl2 hbF13 hfd
            go_upto_region 20 with fail
            clear o1 o4 o5 HO14 HPO hgp
            generalize w14.setCell ⟨gp, 0, none⟩ (.int .i64 vy) = w15 at *
            have hP15 := pts_of_own HP15.out (by rw [HPL.out]; omega)
            have HVL := Lib.hid (rvalue_any (.slice (some ⟨gp, 0, none⟩) nd cp) (rsP F C againS nd j) xp w15 hP15 (by rw [HPL.out]; omega))
            have hxP15 := (HJ.out.only.trans (HO12.out.trans HO15.out)).cell HXP.out id
            have hbP15 : bP < w15.heap.size := Nat.lt_of_lt_of_le hbP (HJ.out.only.trans (HO12.out.trans HO15.out)).size
            clear hP15
            generalize valZ (rsP F C againS nd j) xp = vv at *
            go_wp2_with fail
            refine HVL.out.mono ?_
            rintro e w16 ⟨rfl, nq, rfl⟩
            have HO16 := Lib.hid (HO15.out.drewN nq)
            clear hxP15 hbP15
            generalize w15.drewN nq = w16 at *
            have hA : Only (fun _ => False) w16 (w16.alloc (.cells #[.int .i64 vv] 3)) := (Only.refl _ w16).alloc _
            have hownV := (HO16.out.trans hA).owns HOWN.out (fun _ _ h => h)
            have HOV := Lib.hid (HO12.out.trans (HO16.out.trans hA))
            have HOWV := Lib.hid hownV
            have h1216 := HO12.out.size
            have h16 := HO16.out.size
            clear hA
            go_wp2_with (at_builtin; refine wpList_append_lies _ rfl _ _ 22 rfl w11.heap.size 3 i0 _ 1 8 Tryz.underlying22 hi0 hz0 hz1 hz2 rfl (by decide) _ j (irow (valsTo F C nd xp j)) rfl hownV ⟨w16.heap.size, 0, none⟩ 1 1 [.int .i64 vv] rfl rfl (cell_one_new _ _ _) (one_int _) (by decide) ?c1 ?c2 ?c3 _ rfl ?_)
            case c1 => unfold maxLen; omega
            case c2 => omega
            case c3 => first | omega | (simp; omega)
            intro g1 cp1 w17 ho1 hg1 ha1 hgl1
            have HO17 := Lib.hid (HOV.out.grow HOWV.out (Nat.le_refl _) hg1)
            have HOW17 := Lib.hid (show w17.ownsRow w11.heap.size 3 1 (.slice (some ⟨g1, 0, none⟩) (j + 1) cp1) (j + 1) (irow (valsTo F C nd xp (j + 1))) by rw [HVN.out, irow_append]; exact ho1)
            clear ho1 hg1 ha1 hgl1 hownV
            go_wp2
            go_roundw
            case rel => exact ⟨j + 1, by omega, by go_num, HOW17.out, HO17.out⟩
            case measure => simp [intOf]; omega
        · obtain rfl : j = nd0 := by omega
          have i2 : ¬ (j : Int) < j := by omega
          have HVL := Lib.hid (valsTo_len F C nd xp j)
          obtain ⟨hsb, hsz⟩ := HSHX.out (valsTo F C nd xp j) (by rw [HVL.out, HFL.out]) (fun k hk => valsTo_at F C nd xp j k (by have := HFL.out; omega))
          have hpv := pts_of_own (w := w12) (v := .slice av2 j cv2) (zs := valsTo F C nd xp j) (by rw [HVL.out]; exact HOWN.out) (by rw [HVL.out]; omega)
          have HSC := Lib.hid (share_any (.slice aF j cF) (.slice av2 j cv2) F (valsTo F C nd xp j) (valZ NC xp) true w12 HFW.out (by rw [HFL.out]; omega) (by rw [HVL.out]; omega) (HF10.out.only HO1012.out) hpv hsz hsb)
          obtain ⟨vz, hvv⟩ : ∃ vz, valZ NC xp = vz := ⟨_, rfl⟩
          rw [hvv] at HSC HPBX HJN hvz hvz0
          have hvz1 : vz < 1152921504606845789 := hvz0.2
          clear hsb hsz hpv hvv HVL HOWN
          go_wp2_with fail
          refine HSC.out.mono ?_
          rintro e w13 ⟨rfl, hO13⟩
          have HO13 := Lib.hid (HO12.out.trans hO13)
          have HO1013 := Lib.hid (HO1012.out.trans hO13)
          have hy := row_still HO1013.out HY10.out
          have z0 : _ = some (Value.slice (some ⟨b6, f6, none⟩) nd c6) := cell_of_row _ _ 0 _ _ _ hy
          have zl0 := own_lt0 hy
          have hxP := HO1013.out.cell HXP.out id
          have hbP13 : bP < w13.heap.size := Nat.lt_of_lt_of_le hbP HO1013.out.size
          obtain ⟨pz, hpz⟩ : ∃ pz, powM 4 vz 2305843009213691579 = pz := ⟨_, rfl⟩
          have HPU := Lib.hid (fun w => public_is vz pz w hvz0.1 hvz.2 hpz)
          have HAT := Lib.hid (fun (w' : World) (h : Only (fun _ => False) w13 w') => show Calls Tryz.prog 26 #[.slice (some ⟨b6, f6, none⟩) nd c6, .int .i64 xp] w' (fun e wT => e = .returned (.int .i64 pz) ∧ w' = wT) from by
            have := rat_any (.slice (some ⟨b6, f6, none⟩) nd c6) KN xp w' (HPA10.out.only (HO1013.out.trans h)) (by rw [HKNL.out]; omega)
            rw [HPBX.out, hpz] at this
            exact this)
          have q1x : (pz != pz) = false := by simp
          have y0 := fun (d : Nat) (os : Array Obj) => cell_regrown z0 d os
          have y1 := fun (d : Nat) (os : Array Obj) => cell_regrown hxP d os
          clear hO13 hy hpz HSC
          go_wp2_with fail
          clear z0 hxP
          refine wp_region_quiet_below (by kernel_rfl) (by kernel_rfl) ?_
          repeat (go_big_quiet_step ((first | (go_at_call 25; exact Calls.regrown_of ((HPU.out _).mono fun _ _ h => ⟨h.1, by rw [← h.2]; exact Below.refl _ _⟩)) | (go_at_call 26; exact Calls.regrown_of ((HAT.out _ (Only.ofBelow (below_regrown _ _ _) _)).mono fun _ _ h => ⟨h.1, by rw [← h.2]; exact Below.refl _ _⟩)))))
          refine wpQuiet_nil ?_
          intro w14 hw'
          obtain ⟨pq3, hw''⟩ := hw'
          have HO14 := Lib.hid (Only.ofBelow (below_regrown w13 pq3.d pq3.os) (fun _ => False))
          rw [← hw''] at HO14
          have HJ14 := Lib.hid (HJ.out.frame (HO13.out.trans HO14.out))
          have hxP14 := HJ14.out.only.cell HXP.out id
          have hbP14 : bP < w14.heap.size := Nat.lt_of_lt_of_le hbP HJ14.out.only.size
          have HJA := Lib.hid (HJ14.out.frame ((Only.refl (fun _ => False) w14).alloc (.cells #[.int .i64 xp, .int .i64 vz] 53)))
          have hownA := HJA.out.own
          rw [HSL.out] at hownA
          have hs14 := HJ14.out.only.size
          clear hw'' y0 y1 HPU HAT q1x HJ14
          go_wp2_with (at_builtin; refine wpList_append_lies _ rfl _ _ 49 rfl w10.heap.size 53 j0 _ 2 16 Tryz.underlying49 hj0 hy0 hy1 hy2 rfl (by decide) _ sl (srow (jnTo PT NC [] i)) rfl hownA ⟨w14.heap.size, 0, none⟩ 1 1 [.int .i64 xp, .int .i64 vz] rfl rfl (World.news_of_block (cs := #[.int .i64 xp, .int .i64 vz]) (t := 53) (fr := (0, 0)) (heap_alloc_new w14 _)) (pair_int _ _) (by decide) ?c1 ?c2 ?c3 _ rfl ?_)
          case c1 => unfold maxLen; omega
          case c2 => omega
          case c3 => first | omega | (simp; omega)
          intro g6 cp6 w15 ho6 hg6 ha6 hgl6
          have HJ6 := Lib.hid (HJA.out.more (m := 1) (t := [(xp, vz)]) HSL.out rfl ho6 (by rw [HSL.out]; exact hg6))
          clear ho6 hg6 ha6 hgl6 hownA HJA
          go_wp2
          go_roundw
          case rel => exact ⟨i + 1, by omega, by go_num, by rw [HJN.out]; exact HJ6.out⟩
          case measure => simp [intOf]; omega
    · obtain rfl : i = nd := by omega
      have i1 : ¬ (i : Int) < i := by omega
      have hy := row_still HJ.out.only HY10.out
      have z0 : _ = some (Value.slice (some ⟨b6, f6, none⟩) i c6) := cell_of_row _ _ 0 _ _ _ hy
      have zl0 := own_lt0 hy
      have HS6 := Lib.hid (shs_of_own HJ.out.own (by rw [HSL.out]; omega))
      obtain ⟨he, hz⟩ := jn_join PT NC [] [] HPTD.out i HPTL.out hmm1 HNCL.out (HNCB.out 0)
      rw [List.append_nil] at he hz
      have HWJ := Lib.hid (jnTo_w PT NC [] i (fun j => HPTB.out j) ⟨fun j => by simp [shAt]⟩)
      have HJN := Lib.hid (join_any i (.slice av sl cv) (jnTo PT NC [] i) (ptAt NC 0) true w11 HWJ.out (by rw [HSL.out]; omega) (by omega) (by have := HS6.out; rw [HSL.out] at this; exact this) hz he)
      rw [HNC0.out] at HJN
      obtain ⟨bc, fc, rfl, hbc, hlc, hcc1, hcc2, hcc⟩ := HC10.out.cellAt (k := 0) (by omega)
      have hcc3 : nd0 ≤ cc := by omega
      rw [Nat.add_zero] at hcc
      clear hy he hz hlc hcc1
      go_wp2_with fail
      refine HJN.out.mono ?_
      rintro e w12 ⟨rfl, hO12⟩
      have HO12 := Lib.hid (HJ.out.only.trans hO12)
      have hb := row_still HO12.out HB10.out
      have z2 : _ = some (Value.slice (some ⟨bc, fc, none⟩) nd0 cc) := cell_of_row _ _ 2 _ _ _ hb
      have zl2 := own_lt0 hb
      have hc0 := HO12.out.cell hcc id
      have hbc12 : bc < w12.heap.size := Nat.lt_of_lt_of_le hbc HO12.out.size
      have q7 : (ptAt C 0 == ptAt C 0) = true := beq_self_eq_true _
      have HBEL := Lib.hid ((HA.out.trans ((HO5.out.trans HO510.out).trans HO12.out)).below (B := w.heap.size) (Nat.le_refl _) (fun _ _ h => h))
      generalize ptAt C 0 = c0 at *
      clear hO12 hb hcc z0 zl0
      go_wp2
      go_ret
      exact ⟨rfl, HBEL.out⟩
end Go.Proofs.YtalclldccnichaaGreat
