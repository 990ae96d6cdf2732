/-
  The walk of the law WeightBegins.
-/
import Derived.Test.YtalclldccnichaaGreatWtH
import Derived.Test.YtalclldccnichaaGreatOpen
namespace Go.Proofs.YtalclldccnichaaGreat
open Go.RowKit

theorem made_right (zs : List Int) : rightB (crewZ zs) = true := crew_right zs 1
theorem made_ok (zs : List Int) : CrewOk (crewZ zs) (ndZ zs) := crew_ok zs 1 (by decide)
/-- The dealings of a group that was made fit. -/
theorem made_fit (zs : List Int) : begB (crewZ zs) (dealsZ zs) = true := by
  have hr := made_right zs
  have hk := made_ok zs
  have hs := right_sum hr
  have ht := crew_tot hr hk
  have hl : (dealsZ zs).length = (crewZ zs).length := dlsTo_len _ _ _ _
  have hn : (boxTo (crewZ zs) (crewZ zs).length).length = nOf (crewZ zs) := by have := ht.1; have := hs.2.2.2.2.2.2.2; omega
  unfold begB
  rw [hr, decide_eq_true (show 1 ≤ (dealsZ zs).length by rw [hl]; exact hk.len1), fit_yes]
  · rfl
  · intro j hj
    rw [hl] at hj
    have h1 := dl_ok (crewZ zs) firstS (ndZ zs) (nOf (crewZ zs)) j hk.nd1 hk.nd2 hn
    have e : dlAt (dealsZ zs) j = dlOf (crewZ zs) firstS (ndZ zs) j := dlsTo_at _ _ _ _ _ hj
    rw [e, decide_eq_true (show (dlOf (crewZ zs) firstS (ndZ zs) j).cm.length = ndOf (crewZ zs) from h1.2), Bool.and_true]
    have hc := h1.1
    unfold chkB
    rw [decide_eq_true hc.bl, decide_eq_true hc.c1, decide_eq_true hc.c2, hc.cm, hc.pt, b16_yes _ (fun k hk => hc.b16 k (by have := hc.bl; omega))]
    rfl
theorem made_col (zs : List Int) : colTo (dealsZ zs) (ndOf (crewZ zs)) (ndOf (crewZ zs)) = commZ zs := by
  unfold commZ
  rw [mix_col]
  rfl
theorem short_points {l : List Mb} (h : rightB l = true) : Short (pointsOf l) := by
  obtain ⟨⟨h1, h2⟩, h3, h4⟩ := right_parts h
  intro j
  by_cases hj : j < l.length
  · rw [pointsOf_at l j hj, rowsAt_len]
    have := ((mbOk_wt l l.length h3).1 j hj).2
    omega
  · have : (pointsOf l).getD j [] = [] := by simp [List.getD, List.getElem?_eq_none (show (pointsOf l).length ≤ j by rw [pointsOf_len]; omega)]
    rw [this]; decide
theorem deals_short {qs : List (Value × Dl × Value)} {l : List Mb} {seed : ByteArray} {nd k : Nat} (hq : qs.map (·.2.1) = dlsTo l seed nd k) : ∀ q ∈ qs, q.2.1.cm.length = nd ∧ q.2.1.bx.length = (boxTo l l.length).length := by
  intro q hm
  obtain ⟨j, hj, rfl⟩ := List.mem_iff_getElem.1 hm
  have hk : qs.length = k := by have := congrArg List.length hq; rw [List.length_map, dlsTo_len] at this; exact this
  have h1 : qs[j].2.1 = dlAt (dlsTo l seed nd k) j := by rw [← hq]; simp [dlAt, List.getD, hj]
  rw [h1, dlsTo_at _ _ _ _ _ (by omega)]
  unfold dlOf dealZ
  dsimp only
  rw [cmTo_len, polyTo_len, bxTo_len]
  exact ⟨rfl, rfl⟩

set_option maxRecDepth 100000 in
set_option maxHeartbeats 4000000 in
theorem bg_walk (lv : Value) (zs : List Int) (q0 q1 q2 : Int) (w : World) (hl : PtsAt w.heap.size w lv zs)
    (hlc : ∃ a c, lv = .slice a zs.length c ∧ zs.length ≤ c ∧ c ≤ 9223372036854775807) :
    Calls Tryz.prog 3 #[lv, .agg #[.int .i64 q0, .int .i64 q1, .int .i64 q2]] w fun e w' => e = .returned (.bool true) ∧ Below w.heap.size w w' := by
  obtain ⟨la, lc, rfl, hl1, hl2⟩ := hlc
  have hA := (Only.refl (fun _ => False) w).alloc (.cells #[.int .i64 q0, .int .i64 q1, .int .i64 q2] 23)
  have HA := Lib.hid hA
  have HL := Lib.hid (hl.only hA)
  have HQ0 := Lib.hid (heap_alloc_last w (.cells #[.int .i64 q0, .int .i64 q1, .int .i64 q2] 23))
  clear hl hA
  go_enter Tryz.func3, Tryz.ntmps3
  go_wp2_with fail
  refine (sanity_any _).mono ?_
  rintro e w1 ⟨rfl, hO1⟩
  have HO1 := Lib.hid hO1
  clear hO1
  go_wp2_with fail
  refine (rmade_any _ zs w1 (HL.out.only HO1.out) (by omega)).mono ?_
  rintro e w2 ⟨hO2, vm, vs, vc, vk, vp, rfl, hM, hS, hC, hK, hG⟩
  have HO2 := Lib.hid (HO1.out.trans hO2)
  have HR := Lib.hid (made_right zs)
  have HOK := Lib.hid (made_ok zs)
  have HFT := Lib.hid (made_fit zs)
  have HCOL := Lib.hid (made_col zs)
  have HCC := Lib.hid (comm_coef zs)
  have HCM := Lib.hid (comm_mem zs)
  have HM := Lib.hid hM
  have HC := Lib.hid hC
  have HK := Lib.hid hK
  have HG := Lib.hid hG
  have HWT := Lib.hid (fun j => crew_wt zs 1 (manyZ zs) j)
  have hcl : (coefZ zs).length = ndZ zs := coefTo_len _ _ _
  have hkl : (commZ zs).length = ndZ zs := mixL_len _ _ _
  have HCB := Lib.hid (fun j => show 0 ≤ ptAt (coefZ zs) j ∧ ptAt (coefZ zs) j ≤ 9223372036854775807 from by have := coefTo_bd (crewZ zs) (ndZ zs) (crewZ zs).length j; unfold coefZ; omega)
  have hnd60 : ndZ zs ≤ 60 := Nat.le_trans HOK.out.nd2 HOK.out.many
  obtain ⟨bm, om, cm, hvm, hbm, hcm1, hcm2, hmc⟩ : ∃ b off c, vm = .slice (some ⟨b, off, none⟩) (crewZ zs).length c ∧ b < w2.heap.size ∧ (crewZ zs).length ≤ c ∧ c ≤ 9223372036854775807 ∧ ∀ j, j < (crewZ zs).length → w2.cell? ⟨b, off + j * 3, none⟩ = some (.int .i64 (mbAt (crewZ zs) j).id) ∧ w2.cell? ⟨b, off + j * 3 + 1, none⟩ = some (.int .i64 (mbAt (crewZ zs) j).wt) ∧ w2.cell? ⟨b, off + j * 3 + 2, none⟩ = some (.int .i64 (mbAt (crewZ zs) j).pb) := by
    rcases hM with ⟨_, _, _, h0⟩ | ⟨b, off, cap, hv, hb, h1, h2, hc⟩
    · have := HOK.out.len1; rw [h0] at this; simp at this
    · exact ⟨b, off, cap, hv, hb, h1, h2, hc⟩
  subst hvm
  obtain ⟨ax, cx, rfl⟩ := hS.slice
  obtain ⟨ac, cc, rfl⟩ := hC.slice
  obtain ⟨ak, ck, rfl⟩ := hK.slice
  obtain ⟨ap, cp, rfl⟩ := hG.slice
  have HMC := Lib.hid hmc
  have HDS := Lib.hid (fun q h => deals_short (qs := q) (l := crewZ zs) (seed := firstS) (nd := ndZ zs) (k := (crewZ zs).length) h)
  have HCL := Lib.hid hcl
  have HKL := Lib.hid hkl
  generalize (secTo 1 (manyZ zs)).length = ns at *
  have HCZ := Lib.hid (show crewZ zs = crewTo zs 1 (manyZ zs) from rfl)
  rw [← HCZ.out] at HWT
  have HDZ := Lib.hid (show dealsZ zs = dlsTo (crewZ zs) firstS (ndZ zs) (crewZ zs).length from rfl)
  clear hO2 hM hS hC hK hG hmc hcl hkl HCZ
  have HNF := Lib.hid (show ndZ zs = ndOf (crewZ zs) from rfl)
  generalize crewZ zs = M at *
  generalize hnd0 : ndZ zs = nd at *
  generalize coefZ zs = C at *
  generalize commZ zs = KC at *
  generalize dealsZ zs = DZ at *
  have ROWd : True := trivial
  have HB := Lib.hid (heap_alloc_last w2 (.cells #[.slice (some ⟨bm, om, none⟩) M.length cm, .slice ax ns cx, .slice ac C.length cc, .slice ak KC.length ck, .slice ap (pointsOf M).length cp] 30))
  have hA3 : Only (fun _ => False) w2 (w2.alloc (.cells #[.slice (some ⟨bm, om, none⟩) M.length cm, .slice ax ns cx, .slice ac C.length cc, .slice ak KC.length ck, .slice ap (pointsOf M).length cp] 30)) := (Only.refl _ w2).alloc _
  have HA3 := Lib.hid hA3
  have hM1 := HOK.out.len1
  have hM2 := HOK.out.len2
  have hb3 : bm < (w2.alloc (.cells #[.slice (some ⟨bm, om, none⟩) M.length cm, .slice ax ns cx, .slice ac C.length cc, .slice ak KC.length ck, .slice ap (pointsOf M).length cp] 30)).heap.size := by rw [World.size_alloc]; omega
  have HB3 := Lib.hid hb3
  clear hA3 hb3 ROWd
  go_wp2_with fail
  refine (rdealings_some bm om cm M ⟨#[102, 105, 114, 115, 116]⟩ nd _ HB3.out hcm1 hcm2 HOK.out (by decide) (fun j hj => ⟨HA3.out.cell (HMC.out j hj).1 id, HA3.out.cell (HMC.out j hj).2.1 id, HA3.out.cell (HMC.out j hj).2.2 id⟩)).mono ?_
  rintro e w3 ⟨vd, qs, rfl, hD, hqs⟩
  have HN3 := Lib.hid (HA3.out.trans hD.only)
  have HBT := Lib.hid (show BtIn w3 (w2.heap.size + 1) vd qs from by
    have hql : qs.length = M.length := by have := congrArg List.length hqs; rw [List.length_map, dlsTo_len] at this; exact this
    have hmine := hD.mine
    rw [World.size_alloc] at hmine
    refine ⟨hmine, by have := hD.only.size; rw [World.size_alloc] at this; exact this, by omega, by omega, fun q hq => ?_⟩
    have h1 := HDS.out qs hqs q hq
    have h2 := HOK.out.nd1
    have h3 := HOK.out.nd2
    have h4 := HOK.out.many
    omega)
  obtain ⟨HD1, HD2⟩ := HBT.out.ds.fin 100 ⟨HBT.out.len2, by decide⟩ (fun q hq => by have := HBT.out.each q hq; omega)
  have HDL := Lib.hid (show DlsAt w3 vd DZ by rw [HDZ.out]; exact hqs ▸ HD1)
  have HDSS := Lib.hid (show DlsS DZ by rw [HDZ.out]; exact hqs ▸ HD2)
  have HB4 := Lib.hid (row_still hD.only HB.out)
  have HM3 := Lib.hid (HM.out.only HN3.out)
  obtain ⟨ad, nd0, cd, hvd⟩ : ∃ a n c, vd = .slice a n c := by obtain ⟨a, c, h⟩ := slice_of_own hD.own; exact ⟨a, _, c, h⟩
  subst hvd
  have e0 := cell_of_row _ _ 0 _ _ _ HB4.out
  have l3 := own_lt0 HB4.out
  clear hD hqs HD1 HD2 HB
  go_wp2_with fail
  refine (begin_is _ _ M DZ w3 HM3.out HOK.out.w HDL.out HDSS.out).mono ?_
  rintro e w4 ⟨hO4, ⟨_, v1, v2, rfl, hown1, hG1⟩ | ⟨hb, rfl⟩⟩
  rotate_left
  · exact absurd hb (by rw [HFT.out]; decide)
  rw [HCOL.out] at hown1
  have HP1 := Lib.hid (pts_of_own hown1 (by rw [HKL.out]; omega))
  have HG1 := Lib.hid hG1
  obtain ⟨a1, c1, rfl⟩ := slice_of_own hown1
  obtain ⟨a2, c2, rfl⟩ := hG1.slice
  have HO4 := Lib.hid hO4
  have hA4 : Only (fun _ => False) w4 (w4.alloc (.cells #[.slice a1 KC.length c1, .slice a2 (pointsOf M).length c2] 28)) := (Only.refl _ w4).alloc _
  have HN4 := Lib.hid (hO4.trans hA4)
  have HK1 := Lib.hid (heap_alloc_last w4 (.cells #[.slice a1 KC.length c1, .slice a2 (pointsOf M).length c2] 28))
  have HB5 := Lib.hid (row_still HN4.out HB4.out)
  have HPA := Lib.hid (HP1.out.only hA4)
  have HGA := Lib.hid (HG1.out.only hA4)
  clear hO4 hown1 hG1 hA4 e0 l3 HP1 HG1
  go_upto_region 5 with fail
  generalize hwA : (w4.alloc (.cells #[.slice a1 KC.length c1, .slice a2 (pointsOf M).length c2] 28)) = wA at *
  have HTS := Lib.hid (show ∀ w', Only (fun _ => False) wA w' → w'.cell? ⟨w4.heap.size, 0, none⟩ = some (.slice a1 KC.length c1) ∧ w'.cell? ⟨w4.heap.size, 1, none⟩ = some (.slice a2 (pointsOf M).length c2) ∧ w'.cell? ⟨w2.heap.size, 2, none⟩ = some (.slice ac C.length cc) ∧ w'.cell? ⟨w2.heap.size, 3, none⟩ = some (.slice ak KC.length ck) ∧ w'.cell? ⟨w2.heap.size, 4, none⟩ = some (.slice ap (pointsOf M).length cp) ∧ Only (fun _ => False) wA w' from fun w' h => by
    have hb := row_still h HK1.out
    have hb2 := row_still h HB5.out
    exact ⟨cell_of_row _ _ 0 _ _ _ hb, cell_of_row _ _ 1 _ _ _ hb, cell_of_row _ _ 2 _ _ _ hb2, cell_of_row _ _ 3 _ _ _ hb2, cell_of_row _ _ 4 _ _ _ hb2, h⟩)
  have HNA := Lib.hid (HN3.out.trans HN4.out)
  obtain ⟨s1, s2, s3, s4, s5, s6, s7, s8⟩ := right_sum HR.out
  have HSM := Lib.hid (show ∀ w', (w'.cell? ⟨w4.heap.size, 0, none⟩ = some (.slice a1 KC.length c1) ∧ w'.cell? ⟨w4.heap.size, 1, none⟩ = some (.slice a2 (pointsOf M).length c2) ∧ w'.cell? ⟨w2.heap.size, 2, none⟩ = some (.slice ac C.length cc) ∧ w'.cell? ⟨w2.heap.size, 3, none⟩ = some (.slice ak KC.length ck) ∧ w'.cell? ⟨w2.heap.size, 4, none⟩ = some (.slice ap (pointsOf M).length cp) ∧ Only (fun _ => False) wA w') → Calls Tryz.prog 10 #[.agg #[.slice a1 KC.length c1, .slice a2 (pointsOf M).length c2], .agg #[.slice ak KC.length ck, .slice ap (pointsOf M).length cp]] w' (fun e wS => e = .returned (.bool true) ∧ Only (fun _ => False) wA wS) from fun w' h => by
    have h7 := h.2.2.2.2.2
    exact (rsame_is _ _ _ _ KC KC (pointsOf M) (pointsOf M) true w' (by rw [HKL.out]; omega) (short_points HR.out) (by rw [pointsOf_len]; omega) (HPA.out.only h7) (HK.out.only (HNA.out.trans h7)) (HGA.out.only h7) (HG.out.only (HNA.out.trans h7)) (decide_eq_true ⟨rfl, rfl⟩)).mono fun e wS hh => ⟨hh.1, h7.trans hh.2⟩)
  have HCO := Lib.hid (show ∀ w', (w'.cell? ⟨w4.heap.size, 0, none⟩ = some (.slice a1 KC.length c1) ∧ w'.cell? ⟨w4.heap.size, 1, none⟩ = some (.slice a2 (pointsOf M).length c2) ∧ w'.cell? ⟨w2.heap.size, 2, none⟩ = some (.slice ac C.length cc) ∧ w'.cell? ⟨w2.heap.size, 3, none⟩ = some (.slice ak KC.length ck) ∧ w'.cell? ⟨w2.heap.size, 4, none⟩ = some (.slice ap (pointsOf M).length cp) ∧ Only (fun _ => False) wA w') → Calls Tryz.prog 12 #[.slice ac C.length cc] w' (fun e wC => ∃ v, e = .returned v ∧ PtsAt wC.heap.size wC v KC ∧ Only (fun _ => False) wA wC) from fun w' h => by
    have h7 := h.2.2.2.2.2
    refine (rcommits_any _ C w' (HC.out.only (HNA.out.trans h7)) (by rw [HCL.out]; omega) HCB.out).mono fun e wC hh => ?_
    obtain ⟨v, he, hv, hO⟩ := hh
    refine ⟨v, he, ?_, h7.trans hO⟩
    have := pts_of_own hv (by rw [cmTo_len, HCL.out]; omega)
    rw [HCL.out, ← HCC.out] at this
    exact this)
  have HIN := Lib.hid (show ∀ wC v w', PtsAt wC.heap.size wC v KC → Only (fun _ => False) wC w' → (w'.cell? ⟨w4.heap.size, 0, none⟩ = some (.slice a1 KC.length c1) ∧ w'.cell? ⟨w4.heap.size, 1, none⟩ = some (.slice a2 (pointsOf M).length c2) ∧ w'.cell? ⟨w2.heap.size, 2, none⟩ = some (.slice ac C.length cc) ∧ w'.cell? ⟨w2.heap.size, 3, none⟩ = some (.slice ak KC.length ck) ∧ w'.cell? ⟨w2.heap.size, 4, none⟩ = some (.slice ap (pointsOf M).length cp) ∧ Only (fun _ => False) wA w') → Calls Tryz.prog 11 #[.slice a1 KC.length c1, v] w' (fun e wI => e = .returned (.bool true) ∧ Only (fun _ => False) wA wI) from fun wC v w' hp hO h => by
    have h7 := h.2.2.2.2.2
    refine (rints_is _ _ KC KC true w' (by rw [HKL.out]; omega) (HPA.out.only h7) (hp.only hO) (decide_eq_true rfl)).mono fun e wI hh => ?_
    obtain ⟨he, n, hn⟩ := hh
    exact ⟨he, by rw [hn]; exact h7.drewN n⟩)
  have HRI := Lib.hid (show ∀ w', (w'.cell? ⟨w4.heap.size, 0, none⟩ = some (.slice a1 KC.length c1) ∧ w'.cell? ⟨w4.heap.size, 1, none⟩ = some (.slice a2 (pointsOf M).length c2) ∧ w'.cell? ⟨w2.heap.size, 2, none⟩ = some (.slice ac C.length cc) ∧ w'.cell? ⟨w2.heap.size, 3, none⟩ = some (.slice ak KC.length ck) ∧ w'.cell? ⟨w2.heap.size, 4, none⟩ = some (.slice ap (pointsOf M).length cp) ∧ Only (fun _ => False) wA w') → Calls Tryz.prog 13 #[.agg #[.slice a1 KC.length c1, .slice a2 (pointsOf M).length c2]] w' (fun e wR => e = .returned (.bool true) ∧ Only (fun _ => False) wA wR) from fun w' h => by
    have h7 := h.2.2.2.2.2
    exact (right_is a1 a2 c1 c2 KC (pointsOf M) true w' (HPA.out.only h7) (HGA.out.only h7) (fun k hk => s1 k (by rw [pointsOf_len] at hk; exact hk)) (by rw [HKL.out]; omega) (right_keys HR.out (by rw [HKL.out]; exact HNF.out) HCM.out)).mono fun e wR hh => ⟨hh.1, h7.trans hh.2⟩)
  obtain ⟨y0, y1, y2, y3, y4, _⟩ := HTS.out wA (Only.refl _ _)
  have lk := own_lt0 HK1.out
  have lg := own_lt0 HB5.out
  clear s1 s2 s5
  go_cut [50] (fun v50 wx => v50 = .bool false ∧ Only (fun _ => False) wA wx)
  case first =>
    go_region_held3 (fun w' => w'.cell? ⟨w4.heap.size, 0, none⟩ = some (.slice a1 KC.length c1) ∧ w'.cell? ⟨w4.heap.size, 1, none⟩ = some (.slice a2 (pointsOf M).length c2) ∧ w'.cell? ⟨w2.heap.size, 2, none⟩ = some (.slice ac C.length cc) ∧ w'.cell? ⟨w2.heap.size, 3, none⟩ = some (.slice ak KC.length ck) ∧ w'.cell? ⟨w2.heap.size, 4, none⟩ = some (.slice ap (pointsOf M).length cp) ∧ Only (fun _ => False) wA w')
      (first
        | with_reducible exact HTS.out _ ((Only.refl _ wA).drew)
        | with_reducible exact HTS.out _ hSR
        | with_reducible exact HTS.out _ hSI
        | with_reducible exact HTS.out _ hSC
        | with_reducible exact HTS.out _ hSS)
      (first
        | (go_at_call 10; refine (HSM.out _ (by assumption)).mono ?_; rintro e wS ⟨rfl, hSS⟩)
        | (go_at_call 12; refine (HCO.out _ (by assumption)).mono ?_; rintro e wC ⟨vC, rfl, hvC, hSC⟩; obtain ⟨aC, cC, rfl⟩ := hvC.slice)
        | (go_at_call 11; refine (HIN.out _ _ _ hvC (by first | exact Only.refl _ _) (by assumption)).mono ?_; rintro e wI ⟨rfl, hSI⟩)
        | (go_at_call 13; refine (HRI.out _ (by assumption)).mono ?_; rintro e wR ⟨rfl, hSR⟩))
    all_goals (clear HTS HSM HCO HIN HRI)
    all_goals (go_wp2_with fail)
    all_goals (go_meet)
    all_goals (exact ⟨rfl, hSR⟩)
  case rest =>
    obtain ⟨rfl, hOc⟩ := hcut
    have HOC := Lib.hid hOc
    have HN5 := Lib.hid (HN4.out.trans hOc)
    have hb2 := row_still hOc HB5.out
    have hq2 : wc.heap[w.heap.size]? = some (.cells #[.int .i64 q0, .int .i64 q1, .int .i64 q2] 23 (0, 0)) := row_still (((HO2.out.trans HN3.out).trans HN4.out).trans hOc) HQ0.out
    have e0 := cell_of_row _ _ 0 _ _ _ hb2
    have b0 := cell_of_row _ _ 0 _ _ _ hq2
    have b1 := cell_of_row _ _ 1 _ _ _ hq2
    have b2 := cell_of_row _ _ 2 _ _ _ hq2
    have l0 := own_lt0 hq2
    have l1 := own_lt0 hb2
    have HBI := Lib.hid (show BtIn wc (w2.heap.size + 1) (.slice ad nd0 cd) qs from ⟨HBT.out.ds.keep HN5.out (fun _ _ h => h), by have := HBT.out.low; have := HN5.out.size; omega, HBT.out.len1, HBT.out.len2, HBT.out.each⟩)
    clear hOc hb2 hq2 y0 y1 y2 y3 y4 lk lg HTS HSM HCO HIN HRI
    go_wp2_with fail
    refine (bent_any (w2.heap.size + 1) _ _ qs M q0 q1 q2 wc HBI.out (HM3.out.only HN5.out) HOK.out.w hM1 hM2 (fun j => by have := HWT.out j; omega)).mono ?_
    rintro e w6 ⟨hO6, v6, v7, ds, l2, rfl, hds, hdS, hm2, hmw⟩
    have HO6 := Lib.hid ((HN3.out.trans HN5.out).trans hO6)
    have HDS2 := Lib.hid hds
    have HDSX := Lib.hid hdS
    have HM2 := Lib.hid hm2
    have HMW := Lib.hid hmw
    obtain ⟨a6, c6, rfl⟩ := hds.slice
    obtain ⟨a7, c7, rfl⟩ := hm2.slice
    clear hO6 hds hdS hm2 hmw e0 b0 b1 b2 l0 l1 HBI HBT HPA HGA HK HG HC
    go_wp2_with fail
    refine (begin_is _ _ l2 ds w6 HM2.out HMW.out HDS2.out HDSX.out).mono ?_
    rintro e wP ⟨hOP, ⟨hb, vx, vy, rfl, hownx, hGx⟩ | ⟨hb, rfl⟩⟩
    · have HOP := Lib.hid hOP
      have HBB := Lib.hid hb
      have hrt := (begB_parts hb).1
      have HRT := Lib.hid hrt
      have hs2 := right_sum hrt
      have HPX := Lib.hid (pts_of_own hownx (by rw [colTo_len]; omega))
      have HGX := Lib.hid hGx
      obtain ⟨x1, y1, rfl⟩ := slice_of_own hownx
      obtain ⟨x2, y2, rfl⟩ := hGx.slice
      have HMX := Lib.hid (mix_col ds (ndOf l2))
      have HCLL := Lib.hid (show (colTo ds (ndOf l2) (ndOf l2)).length ≤ 9223372036854775807 by rw [colTo_len]; omega)
      generalize colTo ds (ndOf l2) (ndOf l2) = CL at *
      clear hOP hownx hGx hb hrt
      have hAP : Only (fun _ => False) wP (wP.alloc (.cells #[.slice x1 CL.length y1, .slice x2 (pointsOf l2).length y2] 28)) := (Only.refl _ wP).alloc _
      have HAP := Lib.hid hAP
      have HKP := Lib.hid (heap_alloc_last wP (.cells #[.slice x1 CL.length y1, .slice x2 (pointsOf l2).length y2] 28))
      clear hAP
      go_wp2_with fail
      refine (rbegin_is _ _ l2 ds _ (HM2.out.only (HOP.out.trans HAP.out)) HMW.out (HDS2.out.only (HOP.out.trans HAP.out)) HDSX.out).mono ?_
      rintro e wQ ⟨hOQ, ⟨_, _, v3, v4, rfl, hown3, us, hG4⟩ | ⟨hb, rfl⟩⟩
      rotate_left
      · exact absurd hb (by rw [HBB.out]; decide)
      rw [HMX.out] at hown3
      have HP3 := Lib.hid (pts_of_own hown3 HCLL.out)
      have HG4 := Lib.hid (points_grid hG4 HRT.out)
      obtain ⟨x3, y3, rfl⟩ := slice_of_own hown3
      obtain ⟨x4, y4, hx4⟩ := HG4.out.slice
      subst hx4
      have HOQ := Lib.hid hOQ
      have hAQ : Only (fun _ => False) wQ (wQ.alloc (.cells #[.slice x3 CL.length y3, .slice x4 (pointsOf l2).length y4] 28)) := (Only.refl _ wQ).alloc _
      have hkp := row_still (hOQ.trans hAQ) HKP.out
      have hkq := heap_alloc_last wQ (.cells #[.slice x3 CL.length y3, .slice x4 (pointsOf l2).length y4] 28)
      have HSM := Lib.hid (rsame_is _ _ _ _ CL CL (pointsOf l2) (pointsOf l2) true (wQ.alloc (.cells #[.slice x3 CL.length y3, .slice x4 (pointsOf l2).length y4] 28)) HCLL.out (short_points HRT.out) (by rw [pointsOf_len]; have := right_parts HRT.out; omega) (HPX.out.only ((HAP.out.trans hOQ).trans hAQ)) (HP3.out.only hAQ) (HGX.out.only ((HAP.out.trans hOQ).trans hAQ)) (HG4.out.only hAQ) (decide_eq_true ⟨rfl, rfl⟩))
      have HEND := Lib.hid (HO2.out.trans ((HO6.out.trans (HOP.out.trans (HAP.out.trans hOQ))).trans hAQ))
      have k0 := cell_of_row _ _ 0 _ _ _ hkp
      have k1 := cell_of_row _ _ 1 _ _ _ hkp
      have k2 := cell_of_row _ _ 0 _ _ _ hkq
      have k3 := cell_of_row _ _ 1 _ _ _ hkq
      have kl := own_lt0 hkp
      have kl2 := own_lt0 hkq
      clear hOQ hown3 hG4 hAQ hkp hkq
      go_wp2_with fail
      refine HSM.out.mono ?_
      rintro e wE ⟨rfl, hOE⟩
      have HBEL := Lib.hid (((HA.out.trans HEND.out).trans hOE).below (B := w.heap.size) (Nat.le_refl _) (fun _ _ h => h))
      clear hOE
      go_wp2
      go_ret
      exact ⟨rfl, HBEL.out⟩
    · have HOP := Lib.hid hOP
      have HBB := Lib.hid hb
      clear hOP hb
      have hAP : Only (fun _ => False) wP (wP.alloc (.cells #[.slice none 0 0, .slice none 0 0] 28)) := (Only.refl _ wP).alloc _
      have HAP := Lib.hid hAP
      have HKP := Lib.hid (heap_alloc_last wP (.cells #[.slice none 0 0, .slice none 0 0] 28))
      clear hAP
      go_wp2_with fail
      refine (rbegin_is _ _ l2 ds _ (HM2.out.only (HOP.out.trans HAP.out)) HMW.out (HDS2.out.only (HOP.out.trans HAP.out)) HDSX.out).mono ?_
      rintro e wQ ⟨hOQ, ⟨hb, _⟩ | ⟨_, rfl⟩⟩
      · exact absurd hb (by rw [HBB.out]; decide)
      have HOQ := Lib.hid hOQ
      have hAQ : Only (fun _ => False) wQ (wQ.alloc (.cells #[.slice none 0 0, .slice none 0 0] 28)) := (Only.refl _ wQ).alloc _
      have hkp := row_still (hOQ.trans hAQ) HKP.out
      have hkq := heap_alloc_last wQ (.cells #[.slice none 0 0, .slice none 0 0] 28)
      have HSM := Lib.hid (rsame_is (.slice none 0 0) (.slice none 0 0) (.slice none 0 0) (.slice none 0 0) [] [] [] [] true (wQ.alloc (.cells #[.slice none 0 0, .slice none 0 0] 28)) (by decide) (fun j => by simp) (by decide) (.inl ⟨_, _, rfl, rfl⟩) (.inl ⟨_, _, rfl, rfl⟩) (.inl ⟨_, _, rfl, rfl⟩) (.inl ⟨_, _, rfl, rfl⟩) (decide_eq_true ⟨rfl, rfl⟩))
      have HEND := Lib.hid (HO2.out.trans ((HO6.out.trans (HOP.out.trans (HAP.out.trans hOQ))).trans hAQ))
      have k0 := cell_of_row _ _ 0 _ _ _ hkp
      have k1 := cell_of_row _ _ 1 _ _ _ hkp
      have k2 := cell_of_row _ _ 0 _ _ _ hkq
      have k3 := cell_of_row _ _ 1 _ _ _ hkq
      have kl := own_lt0 hkp
      have kl2 := own_lt0 hkq
      clear hOQ hAQ hkp hkq
      go_wp2_with fail
      refine HSM.out.mono ?_
      rintro e wE ⟨rfl, hOE⟩
      have HBEL := Lib.hid (((HA.out.trans HEND.out).trans hOE).below (B := w.heap.size) (Nat.le_refl _) (fun _ _ h => h))
      clear hOE
      go_wp2
      go_ret
      exact ⟨rfl, HBEL.out⟩
end Go.Proofs.YtalclldccnichaaGreat
