/-
  The walk of the law WeightLifts.
-/
import Derived.Test.YtalclldccnichaaJnWalk
namespace Go.Proofs.Ytalclldccnichaa
open Go.RowKit

theorem lfTo_len (F C : List Int) (base : Int) : ∀ i, (lfTo F C base i).length = 3 * i
  | 0 => rfl
  | i + 1 => by rw [lfTo, List.length_append, lfTo_len F C base i]; show 3 * i + 3 = _; omega
theorem powP_r (a n : Int) : -9223372036854775808 ≤ powM a n 2305843009213691579 ∧ powM a n 2305843009213691579 ≤ 9223372036854775807 := by
  have := powM_bd a n 2305843009213691579 (by decide)
  omega
theorem lfTo_r (F C : List Int) (base : Int) (hF : ∀ j, 0 ≤ ptAt F j ∧ ptAt F j ≤ 60) : ∀ i, ∀ s ∈ lfTo F C base i, ShR s
  | 0, s, h => by simp [lfTo] at h
  | i + 1, s, h => by
    have hf := hF i
    rw [lfTo, List.mem_append] at h
    rcases h with h | h
    · exact lfTo_r F C base hF i s h
    · rw [lfAt] at h
      simp only [List.mem_cons, List.not_mem_nil, or_false] at h
      rcases h with rfl | rfl | rfl
      · exact ⟨by dsimp only; omega, by dsimp only; omega⟩
      · exact ⟨by dsimp only; omega, by dsimp only; omega⟩
      · exact ⟨by dsimp only; omega, powP_r _ _⟩

theorem Try.fieldY (a b : Int) (w : World) : (Instr.field 43 (.agg #[.int .i64 a, .int .i64 b]) 1).run Try.prog w = .ok (.int .i64 b) w := by kernel_rfl
theorem elem_mem (s : ByteArray) : memB (elemZ s) = true := by
  have h := emod_self_lt (numZ (shaL (strE ++ s))) 2305843009213691578 (by decide)
  have e : gP = 2305843009213691579 := rfl
  refine mem_of (in_square (x := elemX s) ?_)
  unfold elemX
  rw [Int.emod_eq_of_lt (by omega) (by omega)]
  omega

set_option maxRecDepth 100000 in
set_option maxHeartbeats 4000000 in
theorem lf_walk (lv pv : Value) (l p : List Int) (tx : ByteArray) (w : World) (hl : PtsAt w.heap.size w lv l) (hp : PtsAt w.heap.size w pv p) (htx : tx.size ≤ 9223372036854775807)
    (hlc : ∃ a c, lv = .slice a l.length c ∧ l.length ≤ c ∧ c ≤ 9223372036854775807) (hpc : ∃ a c, pv = .slice a p.length c ∧ p.length ≤ c ∧ c ≤ 9223372036854775807) :
    Calls Try.prog 5 #[lv, pv, .string tx] w fun e w' => e = .returned (.bool true) ∧ Below w.heap.size w w' := by
  obtain ⟨i0, hi0, hz0, hz1, hz2⟩ := info_parts Try.infoS
  obtain ⟨la, lc, rfl, hl1, hl2⟩ := hlc
  obtain ⟨pa, pc, rfl, hp1, hp2⟩ := hpc
  have HL := Lib.hid hl
  have HP := Lib.hid hp
  clear hl hp
  go_enter Try.func5, Try.ntmps5
  go_wp2_with fail
  refine (sanity_any _).mono ?_
  rintro e w1 ⟨rfl, hO1⟩
  have HO1 := Lib.hid hO1
  clear hO1
  go_wp2_with fail
  refine (rmade_any _ l w1 (HL.out.only HO1.out) (by omega)).mono ?_
  rintro e w2 ⟨hO2, vm, vs, vc, vk, vp, rfl, hM, hS, hC, hK, hG⟩
  obtain ⟨hk1, hk2, hk3, hk4, hk5, hk6⟩ := made_facts l
  have HO2 := Lib.hid (HO1.out.trans hO2)
  have HM := Lib.hid hM
  have HC := Lib.hid hC
  obtain ⟨am, cm, rfl⟩ := hM.slice
  obtain ⟨ax, cx, rfl⟩ := hS.slice
  obtain ⟨ac, cc, rfl⟩ := hC.slice
  obtain ⟨ak, ck, rfl⟩ := hK.slice
  obtain ⟨ap, cp, rfl⟩ := hG.slice
  have HOK := Lib.hid hk1
  have HTT := Lib.hid hk3
  have HCB := Lib.hid hk6
  have HCL := Lib.hid hk4
  have hn60 := hk1.many
  have hnd1 := hk1.nd1
  have hnd2 := hk1.nd2
  rw [hk4] at HC ⊢
  rw [hk5]
  generalize hM0 : crewZ l = M at *
  generalize hnd0 : ndZ l = nd at *
  generalize hC0 : coefZ l = C at *
  generalize (boxTo M M.length).length = n at *
  generalize (secTo 1 (manyZ l)).length = ns at *
  generalize (pointsOf M).length = np at *
  clear hO2 hM hS hC hK hG hk1 hk2 hk3 hk4 hk5 hk6 hM0 hnd0 hC0 HO1
  have HB := Lib.hid (heap_alloc_last w2 (.cells #[.slice am M.length cm, .slice ax ns cx, .slice ac nd cc, .slice ak nd ck, .slice ap np cp] 38))
  have HO3 := Lib.hid (HO2.out.alloc (.cells #[.slice am M.length cm, .slice ax ns cx, .slice ac nd cc, .slice ak nd ck, .slice ap np cp] 38))
  go_wp2_with (refine wpList_load_row rfl 38 _ rfl w2.heap.size rfl 38 #[.slice am M.length cm, .slice ax ns cx, .slice ac nd cc, .slice ak nd ck, .slice ap np cp] (0, 0) _ HB.out Try.underlying38 rfl Try.infoG ?_)
  refine (rchosen_any _ _ _ _ _ _ _ _ _ _ _ _ _ M p n nd _ (HM.out.only ((Only.refl _ w2).alloc _)) HOK.out.w HTT.out hnd2 hn60 (HP.out.only HO3.out) (by omega)).mono ?_
  rintro e w4 ⟨vf, rfl, hownF, hO4⟩
  have HFP := Lib.hid (pts_of_own hownF (by rw [choZ_len _ _ _ hnd2]; omega))
  have HFD := Lib.hid (choZ_diff p n nd hnd2 hn60)
  have HFL := Lib.hid (choZ_len p n nd hnd2)
  have HFB := Lib.hid (choZ_bd p n nd hnd2 hn60)
  obtain ⟨af, cf, rfl⟩ := slice_of_own hownF
  rw [HFL.out] at HFP ⊢
  have HB4 := Lib.hid (row_still hO4 HB.out)
  have HO4 := Lib.hid (HO3.out.trans hO4)
  have HC4 := Lib.hid (HC.out.only (((Only.refl (fun _ => False) w2).alloc _).trans hO4))
  generalize choZ p n nd = F at *
  obtain ⟨B, hB⟩ : ∃ B, w2.heap.size = B := ⟨_, rfl⟩
  rw [hB] at HB4
  clear hownF hO4 HB HO2 HO3 HM HC
  obtain ⟨tn, htn⟩ : ∃ tn, min tx.size 60 = tn := ⟨_, rfl⟩
  have ht1 : min (tx.size : Int) 60 = (tn : Int) := by omega
  have ht2 : tn ≤ 60 := by omega
  have ht3 : tn ≤ tx.size := by omega
  have ht4 : (tn : Int) ≤ tx.size := by omega
  clear htn
  go_wp2_with fail
  refine (relement_any _ _ ?hsz).mono ?_
  case hsz => (first | (rw [ByteArray.size_extract]; omega) | (simp; omega))
  rintro e w4b ⟨rfl, hO4b⟩
  have HBM := Lib.hid (elem_mem (tx.extract 0 tn))
  generalize elemZ (tx.extract 0 tn) = bz at *
  have HO5 := Lib.hid (HO4.out.trans hO4b)
  have HB5 := Lib.hid (row_still hO4b HB4.out)
  have HC5 := Lib.hid (HC4.out.only hO4b)
  have HFP5 := Lib.hid (HFP.out.only hO4b)
  clear hO4b HO4 HB4 HC4 HFP ht1 ht4
  go_wp2_with fail
  clear hB
  go_loopw [11, 12] (fun vs vi wr => ∃ i : Nat, i ≤ nd ∧ vi = .int .i64 i ∧ JnAt w4b wr vs (lfTo F C bz i)) (fun _ vi _ => nd - (intOf vi).toNat)
  case atStart => exact ⟨0, Nat.zero_le _, rfl, World.ownsRow_nil _ _ _ _, Only.refl _ _⟩
  case round =>
    obtain ⟨i, hi, rfl, hJ⟩ := hrel
    have HJ := Lib.hid hJ
    have HSL := Lib.hid (lfTo_len F C bz i)
    by_cases hlt : i < nd
    · have hif : i < F.length := by rw [HFL.out]; exact hlt
      obtain ⟨bf, of, rfl, hbf, hndF, hcf1, hcf2, hfc⟩ := HFP5.out.cellAt hif
      clear hndF
      have HJN := Lib.hid (show lfTo F C bz (i + 1) = lfTo F C bz i ++ [(ptAt F i, 0), (ptAt F i, 2305843009213691578), (ptAt F i, powM bz (valZ C (ptAt F i)) 2305843009213691579)] from rfl)
      have i1 : (i : Int) < nd := by omega
      have hcf3 : nd ≤ cf := by have := HFL.out; omega
      obtain ⟨av, cv, rfl⟩ := slice_of_own hJ.own
      rw [HSL.out]
      have hsw := hJ.only.size
      obtain ⟨fz, hfz⟩ : ∃ fz, ptAt F i = fz := ⟨_, rfl⟩
      obtain ⟨vz, hvz⟩ : ∃ vz, valZ C fz = vz := ⟨_, rfl⟩
      obtain ⟨pz, hpz⟩ : ∃ pz, powM bz vz 2305843009213691579 = pz := ⟨_, rfl⟩
      obtain ⟨v0, v1⟩ := valZ_bd C fz
      have hgq : gQ = 1152921504606845789 := rfl
      rw [hvz] at v0 v1
      rw [hgq] at v1
      rw [hfz] at hfc HJN
      rw [hvz, hpz] at HJN
      have HFC := Lib.hid hfc
      have HVZ := Lib.hid hvz
      have HPW := Lib.hid (fun w => rpow_any bz vz 2305843009213691579 w (by decide) (by decide) v0 (by omega))
      rw [hpz] at HPW
      clear hfz hvz hpz hgq hfc hJ
      have HTS := Lib.hid (show ∀ w', Only (fun _ => False) w4b w' → w'.cell? ⟨B, 0, none⟩ = some (.slice am M.length cm) ∧ w'.cell? ⟨B, 1, none⟩ = some (.slice ax ns cx) ∧ w'.cell? ⟨B, 2, none⟩ = some (.slice ac nd cc) ∧ w'.cell? ⟨B, 3, none⟩ = some (.slice ak nd ck) ∧ w'.cell? ⟨B, 4, none⟩ = some (.slice ap np cp) ∧ w'.cell? ⟨bf, of + i, none⟩ = some (.int .i64 fz) from fun w' h => by
        have hb := row_still h HB5.out
        exact ⟨cell_of_row _ _ 0 _ _ _ hb, cell_of_row _ _ 1 _ _ _ hb, cell_of_row _ _ 2 _ _ _ hb, cell_of_row _ _ 3 _ _ _ hb, cell_of_row _ _ 4 _ _ _ hb, h.cell (HFC.out) id⟩)
      have HAT := Lib.hid (show Calls Try.prog 14 #[.agg #[.slice am M.length cm, .slice ax ns cx, .slice ac nd cc, .slice ak nd ck, .slice ap np cp], .int .i64 fz] wr.drew (fun e wT => e = .returned (.agg #[.int .i64 fz, .int .i64 vz]) ∧ Only (fun _ => False) wr wT) from by
        have h7 : Only (fun _ => False) wr wr.drew := (Only.refl _ _).drew
        have hc := HC5.out.only (HJ.out.only.trans h7)
        rw [← HCL.out] at hc
        have := rgat_any am ax ac ak ap M.length ns nd np cm cx cc ck cp C fz wr.drew hc (by have := HCL.out; omega)
        rw [HCL.out, HVZ.out] at this
        exact this.mono fun e wT hh => ⟨hh.1, h7.trans hh.2⟩)
      obtain ⟨b0, b1, b2, b3, b4, b5⟩ := HTS.out wr HJ.out.only
      have hBl : B < wr.heap.size := by have := HJ.out.only.size; have := own_lt0 HB5.out; omega
      have hBf : bf < wr.heap.size := by have := HJ.out.only.size; omega
      have HOWN := Lib.hid (show ∀ w', Only (fun _ => False) wr w' → w'.ownsRow w4b.heap.size 43 2 (.slice av (3 * i) cv) (3 * i) (srow (lfTo F C bz i)) from fun w' h => by
        have := (HJ.out.frame h).own
        rw [HSL.out] at this
        exact this)
      go_wp2_with fail
      have hfd := Try.fieldY
      go_region_held3 (fun w' => w'.cell? ⟨B, 0, none⟩ = some (.slice am M.length cm) ∧ w'.cell? ⟨B, 1, none⟩ = some (.slice ax ns cx) ∧ w'.cell? ⟨B, 2, none⟩ = some (.slice ac nd cc) ∧ w'.cell? ⟨B, 3, none⟩ = some (.slice ak nd ck) ∧ w'.cell? ⟨B, 4, none⟩ = some (.slice ap np cp) ∧ w'.cell? ⟨bf, of + i, none⟩ = some (.int .i64 fz))
        (first
          | with_reducible exact HTS.out _ (HJ.out.only.drew)
          | with_reducible exact HTS.out _ (HJ.out.only.trans hOT)
          | with_reducible exact HTS.out _ ((HJ.out.only.trans hOT).alloc _)
          | with_reducible exact HTS.out _ HJ6.out.only)
        (first
          | (go_at_call 14; refine HAT.out.mono ?_; rintro e wT ⟨rfl, hOT⟩)
          | (go_at_call 17; refine (HPW.out _).mono ?_; rintro e w' ⟨rfl, rfl⟩)
          | (refine step_append_lies _ (by rfl) _ _ 41 (by rfl) w4b.heap.size 43 i0 _ 2 16 Try.underlying41 hi0 hz0 hz1 hz2 rfl (by decide) (.slice av (3 * i) cv) (3 * i) (srow (lfTo F C bz i)) (by rfl) (HOWN.out _ (hOT.alloc _)) ⟨wT.heap.size, 0, none⟩ 3 3 [.int .i64 fz, .int .i64 0, .int .i64 fz, .int .i64 2305843009213691578, .int .i64 fz, .int .i64 pz] (by rfl) (by rfl) (World.news_of_block (cs := #[.int .i64 fz, .int .i64 0, .int .i64 fz, .int .i64 2305843009213691578, .int .i64 fz, .int .i64 pz]) (t := 43) (fr := (0, 0)) (heap_alloc_new wT _)) (six_int _ _ _ _ _ _) (by decide) (by unfold maxLen; omega) (by omega) (by have := hOT.size; have := HJ.out.only.size; rw [World.size_alloc]; omega) _ (by rfl) ?_
             intro g6 cp6 w6 ho6 hg6 ha6 hgl6
             have HJ6 := Lib.hid ((HJ.out.frame (hOT.alloc (.cells #[.int .i64 fz, .int .i64 0, .int .i64 fz, .int .i64 2305843009213691578, .int .i64 fz, .int .i64 pz] 43))).more (m := 3) (t := [(fz, 0), (fz, 2305843009213691578), (fz, pz)]) HSL.out rfl ho6 (by rw [HSL.out]; exact hg6))
             clear ho6 hg6 ha6))
      clear HTS HAT HOWN HPW hfd
      go_wp2
      go_roundw
      case rel => exact ⟨i + 1, by omega, by go_num, by rw [HJN.out]; exact HJ6.out⟩
      case measure => simp [intOf]; omega
    · obtain rfl : i = nd := by omega
      have i1 : ¬ (i : Int) < i := by omega
      have hown := hJ.own
      rw [HSL.out] at hown
      obtain ⟨av, cv, rfl⟩ := slice_of_own hown
      have HS1 := Lib.hid (shs_of_own hJ.own (by rw [HSL.out]; omega))
      have HW1 := Lib.hid (shsW_of (lfTo_r F C bz HFB.out i))
      obtain ⟨he, hz⟩ := lf_lift F C bz HFD.out HBM.out i HFL.out hnd1 HCL.out (HCB.out 0)
      have HE := Lib.hid he
      have HZ := Lib.hid hz
      have HM := Lib.hid (lf_more F C bz HFD.out HBM.out i HFL.out)
      have hb5 := row_still hJ.only HB5.out
      have e5 := cell_of_row _ _ 2 _ _ _ hb5
      have l5 := own_lt0 hb5
      clear hJ hown he hz hlt hi hb5
      go_wp2_with fail
      refine (lifted_any i _ (lfTo F C bz i) _ true wr HW1.out (by rw [HSL.out]; omega) (by omega) HS1.out HZ.out HE.out).mono ?_
      rintro e w5 ⟨rfl, hO5⟩
      have HJ5 := Lib.hid (HJ.out.only.trans hO5)
      have HS5 := Lib.hid (HS1.out.below hO5)
      have hb6 := row_still HJ5.out HB5.out
      have e6 := cell_of_row _ _ 2 _ _ _ hb6
      have l6 := own_lt0 hb6
      clear hO5 e5 l5 hb6 HS1
      go_wp2_with fail
      obtain ⟨lz, hlz⟩ : ∃ lz, liftedZ ((i : Int) + 1) (lfTo F C bz i) = lz := ⟨_, rfl⟩
      refine (lifted_any ((i : Int) + 1) _ (lfTo F C bz i) lz false w5 HW1.out (by rw [HSL.out]; omega) (by omega) HS5.out hlz HM.out).mono ?_
      rintro e w7 ⟨rfl, hO7⟩
      have HJ7 := Lib.hid (HJ5.out.trans hO7)
      obtain ⟨bc, oc2, rfl, hbc, hndC, hcc1, hcc2, hcc⟩ := (HC5.out.only HJ7.out).cellAt (k := 0) (by rw [HCL.out]; exact hnd1)
      have hb7 := row_still HJ7.out HB5.out
      have e7 := cell_of_row _ _ 2 _ _ _ hb7
      have l7 := own_lt0 hb7
      have hcc3 : i ≤ cc := by have := HCL.out; omega
      have hc0 := HCB.out 0
      have HBEL := Lib.hid ((HO5.out.trans HJ7.out).below (B := w.heap.size) (Nat.le_refl _) (fun _ _ h => h))
      generalize ptAt C 0 = c0 at *
      rw [Nat.add_zero] at hcc
      have HPW := Lib.hid (rpow_any bz c0 2305843009213691579 w7 (by decide) (by decide) hc0.1 (by omega))
      have q7 : (powM bz c0 2305843009213691579 == powM bz c0 2305843009213691579) = true := beq_self_eq_true _
      generalize powM bz c0 2305843009213691579 = pz at *
      clear hO7 hndC hb7 hlz e6 l6
      go_wp2_with (go_at_call 17; refine HPW.out.mono ?_; rintro e w' ⟨rfl, rfl⟩)
      go_ret
      exact ⟨rfl, HBEL.out⟩
end Go.Proofs.Ytalclldccnichaa
