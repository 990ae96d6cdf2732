/-
  Package weight: Again.
-/
import Derived.Test.YtalclldccnichaaGreatWtD
import Derived.Test.YtalclldccnichaaGreatWtE
import Derived.Test.YtalclldccnichaaGreatPowers
namespace Go.Proofs.YtalclldccnichaaGreat
open Go.RowKit

/-- Do the first k points have dealings of their shares? -/
def chainTo (rows : List (List Int)) (cm F : List Int) (ds : List Dl) : Nat → Bool
  | 0 => true
  | k + 1 => chainTo rows cm F ds k && (decide (ptAt F k ≤ gridN rows) && decide (ptAt (dlAt ds k).cm 0 = atZ cm (ptAt F k)))
theorem chainTo_false (rows : List (List Int)) (cm F : List Int) (ds : List Dl) : ∀ (k j : Nat), j ≤ k → chainTo rows cm F ds j = false → chainTo rows cm F ds k = false
  | 0, j, h, e => by obtain rfl : j = 0 := by omega
                     exact e
  | k + 1, j, h, e => by
    by_cases hj : j = k + 1
    · subst hj; exact e
    · rw [chainTo, chainTo_false rows cm F ds k j (by omega) e]; rfl
def headB (rows : List (List Int)) (cm F : List Int) (ds : List Dl) : Bool := rightKB rows cm && (decide (F.length = cm.length) && (decide (ds.length = F.length) && diffB F))
/-- Do dealings fit old keys and new members? -/
def agB (rows : List (List Int)) (cm : List Int) (l : List Mb) (F : List Int) (ds : List Dl) : Bool :=
  headB rows cm F ds && ((rightB l && fitB ds (nOf l) (ndOf l)) && chainTo rows cm F ds F.length)
/-- The commitments with one index, as they are collected. -/
def cjTo (ds : List Dl) (j : Nat) : Nat → List Int
  | 0 => zerosL ds.length
  | k + 1 => (cjTo ds j k).set k (ptAt (dlAt ds k).cm j)
theorem cjTo_len (ds : List Dl) (j : Nat) : ∀ k, (cjTo ds j k).length = ds.length
  | 0 => zerosL_len _
  | k + 1 => by rw [cjTo, List.length_set, cjTo_len ds j k]
theorem cjTo_in (ds : List Dl) (j : Nat) : ∀ k i, i < k → i < ds.length → ptAt (cjTo ds j k) i = ptAt (dlAt ds i).cm j
  | k + 1, i, h, h2 => by
    rw [cjTo, ptAt_set]
    by_cases e : k = i
    · subst e; rw [if_pos ⟨rfl, by rw [cjTo_len]; exact h2⟩]
    · rw [if_neg (fun c => e c.1), cjTo_in ds j k i (by omega) h2]
def colJ (ds : List Dl) (j : Nat) : List Int := cjTo ds j ds.length
def acolTo (ds : List Dl) (F : List Int) (nd : Nat) : Nat → List Int
  | 0 => zerosL nd
  | j + 1 => (acolTo ds F nd j).set j (liftZ F (colJ ds j))
theorem acolTo_len (ds : List Dl) (F : List Int) (nd : Nat) : ∀ j, (acolTo ds F nd j).length = nd
  | 0 => zerosL_len nd
  | j + 1 => by rw [acolTo, List.length_set, acolTo_len ds F nd j]
theorem acolTo_in (ds : List Dl) (F : List Int) (nd : Nat) : ∀ j i, i < j → i < nd → ptAt (acolTo ds F nd j) i = liftZ F (colJ ds i)
  | j + 1, i, h, h2 => by
    rw [acolTo, ptAt_set]
    by_cases e : j = i
    · subst e; rw [if_pos ⟨rfl, by rw [acolTo_len]; exact h2⟩]
    · rw [if_neg (fun c => e c.1), acolTo_in ds F nd j i (by omega) h2]
/-- What Again leaves. -/
def AgPost (w : World) (rows : List (List Int)) (cm : List Int) (l : List Mb) (F : List Int) (ds : List Dl) (e : Ending) (w' : World) : Prop :=
  Only (fun _ => False) w w' ∧ ((agB rows cm l F ds = true ∧ ∃ vc vp, e = .returned (.tuple #[.agg #[vc, vp], .bool true]) ∧ w'.ownsRow (w.heap.size + 1) 3 1 vc (acolTo ds F (ndOf l) (ndOf l)).length (irow (acolTo ds F (ndOf l) (ndOf l))) ∧ GridAt w' vp (pointsOf l)) ∨
    (agB rows cm l F ds = false ∧ e = .returned (.tuple #[.agg #[.slice none 0 0, .slice none 0 0], .bool false])))
theorem right_need {rows : List (List Int)} {cm : List Int} (h : rightKB rows cm = true) : 1 ≤ cm.length ∧ cm.length ≤ 60 ∧ 1 ≤ gridN rows ∧ gridN rows ≤ 60 := by
  unfold rightKB at h
  simp only [Bool.and_eq_true, decide_eq_true_eq] at h
  obtain ⟨_, ⟨⟨h1, h2⟩, h3⟩, _⟩ := h
  have : 1 ≤ needZ (gridN rows) ∧ needZ (gridN rows) ≤ gridN rows := by
    unfold needZ mostZ
    rw [if_neg (by omega), if_neg (by omega)]
    omega
  omega

set_option maxRecDepth 100000 in
set_option maxHeartbeats 4000000 in
theorem again_is (ac ap : Option Addr) (cc cp : Nat) (mv fv dv : Value) (rows : List (List Int)) (cm : List Int) (l : List Mb) (F : List Int) (ds : List Dl) (w : World)
    (hC : PtsAt w.heap.size w (.slice ac cm.length cc) cm) (hG : GridAt w (.slice ap rows.length cp) rows) (hs : ∀ k, k ≤ rows.length → gridTo rows k ≤ 1000000) (hcm : cm.length ≤ 1000000)
    (hM : MbsAt w mv l) (hw : MbsW l) (hF : PtsAt w.heap.size w fv F) (hFw : IntsW F) (hF1 : F.length ≤ 1000000) (hD : DlsAt w dv ds) (hS : DlsS ds) :
    Calls Tryz.prog 19 #[.agg #[.slice ac cm.length cc, .slice ap rows.length cp], mv, fv, dv] w (AgPost w rows cm l F ds) := by
  obtain ⟨i0, hi0, hz0, hz1, hz2⟩ := info_parts Tryz.infoI
  obtain ⟨ad, cd, rfl⟩ := hD.slice
  obtain ⟨af, cf, rfl⟩ := hF.slice
  obtain ⟨am, cmm, rfl⟩ := hM.slice
  obtain ⟨wA, hwA⟩ : ∃ wA, (w.alloc (.cells #[.slice ac cm.length cc, .slice ap rows.length cp] 28)).alloc (.cells #[.slice none 0 0, .slice none 0 0] 28) = wA := ⟨_, rfl⟩
  have hA : Only (fun _ => False) w wA := by rw [← hwA]; exact ((Only.refl _ w).alloc _).alloc _
  have HA := Lib.hid hA
  have HZ0 := Lib.hid (show wA.heap[w.heap.size + 1]? = some (.cells #[.slice none 0 0, .slice none 0 0] 28 (0, 0)) by rw [← hwA]; have := heap_alloc_last (w.alloc (.cells #[.slice ac cm.length cc, .slice ap rows.length cp] 28)) (.cells #[.slice none 0 0, .slice none 0 0] 28); rwa [World.size_alloc] at this)
  have HK0 := Lib.hid (show wA.heap[w.heap.size]? = some (.cells #[.slice ac cm.length cc, .slice ap rows.length cp] 28 (0, 0)) by rw [← hwA]; exact row_still ((Only.refl _ _).alloc _) (heap_alloc_last w _))
  have HWA := Lib.hid hwA
  have HC := Lib.hid (hC.only hA)
  have HG := Lib.hid (hG.only hA)
  have HF := Lib.hid (hF.only hA)
  have HD := Lib.hid (hD.only hA)
  have HM := Lib.hid (hM.only hA)
  have HW := Lib.hid hw
  have HFW := Lib.hid hFw
  have HS := Lib.hid hS
  have HGS := Lib.hid hs
  have hlen := hS.len
  clear hD hM hA hw hS hC hG hF hFw hwA hs
  have HNO := Lib.hid (fun (w1 : World) (h1 : Only (fun _ => False) wA w1) (hb : agB rows cm l F ds = false) => show AgPost w rows cm l F ds (.returned (.tuple #[.agg #[.slice none 0 0, .slice none 0 0], .bool false])) (w1.setRow (w.heap.size + 1) #[.slice none 0 0, .slice none 0 0]) from ⟨(HA.out.trans h1).setRow (by omega) _, .inr ⟨hb, rfl⟩⟩)
  have hwl := own_lt0 HZ0.out
  go_enter Tryz.func19, Tryz.ntmps19
  go_wp2_with fail
  rw [HWA.out]
  clear HWA
  obtain ⟨rb, hrb⟩ : ∃ rb, rightKB rows cm = rb := ⟨_, rfl⟩
  refine (right_is ac ap cc cp cm rows rb _ HC.out HG.out HGS.out hcm hrb).mono ?_
  rintro e w1 ⟨rfl, hO1⟩
  have HO1 := Lib.hid hO1
  have HZ1 := Lib.hid (row_still hO1 HZ0.out)
  have HK1 := Lib.hid (row_still hO1 HK0.out)
  have HRB := Lib.hid hrb
  have hwl1 := own_lt0 HZ1.out
  clear hO1 hrb HZ0 HK0
  cases rb
  · have HN := Lib.hid (HNO.out w1 HO1.out (by unfold agB headB; rw [HRB.out]; rfl))
    clear HNO
    go_wp2_with (first | (refine wpList_store_row rfl 28 _ _ rfl (w.heap.size + 1) #[.slice none 0 0, .slice none 0 0] rfl rfl 28 _ HZ1.out Tryz.infoKe rfl (two_slices _ _ _ _ _ _) ?_))
    exact bodyPost_ret (v := .tuple #[.agg #[.slice none 0 0, .slice none 0 0], .bool false]) (results_cell_tmp (p := 8) (q := 9) rfl _ _ (w.heap.size + 1) 28 #[.slice none 0 0, .slice none 0 0] (0, 0) _ rfl (setRow_heap _ _ _ _ _ _ HZ1.out) Tryz.underlying28 rfl Tryz.infoKe _ rfl) rfl HN.out
  · obtain ⟨hn1, hn2, hn3, hn4⟩ := right_need HRB.out
    have o0 := cell_of_row _ _ 0 _ _ _ HK1.out
    have o1 := cell_of_row _ _ 1 _ _ _ HK1.out
    simp at o0 o1
    by_cases hFl : F.length = cm.length
    · have q1 : ((F.length : Int) != cm.length) = false := by rw [hFl]; simp
      by_cases hdl : ds.length = F.length
      · have q2 : ((ds.length : Int) != F.length) = false := by rw [hdl]; simp
        obtain ⟨db, hdb⟩ : ∃ db, diffB F = db := ⟨_, rfl⟩
        have HFL := Lib.hid hFl
        have HDL := Lib.hid hdl
        have HHB := Lib.hid (show headB rows cm F ds = db by unfold headB; rw [HRB.out, decide_eq_true hFl, decide_eq_true hdl, hdb]; rfl)
        obtain ⟨bf, of, rfl, hbf, _, hcf1, hcf2, hfc⟩ : ∃ b off, af = some ⟨b, off, none⟩ ∧ b < w1.heap.size ∧ F.length = F.length ∧ F.length ≤ cf ∧ cf ≤ 9223372036854775807 ∧ ∀ j, j < F.length → w1.cell? ⟨b, off + j, none⟩ = some (.int .i64 (ptAt F j)) := by
          rcases HF.out.only HO1.out with ⟨_, _, _, h0⟩ | ⟨b, off, cap, hv, hb, h1, h2, hc⟩
          · have := HFL.out; rw [h0] at this; simp at this; omega
          · simp only [Value.slice.injEq, true_and] at hv
            obtain ⟨rfl, rfl⟩ := hv
            exact ⟨b, off, rfl, hb, rfl, h1, h2, hc⟩
        have HFC := Lib.hid hfc
        clear hFl hdl hfc
        go_wp2_with fail
        refine (different_some bf of cf F db w1 HFW.out hF1 HFC.out hdb).mono ?_
        rintro e w2 ⟨rfl, hO2⟩
        have HO2 := Lib.hid (HO1.out.trans hO2)
        have HZ2 := Lib.hid (row_still hO2 HZ1.out)
        have HK2 := Lib.hid (row_still hO2 HK1.out)
        have HDB := Lib.hid hdb
        clear hO2 hdb o0 o1 q1 q2 HZ1 HK1 HO1 hwl1
        cases db
        · have HN := Lib.hid (HNO.out w2 HO2.out (by unfold agB; rw [HHB.out]; rfl))
          clear HNO
          go_wp2_with (first | (refine wpList_store_row rfl 28 _ _ rfl (w.heap.size + 1) #[.slice none 0 0, .slice none 0 0] rfl rfl 28 _ HZ2.out Tryz.infoKe rfl (two_slices _ _ _ _ _ _) ?_))
          exact bodyPost_ret (v := .tuple #[.agg #[.slice none 0 0, .slice none 0 0], .bool false]) (results_cell_tmp (p := 8) (q := 9) rfl _ _ (w.heap.size + 1) 28 #[.slice none 0 0, .slice none 0 0] (0, 0) _ rfl (setRow_heap _ _ _ _ _ _ HZ2.out) Tryz.underlying28 rfl Tryz.infoKe _ rfl) rfl HN.out
        · go_wp2_with fail
          refine (points_any _ l _ HW.out (HM.out.only HO2.out)).mono ?_
          rintro e w3 ⟨hO3, ⟨hr, vp, rfl, hG3⟩ | ⟨hr, rfl⟩⟩
          · have HO3 := Lib.hid (HO2.out.trans hO3)
            have HZ3 := Lib.hid (row_still hO3 HZ2.out)
            have HK3 := Lib.hid (row_still hO3 HK2.out)
            have HG3 := Lib.hid hG3
            have HR := Lib.hid hr
            obtain ⟨s1, s2, s3, s4, s5, s6, s7, s8⟩ := right_sum hr
            have HT := Lib.hid (fun (w' : World) (h : Only (fun _ => False) w3 w') => wtotal_is vp (pointsOf l) w' (hG3.only h) (fun k hk => s1 k (by rw [pointsOf_len] at hk; exact hk)))
            rw [s2] at HT
            have HND := Lib.hid (fun w => need_is (nOf l) (ndOf l) w (by omega) s5)
            have HBG := Lib.hid (show agB rows cm l F ds = (fitB ds (nOf l) (ndOf l) && chainTo rows cm F ds F.length) by unfold agB; rw [HHB.out, hr]; rfl)
            obtain ⟨ap3, cp3, rfl⟩ := hG3.slice
            have hnd60 : ndOf l ≤ 60 := by omega
            have HND5 := Lib.hid s5
            generalize hn0 : nOf l = n at *
            generalize hnd0 : ndOf l = nd at *
            clear hO3 hG3 hr s1 s2 s5 s8 hn0 HZ2 HK2
            go_wp2_with fail
            refine (HT.out w3 (Only.refl _ _)).mono ?_
            rintro e w3' ⟨rfl, rfl⟩
            go_wp2_with fail
            obtain ⟨fb, hfb⟩ : ∃ fb, fitB ds n nd = fb := ⟨_, rfl⟩
            refine (dealt_is _ ds n nd fb w3 (HD.out.only HO3.out) (by omega) HND5.out HS.out hfb).mono ?_
            rintro e w4 ⟨rfl, hO4⟩
            have HO34 := Lib.hid hO4
            have HO4 := Lib.hid (HO3.out.trans hO4)
            have HZ4 := Lib.hid (row_still hO4 HZ3.out)
            have HK4 := Lib.hid (row_still hO4 HK3.out)
            have HFB := Lib.hid hfb
            rw [hfb] at HBG
            clear hO4 hfb HZ3 HK3
            cases fb
            · have HN := Lib.hid (HNO.out w4 HO4.out HBG.out)
              clear HNO
              go_wp2_with (first | (refine wpList_store_row rfl 28 _ _ rfl (w.heap.size + 1) #[.slice none 0 0, .slice none 0 0] rfl rfl 28 _ HZ4.out Tryz.infoKe rfl (two_slices _ _ _ _ _ _) ?_))
              exact bodyPost_ret (v := .tuple #[.agg #[.slice none 0 0, .slice none 0 0], .bool false]) (results_cell_tmp (p := 8) (q := 9) rfl _ _ (w.heap.size + 1) 28 #[.slice none 0 0, .slice none 0 0] (0, 0) _ rfl (setRow_heap _ _ _ _ _ _ HZ4.out) Tryz.underlying28 rfl Tryz.infoKe _ rfl) rfl HN.out
            · go_wp2_with fail
              have HTT := Lib.hid (fun (w' : World) (h : Only (fun _ => False) w4 w') => wtotal_is (.slice ap rows.length cp) rows w' (HG.out.only (HO4.out.trans h)) HGS.out)
              have HAT := Lib.hid (fun (x : Int) (w' : World) (h : Only (fun _ => False) w4 w') => at_any (.slice ac cm.length cc) cm x w' (HC.out.only (HO4.out.trans h)) (by omega))
              have HFIT := Lib.hid (fun k (hk : k < ds.length) => fit_at ds n nd HFB.out k hk)
              have HBG2 := Lib.hid (show agB rows cm l F ds = chainTo rows cm F ds F.length from HBG.out)
              clear HBG
              go_loopw [60] (fun vi wr => ∃ k : Nat, k ≤ F.length ∧ vi = .int .i64 k ∧ chainTo rows cm F ds k = true ∧ Only (fun _ => False) w4 wr) (fun vi _ => F.length - (intOf vi).toNat)
              case atStart => exact ⟨0, Nat.zero_le _, rfl, rfl, Only.refl _ _⟩
              case round =>
                obtain ⟨k, hk, rfl, hch, hO⟩ := hrel
                have HCH := Lib.hid hch
                have HO5 := Lib.hid (HO4.out.trans hO)
                have HO45 := Lib.hid hO
                clear hch
                by_cases hlt : k < F.length
                · have i1 : (k : Int) < F.length := by omega
                  have i2 : 0 ≤ (k : Int) := by omega
                  have hkd : k < ds.length := by rw [HDL.out]; exact hlt
                  have i3 : (k : Int) < ds.length := by omega
                  have HKW := Lib.hid (row_still hO HK4.out)
                  have HZW := Lib.hid (row_still hO HZ4.out)
                  obtain ⟨b1, o1, e1, hb1, hl1, hc11, hc12, hc1⟩ := (HF.out.only HO5.out).cellAt hlt
                  simp only [Option.some.injEq, Addr.mk.injEq] at e1
                  obtain ⟨rfl, rfl, _⟩ := e1
                  obtain ⟨b, off, c0, c2, rfl, hb, hcc1, hcc2, x0, x1, x2, hd⟩ := (HD.out.only HO5.out).cellAt hkd
                  have hcl := HFIT.out k hkd
                  obtain ⟨a0, k0, rfl⟩ := hd.cm.slice
                  obtain ⟨bc, oc, rfl, hbc, hlc, hc31, hc32, hc3⟩ := hd.cm.cellAt (k := 0) (by omega)
                  have HCN := Lib.hid (show chainTo rows cm F ds (k + 1) = (chainTo rows cm F ds k && (decide (ptAt F k ≤ gridN rows) && decide (ptAt (dlAt ds k).cm 0 = atZ cm (ptAt F k)))) from rfl)
                  rw [HCH.out, Bool.true_and] at HCN
                  rw [hcl] at *
                  have HAK := Lib.hid (fun w' h => HAT.out (ptAt F k) w' h)
                  generalize ptAt (dlAt ds k).cm 0 = c at *
                  generalize ptAt F k = x at *
                  have HTK := HTT
                  generalize gridN rows = g at *
                  generalize atZ cm x = az at *
                  have k0' := cell_of_row _ _ 0 _ _ _ HKW.out
                  have k1' := cell_of_row _ _ 1 _ _ _ HKW.out
                  simp at k0' k1'
                  have hwk := own_lt0 HKW.out
                  have HSTOP := Lib.hid (fun (h : (decide (x ≤ (g : Int)) && decide (c = az)) = false) => show agB rows cm l F ds = false by rw [HBG2.out]; exact chainTo_false rows cm F ds F.length (k + 1) (by omega) (by rw [HCN.out]; exact h))
                  rw [Nat.add_zero] at hc3
                  have y0 := fun (d : Nat) (os : Array Obj) => cell_regrown k0' d os
                  have y1 := fun (d : Nat) (os : Array Obj) => cell_regrown k1' d os
                  have y2 := fun (d : Nat) (os : Array Obj) => cell_regrown x0 d os
                  have y3 := fun (d : Nat) (os : Array Obj) => cell_regrown hc3 d os
                  clear hd hO hl1 hlc HAT HTT hk
                  go_wp2_with fail
                  clear k0' k1' x0 x1 x2 hc3 hc1
                  by_cases hx : x ≤ (g : Int)
                  · have q3 : ¬ (g : Int) < x := by omega
                    by_cases hca : c = az
                    · have q4 : (c != az) = false := by rw [hca]; simp
                      have HN1 := Lib.hid (show chainTo rows cm F ds (k + 1) = true by rw [HCN.out, decide_eq_true hx, decide_eq_true hca]; rfl)
                      clear HSTOP hca hx
                      refine wp_region_quiet_below (by kernel_rfl) (by kernel_rfl) ?_
                      repeat (go_big_quiet_step ((first | (go_at_call 40; exact Calls.regrown_of ((HTK.out _ (HO45.out.trans (Only.ofBelow (below_regrown _ _ _) _))).mono fun _ _ h => ⟨h.1, by rw [← h.2]; exact Below.refl _ _⟩)) | (go_at_call 53; exact Calls.regrown_of (HAK.out _ (HO45.out.trans (Only.ofBelow (below_regrown _ _ _) _)))))))
                      refine wpQuiet_nil ?_
                      intro w6 hw'
                      obtain ⟨pq, hw''⟩ := hw'
                      have HO56 := Lib.hid (Only.ofBelow (below_regrown wr pq.d pq.os) (fun _ => False))
                      rw [← hw''] at HO56
                      have HO6 := Lib.hid (HO5.out.trans HO56.out)
                      have HO46 := Lib.hid (HO45.out.trans HO56.out)
                      clear hw'' y0 y1 y2 y3
                      go_wp2
                      go_roundw
                      case rel => exact ⟨k + 1, by omega, by go_num, HN1.out, HO46.out⟩
                      case measure => simp [intOf]; omega
                    · have q4 : (c != az) = true := by rw [bne_iff_ne]; exact hca
                      have HNB := Lib.hid (HSTOP.out (by rw [decide_eq_false hca]; simp))
                      clear HSTOP hca hx
                      refine wp_region_quiet_below (by kernel_rfl) (by kernel_rfl) ?_
                      repeat (go_big_quiet_step ((first | (go_at_call 40; exact Calls.regrown_of ((HTK.out _ (HO45.out.trans (Only.ofBelow (below_regrown _ _ _) _))).mono fun _ _ h => ⟨h.1, by rw [← h.2]; exact Below.refl _ _⟩)) | (go_at_call 53; exact Calls.regrown_of (HAK.out _ (HO45.out.trans (Only.ofBelow (below_regrown _ _ _) _)))))))
                      refine wpQuiet_nil ?_
                      intro w6 hw'
                      obtain ⟨pq, hw''⟩ := hw'
                      have HO56 := Lib.hid (Only.ofBelow (below_regrown wr pq.d pq.os) (fun _ => False))
                      rw [← hw''] at HO56
                      have HO6 := Lib.hid (HO5.out.trans HO56.out)
                      have HO46 := Lib.hid (HO45.out.trans HO56.out)
                      clear hw'' y0 y1 y2 y3
                      have HN := Lib.hid (HNO.out w6 HO6.out HNB.out)
                      have HZ6 := Lib.hid (row_still HO56.out HZW.out)
                      clear HNO
                      go_wp2_with (first | (refine wpList_store_row rfl 28 _ _ rfl (w.heap.size + 1) #[.slice none 0 0, .slice none 0 0] rfl rfl 28 _ HZ6.out Tryz.infoKe rfl (two_slices _ _ _ _ _ _) ?_))
                      exact bodyPost_ret (v := .tuple #[.agg #[.slice none 0 0, .slice none 0 0], .bool false]) (results_cell_tmp (p := 8) (q := 9) rfl _ _ (w.heap.size + 1) 28 #[.slice none 0 0, .slice none 0 0] (0, 0) _ rfl (setRow_heap _ _ _ _ _ _ HZ6.out) Tryz.underlying28 rfl Tryz.infoKe _ rfl) rfl HN.out
                  · have q3 : (g : Int) < x := by omega
                    have HNB := Lib.hid (HSTOP.out (by rw [decide_eq_false hx]; rfl))
                    clear HSTOP hx
                    refine wp_region_quiet_below (by kernel_rfl) (by kernel_rfl) ?_
                    repeat (go_big_quiet_step ((first | (go_at_call 40; exact Calls.regrown_of ((HTK.out _ (HO45.out.trans (Only.ofBelow (below_regrown _ _ _) _))).mono fun _ _ h => ⟨h.1, by rw [← h.2]; exact Below.refl _ _⟩)) | (go_at_call 53; exact Calls.regrown_of (HAK.out _ (HO45.out.trans (Only.ofBelow (below_regrown _ _ _) _)))))))
                    refine wpQuiet_nil ?_
                    intro w6 hw'
                    obtain ⟨pq, hw''⟩ := hw'
                    have HO56 := Lib.hid (Only.ofBelow (below_regrown wr pq.d pq.os) (fun _ => False))
                    rw [← hw''] at HO56
                    have HO6 := Lib.hid (HO5.out.trans HO56.out)
                    have HO46 := Lib.hid (HO45.out.trans HO56.out)
                    clear hw'' y0 y1 y2 y3
                    have HN := Lib.hid (HNO.out w6 HO6.out HNB.out)
                    have HZ6 := Lib.hid (row_still HO56.out HZW.out)
                    clear HNO
                    go_wp2_with (first | (refine wpList_store_row rfl 28 _ _ rfl (w.heap.size + 1) #[.slice none 0 0, .slice none 0 0] rfl rfl 28 _ HZ6.out Tryz.infoKe rfl (two_slices _ _ _ _ _ _) ?_))
                    exact bodyPost_ret (v := .tuple #[.agg #[.slice none 0 0, .slice none 0 0], .bool false]) (results_cell_tmp (p := 8) (q := 9) rfl _ _ (w.heap.size + 1) 28 #[.slice none 0 0, .slice none 0 0] (0, 0) _ rfl (setRow_heap _ _ _ _ _ _ HZ6.out) Tryz.underlying28 rfl Tryz.infoKe _ rfl) rfl HN.out
                · obtain rfl : k = F.length := by omega
                  have i1 : ¬ (F.length : Int) < F.length := by omega
                  generalize wr = w5 at *
                  have HAG := Lib.hid (show agB rows cm l F ds = true by rw [HBG2.out]; exact HCH.out)
                  have HO35 := Lib.hid (HO34.out.trans hO)
                  have HZ5 := Lib.hid (row_still hO HZ4.out)
                  clear HBG2 HTT HAT HNO hO HCH hk
                  go_wp2_with fail
                  refine (HT.out w5 HO35.out).mono ?_
                  rintro e w5' ⟨rfl, rfl⟩
                  go_wp2_with fail
                  refine (HND.out _).mono ?_
                  rintro e w5' ⟨rfl, rfl⟩
                  have hmk := run_make_row (P := Tryz.prog) 22 3 i0 _ Tryz.underlying22 hi0 hz0 hz1 rfl .i64 .i64 nd (by rw [hz2]; omega) (by omega) w5
                  go_wp2_with fail
                  clear hmk
                  have HO25 := Lib.hid (HA.out.trans HO5.out)
                  have HC0 := Lib.hid (show CbAt w5 (w5.alloc (.cells (madeCells #[.int .i64 0] nd) 3)) nd (acolTo ds F nd 0) from ⟨own_made w5 nd (by omega), (Only.refl _ w5).alloc _⟩)
                  have hw2 : w.heap.size + 1 < w5.heap.size := own_lt0 HZ5.out
                  go_loopw [92] (fun vi wy => ∃ j : Nat, j ≤ nd ∧ vi = .int .i64 j ∧ CbAt w5 wy nd (acolTo ds F nd j)) (fun vi _ => nd - (intOf vi).toNat)
                  case atStart => exact ⟨0, Nat.zero_le _, rfl, HC0.out⟩
                  case round =>
                    clear HC0
                    obtain ⟨j, hj, rfl, hC⟩ := hrel
                    generalize wr = wy at *
                    by_cases hlt : j < nd
                    · have HCY := Lib.hid hC
                      have HLJ := Lib.hid (acolTo_len ds F nd j)
                      have HCN := Lib.hid (show acolTo ds F nd (j + 1) = (acolTo ds F nd j).set j (liftZ F (colJ ds j)) from rfl)
                      have i2 : (j : Int) < nd := by omega
                      have i3 : 0 ≤ (j : Int) := by omega
                      generalize acolTo ds F nd j = L at *
                      have hmk := run_make_row (P := Tryz.prog) 22 3 i0 _ Tryz.underlying22 hi0 hz0 hz1 rfl .i64 .i64 ds.length (by rw [hz2]; omega) (by have := HDL.out; omega) wy
                      clear hC
                      go_wp2_with fail
                      clear hmk
                      have HN0 := Lib.hid (show CbAt wy (wy.alloc (.cells (madeCells #[.int .i64 0] ds.length) 3)) ds.length (cjTo ds j 0) from ⟨own_made wy ds.length (by have := HDL.out; omega), (Only.refl _ wy).alloc _⟩)
                      go_loopw [100] (fun vk wi => ∃ k : Nat, k ≤ ds.length ∧ vk = .int .i64 k ∧ CbAt wy wi ds.length (cjTo ds j k)) (fun vk _ => ds.length - (intOf vk).toNat)
                      case atStart => exact ⟨0, Nat.zero_le _, rfl, HN0.out⟩
                      case round =>
                        clear HN0
                        obtain ⟨k, hk, rfl, hK⟩ := hrel
                        generalize wr = wi at *
                        by_cases hkl : k < ds.length
                        · obtain ⟨b, off, c0, c2, rfl, hb, hc1, hc2, x0, x1, x2, hd⟩ := (HD.out.only ((HO5.out.trans HCY.out.only).trans hK.only)).cellAt hkl
                          have hcl := HFIT.out k hkl
                          obtain ⟨a0, k0, rfl⟩ := hd.cm.slice
                          obtain ⟨a2, k2, rfl⟩ := hd.bx.slice
                          obtain ⟨bc, oc, rfl, hbc, hl0, hcc1, hcc2, hcell⟩ := hd.cm.cellAt (k := j) (by omega)
                          have HJN := Lib.hid (show cjTo ds j (k + 1) = (cjTo ds j k).set k (ptAt (dlAt ds k).cm j) from rfl)
                          have HLK := Lib.hid (cjTo_len ds j k)
                          have hA : Only (fun _ => False) wi (wi.alloc (.cells #[.slice (some ⟨bc, oc, none⟩) (dlAt ds k).cm.length k0, .int .i64 (dlAt ds k).pt, .slice a2 (dlAt ds k).bx.length k2] 72)) := (Only.refl _ wi).alloc _
                          have HKA := Lib.hid (hK.frame hA)
                          obtain ⟨o1, o2, o3, o4, o5⟩ := own_at HKA.out.own HLK.out hkl
                          have y0 := hA.cell hcell id
                          have hbc2 := Nat.lt_of_lt_of_le hbc hA.size
                          have hz := heap_alloc_last wi (.cells #[.slice (some ⟨bc, oc, none⟩) (dlAt ds k).cm.length k0, .int .i64 (dlAt ds k).pt, .slice a2 (dlAt ds k).bx.length k2] 72)
                          have z0 := cell_of_row _ _ 0 _ _ _ hz
                          have lz := own_lt0 hz
                          have HPUT := Lib.hid (fun z => HKA.out.put (z := z) HLK.out hkl)
                          rw [hcl] at *
                          generalize (dlAt ds k).pt = pt at *
                          generalize (dlAt ds k).bx.length = bl at *
                          generalize ptAt (dlAt ds k).cm j = cz at *
                          generalize cjTo ds j k = N at *
                          have i4 : (k : Int) < ds.length := by omega
                          have i5 : 0 ≤ (k : Int) := by omega
                          clear hd hK hA hz hl0 hk
                          go_wp2_with fail
                          clear x0 x1 x2
                          generalize wi.alloc (.cells #[.slice (some ⟨bc, oc, none⟩) nd k0, .int .i64 pt, .slice a2 bl k2] 72) = wB at *
                          have HQ1 := Lib.hid (HPUT.out cz)
                          clear HPUT
                          go_wp2
                          go_roundw
                          case rel => exact ⟨k + 1, by omega, by go_num, by rw [HJN.out]; exact HQ1.out⟩
                          case measure => simp [intOf]; omega
                        · obtain rfl : k = ds.length := by omega
                          have i4 : ¬ (ds.length : Int) < ds.length := by omega
                          have HNL := Lib.hid (cjTo_len ds j ds.length)
                          have hpn := pts_of_own hK.own (by rw [HNL.out]; omega)
                          have hOK := HCY.out.only.trans hK.only
                          have HCI := Lib.hid (HCY.out.frame hK.only)
                          have HLF := Lib.hid (lift_any _ _ F (cjTo ds j ds.length) wi (HF.out.only (HO5.out.trans hOK)) hpn (by rw [HNL.out, HDL.out]) (by have := HFL.out; omega))
                          have HLZ := Lib.hid (show List.foldl (stepL F (cjTo ds j ds.length)) 1 (upF F.length F.length) = liftZ F (colJ ds j) from rfl)
                          generalize List.foldl (stepL F (cjTo ds j ds.length)) 1 (upF F.length F.length) = lz at *
                          clear hK hpn hOK
                          go_wp2_with fail
                          refine HLF.out.mono ?_
                          rintro e wl ⟨rfl, hBl⟩
                          have HCL := Lib.hid (HCI.out.frame (Only.ofBelow hBl _))
                          obtain ⟨o1, o2, o3, o4, o5⟩ := own_at HCL.out.own HLJ.out hlt
                          have HQ2 := Lib.hid (HCL.out.put (z := lz) HLJ.out hlt)
                          clear hBl
                          go_wp2
                          go_roundw
                          case rel => exact ⟨j + 1, by omega, by go_num, by rw [HCN.out, ← HLZ.out]; exact HQ2.out⟩
                          case measure => simp [intOf]; omega
                    · obtain rfl : j = nd := by omega
                      have i2 : ¬ (j : Int) < j := by omega
                      have HZY := Lib.hid (row_still hC.only HZ5.out)
                      have HPOST := Lib.hid (show ∀ w6, Only (fun k => k = w.heap.size + 1) wy w6 → AgPost w rows cm l F ds (.returned (.tuple #[.agg #[.slice (some ⟨w5.heap.size, 0, none⟩) j j, .slice ap3 (pointsOf l).length cp3], .bool true])) w6 from fun w6 hO6 => by
                        refine ⟨(HO25.out.trans hC.only).trans' hO6 (fun i hi e => by omega), .inl ⟨HAG.out, _, _, rfl, ?_, ?_⟩⟩
                        · rw [hnd0]
                          exact own_base (hO6.owns hC.own (fun x hx e => by have := own_low' hC.own hx; omega)) (by omega)
                        · exact grid_kept hO6 (keys_empty HZY.out).1 (keys_empty HZY.out).2 (points_ne HR.out) (HG3.out.only (HO35.out.trans hC.only)))
                      clear hC hlt hj
                      go_wp2_with (first | (refine wpList_store_row rfl 28 _ _ rfl (w.heap.size + 1) #[.slice (some ⟨w5.heap.size, 0, none⟩) j j, .slice ap3 (pointsOf l).length cp3] rfl rfl 28 _ HZY.out Tryz.infoKe rfl (two_slices _ _ _ _ _ _) ?_))
                      refine bodyPost_ret (v := .tuple #[.agg #[.slice (some ⟨w5.heap.size, 0, none⟩) j j, .slice ap3 (pointsOf l).length cp3], .bool true]) (results_cell_tmp (p := 8) (q := 9) rfl _ _ (w.heap.size + 1) 28 #[.slice (some ⟨w5.heap.size, 0, none⟩) j j, .slice ap3 (pointsOf l).length cp3] (0, 0) _ rfl (setRow_heap _ _ _ _ _ _ HZY.out) Tryz.underlying28 rfl Tryz.infoKe _ rfl) rfl (HPOST.out _ ?_)
                      exact (Only.refl (fun k => k = w.heap.size + 1) wy).trans' (T := fun k => k = w.heap.size + 1) ⟨rfl, rfl, rfl, by simp, fun k _ hk => heap_setRow_other _ _ _ _ hk⟩ (fun _ _ e => e)
          · have HZ3 := Lib.hid (row_still hO3 HZ2.out)
            have HN := Lib.hid (HNO.out w3 (HO2.out.trans hO3) (by unfold agB; rw [hr]; simp))
            clear hO3 hr HNO
            go_wp2_with (first | (refine wpList_store_row rfl 28 _ _ rfl (w.heap.size + 1) #[.slice none 0 0, .slice none 0 0] rfl rfl 28 _ HZ3.out Tryz.infoKe rfl (two_slices _ _ _ _ _ _) ?_))
            exact bodyPost_ret (v := .tuple #[.agg #[.slice none 0 0, .slice none 0 0], .bool false]) (results_cell_tmp (p := 8) (q := 9) rfl _ _ (w.heap.size + 1) 28 #[.slice none 0 0, .slice none 0 0] (0, 0) _ rfl (setRow_heap _ _ _ _ _ _ HZ3.out) Tryz.underlying28 rfl Tryz.infoKe _ rfl) rfl HN.out
      · have q2 : ((ds.length : Int) != F.length) = true := by rw [bne_iff_ne]; omega
        have HN := Lib.hid (HNO.out w1 HO1.out (by unfold agB headB; rw [decide_eq_false hdl]; simp))
        clear HNO hdl hFl
        go_wp2_with (first | (refine wpList_store_row rfl 28 _ _ rfl (w.heap.size + 1) #[.slice none 0 0, .slice none 0 0] rfl rfl 28 _ HZ1.out Tryz.infoKe rfl (two_slices _ _ _ _ _ _) ?_))
        exact bodyPost_ret (v := .tuple #[.agg #[.slice none 0 0, .slice none 0 0], .bool false]) (results_cell_tmp (p := 8) (q := 9) rfl _ _ (w.heap.size + 1) 28 #[.slice none 0 0, .slice none 0 0] (0, 0) _ rfl (setRow_heap _ _ _ _ _ _ HZ1.out) Tryz.underlying28 rfl Tryz.infoKe _ rfl) rfl HN.out
    · have q1 : ((F.length : Int) != cm.length) = true := by rw [bne_iff_ne]; omega
      have HN := Lib.hid (HNO.out w1 HO1.out (by unfold agB headB; rw [decide_eq_false hFl]; simp))
      clear HNO hFl
      go_wp2_with (first | (refine wpList_store_row rfl 28 _ _ rfl (w.heap.size + 1) #[.slice none 0 0, .slice none 0 0] rfl rfl 28 _ HZ1.out Tryz.infoKe rfl (two_slices _ _ _ _ _ _) ?_))
      exact bodyPost_ret (v := .tuple #[.agg #[.slice none 0 0, .slice none 0 0], .bool false]) (results_cell_tmp (p := 8) (q := 9) rfl _ _ (w.heap.size + 1) 28 #[.slice none 0 0, .slice none 0 0] (0, 0) _ rfl (setRow_heap _ _ _ _ _ _ HZ1.out) Tryz.underlying28 rfl Tryz.infoKe _ rfl) rfl HN.out
end Go.Proofs.YtalclldccnichaaGreat
