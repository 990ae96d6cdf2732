/-
  The reference of layer 9: total, Shares, Verify.
  The sanity of layer 9.
-/
import Derived.Test.YtlhfgbkonmgahaaGreatDoorPa18
import Derived.Test.YtlhfgbkonmgahaaGreatDoorPa14
import Derived.Test.YtlhfgbkonmgahaaGreatDoorPa13
import Derived.Test.YtlhfgbkonmgahaaGreatDoorPa11
namespace Go.Proofs.YtlhfgbkonmgahaaGreatDoor
open Go.RowKit

set_option maxHeartbeats 1000000 in
theorem rtot9_any (ac ap : Option Addr) (cc cp n : Nat) (rows : List (List Int)) (w : World) (hG : GridAt w (.slice ap rows.length cp) rows) (hs : ∀ k, k ≤ rows.length → gridTo rows k ≤ 1000000) :
    Calls Tryz.prog 47 #[.agg #[.slice ac n cc, .slice ap rows.length cp]] w fun e w' => e = .returned (.int .i64 (gridN rows)) ∧ Only (fun _ => False) w w' := by
  have hA := (Only.refl (fun _ => False) w).alloc (.cells #[.slice ac n cc, .slice ap rows.length cp] 41)
  have hz := heap_alloc_last w (.cells #[.slice ac n cc, .slice ap rows.length cp] 41)
  have HA := Lib.hid hA
  have HG := Lib.hid (hG.only hA)
  have HS := Lib.hid hs
  have HGN := Lib.hid (show gridN rows = gridTo rows rows.length from rfl)
  have e1 : _ = some (Value.slice ap rows.length cp) := cell_of_row _ _ 1 _ _ _ hz
  have l0 := own_lt0 hz
  clear hG hA hz hs
  go_enter Tryz.func47, Tryz.ntmps47
  go_wp2_with fail
  generalize w.alloc (.cells #[.slice ac n cc, .slice ap rows.length cp] 41) = w1 at *
  go_loop [3, 4] (fun vn vi => ∃ k : Nat, k ≤ rows.length ∧ vi = .int .i64 k ∧ vn = .int .i64 (gridTo rows k : Nat)) (fun _ vi => rows.length - (intOf vi).toNat)
  case atStart => exact ⟨0, Nat.zero_le _, rfl, rfl⟩
  case round =>
    obtain ⟨k, hk, rfl, rfl⟩ := hrel
    by_cases hlt : k < rows.length
    · have i1 : (k : Int) < rows.length := by omega
      have i2 : 0 ≤ (k : Int) := by omega
      obtain ⟨b, off, au, cu, rfl, hb, hcp1, hcp2, hu⟩ := grid_row HG.out hlt
      have HN := Lib.hid (show gridTo rows (k + 1) = gridTo rows k + (rows.getD k []).length from rfl)
      have s1 := HS.out k hk
      have s2 := HS.out (k + 1) (by omega)
      rw [HN.out] at s2
      generalize gridTo rows k = t at *
      generalize (rows.getD k []).length = m at *
      go_wp2
      go_round
      case rel => exact ⟨k + 1, by omega, by go_num, by rw [HN.out]; go_num⟩
      case measure => simp [intOf]; omega
    · obtain rfl : k = rows.length := by omega
      have i1 : ¬ (rows.length : Int) < rows.length := by omega
      go_wp2
      go_ret
      exact ⟨by rw [HGN.out]; rfl, HA.out⟩
/-- What Shares leaves. -/
def ShPost (w : World) (C : List Int) (n : Nat) (e : Ending) (w' : World) : Prop :=
  Only (fun _ => False) w w' ∧ ∃ v, e = .returned v ∧ w'.ownsRow w.heap.size 23 2 v n (srow (shTo C n))
set_option maxRecDepth 100000 in
set_option maxHeartbeats 2000000 in
theorem shares9_any (cv : Value) (ak ap : Option Addr) (nk ck cp : Nat) (C : List Int) (rows : List (List Int)) (n : Nat) (w : World) (hC : PtsAt w.heap.size w cv C) (hG : GridAt w (.slice ap rows.length cp) rows) (hs : ∀ k, k ≤ rows.length → gridTo rows k ≤ 1000000) (hcl : C.length ≤ 1000000) (hn : gridN rows = n) (hn2 : n ≤ 60) :
    Calls Tryz.prog 19 #[cv, .agg #[.slice ak nk ck, .slice ap rows.length cp]] w (ShPost w C n) := by
  obtain ⟨s0, hs0, hsz0, hsz1, hsz2⟩ := info_parts Tryz.infoS
  obtain ⟨a1, c1, rfl⟩ := hC.slice
  have hA := (Only.refl (fun _ => False) w).alloc (.cells #[.slice ak nk ck, .slice ap rows.length cp] 41)
  have hz := heap_alloc_last w (.cells #[.slice ak nk ck, .slice ap rows.length cp] 41)
  have HA := Lib.hid hA
  have HZ := Lib.hid hz
  have HC := Lib.hid (hC.only hA)
  have HSZ := Lib.hid hA.size
  have HTT := Lib.hid (fun W (hW : Only (fun _ => False) (w.alloc (.cells #[.slice ak nk ck, .slice ap rows.length cp] 41)) W) => rtot9_any ak ap ck cp nk rows W (hG.only (hA.trans hW)) hs)
  rw [hn] at HTT
  clear hA hz hC hG hs hn
  go_enter Tryz.func19, Tryz.ntmps19
  go_wp2_with fail
  generalize w.alloc (.cells #[.slice ak nk ck, .slice ap rows.length cp] 41) = w0 at *
  go_loopw [5, 6] (fun v vi wr => ∃ k : Nat, k ≤ n ∧ vi = .int .i64 ((k : Int) + 1) ∧ wr.ownsRow w0.heap.size 23 2 v k (srow (shTo C k)) ∧ Only (fun _ => False) w0 wr) (fun _ vi _ => n + 1 - (intOf vi).toNat)
  case atStart => exact ⟨0, Nat.zero_le _, rfl, World.ownsRow_nil _ _ _ _, Only.refl _ _⟩
  case round =>
    obtain ⟨k, hk, rfl, hown, hO⟩ := hrel
    have e0 : _ = some (Value.slice ak nk ck) := cell_of_row _ _ 0 _ _ _ (row_still hO HZ.out)
    have e1 : _ = some (Value.slice ap rows.length cp) := cell_of_row _ _ 1 _ _ _ (row_still hO HZ.out)
    have hwl := own_lt0 (row_still hO HZ.out)
    have HT := Lib.hid (HTT.out _ hO)
    have HO := Lib.hid hO
    have HOW := Lib.hid hown
    clear hO hown
    go_wp2_with fail
    refine HT.out.mono ?_
    rintro e w2 ⟨rfl, hO2⟩
    have HO2 := Lib.hid (HO.out.trans hO2)
    have HOW2 := Lib.hid (hO2.owns HOW.out (fun _ _ h => h))
    clear hO2 HOW HO HT
    by_cases h1 : k < n
    · have i1 : (k : Int) + 1 ≤ n := by omega
      have HV := Lib.hid (rvalue_any _ C ((k : Int) + 1) w2 (HC.out.only HO2.out) (by omega))
      have HR := Lib.hid (show srow (shTo C (k + 1)) = srow (shTo C k) ++ [.int .i64 ((k : Int) + 1), .int .i64 (valZ C ((k : Int) + 1))] by rw [shTo, srow_append]; rfl)
      generalize valZ C ((k : Int) + 1) = y at *
      generalize shTo C k = L at *
      obtain ⟨av, cv, rfl⟩ := slice_of_own HOW2.out
      go_wp2_with fail
      refine HV.out.mono ?_
      rintro e w3 ⟨rfl, q, hw3⟩
      have HO3 := Lib.hid (show Only (fun _ => False) w0 w3 by rw [hw3]; exact HO2.out.drewN q)
      have HOW3 := Lib.hid (show w3.ownsRow w0.heap.size 23 2 (.slice av k cv) k (srow L) by rw [hw3]; exact HOW2.out)
      have hsz3 := HO3.out.size
      clear hw3 HO2 HOW2 HV
      go_wp2_with (at_builtin; refine wpList_append_lies _ rfl _ _ 49 rfl w0.heap.size 23 s0 _ 2 16 Tryz.underlying49 hs0 hsz0 hsz1 hsz2 rfl (by decide) _ k (srow L) rfl (HOW3.out.alloc _) ⟨w3.heap.size, 0, none⟩ 1 1 [.int .i64 ((k : Int) + 1), .int .i64 y] rfl rfl (World.news_of_block (heap_alloc_new w3 _)) ?c1 (by decide) ?c2 ?c3 ?c4 _ rfl ?_)
      case c1 => intro u hu; simp at hu; rcases hu with rfl | rfl <;> rfl
      case c2 => unfold maxLen; omega
      case c3 => omega
      case c4 => first | omega | (simp; omega)
      intro g1 cp1 w4 ho1 hg1 ha1 _
      have HO4 := Lib.hid ((HO3.out.alloc _).grow (HOW3.out.alloc _) (Nat.le_refl _) hg1)
      have HOW4 := Lib.hid (show w4.ownsRow w0.heap.size 23 2 (.slice (some ⟨g1, 0, none⟩) (k + 1) cp1) (k + 1) (srow (shTo C (k + 1))) by rw [HR.out]; exact ho1)
      clear ho1 hg1 ha1
      go_wp2
      go_roundw
      case rel => exact ⟨k + 1, by omega, by go_num, HOW4.out, HO4.out⟩
      case measure => simp [intOf]; omega
    · obtain rfl : k = n := by omega
      have i1 : ¬ (k : Int) + 1 ≤ k := by omega
      have HP := Lib.hid (show ∀ v, w2.ownsRow w0.heap.size 23 2 v k (srow (shTo C k)) → ShPost w C k (.returned v) w2 from fun v hv => ⟨HA.out.trans HO2.out, v, rfl, own_base hv HSZ.out⟩)
      obtain ⟨av, cv, rfl⟩ := slice_of_own HOW2.out
      go_wp2
      go_ret
      exact HP.out _ HOW2.out
set_option maxRecDepth 100000 in
set_option maxHeartbeats 4000000 in
theorem rverify9_any (ac ap : Option Addr) (cc cp : Nat) (cm : List Int) (rows : List (List Int)) (r x v c z : Int) (w : World) (hC : PtsAt w.heap.size w (.slice ac cm.length cc) cm) (hR : GridAt w (.slice ap rows.length cp) rows)
    (hs : ∀ k, k ≤ rows.length → gridTo rows k ≤ 1000000) (hcm : cm.length ≤ 1000000) (h0 : -9223372036854775808 ≤ r) (h1 : r ≤ 9223372036854775807) :
    Calls Tryz.prog 18 #[.agg #[.slice ac cm.length cc, .slice ap rows.length cp], .int .i64 r, .agg #[.int .i64 x, .int .i64 v, .int .i64 c, .int .i64 z]] w fun e w' => e = .returned (.bool (rightKB rows cm && acB (gridN rows : Nat) cm r (x, v, c, z))) ∧ Only (fun _ => False) w w' := by
  have hA := ((Only.refl (fun _ => False) w).alloc (.cells #[.slice ac cm.length cc, .slice ap rows.length cp] 41)).alloc (.cells #[.int .i64 x, .int .i64 v, .int .i64 c, .int .i64 z] 30)
  have hz1 := heap_alloc_last (w.alloc (.cells #[.slice ac cm.length cc, .slice ap rows.length cp] 41)) (.cells #[.int .i64 x, .int .i64 v, .int .i64 c, .int .i64 z] 30)
  have hz0 := (Below.heap_alloc (w.alloc (.cells #[.slice ac cm.length cc, .slice ap rows.length cp] 41)) (.cells #[.int .i64 x, .int .i64 v, .int .i64 c, .int .i64 z] 30) w.heap.size (by simp)).trans (heap_alloc_last w _)
  rw [World.size_alloc] at hz1
  have HA := Lib.hid hA
  have HZ1 := Lib.hid hz1
  have HZ0 := Lib.hid hz0
  obtain ⟨rb, hrb⟩ : ∃ rb, rightKB rows cm = rb := ⟨_, rfl⟩
  have HRI := Lib.hid (rright_is ac ap cc cp cm rows rb _ (hC.only hA) (hR.only hA) hs hcm hrb)
  have HTT := Lib.hid (fun W (hW : Only (fun _ => False) w W) => rtot9_any ac ap cc cp cm.length rows W (hR.only hW) hs)
  have HAT := Lib.hid (fun W (hW : Only (fun _ => False) w W) => rat_any (.slice ac cm.length cc) cm x W (hC.only hW) hcm)
  have HBS := Lib.hid (fun w => rbase9_any r w h0 h1)
  have HGL := Lib.hid (show gridN rows ≤ 1000000 from hs rows.length (Nat.le_refl _))
  rw [hrb]
  have HAC := Lib.hid (show acB (gridN rows : Nat) cm r (x, v, c, z) = ((decide (1 ≤ x) && decide (x ≤ (gridN rows : Nat))) && verB 4 (atZ cm x) (baseZ r) v c z) from rfl)
  obtain ⟨ab, hab⟩ : ∃ ab, acB (gridN rows : Nat) cm r (x, v, c, z) = ab := ⟨_, rfl⟩
  rw [hab] at HAC ⊢
  have HVR := Lib.hid (fun w => rverify_any 4 (atZ cm x) (baseZ r) v c z w)
  rw [← atZ_eq] at HAT
  generalize atZ cm x = ax at *
  generalize baseZ r = br at *
  generalize gridN rows = n at *
  have e0 : _ = some (Value.slice ac cm.length cc) := cell_of_row _ _ 0 _ _ _ hz0
  have e1 : _ = some (Value.slice ap rows.length cp) := cell_of_row _ _ 1 _ _ _ hz0
  clear hA hz0 hz1 hC hR hrb hab hs
  go_enter Tryz.func18, Tryz.ntmps18
  go_wp2_with fail
  refine HRI.out.mono ?_
  rintro e w2 ⟨rfl, hO2⟩
  have HO2 := Lib.hid (HA.out.trans hO2)
  have x0 : _ = some (Value.slice ac cm.length cc) := cell_of_row _ _ 0 _ _ _ (row_still hO2 HZ0.out)
  have x1 : _ = some (Value.slice ap rows.length cp) := cell_of_row _ _ 1 _ _ _ (row_still hO2 HZ0.out)
  have p0 : _ = some (Value.int .i64 x) := cell_of_row _ _ 0 _ _ _ (row_still hO2 HZ1.out)
  have p1 : _ = some (Value.int .i64 v) := cell_of_row _ _ 1 _ _ _ (row_still hO2 HZ1.out)
  have p2 : _ = some (Value.int .i64 c) := cell_of_row _ _ 2 _ _ _ (row_still hO2 HZ1.out)
  have p3 : _ = some (Value.int .i64 z) := cell_of_row _ _ 3 _ _ _ (row_still hO2 HZ1.out)
  generalize hblk : w.heap.size = blk at *
  clear hO2 HZ0 HZ1 HRI HA e0 e1 hblk
  cases rb
  · have HOQ := Lib.hid (fun n => HO2.out.drewN n)
    go_wp2_with fail
    go_quiet (fail)
    go_wp2
    go_ret
    exact ⟨rfl, HOQ.out _⟩
  · have HT2 := Lib.hid (HTT.out _ HO2.out)
    have hgl := HGL.out
    by_cases g1 : x < 1
    · have HBB := Lib.hid (show ab = false by rw [HAC.out, decide_eq_false (by omega)]; rfl)
      have HOQ := Lib.hid (fun n => HO2.out.drewN n)
      clear HAC
      go_wp2_with fail
      go_quiet (fail)
      go_wp2
      go_ret
      exact ⟨by rw [HBB.out]; rfl, HOQ.out _⟩
    · have q1 : decide (x < 1) = false := decide_eq_false g1
      have y0 := fun (d : Nat) (os : Array Obj) => cell_regrown x0 d os
      have y1 := fun (d : Nat) (os : Array Obj) => cell_regrown x1 d os
      have z0 := fun (d : Nat) (os : Array Obj) => cell_regrown p0 d os
      have HTR := Lib.hid (fun (W : World) (hW : Only (fun _ => False) w2 W) => HTT.out _ (HO2.out.trans hW))
      by_cases g2 : (n : Int) < x
      · have HBB := Lib.hid (show ab = false by rw [HAC.out, decide_eq_false (show ¬ x ≤ (n : Int) by omega), Bool.and_false]; rfl)
        clear HAC
        go_wp2_with fail
        refine wp_region_quiet_below (by kernel_rfl) (by kernel_rfl) ?_
        repeat (go_big_quiet_step ((go_at_call 47; exact Calls.regrown_of ((HTR.out _ (Only.ofBelow (below_regrown _ _ _) _)).mono fun _ _ h => ⟨h.1, h.2.below (Nat.le_refl _) (fun _ _ h => h)⟩))))
        refine wpQuiet_nil ?_
        intro w3 hw'
        obtain ⟨pq, hw''⟩ := hw'
        have HO3 := Lib.hid (HO2.out.trans (Only.ofBelow (below_regrown w2 pq.d pq.os) (fun _ => False)))
        rw [← hw''] at HO3
        clear hw'' y0 y1 z0
        go_wp2
        go_ret
        exact ⟨by rw [HBB.out]; rfl, HO3.out⟩
      · have HBB := Lib.hid (show verB 4 ax br v c z = ab by rw [HAC.out, decide_eq_true (show 1 ≤ x by omega), decide_eq_true (show x ≤ (n : Int) by omega)]; rfl)
        rw [HBB.out] at HVR
        have q2 : decide ((n : Int) < x) = false := decide_eq_false g2
        clear HAC
        go_wp2_with fail
        refine wp_region_quiet_below (by kernel_rfl) (by kernel_rfl) ?_
        repeat (go_big_quiet_step ((go_at_call 47; exact Calls.regrown_of ((HTR.out _ (Only.ofBelow (below_regrown _ _ _) _)).mono fun _ _ h => ⟨h.1, h.2.below (Nat.le_refl _) (fun _ _ h => h)⟩))))
        refine wpQuiet_nil ?_
        intro w3 hw'
        obtain ⟨pq, hw''⟩ := hw'
        have HO23 := Lib.hid (Only.ofBelow (below_regrown w2 pq.d pq.os) (fun _ => False))
        rw [← hw''] at HO23
        have HO3 := Lib.hid (HO2.out.trans HO23.out)
        have e0 := HO23.out.cell x0 id
        have e1 := HO23.out.cell x1 id
        have f0 := HO23.out.cell p0 id
        have f1 := HO23.out.cell p1 id
        have f2 := HO23.out.cell p2 id
        have f3 := HO23.out.cell p3 id
        clear hw'' y0 y1 z0 x0 x1 p0 p1 p2 p3 HO23
        go_wp2_with fail
        have y0 := fun (d : Nat) (os : Array Obj) => cell_regrown e0 d os
        have z0 := fun (d : Nat) (os : Array Obj) => cell_regrown f0 d os
        have z1 := fun (d : Nat) (os : Array Obj) => cell_regrown f1 d os
        have z2 := fun (d : Nat) (os : Array Obj) => cell_regrown f2 d os
        have z3 := fun (d : Nat) (os : Array Obj) => cell_regrown f3 d os
        clear e0 e1 f0 f1 f2 f3
        refine wp_region_quiet_below (by kernel_rfl) (by kernel_rfl) ?_
        repeat (go_big_quiet_step ((first | (go_at_call 24; exact Calls.regrown_of ((HAT.out _ (HO3.out.trans (Only.ofBelow (below_regrown _ _ _) _))).mono fun _ _ h => ⟨h.1, by rw [← h.2]; exact Below.refl _ _⟩)) | (go_at_call 12; exact Calls.regrown_of ((HBS.out _).mono fun _ _ h => ⟨h.1, h.2.below (Nat.le_refl _) (fun _ _ h => h)⟩)) | (go_at_call 48; exact Calls.regrown_of ((HVR.out _).mono fun _ _ h => ⟨h.1, h.2.below (Nat.le_refl _) (fun _ _ h => h)⟩)))))
        refine wpQuiet_nil ?_
        intro w4 hw'
        obtain ⟨pq, hw''⟩ := hw'
        have HO4 := Lib.hid (HO3.out.trans (Only.ofBelow (below_regrown w3 pq.d pq.os) (fun _ => False)))
        rw [← hw''] at HO4
        clear hw'' y0 z0 z1 z2 z3
        go_wp2
        go_ret
        exact ⟨rfl, HO4.out⟩
end Go.Proofs.YtlhfgbkonmgahaaGreatDoor

namespace Go.Proofs.YtlhfgbkonmgahaaGreatDoor
open Go.RowKit

theorem p4s_lit (W : World) (L : List Pt4) (T : TypeId) (h : L.length ≤ 9223372036854775807) : P4sAt (W.alloc (.cells (prow L).toArray T)) (.slice (some ⟨W.heap.size, 0, none⟩) L.length L.length) L := by
  refine .inr ⟨W.heap.size, 0, L.length, rfl, by simp, Nat.le_refl _, h, fun j hj => ?_⟩
  have h1 := prow_at L j hj
  have hb := heap_alloc_last W (.cells (prow L).toArray T)
  rw [Nat.zero_add, cell_of_row _ _ (j * 4) _ _ _ hb, cell_of_row _ _ (j * 4 + 1) _ _ _ hb, cell_of_row _ _ (j * 4 + 2) _ _ _ hb, cell_of_row _ _ (j * 4 + 3) _ _ _ hb]
  simpa using h1
set_option maxHeartbeats 1000000 in
theorem san1_any (x y : Int) (w : World) (hG : Glob w) :
    Calls Tryz.prog 32 #[.int .i64 x, .int .i64 y] w fun e w' => e = .returned (.agg #[.int .i64 (evalV x y 3).1, .int .i64 (evalV x y 3).2.1, .int .i64 (evalV x y 3).2.2.1, .int .i64 (evalV x y 3).2.2.2]) ∧ Only (fun _ => False) w w' := by
  have hA := (Only.refl (fun _ => False) w).alloc (.cells #[.int .i64 0, .int .i64 0, .int .i64 0, .int .i64 0] 30)
  have HZ := Lib.hid (heap_alloc_last w (.cells #[.int .i64 0, .int .i64 0, .int .i64 0, .int .i64 0] 30))
  have HE := Lib.hid (peval_any x y 3 _ (by decide) (by decide) (hG.only hA))
  have HA := Lib.hid hA
  clear hA hG
  generalize (evalV x y 3).1 = a at *
  generalize (evalV x y 3).2.1 = b at *
  generalize (evalV x y 3).2.2.1 = c at *
  generalize (evalV x y 3).2.2.2 = d at *
  go_enter Tryz.func32, Tryz.ntmps32
  go_wp2_with fail
  refine HE.out.mono ?_
  rintro e w2 ⟨rfl, hO2⟩
  have HZ2 := Lib.hid (row_still hO2 HZ.out)
  have HO := Lib.hid (HA.out.trans hO2)
  clear hO2 HZ HA HE
  go_wp2_with (first | (refine wpList_store_row rfl 30 _ _ rfl w.heap.size #[.int .i64 a, .int .i64 b, .int .i64 c, .int .i64 d] rfl rfl 30 _ HZ2.out Tryz.infoPt rfl (pt_one _ _ _ _) ?_))
  exact bodyPost_ret (v := .agg #[.int .i64 a, .int .i64 b, .int .i64 c, .int .i64 d]) (results_cell_row rfl _ _ w.heap.size 30 #[.int .i64 a, .int .i64 b, .int .i64 c, .int .i64 d] (0, 0) _ rfl (setRow_heap _ _ _ _ _ _ HZ2.out) Tryz.underlying30 rfl Tryz.infoPt) rfl ⟨rfl, HO.out.setRow (Nat.le_refl _) _⟩
/-- The example's keys. -/
structure San9K (w W : World) (n : Nat) : Prop where
  com : PtsAt W.heap.size W (.slice (some ⟨n + 1, 0, none⟩) 2 2) kC
  grid : GridAt W (.slice (some ⟨n + 1 + 1 + 1 + 1, 0, none⟩) 2 2) kR
  row : W.heap[n + 1 + 1 + 1 + 1 + 1]? = some (.cells #[.slice (some ⟨n + 1, 0, none⟩) 2 2, .slice (some ⟨n + 1 + 1 + 1 + 1, 0, none⟩) 2 2] 41 (0, 0))
  only : Only (fun _ => False) w W
theorem pts_row {W : World} {g : Nat} {zs : List Int} {t : TypeId} (h : W.heap[g]? = some (.cells (irow zs).toArray t (0, 0))) (hl : zs.length ≤ 9223372036854775807) : PtsAt W.heap.size W (.slice (some ⟨g, 0, none⟩) zs.length zs.length) zs := by
  refine .inr ⟨g, 0, zs.length, rfl, own_lt0 h, Nat.le_refl _, hl, fun j hj => ?_⟩
  rw [Nat.zero_add, cell_of_row _ _ j _ _ _ h]
  have := irow_get zs j hj
  simpa using this
theorem san9_world (w : World) : San9K w ((((((w.alloc (.cells #[.int .i64 2305843009213691579] 3)).alloc (.cells #[.int .i64 1024, .int .i64 16] 3)).alloc (.cells #[.int .i64 1, .int .i64 2] 3)).alloc (.cells #[.int .i64 3, .int .i64 4, .int .i64 5] 3)).alloc (.cells #[.slice (some ⟨w.heap.size + 1 + 1, 0, none⟩) 2 2, .slice (some ⟨w.heap.size + 1 + 1 + 1, 0, none⟩) 3 3] 34)).alloc (.cells #[.slice (some ⟨w.heap.size + 1, 0, none⟩) 2 2, .slice (some ⟨w.heap.size + 1 + 1 + 1 + 1, 0, none⟩) 2 2] 41)) w.heap.size := by
  have o5 := (Only.refl (fun _ => False) (((((w.alloc (.cells #[.int .i64 2305843009213691579] 3)).alloc (.cells #[.int .i64 1024, .int .i64 16] 3)).alloc (.cells #[.int .i64 1, .int .i64 2] 3)).alloc (.cells #[.int .i64 3, .int .i64 4, .int .i64 5] 3)).alloc (.cells #[.slice (some ⟨w.heap.size + 1 + 1, 0, none⟩) 2 2, .slice (some ⟨w.heap.size + 1 + 1 + 1, 0, none⟩) 3 3] 34))).alloc (.cells #[.slice (some ⟨w.heap.size + 1, 0, none⟩) 2 2, .slice (some ⟨w.heap.size + 1 + 1 + 1 + 1, 0, none⟩) 2 2] 41)
  have o4 := ((Only.refl (fun _ => False) ((((w.alloc (.cells #[.int .i64 2305843009213691579] 3)).alloc (.cells #[.int .i64 1024, .int .i64 16] 3)).alloc (.cells #[.int .i64 1, .int .i64 2] 3)).alloc (.cells #[.int .i64 3, .int .i64 4, .int .i64 5] 3))).alloc (.cells #[.slice (some ⟨w.heap.size + 1 + 1, 0, none⟩) 2 2, .slice (some ⟨w.heap.size + 1 + 1 + 1, 0, none⟩) 3 3] 34)).trans o5
  have o3 := ((Only.refl (fun _ => False) (((w.alloc (.cells #[.int .i64 2305843009213691579] 3)).alloc (.cells #[.int .i64 1024, .int .i64 16] 3)).alloc (.cells #[.int .i64 1, .int .i64 2] 3))).alloc (.cells #[.int .i64 3, .int .i64 4, .int .i64 5] 3)).trans o4
  have o2 := ((Only.refl (fun _ => False) ((w.alloc (.cells #[.int .i64 2305843009213691579] 3)).alloc (.cells #[.int .i64 1024, .int .i64 16] 3))).alloc (.cells #[.int .i64 1, .int .i64 2] 3)).trans o3
  have h1 := row_still o2 (heap_alloc_last (w.alloc (.cells #[.int .i64 2305843009213691579] 3)) (.cells #[.int .i64 1024, .int .i64 16] 3))
  have h2 := row_still o3 (heap_alloc_last ((w.alloc (.cells #[.int .i64 2305843009213691579] 3)).alloc (.cells #[.int .i64 1024, .int .i64 16] 3)) (.cells #[.int .i64 1, .int .i64 2] 3))
  have h3 := row_still o4 (heap_alloc_last (((w.alloc (.cells #[.int .i64 2305843009213691579] 3)).alloc (.cells #[.int .i64 1024, .int .i64 16] 3)).alloc (.cells #[.int .i64 1, .int .i64 2] 3)) (.cells #[.int .i64 3, .int .i64 4, .int .i64 5] 3))
  have h4 := row_still o5 (heap_alloc_last ((((w.alloc (.cells #[.int .i64 2305843009213691579] 3)).alloc (.cells #[.int .i64 1024, .int .i64 16] 3)).alloc (.cells #[.int .i64 1, .int .i64 2] 3)).alloc (.cells #[.int .i64 3, .int .i64 4, .int .i64 5] 3)) (.cells #[.slice (some ⟨w.heap.size + 1 + 1, 0, none⟩) 2 2, .slice (some ⟨w.heap.size + 1 + 1 + 1, 0, none⟩) 3 3] 34))
  have h5 := heap_alloc_last (((((w.alloc (.cells #[.int .i64 2305843009213691579] 3)).alloc (.cells #[.int .i64 1024, .int .i64 16] 3)).alloc (.cells #[.int .i64 1, .int .i64 2] 3)).alloc (.cells #[.int .i64 3, .int .i64 4, .int .i64 5] 3)).alloc (.cells #[.slice (some ⟨w.heap.size + 1 + 1, 0, none⟩) 2 2, .slice (some ⟨w.heap.size + 1 + 1 + 1, 0, none⟩) 3 3] 34)) (.cells #[.slice (some ⟨w.heap.size + 1, 0, none⟩) 2 2, .slice (some ⟨w.heap.size + 1 + 1 + 1 + 1, 0, none⟩) 2 2] 41)
  have hO : Only (fun _ => False) w ((((((w.alloc (.cells #[.int .i64 2305843009213691579] 3)).alloc (.cells #[.int .i64 1024, .int .i64 16] 3)).alloc (.cells #[.int .i64 1, .int .i64 2] 3)).alloc (.cells #[.int .i64 3, .int .i64 4, .int .i64 5] 3)).alloc (.cells #[.slice (some ⟨w.heap.size + 1 + 1, 0, none⟩) 2 2, .slice (some ⟨w.heap.size + 1 + 1 + 1, 0, none⟩) 3 3] 34)).alloc (.cells #[.slice (some ⟨w.heap.size + 1, 0, none⟩) 2 2, .slice (some ⟨w.heap.size + 1 + 1 + 1 + 1, 0, none⟩) 2 2] 41)) := ((((((Only.refl (fun _ => False) w).alloc _).alloc _).alloc _).alloc _).alloc _).alloc _
  generalize hW : ((((((w.alloc (.cells #[.int .i64 2305843009213691579] 3)).alloc (.cells #[.int .i64 1024, .int .i64 16] 3)).alloc (.cells #[.int .i64 1, .int .i64 2] 3)).alloc (.cells #[.int .i64 3, .int .i64 4, .int .i64 5] 3)).alloc (.cells #[.slice (some ⟨w.heap.size + 1 + 1, 0, none⟩) 2 2, .slice (some ⟨w.heap.size + 1 + 1 + 1, 0, none⟩) 3 3] 34)).alloc (.cells #[.slice (some ⟨w.heap.size + 1, 0, none⟩) 2 2, .slice (some ⟨w.heap.size + 1 + 1 + 1 + 1, 0, none⟩) 2 2] 41)) = W at *
  clear hW
  simp only [World.size_alloc] at h1 h2 h3 h4 h5
  refine ⟨pts_row (zs := kC) h1 (by decide), ?_, h5, hO⟩
  refine .inr ⟨w.heap.size + 1 + 1 + 1 + 1, 0, 2, rfl, own_lt0 h4, Nat.le_refl _, by decide, fun j hj => ?_⟩
  match j, hj with
  | 0, _ => exact ⟨_, cell_of_row _ _ 0 _ _ _ h4, pts_row (zs := [1, 2]) h2 (by decide)⟩
  | 1, _ => exact ⟨_, cell_of_row _ _ 1 _ _ _ h4, pts_row (zs := [3, 4, 5]) h3 (by decide)⟩
theorem kR_short : ∀ k, k ≤ kR.length → gridTo kR k ≤ 1000000
  | 0, _ => by decide
  | 1, _ => by decide
  | 2, _ => by decide
theorem san9_comb (L : List Pt4) (n1 n4 : Nat) (W : World) (hcom : PtsAt W.heap.size W (.slice (some ⟨n1, 0, none⟩) 2 2) kC) (hgrid : GridAt W (.slice (some ⟨n4, 0, none⟩) 2 2) kR) (hG : Glob W) (hl : L.length ≤ 1000) :
    Calls Tryz.prog 22 #[.agg #[.slice (some ⟨n1, 0, none⟩) 2 2, .slice (some ⟨n4, 0, none⟩) 2 2], .int .i64 3, .slice (some ⟨W.heap.size, 0, none⟩) L.length L.length] (W.alloc (.cells (prow L).toArray 30)) fun e w' =>
      ∃ v, e = .returned (.tuple #[.int .i64 (combR kR kC 3 L).1, v, .int .i64 (combR kR kC 3 L).2.2]) ∧ w'.ownsRow W.heap.size 3 1 v (combR kR kC 3 L).2.1.length (irow (combR kR kC 3 L).2.1) ∧ Only (fun _ => False) W w' := by
  have hA := (Only.refl (fun _ => False) W).alloc (.cells (prow L).toArray 30)
  refine (bcombine_any _ L (some ⟨n1, 0, none⟩) (some ⟨n4, 0, none⟩) 2 2 kC kR 3 _ (p4s_lit W L _ (by omega)) (by omega) (hcom.only hA) (hgrid.only hA) kR_short (by decide) (by decide) (by decide) (hG.only hA)).mono ?_
  rintro e w' ⟨v, he, hown, hO⟩
  exact ⟨v, he, own_base hown (by rw [World.size_alloc]; omega), hA.trans hO⟩
set_option maxRecDepth 100000 in
set_option maxHeartbeats 8000000 in
theorem sanity9_any (w : World) (hG : Glob w) : Calls Tryz.prog 9 #[] w fun e w' => e = .returned (.bool true) ∧ Only (fun _ => False) w w' := by
  have HG := Lib.hid hG
  have hp5 : powM 4 5 2305843009213691579 = 1024 := by kernel_rfl
  have HP5 := Lib.hid (fun w => pow_any 4 5 2305843009213691579 w (by decide) (by decide) (by decide) (by decide))
  rw [hp5] at HP5
  clear hG hp5
  go_enter Tryz.func9, Tryz.ntmps9
  go_wp2_with fail
  refine (HP5.out _).mono ?_
  rintro e w1 ⟨rfl, rfl⟩
  go_wp2_with fail
  have HW := Lib.hid (san9_world w)
  generalize ((((((w.alloc (.cells #[.int .i64 2305843009213691579] 3)).alloc (.cells #[.int .i64 1024, .int .i64 16] 3)).alloc (.cells #[.int .i64 1, .int .i64 2] 3)).alloc (.cells #[.int .i64 3, .int .i64 4, .int .i64 5] 3)).alloc (.cells #[.slice (some ⟨w.heap.size + 1 + 1, 0, none⟩) 2 2, .slice (some ⟨w.heap.size + 1 + 1 + 1, 0, none⟩) 3 3] 34)).alloc (.cells #[.slice (some ⟨w.heap.size + 1, 0, none⟩) 2 2, .slice (some ⟨w.heap.size + 1 + 1 + 1 + 1, 0, none⟩) 2 2] 41)) = w5 at *
  have HKX := Lib.hid (fun W (hW : Only (fun _ => False) w5 W) => HG.out.only (HW.out.only.trans hW))
  refine (pbase_any 3 _ (by decide) (by decide) (HKX.out _ (Only.refl _ _))).mono ?_
  rintro e w6 ⟨rfl, hO6⟩
  have HO6 := Lib.hid hO6
  clear hO6
  obtain ⟨pw, hpw⟩ : ∃ pw, powM (baseZ 3) 5 2305843009213691579 = pw := ⟨_, rfl⟩
  have HPW := Lib.hid (fun w => pow_any (baseZ 3) 5 2305843009213691579 w (by decide) (by decide) (by decide) (by decide))
  rw [hpw] at HPW
  have hc1 := comb1
  have hc2 := comb2
  have hc3 := comb3
  rw [hpw] at hc1 hc2
  have HC1 := Lib.hid hc1
  have HC2 := Lib.hid hc2
  have HC3 := Lib.hid hc3
  clear hc1 hc2 hc3 hpw
  go_wp2_with fail
  refine (HPW.out _).mono ?_
  rintro e w7 ⟨rfl, rfl⟩
  have HO8 := Lib.hid (HO6.out.alloc (.cells #[.int .i64 2305843009213691579] 3))
  generalize w6.alloc (.cells #[.int .i64 2305843009213691579] 3) = w8 at *
  have hrow := row_still HO8.out HW.out.row
  have HCO := Lib.hid (fun W (hW : Only (fun _ => False) w8 W) => HW.out.com.only (HO8.out.trans hW))
  have HGR := Lib.hid (fun W (hW : Only (fun _ => False) w8 W) => HW.out.grid.only (HO8.out.trans hW))
  have HGW := Lib.hid (fun W (hW : Only (fun _ => False) w8 W) => HG.out.only (HW.out.only.trans (HO8.out.trans hW)))
  have HOW := Lib.hid (HW.out.only.trans HO8.out)
  clear HW HKX HO6 HPW HP5
  generalize w.heap.size + 1 + 1 + 1 + 1 + 1 = n5 at *
  generalize w.heap.size + 1 + 1 + 1 + 1 = n4 at *
  generalize w.heap.size + 1 + 1 + 1 = n3 at *
  generalize w.heap.size + 1 + 1 = n2 at *
  generalize w.heap.size + 1 = n1 at *
  have e0 : _ = some (Value.slice (some ⟨n1, 0, none⟩) 2 2) := cell_of_row _ _ 0 _ _ _ hrow
  have e1 : _ = some (Value.slice (some ⟨n4, 0, none⟩) 2 2) := cell_of_row _ _ 1 _ _ _ hrow
  clear hrow
  go_upto_region 4 with fail
  have HKS := Lib.hid (show ∀ W, Only (fun _ => False) w8 W → W.cell? ⟨n5, 0, none⟩ = some (.slice (some ⟨n1, 0, none⟩) 2 2) ∧ W.cell? ⟨n5, 1, none⟩ = some (.slice (some ⟨n4, 0, none⟩) 2 2) ∧ Only (fun _ => False) w8 W from fun W h => ⟨h.cell e0 id, h.cell e1 id, h⟩)
  have HEV := Lib.hid (show ∀ x y W, (W.cell? ⟨n5, 0, none⟩ = some (.slice (some ⟨n1, 0, none⟩) 2 2) ∧ W.cell? ⟨n5, 1, none⟩ = some (.slice (some ⟨n4, 0, none⟩) 2 2) ∧ Only (fun _ => False) w8 W) → Calls Tryz.prog 32 #[.int .i64 x, .int .i64 y] W (fun e wT => e = .returned (.agg #[.int .i64 (evalV x y 3).1, .int .i64 (evalV x y 3).2.1, .int .i64 (evalV x y 3).2.2.1, .int .i64 (evalV x y 3).2.2.2]) ∧ (wT.cell? ⟨n5, 0, none⟩ = some (.slice (some ⟨n1, 0, none⟩) 2 2) ∧ wT.cell? ⟨n5, 1, none⟩ = some (.slice (some ⟨n4, 0, none⟩) 2 2) ∧ Only (fun _ => False) w8 wT)) from fun x y W h => (san1_any x y W (HGW.out _ h.2.2)).mono fun _ _ k => ⟨k.1, HKS.out _ (h.2.2.trans k.2)⟩)
  have HCB := Lib.hid (show ∀ W, (W.cell? ⟨n5, 0, none⟩ = some (.slice (some ⟨n1, 0, none⟩) 2 2) ∧ W.cell? ⟨n5, 1, none⟩ = some (.slice (some ⟨n4, 0, none⟩) 2 2) ∧ Only (fun _ => False) w8 W) → Calls Tryz.prog 22 #[.agg #[.slice (some ⟨n1, 0, none⟩) 2 2, .slice (some ⟨n4, 0, none⟩) 2 2], .int .i64 3, .slice (some ⟨W.heap.size, 0, none⟩) 2 2] (W.alloc (.cells #[.int .i64 (evalV 1 7 3).1, .int .i64 (evalV 1 7 3).2.1, .int .i64 (evalV 1 7 3).2.2.1, .int .i64 (evalV 1 7 3).2.2.2, .int .i64 (evalV 4 13 3).1, .int .i64 (evalV 4 13 3).2.1, .int .i64 (evalV 4 13 3).2.2.1, .int .i64 (evalV 4 13 3).2.2.2] 30)) (fun e wT => (∃ v, e = .returned (.tuple #[.int .i64 pw, v, .int .i64 0]) ∧ wT.ownsRow w8.heap.size 3 1 v 0 (irow [])) ∧ (wT.cell? ⟨n5, 0, none⟩ = some (.slice (some ⟨n1, 0, none⟩) 2 2) ∧ wT.cell? ⟨n5, 1, none⟩ = some (.slice (some ⟨n4, 0, none⟩) 2 2) ∧ Only (fun _ => False) w8 wT)) from fun W h => by
    have := san9_comb [evalV 1 7 3, evalV 4 13 3] n1 n4 W (HCO.out _ h.2.2) (HGR.out _ h.2.2) (HGW.out _ h.2.2) (by decide)
    rw [HC1.out] at this
    refine Calls.mono this ?_
    rintro e wT ⟨v, he, hown, hO⟩
    exact ⟨⟨v, he, own_base hown h.2.2.size⟩, HKS.out _ (h.2.2.trans hO)⟩)
  go_cut [4, 5, 6] (fun va vb vc wx => va = .int .i64 pw ∧ wx.ownsRow w8.heap.size 3 1 vb 0 (irow []) ∧ vc = .int .i64 0 ∧ Only (fun _ => False) w8 wx)
  case first =>
    go_region_held3 (fun w' => w'.cell? ⟨n5, 0, none⟩ = some (.slice (some ⟨n1, 0, none⟩) 2 2) ∧ w'.cell? ⟨n5, 1, none⟩ = some (.slice (some ⟨n4, 0, none⟩) 2 2) ∧ Only (fun _ => False) w8 w')
      (first
        | with_reducible exact HKS.out _ ((Only.refl _ w8).drew)
        | with_reducible exact hS1
        | with_reducible exact hS2
        | exact HKS.out _ (hS1.2.2.alloc _))
      (first
        | (go_at_call 32; with_reducible refine (HEV.out _ _ _ (by assumption)).mono ?_; rintro e wK ⟨rfl, hS1⟩)
        | (go_at_call 22; with_reducible refine (HCB.out _ hS1).mono ?_; rintro e wN ⟨⟨v, rfl, hv⟩, hS2⟩))
    clear HEV HCB HKS
    go_wp2_with fail
    go_meet
    exact ⟨rfl, hv, rfl, hS2.2.2⟩
  case rest =>
    obtain ⟨rfl, hnone, rfl, hOw9⟩ := hcut
    generalize wc = w9 at *
    have e0 : _ = some (Value.slice (some ⟨n1, 0, none⟩) 2 2) := hOw9.cell e0 id
    have e1 : _ = some (Value.slice (some ⟨n4, 0, none⟩) 2 2) := hOw9.cell e1 id
    have HCO := Lib.hid (fun W (hW : Only (fun _ => False) w9 W) => HCO.out W (hOw9.trans hW))
    have HGR := Lib.hid (fun W (hW : Only (fun _ => False) w9 W) => HGR.out W (hOw9.trans hW))
    have HGW := Lib.hid (fun W (hW : Only (fun _ => False) w9 W) => HGW.out W (hOw9.trans hW))
    have HOW := Lib.hid (HOW.out.trans hOw9)
    obtain ⟨an, cn, hvn⟩ := slice_of_own hnone
    subst hvn
    clear hnone hOw9 HKS HEV HCB HO8
    go_upto_region 5 with fail
    have HKS := Lib.hid (show ∀ W, Only (fun _ => False) w9 W → W.cell? ⟨n5, 0, none⟩ = some (.slice (some ⟨n1, 0, none⟩) 2 2) ∧ W.cell? ⟨n5, 1, none⟩ = some (.slice (some ⟨n4, 0, none⟩) 2 2) ∧ Only (fun _ => False) w9 W from fun W h => ⟨h.cell e0 id, h.cell e1 id, h⟩)
    have HEV := Lib.hid (show ∀ x y W, (W.cell? ⟨n5, 0, none⟩ = some (.slice (some ⟨n1, 0, none⟩) 2 2) ∧ W.cell? ⟨n5, 1, none⟩ = some (.slice (some ⟨n4, 0, none⟩) 2 2) ∧ Only (fun _ => False) w9 W) → Calls Tryz.prog 32 #[.int .i64 x, .int .i64 y] W (fun e wT => e = .returned (.agg #[.int .i64 (evalV x y 3).1, .int .i64 (evalV x y 3).2.1, .int .i64 (evalV x y 3).2.2.1, .int .i64 (evalV x y 3).2.2.2]) ∧ (wT.cell? ⟨n5, 0, none⟩ = some (.slice (some ⟨n1, 0, none⟩) 2 2) ∧ wT.cell? ⟨n5, 1, none⟩ = some (.slice (some ⟨n4, 0, none⟩) 2 2) ∧ Only (fun _ => False) w9 wT)) from fun x y W h => (san1_any x y W (HGW.out _ h.2.2)).mono fun _ _ k => ⟨k.1, HKS.out _ (h.2.2.trans k.2)⟩)
    have HCB := Lib.hid (show ∀ W, (W.cell? ⟨n5, 0, none⟩ = some (.slice (some ⟨n1, 0, none⟩) 2 2) ∧ W.cell? ⟨n5, 1, none⟩ = some (.slice (some ⟨n4, 0, none⟩) 2 2) ∧ Only (fun _ => False) w9 W) → Calls Tryz.prog 22 #[.agg #[.slice (some ⟨n1, 0, none⟩) 2 2, .slice (some ⟨n4, 0, none⟩) 2 2], .int .i64 3, .slice (some ⟨W.heap.size, 0, none⟩) 3 3] (W.alloc (.cells #[.int .i64 (evalV 1 7 3).1, .int .i64 (evalV 1 7 3).2.1, .int .i64 (evalV 1 7 3).2.2.1, .int .i64 (evalV 1 7 3).2.2.2, .int .i64 (evalV 2 10 3).1, .int .i64 (evalV 2 10 3).2.1, .int .i64 (evalV 2 10 3).2.2.1, .int .i64 (evalV 2 10 3).2.2.2, .int .i64 (evalV 2 9 3).1, .int .i64 (evalV 2 9 3).2.1, .int .i64 (evalV 2 9 3).2.2.1, .int .i64 (evalV 2 9 3).2.2.2] 30)) (fun e wT => (∃ v, e = .returned (.tuple #[.int .i64 pw, v, .int .i64 0]) ∧ wT.ownsRow w9.heap.size 3 1 v 1 (irow [2])) ∧ (wT.cell? ⟨n5, 0, none⟩ = some (.slice (some ⟨n1, 0, none⟩) 2 2) ∧ wT.cell? ⟨n5, 1, none⟩ = some (.slice (some ⟨n4, 0, none⟩) 2 2) ∧ Only (fun _ => False) w9 wT)) from fun W h => by
      have := san9_comb [evalV 1 7 3, evalV 2 10 3, evalV 2 9 3] n1 n4 W (HCO.out _ h.2.2) (HGR.out _ h.2.2) (HGW.out _ h.2.2) (by decide)
      rw [HC2.out] at this
      refine Calls.mono this ?_
      rintro e wT ⟨v, he, hown, hO⟩
      exact ⟨⟨v, he, own_base hown h.2.2.size⟩, HKS.out _ (h.2.2.trans hO)⟩)
    go_cut [7, 8, 9] (fun va vb vc wx => va = .int .i64 pw ∧ wx.ownsRow w9.heap.size 3 1 vb 1 (irow [2]) ∧ vc = .int .i64 0 ∧ Only (fun _ => False) w9 wx)
    case first =>
      go_region_held3 (fun w' => w'.cell? ⟨n5, 0, none⟩ = some (.slice (some ⟨n1, 0, none⟩) 2 2) ∧ w'.cell? ⟨n5, 1, none⟩ = some (.slice (some ⟨n4, 0, none⟩) 2 2) ∧ Only (fun _ => False) w9 w')
        (first
          | with_reducible exact HKS.out _ ((Only.refl _ w9).drew)
          | with_reducible exact hS1
          | with_reducible exact hS2
          | exact HKS.out _ (hS1.2.2.alloc _))
        (first
          | (go_at_call 32; with_reducible refine (HEV.out _ _ _ (by assumption)).mono ?_; rintro e wK ⟨rfl, hS1⟩)
          | (go_at_call 22; with_reducible refine (HCB.out _ hS1).mono ?_; rintro e wN ⟨⟨v, rfl, hv⟩, hS2⟩))
      clear HEV HCB HKS
      go_wp2_with fail
      go_meet
      exact ⟨rfl, hv, rfl, hS2.2.2⟩
    case rest =>
      obtain ⟨rfl, htwo, rfl, hOw10⟩ := hcut
      generalize wc = w10 at *
      have e0 : _ = some (Value.slice (some ⟨n1, 0, none⟩) 2 2) := hOw10.cell e0 id
      have e1 : _ = some (Value.slice (some ⟨n4, 0, none⟩) 2 2) := hOw10.cell e1 id
      have HCO := Lib.hid (fun W (hW : Only (fun _ => False) w10 W) => HCO.out W (hOw10.trans hW))
      have HGR := Lib.hid (fun W (hW : Only (fun _ => False) w10 W) => HGR.out W (hOw10.trans hW))
      have HGW := Lib.hid (fun W (hW : Only (fun _ => False) w10 W) => HGW.out W (hOw10.trans hW))
      have HOW := Lib.hid (HOW.out.trans hOw10)
      have HTW := Lib.hid htwo
      obtain ⟨at2', ct2, hvt⟩ := slice_of_own htwo
      subst hvt
      clear htwo hOw10 HKS HEV HCB
      go_upto_region 6 with fail
      have HKS := Lib.hid (show ∀ W, Only (fun _ => False) w10 W → W.cell? ⟨n5, 0, none⟩ = some (.slice (some ⟨n1, 0, none⟩) 2 2) ∧ W.cell? ⟨n5, 1, none⟩ = some (.slice (some ⟨n4, 0, none⟩) 2 2) ∧ Only (fun _ => False) w10 W from fun W h => ⟨h.cell e0 id, h.cell e1 id, h⟩)
      have HEV := Lib.hid (show ∀ x y W, (W.cell? ⟨n5, 0, none⟩ = some (.slice (some ⟨n1, 0, none⟩) 2 2) ∧ W.cell? ⟨n5, 1, none⟩ = some (.slice (some ⟨n4, 0, none⟩) 2 2) ∧ Only (fun _ => False) w10 W) → Calls Tryz.prog 32 #[.int .i64 x, .int .i64 y] W (fun e wT => e = .returned (.agg #[.int .i64 (evalV x y 3).1, .int .i64 (evalV x y 3).2.1, .int .i64 (evalV x y 3).2.2.1, .int .i64 (evalV x y 3).2.2.2]) ∧ (wT.cell? ⟨n5, 0, none⟩ = some (.slice (some ⟨n1, 0, none⟩) 2 2) ∧ wT.cell? ⟨n5, 1, none⟩ = some (.slice (some ⟨n4, 0, none⟩) 2 2) ∧ Only (fun _ => False) w10 wT)) from fun x y W h => (san1_any x y W (HGW.out _ h.2.2)).mono fun _ _ k => ⟨k.1, HKS.out _ (h.2.2.trans k.2)⟩)
      have HCB := Lib.hid (show ∀ W, (W.cell? ⟨n5, 0, none⟩ = some (.slice (some ⟨n1, 0, none⟩) 2 2) ∧ W.cell? ⟨n5, 1, none⟩ = some (.slice (some ⟨n4, 0, none⟩) 2 2) ∧ Only (fun _ => False) w10 W) → Calls Tryz.prog 22 #[.agg #[.slice (some ⟨n1, 0, none⟩) 2 2, .slice (some ⟨n4, 0, none⟩) 2 2], .int .i64 3, .slice (some ⟨W.heap.size, 0, none⟩) 2 2] (W.alloc (.cells #[.int .i64 (evalV 1 7 3).1, .int .i64 (evalV 1 7 3).2.1, .int .i64 (evalV 1 7 3).2.2.1, .int .i64 (evalV 1 7 3).2.2.2, .int .i64 (evalV 1 7 3).1, .int .i64 (evalV 1 7 3).2.1, .int .i64 (evalV 1 7 3).2.2.1, .int .i64 (evalV 1 7 3).2.2.2] 30)) (fun e wT => (∃ v, e = .returned (.tuple #[.int .i64 0, v, .int .i64 24]) ∧ wT.ownsRow w10.heap.size 3 1 v 0 (irow [])) ∧ (wT.cell? ⟨n5, 0, none⟩ = some (.slice (some ⟨n1, 0, none⟩) 2 2) ∧ wT.cell? ⟨n5, 1, none⟩ = some (.slice (some ⟨n4, 0, none⟩) 2 2) ∧ Only (fun _ => False) w10 wT)) from fun W h => by
        have := san9_comb [evalV 1 7 3, evalV 1 7 3] n1 n4 W (HCO.out _ h.2.2) (HGR.out _ h.2.2) (HGW.out _ h.2.2) (by decide)
        rw [HC3.out] at this
        refine Calls.mono this ?_
        rintro e wT ⟨v, he, hown, hO⟩
        exact ⟨⟨v, he, own_base hown h.2.2.size⟩, HKS.out _ (h.2.2.trans hO)⟩)
      go_cut [10, 11, 12] (fun va vb vc wx => va = .int .i64 0 ∧ wx.ownsRow w10.heap.size 3 1 vb 0 (irow []) ∧ vc = .int .i64 24 ∧ Only (fun _ => False) w10 wx)
      case first =>
        go_region_held3 (fun w' => w'.cell? ⟨n5, 0, none⟩ = some (.slice (some ⟨n1, 0, none⟩) 2 2) ∧ w'.cell? ⟨n5, 1, none⟩ = some (.slice (some ⟨n4, 0, none⟩) 2 2) ∧ Only (fun _ => False) w10 w')
          (first
            | with_reducible exact HKS.out _ ((Only.refl _ w10).drew)
            | with_reducible exact hS1
            | with_reducible exact hS2
            | exact HKS.out _ (hS1.2.2.alloc _))
          (first
            | (go_at_call 32; with_reducible refine (HEV.out _ _ _ (by assumption)).mono ?_; rintro e wK ⟨rfl, hS1⟩)
            | (go_at_call 22; with_reducible refine (HCB.out _ hS1).mono ?_; rintro e wN ⟨⟨v, rfl, hv⟩, hS2⟩))
        clear HEV HCB HKS
        go_wp2_with fail
        go_meet
        exact ⟨rfl, hv, rfl, hS2.2.2⟩
      case rest =>
        obtain ⟨rfl, hfew, rfl, hOw11⟩ := hcut
        generalize wc = w11 at *
        have e0 : _ = some (Value.slice (some ⟨n1, 0, none⟩) 2 2) := hOw11.cell e0 id
        have e1 : _ = some (Value.slice (some ⟨n4, 0, none⟩) 2 2) := hOw11.cell e1 id
        have HCO := Lib.hid (fun W (hW : Only (fun _ => False) w11 W) => HCO.out W (hOw11.trans hW))
        have HGR := Lib.hid (fun W (hW : Only (fun _ => False) w11 W) => HGR.out W (hOw11.trans hW))
        have HGW := Lib.hid (fun W (hW : Only (fun _ => False) w11 W) => HGW.out W (hOw11.trans hW))
        have HOW := Lib.hid (HOW.out.trans hOw11)
        have HTW := Lib.hid (hOw11.owns HTW.out (fun _ _ h => h))
        clear hfew hOw11 HKS HEV HCB HC1 HC2 HC3
        have q17 : acB 5 kC 3 ((evalV 1 7 3).1, (evalV 1 7 3).2.1, (evalV 1 7 3).2.2.1, (evalV 1 7 3).2.2.2) = true := ac17
        have q18 : acB 5 kC 3 ((evalV 1 8 3).1, (evalV 1 8 3).2.1, (evalV 1 8 3).2.2.1, (evalV 1 8 3).2.2.2) = false := ac18
        have HEV := Lib.hid (fun x y W (hW : Only (fun _ => False) w11 W) => san1_any x y W (HGW.out _ hW))
        have HVF := Lib.hid (show ∀ x v c z bb, acB 5 kC 3 (x, v, c, z) = bb → ∀ W, Only (fun _ => False) w11 W → Calls Tryz.prog 17 #[.agg #[.slice (some ⟨n1, 0, none⟩) 2 2, .slice (some ⟨n4, 0, none⟩) 2 2], .int .i64 3, .agg #[.int .i64 x, .int .i64 v, .int .i64 c, .int .i64 z]] W fun e w' => e = .returned (.bool bb) ∧ Only (fun _ => False) W w' from fun x v c z bb hbb W hW => by
          have := bverify_any (some ⟨n1, 0, none⟩) (some ⟨n4, 0, none⟩) 2 2 kC kR 3 x v c z W (HCO.out _ hW) (HGR.out _ hW) kR_short (by decide) (by decide) (by decide) (HGW.out _ hW)
          rw [kR_right, kR_n, Bool.true_and, hbb] at this
          exact this)
        have y0 := fun (d : Nat) (os : Array Obj) => cell_regrown e0 d os
        have y1 := fun (d : Nat) (os : Array Obj) => cell_regrown e1 d os
        clear e0 e1
        go_wp2_with fail
        refine wp_region_quiet_below (by kernel_rfl) (by kernel_rfl) ?_
        repeat (go_big_quiet_step ((first | (go_at_call 32; exact Calls.regrown_of ((HEV.out _ _ _ (Only.ofBelow (below_regrown _ _ _) _)).mono fun _ _ h => ⟨h.1, h.2.below (Nat.le_refl _) (fun _ _ h => h)⟩)) | (go_at_call 17; exact Calls.regrown_of ((HVF.out _ _ _ _ _ (by assumption) _ (Only.ofBelow (below_regrown _ _ _) _)).mono fun _ _ h => ⟨h.1, h.2.below (Nat.le_refl _) (fun _ _ h => h)⟩)))))
        refine wpQuiet_nil ?_
        intro w12 hw'
        obtain ⟨pq, hw''⟩ := hw'
        have HO12 := Lib.hid (Only.ofBelow (below_regrown w11 pq.d pq.os) (fun _ => False))
        rw [← hw''] at HO12
        have HTW := Lib.hid (HO12.out.owns HTW.out (fun _ _ h => h))
        have HGW := Lib.hid (fun W (hW : Only (fun _ => False) w12 W) => HGW.out W (HO12.out.trans hW))
        have HOW := Lib.hid (HOW.out.trans HO12.out)
        clear hw'' y0 y1 q17 q18 HEV HVF HO12
        go_wp2_with fail
        have hI := (pts_of_own (zs := [2]) HTW.out (by decide)).only ((Only.refl (fun _ => False) w12).alloc (.cells #[.int .i64 2] 3))
        have hN := pts_lit w12 [2] 3 (by decide)
        refine (rints9_is (.slice at2' 1 ct2) (.slice (some ⟨w12.heap.size, 0, none⟩) 1 1) [2] [2] true _ (by decide) hI hN (by decide)).mono ?_
        rintro e w13 ⟨rfl, nq, rfl⟩
        have HO13 := Lib.hid (((Only.refl (fun _ => False) w12).alloc (.cells #[.int .i64 2] 3)).drewN nq)
        have HE01 := Lib.hid (show ∀ W, Glob W → Calls Tryz.prog 32 #[.int .i64 0, .int .i64 1] W fun e w' => e = .returned (.agg #[.int .i64 0, .int .i64 0, .int .i64 0, .int .i64 0]) ∧ Only (fun _ => False) W w' from fun W h => by
          have := san1_any 0 1 W h
          rw [ev01] at this
          exact this)
        have HTX := Lib.hid (show ∀ W, Glob W → Calls Tryz.prog 28 #[.agg #[.int .i64 0, .int .i64 0, .int .i64 0, .int .i64 0]] W fun e w' => e = .returned (.string ⟨#[48, 32, 48, 32, 48, 32, 48]⟩) ∧ Only (fun _ => False) W w' from fun W h => by
          have := btext_any 0 0 0 0 W ⟨by decide, by decide⟩ ⟨by decide, by decide⟩ ⟨by decide, by decide⟩ ⟨by decide, by decide⟩ h
          rw [text0] at this
          exact this)
        clear hI hN HTW HCO HGR
        generalize (w12.alloc (.cells #[.int .i64 2] 3)).drewN nq = w13 at *
        go_wp2_with fail
        refine (HE01.out _ (HGW.out _ HO13.out)).mono ?_
        rintro e w14 ⟨rfl, hO14⟩
        have HO14 := Lib.hid (HO13.out.trans hO14)
        clear hO14
        go_wp2_with fail
        refine (HTX.out _ (HGW.out _ HO14.out)).mono ?_
        rintro e w15 ⟨rfl, hO15⟩
        have HO15 := Lib.hid (HOW.out.trans (HO14.out.trans hO15))
        clear hO15
        go_wp2
        go_ret
        exact ⟨rfl, HO15.out⟩
end Go.Proofs.YtlhfgbkonmgahaaGreatDoor
