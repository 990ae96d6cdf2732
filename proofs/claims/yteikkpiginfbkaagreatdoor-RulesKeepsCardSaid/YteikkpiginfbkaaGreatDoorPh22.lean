/-
  Rules: the program's rightLists.
-/
import Derived.Test.YteikkpiginfbkaaGreatDoorPh21
namespace Go.Proofs.YteikkpiginfbkaaGreatDoor
open Go.RowKit

theorem contains_pre (base c k : Nat) (a : Option Addr) (zs : List Int) (x : Int) (bb : Bool) (w : World) (h : w.ownsRow base 3 1 (.slice a zs.length c) zs.length (irow zs)) (hk : k < zs.length) (hb : hasBar (zs.take k) x = bb) :
    Calls Tryz.prog 91 #[.slice a k c, .int .i64 x] w fun e w' => e = .returned (.bool bb) ∧ w = w' := by
  have hc : (zs.take k).contains x = bb := by
    rw [← hb]
    unfold hasBar
    rw [List.contains_eq_any_beq]
    congr 1
    funext u
    rw [Bool.eq_iff_iff, beq_iff_eq, beq_iff_eq]
    exact eq_comm
  rcases h.2 with ⟨hv, h0⟩ | ⟨g, cap, cur, hv, _, hg, h1, h2, h3, h4⟩
  · omega
  · simp only [Value.slice.injEq, true_and] at hv
    obtain ⟨rfl, rfl⟩ := hv
    refine (Tryz.slices_Contains_int g 0 k c zs x w (by omega) (by unfold maxLen at h2; omega) (fun j hj => ?_)).mono ?_
    · have hu : (irow zs)[j]? = some (.int .i64 (zs.getD j 0)) := by unfold irow; simp [List.getD, hj]
      obtain ⟨g', cap', hv', _, _, _, hcell⟩ := own_cell h hu
      simp only [Value.slice.injEq, Option.some.injEq, Addr.mk.injEq, and_true, true_and] at hv'
      obtain ⟨rfl, rfl⟩ := hv'
      rw [Nat.zero_add]; exact hcell
    rintro e w' ⟨rfl, rfl⟩
    refine ⟨?_, rfl⟩
    rw [hc]
theorem ptsR_of_own {w : World} {base c : Nat} {a : Option Addr} {zs : List Int} (h : w.ownsRow base 3 1 (.slice a zs.length c) zs.length (irow zs)) : PtsAt w.heap.size w (.slice a zs.length c) zs := by
  rcases Nat.eq_zero_or_pos zs.length with h0 | h0
  · left
    have hz : zs = [] := List.length_eq_zero_iff.1 h0
    subst hz
    exact ⟨a, c, rfl, rfl⟩
  · right
    have hu : ∀ j, j < zs.length → (irow zs)[j]? = some (.int .i64 (ptAt zs j)) := fun j hj => by unfold irow ptAt; simp [List.getD, hj]
    obtain ⟨g, cap, hv, hg, h1, h2, _⟩ := own_cell h (hu 0 h0)
    simp only [Value.slice.injEq, true_and] at hv
    obtain ⟨rfl, rfl⟩ := hv
    refine ⟨g, 0, c, rfl, hg, h1, h2, fun j hj => ?_⟩
    obtain ⟨g', cap', hv', _, _, _, hcell⟩ := own_cell h (hu j hj)
    simp only [Value.slice.injEq, Option.some.injEq, Addr.mk.injEq, and_true, true_and] at hv'
    obtain ⟨rfl, rfl⟩ := hv'
    rw [Nat.zero_add]; exact hcell
theorem pts_new (w : World) (zs : List Int) (h0 : 0 < zs.length) (hl : zs.length ≤ 1000) : PtsAt (w.alloc (.cells (irow zs).toArray 3)).heap.size (w.alloc (.cells (irow zs).toArray 3)) (.slice (some ⟨w.heap.size, 0, none⟩) zs.length zs.length) zs := by
  refine .inr ⟨w.heap.size, 0, zs.length, rfl, by simp, Nat.le_refl _, by omega, fun j hj => ?_⟩
  rw [Nat.zero_add]
  refine (cell_of_row _ _ j _ _ _ (heap_alloc_last w _)).trans ?_
  rw [List.getElem?_toArray]
  unfold irow ptAt; simp [List.getD, hj]
theorem pts_pair (w : World) (A : Obj) (x y : Int) : PtsAt ((w.alloc A).alloc (.cells #[.int .i64 x, .int .i64 y] 3)).heap.size ((w.alloc A).alloc (.cells #[.int .i64 x, .int .i64 y] 3)) (.slice (some ⟨w.heap.size + 1, 0, none⟩) [x, y].length 2) [x, y] := by
  have h := pts_new (w.alloc A) [x, y] (by simp) (by simp)
  rw [show (w.alloc A).heap.size = w.heap.size + 1 by simp] at h
  exact h
theorem pts_one (w : World) (A : Obj) (x : Int) : PtsAt ((w.alloc A).alloc (.cells #[.int .i64 x] 3)).heap.size ((w.alloc A).alloc (.cells #[.int .i64 x] 3)) (.slice (some ⟨w.heap.size + 1, 0, none⟩) [x].length 1) [x] := by
  have h := pts_new (w.alloc A) [x] (by simp) (by simp)
  rw [show (w.alloc A).heap.size = w.heap.size + 1 by simp] at h
  exact h
theorem lists_len {d : Dr} (h : ¬ (d.tiers.length ≤ 12 ∧ d.places.length ≤ 12 ∧ d.quotas.length ≤ 12)) : listsZ d = false := by
  unfold listsZ
  by_cases h1 : d.tiers.length ≤ 12
  · by_cases h2 : d.places.length ≤ 12
    · have h3 : ¬ d.quotas.length ≤ 12 := fun h3 => h ⟨h1, h2, h3⟩
      simp [h3]
    · simp [h2]
  · simp [h1]
theorem lists_len4 {d : Dr} (h : ¬ d.barred.length ≤ 40) : listsZ d = false := by unfold listsZ; simp [h]
theorem lists_1 {d : Dr} (h : (List.range d.tiers.length).all (tierOk d.tiers) = false) : listsZ d = false := by unfold listsZ; rw [h]; simp
theorem lists_2 {d : Dr} (h : (List.range d.places.length).all (placeOk d.places) = false) : listsZ d = false := by unfold listsZ; rw [h]; simp
theorem lists_3 {d : Dr} (h : (List.range d.quotas.length).all (quotaOk d.quotas) = false) : listsZ d = false := by unfold listsZ; rw [h]; simp
theorem lists_4 {d : Dr} (h : (List.range d.barred.length).all (barOk d.barred) = false) : listsZ d = false := by unfold listsZ; rw [h]; simp
theorem lists_y {d : Dr} (h : d.tiers.length ≤ 12 ∧ d.places.length ≤ 12 ∧ d.quotas.length ≤ 12) (h4 : d.barred.length ≤ 40) (h1 : (List.range d.tiers.length).all (tierOk d.tiers) = true) (h2 : (List.range d.places.length).all (placeOk d.places) = true)
    (h3 : (List.range d.quotas.length).all (quotaOk d.quotas) = true) (h5 : (List.range d.barred.length).all (barOk d.barred) = true) : listsZ d = d.barred.all rgB := by
  unfold listsZ
  rw [h1, h2, h3, h5]
  simp [h.1, h.2.1, h.2.2, h4]
set_option maxRecDepth 100000 in
set_option maxHeartbeats 8000000 in
theorem lists_any (d : Dr) (vt vp vq vb : Value) (bb : Bool) (base : Nat) (w : World) (hd : DrOwn base w d vt vp vq vb) (hb : listsZ d = bb) (hbig : d.tiers.length ≤ 1000000 ∧ d.places.length ≤ 1000000 ∧ d.quotas.length ≤ 1000000 ∧ d.barred.length ≤ 1000000) :
    Calls Tryz.prog 63 #[.agg (drCells d vt vp vq vb)] w fun e w' => e = .returned (.bool bb) ∧ Only (fun _ => False) w w' := by
  obtain ⟨at1, ct, rfl⟩ := slice_of_own hd.tiers
  obtain ⟨ap1, cp, rfl⟩ := slice_of_own hd.places
  obtain ⟨aq1, cq, rfl⟩ := slice_of_own hd.quotas
  obtain ⟨ab1, cb, rfl⟩ := slice_of_own hd.bars
  have HB := Lib.hid hb
  have HZ := Lib.hid (heap_alloc_last w (.cells (drCells d (.slice at1 d.tiers.length ct) (.slice ap1 d.places.length cp) (.slice aq1 d.quotas.length cq) (.slice ab1 d.barred.length cb)) 33))
  have HO := Lib.hid ((Only.refl (fun _ => False) w).alloc (.cells (drCells d (.slice at1 d.tiers.length ct) (.slice ap1 d.places.length cp) (.slice aq1 d.quotas.length cq) (.slice ab1 d.barred.length cb)) 33))
  have HD := Lib.hid (hd.only HO.out (fun _ _ h => h))
  have hmf : ∀ (fn : Fn) (first cap : Array Value) (w : World), (Instr.makeFunc fn first cap).run Tryz.prog w = .ok (.func fn first cap) w := fun _ _ _ _ => rfl
  have hsz : w.heap.size < (w.alloc (.cells (drCells d (.slice at1 d.tiers.length ct) (.slice ap1 d.places.length cp) (.slice aq1 d.quotas.length cq) (.slice ab1 d.barred.length cb)) 33)).heap.size := by simp
  obtain ⟨b1, b2, b3, b4⟩ := hbig
  clear hd hb
  unfold drCells at *
  go_enter Tryz.func63, Tryz.ntmps63
  go_upto_region 1 with (fail)
  generalize World.alloc w _ = w1 at *
  have c6 : w1.cell? ⟨w.heap.size, 6, none⟩ = some (.slice at1 d.tiers.length ct) := cell_of_row _ _ 6 _ _ _ HZ.out
  have c8 : w1.cell? ⟨w.heap.size, 8, none⟩ = some (.slice ap1 d.places.length cp) := cell_of_row _ _ 8 _ _ _ HZ.out
  have c11 : w1.cell? ⟨w.heap.size, 11, none⟩ = some (.slice aq1 d.quotas.length cq) := cell_of_row _ _ 11 _ _ _ HZ.out
  have c12 : w1.cell? ⟨w.heap.size, 12, none⟩ = some (.slice ab1 d.barred.length cb) := cell_of_row _ _ 12 _ _ _ HZ.out
  go_cut [30] (fun v wx => v = .bool (!(decide (d.tiers.length ≤ 12 ∧ d.places.length ≤ 12 ∧ d.quotas.length ≤ 12) && decide (d.barred.length ≤ 40))) ∧ wx = w1)
  case first =>
    by_cases hA : d.tiers.length ≤ 12 ∧ d.places.length ≤ 12 ∧ d.quotas.length ≤ 12
    · by_cases hA4 : d.barred.length ≤ 40
      · have HE := Lib.hid (show (!(decide (d.tiers.length ≤ 12 ∧ d.places.length ≤ 12 ∧ d.quotas.length ≤ 12) && decide (d.barred.length ≤ 40))) = false by simp [hA, hA4])
        obtain ⟨a1, a2, a3⟩ := hA
        have i2 : ¬ (40 : Int) < d.barred.length := by omega
        go_wp2_with fail
        all_goals go_meet
        all_goals exact ⟨by rw [HE.out] <;> first | rfl | (congr 1; simp; omega), rfl⟩
      · have HE := Lib.hid (show (!(decide (d.tiers.length ≤ 12 ∧ d.places.length ≤ 12 ∧ d.quotas.length ≤ 12) && decide (d.barred.length ≤ 40))) = true by simp [hA4])
        obtain ⟨a1, a2, a3⟩ := hA
        have i2 : (40 : Int) < d.barred.length := by omega
        go_wp2_with fail
        all_goals go_meet
        all_goals exact ⟨by rw [HE.out] <;> first | rfl | (congr 1; simp; omega), rfl⟩
    · have HE := Lib.hid (show (!(decide (d.tiers.length ≤ 12 ∧ d.places.length ≤ 12 ∧ d.quotas.length ≤ 12) && decide (d.barred.length ≤ 40))) = true by simp [hA])
      have hA2 : 12 < d.tiers.length ∨ 12 < d.places.length ∨ 12 < d.quotas.length := by omega
      go_wp2_with fail
      all_goals go_meet
      all_goals exact ⟨by rw [HE.out] <;> first | rfl | (exfalso; omega) | (congr 1; simp; omega), rfl⟩
  case rest =>
    obtain ⟨rfl, hw⟩ := hcut
    obtain rfl := hw.symm
    clear hw
    by_cases hA : d.tiers.length ≤ 12 ∧ d.places.length ≤ 12 ∧ d.quotas.length ≤ 12
    · by_cases hA4 : d.barred.length ≤ 40
      · have HE := Lib.hid (show (!(decide (d.tiers.length ≤ 12 ∧ d.places.length ≤ 12 ∧ d.quotas.length ≤ 12) && decide (d.barred.length ≤ 40))) = false by simp [hA, hA4])
        have HA := Lib.hid hA
        obtain ⟨a1, a2, a3⟩ := hA
        rw [HE.out]
        have HOT0 := HO
        have HZ0 := HZ
        have HD0 := HD
        have HA4 := Lib.hid hA4
        clear HE hA4
        go_wp2_with fail
        go_loopw [34] (fun iv wr => ∃ k : Nat, iv = .int .i64 k ∧ k ≤ d.tiers.length ∧ (List.range k).all (tierOk d.tiers) = true ∧ Only (fun _ => False) w1 wr) (fun iv _ => d.tiers.length - (intOf iv).toNat)
        case atStart => exact ⟨0, rfl, Nat.zero_le _, rfl, Only.refl _ _⟩
        case round =>
          obtain ⟨k, rfl, hk, hall, hO1⟩ := hrel
          have HALL := Lib.hid hall
          have HO1 := Lib.hid hO1
          have HZ1 := Lib.hid (row_still hO1 HZ0.out)
          have HD1 := Lib.hid (HD0.out.only hO1 (fun _ _ h => h))
          have HOT1 := Lib.hid (HOT0.out.trans hO1)
          have c6 : wr.cell? ⟨w.heap.size, 6, none⟩ = some (.slice at1 d.tiers.length ct) := cell_of_row _ _ 6 _ _ _ HZ1.out
          have c8 : wr.cell? ⟨w.heap.size, 8, none⟩ = some (.slice ap1 d.places.length cp) := cell_of_row _ _ 8 _ _ _ HZ1.out
          have c11 : wr.cell? ⟨w.heap.size, 11, none⟩ = some (.slice aq1 d.quotas.length cq) := cell_of_row _ _ 11 _ _ _ HZ1.out
          have c12 : wr.cell? ⟨w.heap.size, 12, none⟩ = some (.slice ab1 d.barred.length cb) := cell_of_row _ _ 12 _ _ _ HZ1.out
          clear hall
          by_cases hlt : k < d.tiers.length
          · have j1 : (k : Int) < d.tiers.length := by omega
            have j2 : 0 ≤ (k : Int) := by omega
            have HF := Lib.hid (fun (h : tierOk d.tiers k = false) => show bb = false from HB.out.symm.trans (lists_1 (all_range_no hlt h)))
            have HT := Lib.hid (fun (h : tierOk d.tiers k = true) => all_range_succ HALL.out h)
            have h0 := flat_at (fun x : Int × Int => [Value.int .i64 x.1, Value.int .i64 x.2]) 2 (fun _ => rfl) d.tiers k 0 hlt (by decide)
            have h1 := flat_at (fun x : Int × Int => [Value.int .i64 x.1, Value.int .i64 x.2]) 2 (fun _ => rfl) d.tiers k 1 hlt (by decide)
            obtain ⟨g, cap, hv, hg, hc1, hc2, d0⟩ := own_cell HD1.out.tiers h0
            obtain ⟨g1, cap1, hv1, _, _, _, d1⟩ := own_cell HD1.out.tiers h1
            rw [hv] at hv1
            simp only [Value.slice.injEq, Option.some.injEq, Addr.mk.injEq, and_true, true_and] at hv hv1
            obtain ⟨rfl, rfl⟩ := hv
            obtain ⟨rfl, rfl⟩ := hv1
            have HE := Lib.hid (show tierOk d.tiers k = (rgB (tAt d.tiers k).1 && rgB (tAt d.tiers k).2 && !hasTier (d.tiers.take k) (tAt d.tiers k).1) from rfl)
            have e0 := tAt_get hlt
            rw [e0] at d0 d1
            generalize tAt d.tiers k = y at *
            obtain ⟨ya, yb⟩ := y
            change _ = some (Value.int .i64 ya) at d0
            change _ = some (Value.int .i64 yb) at d1
            rw [Nat.add_zero] at d0
            have hszr : w.heap.size < wr.heap.size := (Array.getElem?_eq_some_iff.1 HZ1.out).1
            have HOWN3 := Lib.hid ((HD1.out.tiers.alloc (.cells #[.int .i64 ya, .int .i64 yb] 50)).alloc (.cells #[.int .i64 ya, .int .i64 yb] 3))
            have HM3 := Lib.hid (((Only.refl (fun _ => False) (wr.alloc (.cells #[.int .i64 ya, .int .i64 yb] 50))).alloc (.cells #[.int .i64 ya, .int .i64 yb] 3)).cell (cell_of_row _ _ 0 _ _ _ (heap_alloc_last wr (.cells #[.int .i64 ya, .int .i64 yb] 50))) (fun h => h))
            have HOb := Lib.hid ((HO1.out.alloc (.cells #[.int .i64 ya, .int .i64 yb] 50)).alloc (.cells #[.int .i64 ya, .int .i64 yb] 3))
            obtain ⟨r, hr⟩ : ∃ r, [ya, yb].all rgB = r := ⟨_, rfl⟩
            obtain ⟨hh, hhh⟩ : ∃ r, hasTier (d.tiers.take k) ya = r := ⟨_, rfl⟩
            have HRR := Lib.hid hr
            have HHH := Lib.hid hhh
            have hr2 : (rgB ya && rgB yb) = r := by simpa using hr
            dsimp only at HE
            rw [hr2, hhh] at HE
            clear h0 h1 e0 hr hhh hr2 c8 c11 c12
            cases r
            · obtain rfl := HF.out (by rw [HE.out]; rfl)
              go_wp2_with fail
              refine (range_any _ _ [ya, yb] false _ (by exact pts_pair _ _ _ _) HRR.out (by simp)).mono ?_
              rintro e w' ⟨rfl, rfl⟩
              go_wp2_with fail
              go_ret
              exact ⟨rfl, HOT0.out.trans HOb.out⟩
            · go_wp2_with fail
              refine (range_any _ _ [ya, yb] true _ (by exact pts_pair _ _ _ _) HRR.out (by simp)).mono ?_
              rintro e w' ⟨rfl, rfl⟩
              go_wp2_with fail
              refine (tierC_has _ _ _ k _ d.tiers ya hh _ HOWN3.out (by omega) (by omega) HM3.out HHH.out).mono ?_
              rintro e w5 ⟨rfl, hO5⟩
              have HO5 := Lib.hid (HOb.out.trans hO5)
              clear hO5
              cases hh
              · have HG := Lib.hid (HT.out (by rw [HE.out]; rfl))
                go_wp2_with fail
                go_roundw
                case rel => exact ⟨k + 1, by go_num, hlt, HG.out, HO5.out⟩
                case measure => simp [intOf]; omega
              · obtain rfl := HF.out (by rw [HE.out]; rfl)
                go_wp2_with fail
                go_ret
                exact ⟨rfl, HOT0.out.trans HO5.out⟩
          · obtain rfl : k = d.tiers.length := by omega
            have j1 : ¬ (d.tiers.length : Int) < d.tiers.length := by omega
            have HL1 := Lib.hid HALL.out
            clear hlt hk HALL
            go_wp2_with fail
            obtain ⟨wa, hwa⟩ : ∃ wq : World, wq = wr := ⟨_, rfl⟩
            subst hwa
            go_loopw [59] (fun iv wr => ∃ k : Nat, iv = .int .i64 k ∧ k ≤ d.places.length ∧ (List.range k).all (placeOk d.places) = true ∧ Only (fun _ => False) wa wr) (fun iv _ => d.places.length - (intOf iv).toNat)
            case atStart => exact ⟨0, rfl, Nat.zero_le _, rfl, Only.refl _ _⟩
            case round =>
              obtain ⟨k, rfl, hk, hall, hO2⟩ := hrel
              have HALL := Lib.hid hall
              have HO2 := Lib.hid hO2
              have HZ2 := Lib.hid (row_still hO2 HZ1.out)
              have HD2 := Lib.hid (HD1.out.only hO2 (fun _ _ h => h))
              have HOT2 := Lib.hid (HOT1.out.trans hO2)
              have c6 : wr.cell? ⟨w.heap.size, 6, none⟩ = some (.slice at1 d.tiers.length ct) := cell_of_row _ _ 6 _ _ _ HZ2.out
              have c8 : wr.cell? ⟨w.heap.size, 8, none⟩ = some (.slice ap1 d.places.length cp) := cell_of_row _ _ 8 _ _ _ HZ2.out
              have c11 : wr.cell? ⟨w.heap.size, 11, none⟩ = some (.slice aq1 d.quotas.length cq) := cell_of_row _ _ 11 _ _ _ HZ2.out
              have c12 : wr.cell? ⟨w.heap.size, 12, none⟩ = some (.slice ab1 d.barred.length cb) := cell_of_row _ _ 12 _ _ _ HZ2.out
              clear hall
              by_cases hlt : k < d.places.length
              · have j1 : (k : Int) < d.places.length := by omega
                have j2 : 0 ≤ (k : Int) := by omega
                have HF := Lib.hid (fun (h : placeOk d.places k = false) => show bb = false from HB.out.symm.trans (lists_2 (all_range_no hlt h)))
                have HT := Lib.hid (fun (h : placeOk d.places k = true) => all_range_succ HALL.out h)
                have h0 := flat_at (fun x : ByteArray × Int => [Value.string x.1, Value.int .i64 x.2]) 2 (fun _ => rfl) d.places k 0 hlt (by decide)
                have h1 := flat_at (fun x : ByteArray × Int => [Value.string x.1, Value.int .i64 x.2]) 2 (fun _ => rfl) d.places k 1 hlt (by decide)
                obtain ⟨g, cap, hv, hg, hc1, hc2, d0⟩ := own_cell HD2.out.places h0
                obtain ⟨g1, cap1, hv1, _, _, _, d1⟩ := own_cell HD2.out.places h1
                rw [hv] at hv1
                simp only [Value.slice.injEq, Option.some.injEq, Addr.mk.injEq, and_true, true_and] at hv hv1
                obtain ⟨rfl, rfl⟩ := hv
                obtain ⟨rfl, rfl⟩ := hv1
                have HE := Lib.hid (show placeOk d.places k = (nameB (pAt d.places k).1 && rgB (pAt d.places k).2 && !hasPlace (d.places.take k) (pAt d.places k).1) from rfl)
                have e0 := pAt_get hlt
                rw [e0] at d0 d1
                generalize pAt d.places k = y at *
                obtain ⟨ya, yb⟩ := y
                change _ = some (Value.string ya) at d0
                change _ = some (Value.int .i64 yb) at d1
                rw [Nat.add_zero] at d0
                have hszr : w.heap.size < wr.heap.size := (Array.getElem?_eq_some_iff.1 HZ2.out).1
                have HOWN3 := Lib.hid ((HD2.out.places.alloc (.cells #[.string ya, .int .i64 yb] 73)).alloc (.cells #[.int .i64 yb] 3))
                have HM3 := Lib.hid (((Only.refl (fun _ => False) (wr.alloc (.cells #[.string ya, .int .i64 yb] 73))).alloc (.cells #[.int .i64 yb] 3)).cell (cell_of_row _ _ 0 _ _ _ (heap_alloc_last wr (.cells #[.string ya, .int .i64 yb] 73))) (fun h => h))
                have HOa := Lib.hid (HO2.out.alloc (.cells #[.string ya, .int .i64 yb] 73))
                have HOb := Lib.hid ((HO2.out.alloc (.cells #[.string ya, .int .i64 yb] 73)).alloc (.cells #[.int .i64 yb] 3))
                obtain ⟨q, hq⟩ : ∃ r, nameB ya = r := ⟨_, rfl⟩
                obtain ⟨r, hr⟩ : ∃ r, [yb].all rgB = r := ⟨_, rfl⟩
                obtain ⟨hh, hhh⟩ : ∃ r, hasPlace (d.places.take k) ya = r := ⟨_, rfl⟩
                have HQQ := Lib.hid hq
                have HRR := Lib.hid hr
                have HHH := Lib.hid hhh
                have hr2 : rgB yb = r := by simpa using hr
                dsimp only at HE
                rw [hq, hr2, hhh] at HE
                clear h0 h1 e0 hq hr hhh hr2 c6 c11 c12
                cases q
                · obtain rfl := HF.out (by rw [HE.out]; rfl)
                  go_wp2_with fail
                  refine (isname_any ya false _ HQQ.out).mono ?_
                  rintro e w' ⟨rfl, rfl⟩
                  go_wp2_with fail
                  go_ret
                  exact ⟨rfl, HOT1.out.trans HOa.out⟩
                · cases r
                  · obtain rfl := HF.out (by rw [HE.out]; rfl)
                    go_wp2_with fail
                    refine (isname_any ya true _ HQQ.out).mono ?_
                    rintro e w' ⟨rfl, rfl⟩
                    go_wp2_with fail
                    refine (range_any _ _ [yb] false _ (by exact pts_one _ _ _) HRR.out (by simp)).mono ?_
                    rintro e w' ⟨rfl, rfl⟩
                    go_wp2_with fail
                    go_ret
                    exact ⟨rfl, HOT1.out.trans HOb.out⟩
                  · go_wp2_with fail
                    refine (isname_any ya true _ HQQ.out).mono ?_
                    rintro e w' ⟨rfl, rfl⟩
                    go_wp2_with fail
                    refine (range_any _ _ [yb] true _ (by exact pts_one _ _ _) HRR.out (by simp)).mono ?_
                    rintro e w' ⟨rfl, rfl⟩
                    go_wp2_with fail
                    refine (placeC_has _ _ _ k _ d.places ya hh _ HOWN3.out (by omega) (by omega) HM3.out HHH.out).mono ?_
                    rintro e w5 ⟨rfl, hO5⟩
                    have HO5 := Lib.hid (HOb.out.trans hO5)
                    clear hO5
                    cases hh
                    · have HG := Lib.hid (HT.out (by rw [HE.out]; rfl))
                      go_wp2_with fail
                      go_roundw
                      case rel => exact ⟨k + 1, by go_num, hlt, HG.out, HO5.out⟩
                      case measure => simp [intOf]; omega
                    · obtain rfl := HF.out (by rw [HE.out]; rfl)
                      go_wp2_with fail
                      go_ret
                      exact ⟨rfl, HOT1.out.trans HO5.out⟩
              · obtain rfl : k = d.places.length := by omega
                have j1 : ¬ (d.places.length : Int) < d.places.length := by omega
                have HL2 := Lib.hid HALL.out
                clear hlt hk HALL
                go_wp2_with fail
                obtain ⟨wb, hwb⟩ : ∃ wq : World, wq = wr := ⟨_, rfl⟩
                subst hwb
                go_loopw [88] (fun iv wr => ∃ k : Nat, iv = .int .i64 k ∧ k ≤ d.quotas.length ∧ (List.range k).all (quotaOk d.quotas) = true ∧ Only (fun _ => False) wb wr) (fun iv _ => d.quotas.length - (intOf iv).toNat)
                case atStart => exact ⟨0, rfl, Nat.zero_le _, rfl, Only.refl _ _⟩
                case round =>
                  obtain ⟨k, rfl, hk, hall, hO3⟩ := hrel
                  have HALL := Lib.hid hall
                  have HO3 := Lib.hid hO3
                  have HZ3 := Lib.hid (row_still hO3 HZ2.out)
                  have HD3 := Lib.hid (HD2.out.only hO3 (fun _ _ h => h))
                  have HOT3 := Lib.hid (HOT2.out.trans hO3)
                  have c6 : wr.cell? ⟨w.heap.size, 6, none⟩ = some (.slice at1 d.tiers.length ct) := cell_of_row _ _ 6 _ _ _ HZ3.out
                  have c8 : wr.cell? ⟨w.heap.size, 8, none⟩ = some (.slice ap1 d.places.length cp) := cell_of_row _ _ 8 _ _ _ HZ3.out
                  have c11 : wr.cell? ⟨w.heap.size, 11, none⟩ = some (.slice aq1 d.quotas.length cq) := cell_of_row _ _ 11 _ _ _ HZ3.out
                  have c12 : wr.cell? ⟨w.heap.size, 12, none⟩ = some (.slice ab1 d.barred.length cb) := cell_of_row _ _ 12 _ _ _ HZ3.out
                  clear hall
                  by_cases hlt : k < d.quotas.length
                  · have j1 : (k : Int) < d.quotas.length := by omega
                    have j2 : 0 ≤ (k : Int) := by omega
                    have HF := Lib.hid (fun (h : quotaOk d.quotas k = false) => show bb = false from HB.out.symm.trans (lists_3 (all_range_no hlt h)))
                    have HT := Lib.hid (fun (h : quotaOk d.quotas k = true) => all_range_succ HALL.out h)
                    have h0 := flat_at (fun x : ByteArray × Int × Int => [Value.string x.1, Value.int .i64 x.2.1, Value.int .i64 x.2.2]) 3 (fun _ => rfl) d.quotas k 0 hlt (by decide)
                    have h2 := flat_at (fun x : ByteArray × Int × Int => [Value.string x.1, Value.int .i64 x.2.1, Value.int .i64 x.2.2]) 3 (fun _ => rfl) d.quotas k 2 hlt (by decide)
                    have h1 := flat_at (fun x : ByteArray × Int × Int => [Value.string x.1, Value.int .i64 x.2.1, Value.int .i64 x.2.2]) 3 (fun _ => rfl) d.quotas k 1 hlt (by decide)
                    obtain ⟨g, cap, hv, hg, hc1, hc2, d0⟩ := own_cell HD3.out.quotas h0
                    obtain ⟨g1, cap1, hv1, _, _, _, d1⟩ := own_cell HD3.out.quotas h1
                    obtain ⟨g2, cap2, hv2, _, _, _, d2⟩ := own_cell HD3.out.quotas h2
                    rw [hv] at hv1
                    rw [hv] at hv2
                    simp only [Value.slice.injEq, Option.some.injEq, Addr.mk.injEq, and_true, true_and] at hv hv1 hv2
                    obtain ⟨rfl, rfl⟩ := hv
                    obtain ⟨rfl, rfl⟩ := hv1
                    obtain ⟨rfl, rfl⟩ := hv2
                    have HE := Lib.hid (show quotaOk d.quotas k = (nameB (qAt d.quotas k).1 && rgB (qAt d.quotas k).2.1 && rgB (qAt d.quotas k).2.2 && !hasQuota (d.quotas.take k) (qAt d.quotas k).1) from rfl)
                    have e0 := qAt_get hlt
                    rw [e0] at d0 d1 d2
                    generalize qAt d.quotas k = y at *
                    obtain ⟨ya, yb, yc⟩ := y
                    change _ = some (Value.string ya) at d0
                    change _ = some (Value.int .i64 yb) at d1
                    change _ = some (Value.int .i64 yc) at d2
                    rw [Nat.add_zero] at d0
                    have hszr : w.heap.size < wr.heap.size := (Array.getElem?_eq_some_iff.1 HZ3.out).1
                    have HOWN3 := Lib.hid ((HD3.out.quotas.alloc (.cells #[.string ya, .int .i64 yb, .int .i64 yc] 75)).alloc (.cells #[.int .i64 yb, .int .i64 yc] 3))
                    have HM3 := Lib.hid (((Only.refl (fun _ => False) (wr.alloc (.cells #[.string ya, .int .i64 yb, .int .i64 yc] 75))).alloc (.cells #[.int .i64 yb, .int .i64 yc] 3)).cell (cell_of_row _ _ 0 _ _ _ (heap_alloc_last wr (.cells #[.string ya, .int .i64 yb, .int .i64 yc] 75))) (fun h => h))
                    have HOa := Lib.hid (HO3.out.alloc (.cells #[.string ya, .int .i64 yb, .int .i64 yc] 75))
                    have HOb := Lib.hid ((HO3.out.alloc (.cells #[.string ya, .int .i64 yb, .int .i64 yc] 75)).alloc (.cells #[.int .i64 yb, .int .i64 yc] 3))
                    obtain ⟨q, hq⟩ : ∃ r, nameB ya = r := ⟨_, rfl⟩
                    obtain ⟨r, hr⟩ : ∃ r, [yb, yc].all rgB = r := ⟨_, rfl⟩
                    obtain ⟨hh, hhh⟩ : ∃ r, hasQuota (d.quotas.take k) ya = r := ⟨_, rfl⟩
                    have HQQ := Lib.hid hq
                    have HRR := Lib.hid hr
                    have HHH := Lib.hid hhh
                    have hr2 : (rgB yb && rgB yc) = r := by simpa using hr
                    dsimp only at HE
                    rw [hq, Bool.and_assoc q, hr2, hhh] at HE
                    clear h0 h1 h2 e0 hq hr hhh hr2 c6 c8 c12
                    cases q
                    · obtain rfl := HF.out (by rw [HE.out]; rfl)
                      go_wp2_with fail
                      refine (isname_any ya false _ HQQ.out).mono ?_
                      rintro e w' ⟨rfl, rfl⟩
                      go_wp2_with fail
                      go_ret
                      exact ⟨rfl, HOT2.out.trans HOa.out⟩
                    · cases r
                      · obtain rfl := HF.out (by rw [HE.out]; rfl)
                        go_wp2_with fail
                        refine (isname_any ya true _ HQQ.out).mono ?_
                        rintro e w' ⟨rfl, rfl⟩
                        go_wp2_with fail
                        refine (range_any _ _ [yb, yc] false _ (by exact pts_pair _ _ _ _) HRR.out (by simp)).mono ?_
                        rintro e w' ⟨rfl, rfl⟩
                        go_wp2_with fail
                        go_ret
                        exact ⟨rfl, HOT2.out.trans HOb.out⟩
                      · go_wp2_with fail
                        refine (isname_any ya true _ HQQ.out).mono ?_
                        rintro e w' ⟨rfl, rfl⟩
                        go_wp2_with fail
                        refine (range_any _ _ [yb, yc] true _ (by exact pts_pair _ _ _ _) HRR.out (by simp)).mono ?_
                        rintro e w' ⟨rfl, rfl⟩
                        go_wp2_with fail
                        refine (quotaC_has _ _ _ k _ d.quotas ya hh _ HOWN3.out (by omega) (by omega) HM3.out HHH.out).mono ?_
                        rintro e w5 ⟨rfl, hO5⟩
                        have HO5 := Lib.hid (HOb.out.trans hO5)
                        clear hO5
                        cases hh
                        · have HG := Lib.hid (HT.out (by rw [HE.out]; rfl))
                          go_wp2_with fail
                          go_roundw
                          case rel => exact ⟨k + 1, by go_num, hlt, HG.out, HO5.out⟩
                          case measure => simp [intOf]; omega
                        · obtain rfl := HF.out (by rw [HE.out]; rfl)
                          go_wp2_with fail
                          go_ret
                          exact ⟨rfl, HOT2.out.trans HO5.out⟩
                  · obtain rfl : k = d.quotas.length := by omega
                    have j1 : ¬ (d.quotas.length : Int) < d.quotas.length := by omega
                    have HL3 := Lib.hid HALL.out
                    clear hlt hk HALL
                    go_wp2_with fail
                    obtain ⟨wd, hwd⟩ : ∃ wq : World, wq = wr := ⟨_, rfl⟩
                    subst hwd
                    go_loopw [119] (fun iv wr => ∃ k : Nat, iv = .int .i64 k ∧ k ≤ d.barred.length ∧ (List.range k).all (barOk d.barred) = true ∧ Only (fun _ => False) wd wr) (fun iv _ => d.barred.length - (intOf iv).toNat)
                    case atStart => exact ⟨0, rfl, Nat.zero_le _, rfl, Only.refl _ _⟩
                    case round =>
                      obtain ⟨k, rfl, hk, hall, hO4⟩ := hrel
                      have HALL := Lib.hid hall
                      have HO4 := Lib.hid hO4
                      have HZ4 := Lib.hid (row_still hO4 HZ3.out)
                      have HD4 := Lib.hid (HD3.out.only hO4 (fun _ _ h => h))
                      have HOT4 := Lib.hid (HOT3.out.trans hO4)
                      have c6 : wr.cell? ⟨w.heap.size, 6, none⟩ = some (.slice at1 d.tiers.length ct) := cell_of_row _ _ 6 _ _ _ HZ4.out
                      have c8 : wr.cell? ⟨w.heap.size, 8, none⟩ = some (.slice ap1 d.places.length cp) := cell_of_row _ _ 8 _ _ _ HZ4.out
                      have c11 : wr.cell? ⟨w.heap.size, 11, none⟩ = some (.slice aq1 d.quotas.length cq) := cell_of_row _ _ 11 _ _ _ HZ4.out
                      have c12 : wr.cell? ⟨w.heap.size, 12, none⟩ = some (.slice ab1 d.barred.length cb) := cell_of_row _ _ 12 _ _ _ HZ4.out
                      clear hall
                      by_cases hlt : k < d.barred.length
                      · have j1 : (k : Int) < d.barred.length := by omega
                        have j2 : 0 ≤ (k : Int) := by omega
                        have HF := Lib.hid (fun (h : barOk d.barred k = false) => show bb = false from HB.out.symm.trans (lists_4 (all_range_no hlt h)))
                        have HT := Lib.hid (fun (h : barOk d.barred k = true) => all_range_succ HALL.out h)
                        have hu : (irow d.barred)[k]? = some (.int .i64 (ptAt d.barred k)) := by unfold irow ptAt; simp [List.getD, hlt]
                        obtain ⟨g, cap, hv, hg, hc1, hc2, d0⟩ := own_cell HD4.out.bars hu
                        simp only [Value.slice.injEq, true_and] at hv
                        obtain ⟨rfl, rfl⟩ := hv
                        have HE := Lib.hid (show barOk d.barred k = !hasBar (d.barred.take k) (ptAt d.barred k) from rfl)
                        have hszr : w.heap.size < wr.heap.size := (Array.getElem?_eq_some_iff.1 HZ4.out).1
                        generalize ptAt d.barred k = y at *
                        obtain ⟨hh, hhh⟩ : ∃ r, hasBar (d.barred.take k) y = r := ⟨_, rfl⟩
                        have HCC := Lib.hid (contains_pre _ _ k _ d.barred y hh wr HD4.out.bars hlt hhh)
                        rw [hhh] at HE
                        clear hu hhh c6 c8 c11
                        cases hh
                        · have HG := Lib.hid (HT.out (by rw [HE.out]; rfl))
                          go_wp2_with fail
                          refine HCC.out.mono ?_
                          rintro e w5 ⟨rfl, rfl⟩
                          go_wp2_with fail
                          go_roundw
                          case rel => exact ⟨k + 1, by go_num, hlt, HG.out, HO4.out⟩
                          case measure => simp [intOf]; omega
                        · obtain rfl := HF.out (by rw [HE.out]; rfl)
                          go_wp2_with fail
                          refine HCC.out.mono ?_
                          rintro e w5 ⟨rfl, rfl⟩
                          go_wp2_with fail
                          go_ret
                          exact ⟨rfl, HOT3.out.trans HO4.out⟩
                      · obtain rfl : k = d.barred.length := by omega
                        have j1 : ¬ (d.barred.length : Int) < d.barred.length := by omega
                        have HL4 := Lib.hid HALL.out
                        clear hlt hk HALL
                        go_wp2_with fail
                        have HFI := Lib.hid (show d.barred.all rgB = bb by rw [← HB.out, lists_y HA.out HA4.out HL1.out HL2.out HL3.out HL4.out])
                        have HPB := Lib.hid (ptsR_of_own HD4.out.bars)
                        refine (range_any _ _ d.barred bb _ HPB.out HFI.out (by omega)).mono ?_
                        rintro e w' ⟨rfl, rfl⟩
                        go_wp2_with fail
                        go_ret
                        exact ⟨rfl, HOT4.out⟩
      · obtain rfl : bb = false := HB.out.symm.trans (lists_len4 hA4)
        rw [show (!(decide (d.tiers.length ≤ 12 ∧ d.places.length ≤ 12 ∧ d.quotas.length ≤ 12) && decide (d.barred.length ≤ 40))) = true by simp [hA4]]
        clear hA hA4
        go_wp2_with fail
        go_ret
        exact ⟨rfl, HO.out⟩
    · obtain rfl : bb = false := HB.out.symm.trans (lists_len hA)
      rw [show (!(decide (d.tiers.length ≤ 12 ∧ d.places.length ≤ 12 ∧ d.quotas.length ≤ 12) && decide (d.barred.length ≤ 40))) = true by simp [hA]]
      clear hA
      go_wp2_with fail
      go_ret
      exact ⟨rfl, HO.out⟩
end Go.Proofs.YteikkpiginfbkaaGreatDoor
