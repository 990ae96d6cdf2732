/-
  Rules: the walk of the law RulesPrints.
-/
import Derived.Test.YteikkpiginfbkaaGreatDoorPa24
namespace Go.Proofs.YteikkpiginfbkaaGreatDoor
open Go.RowKit

theorem emp_toList : (ByteArray.empty.toList == []) = true := by rw [ByteArray.toList_eq]; rfl
theorem some_toList {s : ByteArray} (h : s ≠ ByteArray.empty) : (s.toList == []) = false := by
  rw [beq_eq_false_iff_ne]
  intro e
  exact h (ba_ext (by rw [← ByteArray.toList_eq, e]; rfl))
theorem ret_bool {a b : Bool} (h : a = b) : Ending.returned (Value.bool a) = .returned (.bool b) := by rw [h]
set_option maxRecDepth 100000 in
set_option maxHeartbeats 8000000 in
theorem rp_walk (p : Plan13) (vl vb : Value) (w : World) (hp : PlAt13 w p vl vb) (h64 : Pl64 p) (hG : GlobU w) :
    Calls Tryz.prog 5 #[.agg (plCells p vl vb)] w fun e w' => e = .returned (.bool true) ∧ Below w.heap.size w w' := by
  have HP := Lib.hid hp
  have H64 := Lib.hid h64
  have HG := Lib.hid hG
  have HZ0 := Lib.hid (heap_alloc_last w (.cells (plCells p vl vb) 26))
  have HO1 := Lib.hid ((Only.refl (fun _ => False) w).alloc (.cells (plCells p vl vb) 26))
  clear hp h64 hG
  go_enter Tryz.func5, Tryz.ntmps5
  go_upto_region 1 with (fail)
  generalize World.alloc w _ = w1 at *
  obtain ⟨B, hB⟩ : ∃ n, w.heap.size = n := ⟨_, rfl⟩
  rw [hB] at HZ0 ⊢
  clear hB
  go_wp2_with fail
  refine (sane13_any w1 (HG.out.only HO1.out)).mono ?_
  rintro e w2 ⟨rfl, hO2⟩
  have HZ2 := Lib.hid (row_still hO2 HZ0.out)
  have HO2 := Lib.hid (HO1.out.trans hO2)
  clear hO2
  obtain ⟨e0, e1, e2, e3, e4, e5, e6, e7, e8, e9, e10⟩ := PlS.of HZ2.out
  have hB2 : B < w2.heap.size := (Array.getElem?_eq_some_iff.1 HZ2.out).1
  go_wp2_with fail
  refine (make_any p vl vb w2 (HP.out.still HO2.out) H64.out).mono ?_
  rintro e w3 ⟨vt, vp, vq, vx, rfl, hown, hO3⟩
  obtain ⟨at1, ct, rfl⟩ := slice_of_own hown.tiers
  obtain ⟨ap1, cp, rfl⟩ := slice_of_own hown.places
  obtain ⟨aq1, cq, rfl⟩ := slice_of_own hown.quotas
  obtain ⟨ab1, cb, rfl⟩ := slice_of_own hown.bars
  have HZ3 := Lib.hid (row_still hO3 HZ2.out)
  have HO3 := Lib.hid (HO2.out.trans hO3)
  have HD3 := Lib.hid hown
  have HMO := Lib.hid (make_ok p H64.out)
  have HDB := Lib.hid (make_DrB H64.out)
  have HSH := Lib.hid (make_short H64.out)
  have HFW := Lib.hid (make_few H64.out)
  have HSZ := Lib.hid (print_size (makeZ p))
  clear hO3 hown e0 e1 e2 e3 e4 e5 e6 e7 e8 e9 e10
  generalize makeZ p = d at *
  go_upto_region 3 with (first | (refine wpList_store_row rfl 33 _ _ rfl w3.heap.size (drCells d (.slice at1 d.tiers.length ct) (.slice ap1 d.places.length cp) (.slice aq1 d.quotas.length cq) (.slice ab1 d.barred.length cb)) rfl rfl 33 _ (heap_alloc_last w3 _) Tryz.infoDr rfl (cells_one _ _ _ _ _ _ _ _ _ _ _ _ _) ?_; rw [World.setRow_alloc_new]))
  have HR4 := Lib.hid (heap_alloc_last w3 (.cells (drCells d (.slice at1 d.tiers.length ct) (.slice ap1 d.places.length cp) (.slice aq1 d.quotas.length cq) (.slice ab1 d.barred.length cb)) 33))
  have HA4 := Lib.hid ((Only.refl (fun _ => False) w3).alloc (.cells (drCells d (.slice at1 d.tiers.length ct) (.slice ap1 d.places.length cp) (.slice aq1 d.quotas.length cq) (.slice ab1 d.barred.length cb)) 33))
  generalize World.alloc w3 _ = w4 at *
  obtain ⟨n3, hn3⟩ : ∃ n, w3.heap.size = n := ⟨_, rfl⟩
  have HD3 := Lib.hid (HD3.out.only HA4.out (fun _ _ h => h))
  rw [hn3] at HR4 ⊢
  clear hn3
  have HZ4 := Lib.hid (row_still HA4.out HZ3.out)
  have HO4 := Lib.hid (HO3.out.trans HA4.out)
  have hlt4 : n3 < w4.heap.size := (Array.getElem?_eq_some_iff.1 HR4.out).1
  clear HA4
  have c0 : w4.cell? ⟨n3, 0, none⟩ = some (Value.string d.name) := cell_of_row _ _ 0 _ _ _ HR4.out
  have c1 : w4.cell? ⟨n3, 1, none⟩ = some (Value.int .i64 d.kind) := cell_of_row _ _ 1 _ _ _ HR4.out
  have c2 : w4.cell? ⟨n3, 2, none⟩ = some (Value.int .i64 d.round) := cell_of_row _ _ 2 _ _ _ HR4.out
  have c3 : w4.cell? ⟨n3, 3, none⟩ = some (Value.int .i64 d.price) := cell_of_row _ _ 3 _ _ _ HR4.out
  have c4 : w4.cell? ⟨n3, 4, none⟩ = some (Value.int .i64 d.pool) := cell_of_row _ _ 4 _ _ _ HR4.out
  have c5 : w4.cell? ⟨n3, 5, none⟩ = some (Value.int .i64 d.pick) := cell_of_row _ _ 5 _ _ _ HR4.out
  have c6 : w4.cell? ⟨n3, 6, none⟩ = some (Value.slice at1 d.tiers.length ct) := cell_of_row _ _ 6 _ _ _ HR4.out
  have c7 : w4.cell? ⟨n3, 7, none⟩ = some (Value.bool d.roll) := cell_of_row _ _ 7 _ _ _ HR4.out
  have c8 : w4.cell? ⟨n3, 8, none⟩ = some (Value.slice ap1 d.places.length cp) := cell_of_row _ _ 8 _ _ _ HR4.out
  have c9 : w4.cell? ⟨n3, 9, none⟩ = some (Value.int .i64 d.cls) := cell_of_row _ _ 9 _ _ _ HR4.out
  have c10 : w4.cell? ⟨n3, 10, none⟩ = some (Value.int .i64 d.size) := cell_of_row _ _ 10 _ _ _ HR4.out
  have c11 : w4.cell? ⟨n3, 11, none⟩ = some (Value.slice aq1 d.quotas.length cq) := cell_of_row _ _ 11 _ _ _ HR4.out
  have c12 : w4.cell? ⟨n3, 12, none⟩ = some (Value.slice ab1 d.barred.length cb) := cell_of_row _ _ 12 _ _ _ HR4.out
  go_wp2_with fail
  refine (print_any d _ _ _ _ w2.heap.size w4 HD3.out (HG.out.only HO4.out) HDB.out).mono ?_
  rintro e w5 ⟨rfl, hO5⟩
  have HR5 := Lib.hid (row_still hO5 HR4.out)
  have HZ5 := Lib.hid (row_still hO5 HZ4.out)
  have HD5 := Lib.hid (HD3.out.only hO5 (fun _ _ h => h))
  have HO5 := Lib.hid (HO4.out.trans hO5)
  have HPR := Lib.hid (rprint13_any d (.slice at1 d.tiers.length ct) (.slice ap1 d.places.length cp) (.slice aq1 d.quotas.length cq) (.slice ab1 d.barred.length cb) w2.heap.size w5 HD5.out HSH.out HMO.out.nums HFW.out)
  clear hO5 c0 c1 c2 c3 c4 c5 c6 c7 c8 c9 c10 c11 c12 hlt4
  obtain ⟨s, hs⟩ : ∃ s, printZ d = s := ⟨_, rfl⟩
  have HSE := Lib.hid hs
  rw [hs] at HPR HSZ ⊢
  clear hs
  have hlt5 : n3 < w5.heap.size := (Array.getElem?_eq_some_iff.1 HR5.out).1
  have HOK := Lib.hid (show p.wild = false → s ≠ ByteArray.empty from fun hw => by rw [← HSE.out]; exact print_some.2 (HMO.out.right hw))
  go_upto_region 4 with (fail)
  go_cut [26] (fun v26 wx => v26 = .bool false ∧ Only (fun _ => False) w5 wx)
  case first =>
    have c0 : w5.cell? ⟨n3, 0, none⟩ = some (Value.string d.name) := cell_of_row _ _ 0 _ _ _ HR5.out
    have c1 : w5.cell? ⟨n3, 1, none⟩ = some (Value.int .i64 d.kind) := cell_of_row _ _ 1 _ _ _ HR5.out
    have c2 : w5.cell? ⟨n3, 2, none⟩ = some (Value.int .i64 d.round) := cell_of_row _ _ 2 _ _ _ HR5.out
    have c3 : w5.cell? ⟨n3, 3, none⟩ = some (Value.int .i64 d.price) := cell_of_row _ _ 3 _ _ _ HR5.out
    have c4 : w5.cell? ⟨n3, 4, none⟩ = some (Value.int .i64 d.pool) := cell_of_row _ _ 4 _ _ _ HR5.out
    have c5 : w5.cell? ⟨n3, 5, none⟩ = some (Value.int .i64 d.pick) := cell_of_row _ _ 5 _ _ _ HR5.out
    have c6 : w5.cell? ⟨n3, 6, none⟩ = some (Value.slice at1 d.tiers.length ct) := cell_of_row _ _ 6 _ _ _ HR5.out
    have c7 : w5.cell? ⟨n3, 7, none⟩ = some (Value.bool d.roll) := cell_of_row _ _ 7 _ _ _ HR5.out
    have c8 : w5.cell? ⟨n3, 8, none⟩ = some (Value.slice ap1 d.places.length cp) := cell_of_row _ _ 8 _ _ _ HR5.out
    have c9 : w5.cell? ⟨n3, 9, none⟩ = some (Value.int .i64 d.cls) := cell_of_row _ _ 9 _ _ _ HR5.out
    have c10 : w5.cell? ⟨n3, 10, none⟩ = some (Value.int .i64 d.size) := cell_of_row _ _ 10 _ _ _ HR5.out
    have c11 : w5.cell? ⟨n3, 11, none⟩ = some (Value.slice aq1 d.quotas.length cq) := cell_of_row _ _ 11 _ _ _ HR5.out
    have c12 : w5.cell? ⟨n3, 12, none⟩ = some (Value.slice ab1 d.barred.length cb) := cell_of_row _ _ 12 _ _ _ HR5.out
    go_wp2_with fail
    refine HPR.out.mono ?_
    rintro e w6 ⟨rfl, hO6⟩
    have HZ6 := Lib.hid (row_still hO6 HZ5.out)
    have HO6 := Lib.hid hO6
    have hB6 : B < w6.heap.size := (Array.getElem?_eq_some_iff.1 HZ6.out).1
    have p1 : (s.toList == s.toList) = true := by simp
    have wc : w6.cell? ⟨B, 10, none⟩ = some (.bool p.wild) := cell_of_row _ _ 10 _ _ _ HZ6.out
    clear hO6
    cases hw : p.wild
    · rw [hw] at wc
      have q1 : (s.toList == []) = false := some_toList (HOK.out hw)
      clear hw
      go_wp2_with fail
      go_meet
      exact ⟨rfl, HO6.out⟩
    · rw [hw] at wc
      clear hw
      go_wp2_with fail
      go_meet
      exact ⟨rfl, HO6.out⟩
  case rest =>
  obtain ⟨rfl, hO6⟩ := hcut
  generalize wc = w6 at *
  have HR6 := Lib.hid (row_still hO6 HR5.out)
  have HZ6 := Lib.hid (row_still hO6 HZ5.out)
  have HD6 := Lib.hid (HD5.out.only hO6 (fun _ _ h => h))
  have HO6 := Lib.hid (HO5.out.trans hO6)
  clear hO6 HPR hlt5
  have hlt6 : n3 < w6.heap.size := (Array.getElem?_eq_some_iff.1 HR6.out).1
  have hB6 : B < w6.heap.size := (Array.getElem?_eq_some_iff.1 HZ6.out).1
  by_cases hr : rightZ d = true
  · have hsw : s = writeB d := by rw [← HSE.out]; unfold printZ; rw [if_pos hr]
    have q1 : (s.toList == []) = false := some_toList (by rw [hsw]; exact write_pos d)
    have HPZ := Lib.hid (show parseZ s = (0, 0, d) by rw [hsw]; exact parse_write (right_iff.1 hr))
    have HC := Lib.hid (parse_any s)
    clear hsw hr
    go_upto_region 8 with (fail)
    clear q1
    go_wp2_with fail
    refine (parse_any s w6 (by have := HSZ.out; omega) (HG.out.only HO6.out).len).mono ?_
    rw [HPZ.out]
    rintro e w7 ⟨ut, up, uq, ub, rfl, hdx, hO7⟩
    have hdx : DrOwn w6.heap.size w7 d ut up uq ub := hdx
    obtain ⟨bt1, dt, rfl⟩ := slice_of_own hdx.tiers
    obtain ⟨bp1, dp, rfl⟩ := slice_of_own hdx.places
    obtain ⟨bq1, dq, rfl⟩ := slice_of_own hdx.quotas
    obtain ⟨bb1, db, rfl⟩ := slice_of_own hdx.bars
    have HU7 := Lib.hid hdx
    have HR7 := Lib.hid (row_still hO7 HR6.out)
    have HD7 := Lib.hid (HD6.out.only hO7 (fun _ _ h => h))
    have HO7 := Lib.hid (HO6.out.trans hO7)
    clear hdx hO7
    go_upto_region 9 with (first | (refine wpList_store_row rfl 33 _ _ rfl w7.heap.size (drCells d (.slice bt1 d.tiers.length dt) (.slice bp1 d.places.length dp) (.slice bq1 d.quotas.length dq) (.slice bb1 d.barred.length db)) rfl rfl 33 _ (heap_alloc_last w7 _) Tryz.infoDr rfl (cells_one _ _ _ _ _ _ _ _ _ _ _ _ _) ?_; rw [World.setRow_alloc_new]))
    have HX8 := Lib.hid (heap_alloc_last w7 (.cells (drCells d (.slice bt1 d.tiers.length dt) (.slice bp1 d.places.length dp) (.slice bq1 d.quotas.length dq) (.slice bb1 d.barred.length db)) 33))
    have HA8 := Lib.hid ((Only.refl (fun _ => False) w7).alloc (.cells (drCells d (.slice bt1 d.tiers.length dt) (.slice bp1 d.places.length dp) (.slice bq1 d.quotas.length dq) (.slice bb1 d.barred.length db)) 33))
    generalize World.alloc w7 _ = w8 at *
    obtain ⟨n7, hn7⟩ : ∃ n, w7.heap.size = n := ⟨_, rfl⟩
    rw [hn7] at HX8 ⊢
    clear hn7
    have HR8 := Lib.hid (row_still HA8.out HR7.out)
    have HD8 := Lib.hid (HD7.out.only HA8.out (fun _ _ h => h))
    have HU8 := Lib.hid (HU7.out.only HA8.out (fun _ _ h => h))
    have HO8 := Lib.hid (HO7.out.trans HA8.out)
    have hlt7 : n7 < w8.heap.size := (Array.getElem?_eq_some_iff.1 HX8.out).1
    have hlt8 : n3 < w8.heap.size := (Array.getElem?_eq_some_iff.1 HR8.out).1
    clear HA8 hlt6 hB6
    have c0 : w8.cell? ⟨n3, 0, none⟩ = some (Value.string d.name) := cell_of_row _ _ 0 _ _ _ HR8.out
    have c1 : w8.cell? ⟨n3, 1, none⟩ = some (Value.int .i64 d.kind) := cell_of_row _ _ 1 _ _ _ HR8.out
    have c2 : w8.cell? ⟨n3, 2, none⟩ = some (Value.int .i64 d.round) := cell_of_row _ _ 2 _ _ _ HR8.out
    have c3 : w8.cell? ⟨n3, 3, none⟩ = some (Value.int .i64 d.price) := cell_of_row _ _ 3 _ _ _ HR8.out
    have c4 : w8.cell? ⟨n3, 4, none⟩ = some (Value.int .i64 d.pool) := cell_of_row _ _ 4 _ _ _ HR8.out
    have c5 : w8.cell? ⟨n3, 5, none⟩ = some (Value.int .i64 d.pick) := cell_of_row _ _ 5 _ _ _ HR8.out
    have c6 : w8.cell? ⟨n3, 6, none⟩ = some (Value.slice at1 d.tiers.length ct) := cell_of_row _ _ 6 _ _ _ HR8.out
    have c7 : w8.cell? ⟨n3, 7, none⟩ = some (Value.bool d.roll) := cell_of_row _ _ 7 _ _ _ HR8.out
    have c8 : w8.cell? ⟨n3, 8, none⟩ = some (Value.slice ap1 d.places.length cp) := cell_of_row _ _ 8 _ _ _ HR8.out
    have c9 : w8.cell? ⟨n3, 9, none⟩ = some (Value.int .i64 d.cls) := cell_of_row _ _ 9 _ _ _ HR8.out
    have c10 : w8.cell? ⟨n3, 10, none⟩ = some (Value.int .i64 d.size) := cell_of_row _ _ 10 _ _ _ HR8.out
    have c11 : w8.cell? ⟨n3, 11, none⟩ = some (Value.slice aq1 d.quotas.length cq) := cell_of_row _ _ 11 _ _ _ HR8.out
    have c12 : w8.cell? ⟨n3, 12, none⟩ = some (Value.slice ab1 d.barred.length cb) := cell_of_row _ _ 12 _ _ _ HR8.out
    have e0 : w8.cell? ⟨n7, 0, none⟩ = some (Value.string d.name) := cell_of_row _ _ 0 _ _ _ HX8.out
    have e1 : w8.cell? ⟨n7, 1, none⟩ = some (Value.int .i64 d.kind) := cell_of_row _ _ 1 _ _ _ HX8.out
    have e2 : w8.cell? ⟨n7, 2, none⟩ = some (Value.int .i64 d.round) := cell_of_row _ _ 2 _ _ _ HX8.out
    have e3 : w8.cell? ⟨n7, 3, none⟩ = some (Value.int .i64 d.price) := cell_of_row _ _ 3 _ _ _ HX8.out
    have e4 : w8.cell? ⟨n7, 4, none⟩ = some (Value.int .i64 d.pool) := cell_of_row _ _ 4 _ _ _ HX8.out
    have e5 : w8.cell? ⟨n7, 5, none⟩ = some (Value.int .i64 d.pick) := cell_of_row _ _ 5 _ _ _ HX8.out
    have e6 : w8.cell? ⟨n7, 6, none⟩ = some (Value.slice bt1 d.tiers.length dt) := cell_of_row _ _ 6 _ _ _ HX8.out
    have e7 : w8.cell? ⟨n7, 7, none⟩ = some (Value.bool d.roll) := cell_of_row _ _ 7 _ _ _ HX8.out
    have e8 : w8.cell? ⟨n7, 8, none⟩ = some (Value.slice bp1 d.places.length dp) := cell_of_row _ _ 8 _ _ _ HX8.out
    have e9 : w8.cell? ⟨n7, 9, none⟩ = some (Value.int .i64 d.cls) := cell_of_row _ _ 9 _ _ _ HX8.out
    have e10 : w8.cell? ⟨n7, 10, none⟩ = some (Value.int .i64 d.size) := cell_of_row _ _ 10 _ _ _ HX8.out
    have e11 : w8.cell? ⟨n7, 11, none⟩ = some (Value.slice bq1 d.quotas.length dq) := cell_of_row _ _ 11 _ _ _ HX8.out
    have e12 : w8.cell? ⟨n7, 12, none⟩ = some (Value.slice bb1 d.barred.length db) := cell_of_row _ _ 12 _ _ _ HX8.out
    go_wp2_with fail
    refine (equal_any d d _ _ _ _ _ _ _ _ true w6.heap.size w2.heap.size w8 HU8.out HD8.out HDB.out HDB.out (by simp)).mono ?_
    rintro e w9 ⟨rfl, hO9⟩
    have HR9 := Lib.hid (row_still hO9 HR8.out)
    have HX9 := Lib.hid (row_still hO9 HX8.out)
    have HD9 := Lib.hid (HD8.out.only hO9 (fun _ _ h => h))
    have HU9 := Lib.hid (HU8.out.only hO9 (fun _ _ h => h))
    have HO9 := Lib.hid (HO8.out.trans hO9)
    clear hO9 hlt7 hlt8 c0 c1 c2 c3 c4 c5 c6 c7 c8 c9 c10 c11 c12 e0 e1 e2 e3 e4 e5 e6 e7 e8 e9 e10 e11 e12
    have hlt7 : n7 < w9.heap.size := (Array.getElem?_eq_some_iff.1 HX9.out).1
    have hlt8 : n3 < w9.heap.size := (Array.getElem?_eq_some_iff.1 HR9.out).1
    have c0 : w9.cell? ⟨n3, 0, none⟩ = some (Value.string d.name) := cell_of_row _ _ 0 _ _ _ HR9.out
    have c1 : w9.cell? ⟨n3, 1, none⟩ = some (Value.int .i64 d.kind) := cell_of_row _ _ 1 _ _ _ HR9.out
    have c2 : w9.cell? ⟨n3, 2, none⟩ = some (Value.int .i64 d.round) := cell_of_row _ _ 2 _ _ _ HR9.out
    have c3 : w9.cell? ⟨n3, 3, none⟩ = some (Value.int .i64 d.price) := cell_of_row _ _ 3 _ _ _ HR9.out
    have c4 : w9.cell? ⟨n3, 4, none⟩ = some (Value.int .i64 d.pool) := cell_of_row _ _ 4 _ _ _ HR9.out
    have c5 : w9.cell? ⟨n3, 5, none⟩ = some (Value.int .i64 d.pick) := cell_of_row _ _ 5 _ _ _ HR9.out
    have c6 : w9.cell? ⟨n3, 6, none⟩ = some (Value.slice at1 d.tiers.length ct) := cell_of_row _ _ 6 _ _ _ HR9.out
    have c7 : w9.cell? ⟨n3, 7, none⟩ = some (Value.bool d.roll) := cell_of_row _ _ 7 _ _ _ HR9.out
    have c8 : w9.cell? ⟨n3, 8, none⟩ = some (Value.slice ap1 d.places.length cp) := cell_of_row _ _ 8 _ _ _ HR9.out
    have c9 : w9.cell? ⟨n3, 9, none⟩ = some (Value.int .i64 d.cls) := cell_of_row _ _ 9 _ _ _ HR9.out
    have c10 : w9.cell? ⟨n3, 10, none⟩ = some (Value.int .i64 d.size) := cell_of_row _ _ 10 _ _ _ HR9.out
    have c11 : w9.cell? ⟨n3, 11, none⟩ = some (Value.slice aq1 d.quotas.length cq) := cell_of_row _ _ 11 _ _ _ HR9.out
    have c12 : w9.cell? ⟨n3, 12, none⟩ = some (Value.slice ab1 d.barred.length cb) := cell_of_row _ _ 12 _ _ _ HR9.out
    have e0 : w9.cell? ⟨n7, 0, none⟩ = some (Value.string d.name) := cell_of_row _ _ 0 _ _ _ HX9.out
    have e1 : w9.cell? ⟨n7, 1, none⟩ = some (Value.int .i64 d.kind) := cell_of_row _ _ 1 _ _ _ HX9.out
    have e2 : w9.cell? ⟨n7, 2, none⟩ = some (Value.int .i64 d.round) := cell_of_row _ _ 2 _ _ _ HX9.out
    have e3 : w9.cell? ⟨n7, 3, none⟩ = some (Value.int .i64 d.price) := cell_of_row _ _ 3 _ _ _ HX9.out
    have e4 : w9.cell? ⟨n7, 4, none⟩ = some (Value.int .i64 d.pool) := cell_of_row _ _ 4 _ _ _ HX9.out
    have e5 : w9.cell? ⟨n7, 5, none⟩ = some (Value.int .i64 d.pick) := cell_of_row _ _ 5 _ _ _ HX9.out
    have e6 : w9.cell? ⟨n7, 6, none⟩ = some (Value.slice bt1 d.tiers.length dt) := cell_of_row _ _ 6 _ _ _ HX9.out
    have e7 : w9.cell? ⟨n7, 7, none⟩ = some (Value.bool d.roll) := cell_of_row _ _ 7 _ _ _ HX9.out
    have e8 : w9.cell? ⟨n7, 8, none⟩ = some (Value.slice bp1 d.places.length dp) := cell_of_row _ _ 8 _ _ _ HX9.out
    have e9 : w9.cell? ⟨n7, 9, none⟩ = some (Value.int .i64 d.cls) := cell_of_row _ _ 9 _ _ _ HX9.out
    have e10 : w9.cell? ⟨n7, 10, none⟩ = some (Value.int .i64 d.size) := cell_of_row _ _ 10 _ _ _ HX9.out
    have e11 : w9.cell? ⟨n7, 11, none⟩ = some (Value.slice bq1 d.quotas.length dq) := cell_of_row _ _ 11 _ _ _ HX9.out
    have e12 : w9.cell? ⟨n7, 12, none⟩ = some (Value.slice bb1 d.barred.length db) := cell_of_row _ _ 12 _ _ _ HX9.out
    go_wp2_with fail
    refine (requal_any d d _ _ _ _ _ _ _ _ true w6.heap.size w2.heap.size w9 HU9.out HD9.out HDB.out HDB.out (by simp)).mono ?_
    rintro e w10 ⟨rfl, hO10⟩
    have HO10 := Lib.hid (HO9.out.trans hO10)
    clear hO10 hlt7 hlt8 c0 c1 c2 c3 c4 c5 c6 c7 c8 c9 c10 c11 c12 e0 e1 e2 e3 e4 e5 e6 e7 e8 e9 e10 e11 e12
    go_wp2_with fail
    go_ret
    exact ⟨rfl, HO10.out.below (Nat.le_refl _) (fun _ _ h => h)⟩
  · have hsw : s = ByteArray.empty := by rw [← HSE.out]; unfold printZ; rw [if_neg hr]
    have q1 : (s.toList == []) = true := by rw [hsw]; exact emp_toList
    clear hsw hr
    go_wp2_with fail
    go_ret
    exact ⟨rfl, HO6.out.below (Nat.le_refl _) (fun _ _ h => h)⟩
end Go.Proofs.YteikkpiginfbkaaGreatDoor
