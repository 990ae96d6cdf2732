/-
  Rules: the program's Print.
-/
import Derived.Test.YteikkpiginfbkaaGreatDoorPh25
namespace Go.Proofs.YteikkpiginfbkaaGreatDoor
open Go.RowKit

theorem Tryz.infoStr : (Tryz.prog.info? 9).map (fun i => (i.zero, i.size, i.bytes)) = some (some (.string ⟨#[]⟩), 1, 16) := by kernel_rfl
theorem one_str1 (s : ByteArray) : ∀ v ∈ [Value.string s], v.oneCell' = true := by intro v hv; simp at hv; subst hv; rfl
theorem one_str2 (s t : ByteArray) : ∀ v ∈ [Value.string s, .string t], v.oneCell' = true := by
 intro v hv; simp at hv; rcases hv with rfl | rfl <;> rfl
theorem print_no2 (d : Dr) (h : rightZ d = false) : printZ d = ByteArray.empty := by unfold printZ; rw [if_neg (by rw [h]; decide)]
theorem own_new (w : World) (e : TypeId) (xs : List Value) (hl : xs.length ≤ 1000) : (w.alloc (.cells xs.toArray e)).ownsRow w.heap.size e 1 (.slice (some ⟨w.heap.size, 0, none⟩) xs.length xs.length) xs.length xs :=
 ⟨by omega, .inr ⟨w.heap.size, xs.length, xs.toArray, rfl, Nat.le_refl _, heap_alloc_last w _, Nat.le_refl _, by unfold maxLen; omega, by simp, by simp⟩⟩
theorem pts_2 (w : World) (x y : Int) : PtsAt (w.alloc (.cells #[.int .i64 x, .int .i64 y] 3)).heap.size (w.alloc (.cells #[.int .i64 x, .int .i64 y] 3)) (.slice (some ⟨w.heap.size, 0, none⟩) [x, y].length 2) [x, y] := pts_new w [x, y] (by simp) (by simp)
theorem pts_1 (w : World) (x : Int) : PtsAt (w.alloc (.cells #[.int .i64 x] 3)).heap.size (w.alloc (.cells #[.int .i64 x] 3)) (.slice (some ⟨w.heap.size, 0, none⟩) [x].length 1) [x] := pts_new w [x] (by simp) (by simp)
theorem draw_line (n : ByteArray) : (⟨#[100, 114, 97, 119, 32]⟩ : ByteArray) ++ n = lineB [kDraw, n] := by
 apply ba_ext
 rw [app_data]
 show _ = lineW [kDraw, n]
 rw [lineW_cons, lineW_one]; rfl
theorem all1 {x : Int} (h : R64 x) : ∀ n ∈ [x], R64 n := fun n hn => by rw [List.mem_singleton.1 hn]; exact h
theorem all2 {x y : Int} (h : R64 x) (h' : R64 y) : ∀ n ∈ [x, y], R64 n := fun n hn => by
 rcases List.mem_cons.1 hn with rfl | hn
 ·exact h
 ·rw [List.mem_singleton.1 hn]; exact h'
set_option maxRecDepth 100000 in
set_option maxHeartbeats 4000000 in
theorem print_false (d : Dr) (vt vp vq vb : Value) (base : Nat) (w : World) (hd : DrOwn base w d vt vp vq vb) (hr : rightZ d = false) (hbig : d.tiers.length ≤ 1000000 ∧ d.places.length ≤ 1000000 ∧ d.quotas.length ≤ 1000000 ∧ d.barred.length ≤ 1000000) :
  Calls Tryz.prog 11 #[.agg (drCells d vt vp vq vb)] w fun e w' => e = .returned (.string ByteArray.empty) ∧ Only (fun _ => False) w w' := by
 have HD := Lib.hid hd
 have HC1 := Lib.hid (fun (w : World) (hd : DrOwn base w d vt vp vq vb) => right_any d vt vp vq vb false base w hd hr hbig)
 have HZ := Lib.hid (heap_alloc_last w (.cells (drCells d vt vp vq vb) 33))
 have HO := Lib.hid ((Only.refl (fun _ => False) w).alloc (.cells (drCells d vt vp vq vb) 33))
 clear hd hr hbig
 go_enter Tryz.func11, Tryz.ntmps11
 go_upto_region 1 with (fail)
 generalize World.alloc w _ = w1 at *
 have HD1 := Lib.hid (HD.out.only HO.out (fun _ _ h => h))
 have c0 : w1.cell? ⟨w.heap.size, 0, none⟩ = some (Value.string d.name) := cell_of_row _ _ 0 _ _ _ HZ.out
 have c1 : w1.cell? ⟨w.heap.size, 1, none⟩ = some (Value.int .i64 d.kind) := cell_of_row _ _ 1 _ _ _ HZ.out
 have c2 : w1.cell? ⟨w.heap.size, 2, none⟩ = some (Value.int .i64 d.round) := cell_of_row _ _ 2 _ _ _ HZ.out
 have c3 : w1.cell? ⟨w.heap.size, 3, none⟩ = some (Value.int .i64 d.price) := cell_of_row _ _ 3 _ _ _ HZ.out
 have c4 : w1.cell? ⟨w.heap.size, 4, none⟩ = some (Value.int .i64 d.pool) := cell_of_row _ _ 4 _ _ _ HZ.out
 have c5 : w1.cell? ⟨w.heap.size, 5, none⟩ = some (Value.int .i64 d.pick) := cell_of_row _ _ 5 _ _ _ HZ.out
 have c6 : w1.cell? ⟨w.heap.size, 6, none⟩ = some (vt) := cell_of_row _ _ 6 _ _ _ HZ.out
 have c7 : w1.cell? ⟨w.heap.size, 7, none⟩ = some (Value.bool d.roll) := cell_of_row _ _ 7 _ _ _ HZ.out
 have c8 : w1.cell? ⟨w.heap.size, 8, none⟩ = some (vp) := cell_of_row _ _ 8 _ _ _ HZ.out
 have c9 : w1.cell? ⟨w.heap.size, 9, none⟩ = some (Value.int .i64 d.cls) := cell_of_row _ _ 9 _ _ _ HZ.out
 have c10 : w1.cell? ⟨w.heap.size, 10, none⟩ = some (Value.int .i64 d.size) := cell_of_row _ _ 10 _ _ _ HZ.out
 have c11 : w1.cell? ⟨w.heap.size, 11, none⟩ = some (vq) := cell_of_row _ _ 11 _ _ _ HZ.out
 have c12 : w1.cell? ⟨w.heap.size, 12, none⟩ = some (vb) := cell_of_row _ _ 12 _ _ _ HZ.out
 go_wp2_with fail
 refine (HC1.out _ HD1.out).mono ?_
 rintro e w2 ⟨rfl, hO2⟩
 go_wp2_with fail
 go_ret
 exact ⟨rfl, HO.out.trans hO2⟩
set_option maxRecDepth 100000 in
set_option maxHeartbeats 100000000 in
theorem print_true (d : Dr) (vt vp vq vb : Value) (base : Nat) (w : World) (hd : DrOwn base w d vt vp vq vb) (hr : Right d) (hG : GlobU w) :
  Calls Tryz.prog 11 #[.agg (drCells d vt vp vq vb)] w fun e w' => e = .returned (.string (writeB d)) ∧ Only (fun _ => False) w w' := by
 obtain ⟨at1, ct, rfl⟩ := slice_of_own hd.tiers
 obtain ⟨ap1, cp, rfl⟩ := slice_of_own hd.places
 obtain ⟨aq1, cq, rfl⟩ := slice_of_own hd.quotas
 obtain ⟨ab1, cb, rfl⟩ := slice_of_own hd.bars
 have HD := Lib.hid hd
 have HR := Lib.hid hr
 have HG := Lib.hid hG
 have HC1 := Lib.hid (fun (w : World) (hd : DrOwn base w d (.slice at1 d.tiers.length ct) (.slice ap1 d.places.length cp) (.slice aq1 d.quotas.length cq) (.slice ab1 d.barred.length cb)) => right_any d _ _ _ _ true base w hd (right_iff.2 hr) ⟨by have := hr.t12; omega, by have := hr.p12; omega, by have := hr.q12; omega, by have := hr.b40; omega⟩)
 have HZ := Lib.hid (heap_alloc_last w (.cells (drCells d (.slice at1 d.tiers.length ct) (.slice ap1 d.places.length cp) (.slice aq1 d.quotas.length cq) (.slice ab1 d.barred.length cb)) 33))
 have HO := Lib.hid ((Only.refl (fun _ => False) w).alloc (.cells (drCells d (.slice at1 d.tiers.length ct) (.slice ap1 d.places.length cp) (.slice aq1 d.quotas.length cq) (.slice ab1 d.barred.length cb)) 33))
 have HN := Lib.hid (show d.name.size ≤ 20 by have := name_len hr.name; have e : d.name.data.toList.length = d.name.size := Array.length_toList; omega)
 obtain ⟨i0, hi, hz0, hz1, hz2⟩ := info_parts Tryz.infoStr
 have HI := Lib.hid hi
 have HI0 := Lib.hid hz0
 have HI1 := Lib.hid hz1
 have HI2 := Lib.hid hz2
 clear hd hr hG hi hz0 hz1 hz2
 go_enter Tryz.func11, Tryz.ntmps11
 go_upto_region 1 with (fail)
 generalize World.alloc w _ = w1 at *
 have HD1 := Lib.hid (HD.out.only HO.out (fun _ _ h => h))
 have c0 : w1.cell? ⟨w.heap.size, 0, none⟩ = some (Value.string d.name) := cell_of_row _ _ 0 _ _ _ HZ.out
 have c1 : w1.cell? ⟨w.heap.size, 1, none⟩ = some (Value.int .i64 d.kind) := cell_of_row _ _ 1 _ _ _ HZ.out
 have c2 : w1.cell? ⟨w.heap.size, 2, none⟩ = some (Value.int .i64 d.round) := cell_of_row _ _ 2 _ _ _ HZ.out
 have c3 : w1.cell? ⟨w.heap.size, 3, none⟩ = some (Value.int .i64 d.price) := cell_of_row _ _ 3 _ _ _ HZ.out
 have c4 : w1.cell? ⟨w.heap.size, 4, none⟩ = some (Value.int .i64 d.pool) := cell_of_row _ _ 4 _ _ _ HZ.out
 have c5 : w1.cell? ⟨w.heap.size, 5, none⟩ = some (Value.int .i64 d.pick) := cell_of_row _ _ 5 _ _ _ HZ.out
 have c6 : w1.cell? ⟨w.heap.size, 6, none⟩ = some (Value.slice at1 d.tiers.length ct) := cell_of_row _ _ 6 _ _ _ HZ.out
 have c7 : w1.cell? ⟨w.heap.size, 7, none⟩ = some (Value.bool d.roll) := cell_of_row _ _ 7 _ _ _ HZ.out
 have c8 : w1.cell? ⟨w.heap.size, 8, none⟩ = some (Value.slice ap1 d.places.length cp) := cell_of_row _ _ 8 _ _ _ HZ.out
 have c9 : w1.cell? ⟨w.heap.size, 9, none⟩ = some (Value.int .i64 d.cls) := cell_of_row _ _ 9 _ _ _ HZ.out
 have c10 : w1.cell? ⟨w.heap.size, 10, none⟩ = some (Value.int .i64 d.size) := cell_of_row _ _ 10 _ _ _ HZ.out
 have c11 : w1.cell? ⟨w.heap.size, 11, none⟩ = some (Value.slice aq1 d.quotas.length cq) := cell_of_row _ _ 11 _ _ _ HZ.out
 have c12 : w1.cell? ⟨w.heap.size, 12, none⟩ = some (Value.slice ab1 d.barred.length cb) := cell_of_row _ _ 12 _ _ _ HZ.out
 go_wp2_with fail
 refine (HC1.out _ HD1.out).mono ?_
 rintro e w2 ⟨rfl, hO2⟩
 have HO2 := Lib.hid (HO.out.trans hO2)
 have HZ2 := Lib.hid (row_still hO2 HZ.out)
 have HD2 := Lib.hid (HD1.out.only hO2 (fun _ _ h => h))
 clear hO2 c0 c1 c2 c3 c4 c5 c6 c7 c8 c9 c10 c11 c12
 have c0 : w2.cell? ⟨w.heap.size, 0, none⟩ = some (Value.string d.name) := cell_of_row _ _ 0 _ _ _ HZ2.out
 have c1 : w2.cell? ⟨w.heap.size, 1, none⟩ = some (Value.int .i64 d.kind) := cell_of_row _ _ 1 _ _ _ HZ2.out
 have c2 : w2.cell? ⟨w.heap.size, 2, none⟩ = some (Value.int .i64 d.round) := cell_of_row _ _ 2 _ _ _ HZ2.out
 have c3 : w2.cell? ⟨w.heap.size, 3, none⟩ = some (Value.int .i64 d.price) := cell_of_row _ _ 3 _ _ _ HZ2.out
 have c4 : w2.cell? ⟨w.heap.size, 4, none⟩ = some (Value.int .i64 d.pool) := cell_of_row _ _ 4 _ _ _ HZ2.out
 have c5 : w2.cell? ⟨w.heap.size, 5, none⟩ = some (Value.int .i64 d.pick) := cell_of_row _ _ 5 _ _ _ HZ2.out
 have c6 : w2.cell? ⟨w.heap.size, 6, none⟩ = some (Value.slice at1 d.tiers.length ct) := cell_of_row _ _ 6 _ _ _ HZ2.out
 have c7 : w2.cell? ⟨w.heap.size, 7, none⟩ = some (Value.bool d.roll) := cell_of_row _ _ 7 _ _ _ HZ2.out
 have c8 : w2.cell? ⟨w.heap.size, 8, none⟩ = some (Value.slice ap1 d.places.length cp) := cell_of_row _ _ 8 _ _ _ HZ2.out
 have c9 : w2.cell? ⟨w.heap.size, 9, none⟩ = some (Value.int .i64 d.cls) := cell_of_row _ _ 9 _ _ _ HZ2.out
 have c10 : w2.cell? ⟨w.heap.size, 10, none⟩ = some (Value.int .i64 d.size) := cell_of_row _ _ 10 _ _ _ HZ2.out
 have c11 : w2.cell? ⟨w.heap.size, 11, none⟩ = some (Value.slice aq1 d.quotas.length cq) := cell_of_row _ _ 11 _ _ _ HZ2.out
 have c12 : w2.cell? ⟨w.heap.size, 12, none⟩ = some (Value.slice ab1 d.barred.length cb) := cell_of_row _ _ 12 _ _ _ HZ2.out
 have hlt0 : w.heap.size < w2.heap.size := (Array.getElem?_eq_some_iff.1 HZ2.out).1
 have nsz := HN.out
 have i1 : ¬ (9223372036854775807 < 5 + d.name.size) := by omega
 go_upto_block 0 with (fail)
 have HL1 := Lib.hid (show LnsAt w2.heap.size (w2.alloc (.cells #[.string (⟨#[100, 114, 97, 119, 32]⟩ ++ d.name)] 9)) (.slice (some ⟨w2.heap.size, 0, none⟩) [[kDraw, d.name]].length 1) [[kDraw, d.name]] by
  rw [draw_line]
  exact own_new w2 9 [.string (lineB [kDraw, d.name])] (by simp))
 have HO1 := Lib.hid ((Only.refl (fun _ => False) w2).alloc (.cells #[.string (⟨#[100, 114, 97, 119, 32]⟩ ++ d.name)] 9))
 generalize World.alloc w2 (.cells #[.string (⟨#[100, 114, 97, 119, 32]⟩ ++ d.name)] 9) = wl at *
 clear c0 c1 c2 c3 c4 c5 c6 c7 c8 c9 c10 c11 c12
 have HZ3 := Lib.hid (row_still HO1.out HZ2.out)
 have c0 : wl.cell? ⟨w.heap.size, 0, none⟩ = some (Value.string d.name) := cell_of_row _ _ 0 _ _ _ HZ3.out
 have c1 : wl.cell? ⟨w.heap.size, 1, none⟩ = some (Value.int .i64 d.kind) := cell_of_row _ _ 1 _ _ _ HZ3.out
 have c2 : wl.cell? ⟨w.heap.size, 2, none⟩ = some (Value.int .i64 d.round) := cell_of_row _ _ 2 _ _ _ HZ3.out
 have c3 : wl.cell? ⟨w.heap.size, 3, none⟩ = some (Value.int .i64 d.price) := cell_of_row _ _ 3 _ _ _ HZ3.out
 have c4 : wl.cell? ⟨w.heap.size, 4, none⟩ = some (Value.int .i64 d.pool) := cell_of_row _ _ 4 _ _ _ HZ3.out
 have c5 : wl.cell? ⟨w.heap.size, 5, none⟩ = some (Value.int .i64 d.pick) := cell_of_row _ _ 5 _ _ _ HZ3.out
 have c6 : wl.cell? ⟨w.heap.size, 6, none⟩ = some (Value.slice at1 d.tiers.length ct) := cell_of_row _ _ 6 _ _ _ HZ3.out
 have c7 : wl.cell? ⟨w.heap.size, 7, none⟩ = some (Value.bool d.roll) := cell_of_row _ _ 7 _ _ _ HZ3.out
 have c8 : wl.cell? ⟨w.heap.size, 8, none⟩ = some (Value.slice ap1 d.places.length cp) := cell_of_row _ _ 8 _ _ _ HZ3.out
 have c9 : wl.cell? ⟨w.heap.size, 9, none⟩ = some (Value.int .i64 d.cls) := cell_of_row _ _ 9 _ _ _ HZ3.out
 have c10 : wl.cell? ⟨w.heap.size, 10, none⟩ = some (Value.int .i64 d.size) := cell_of_row _ _ 10 _ _ _ HZ3.out
 have c11 : wl.cell? ⟨w.heap.size, 11, none⟩ = some (Value.slice aq1 d.quotas.length cq) := cell_of_row _ _ 11 _ _ _ HZ3.out
 have c12 : wl.cell? ⟨w.heap.size, 12, none⟩ = some (Value.slice ab1 d.barred.length cb) := cell_of_row _ _ 12 _ _ _ HZ3.out
 have HWS := Lib.hid (show kLottery.size ≤ 1000000 ∧ kBallot.size ≤ 1000000 ∧ kPanel.size ≤ 1000000 from by decide)
 go_cut [3] (fun v wx => ∃ a c, v = .slice a ([kDraw, d.name] :: kindL d).length c ∧ LnsAt w2.heap.size wx v ([kDraw, d.name] :: kindL d) ∧ Only (fun _ => False) w2 wx)
 case first =>
  rcases owns_k HR.out.owns with hk | hk | hk
  ·have q1 : (d.kind == 1) = true := by rw [hk]; rfl
   have HK := Lib.hid hk
   clear hk
   have HNL := Lib.hid (show [[kDraw, d.name]].length ≤ 100 by simp)
   have HOa := Lib.hid (HO1.out.alloc (.cells #[.int .i64 d.pool, .int .i64 d.pick] 3))
   go_wp2_with fail
   refine (text_any kLottery _ _ [d.pool, d.pick] _ (by exact pts_2 _ _ _) (by simp) (by exact (show (kLottery).size ≤ 1000000 by decide)) (by exact all2 (rg_R64 HR.out.pool) (rg_R64 HR.out.pick)) (HG.out.only (HO2.out.trans HOa.out))).mono ?_
   rintro e w3 ⟨rfl, hO3⟩
   rw [text_2 HR.out.pool HR.out.pick]
   have HO3 := Lib.hid (HOa.out.trans hO3)
   obtain ⟨s, hs⟩ : ∃ s, lineB [kLottery, decW d.pool, decW d.pick] = s := ⟨_, rfl⟩
   rw [hs]
   have HS := Lib.hid hs
   have HL3 := Lib.hid ((HL1.out.only (((Only.refl (fun _ => False) _).alloc (.cells #[.int .i64 d.pool, .int .i64 d.pick] 3)).trans hO3)).only ((Only.refl (fun _ => False) _).alloc (.cells #[.string s] 9)))
   clear hs hO3
   have hbs := (HO3.out.alloc (.cells #[.string s] 9)).size
   go_wp2_with (first | (refine wpList_append_lies _ rfl _ _ 42 rfl w2.heap.size 9 i0 _ 1 16 Tryz.underlying42 HI.out HI0.out HI1.out HI2.out rfl (by decide) _ _ _ rfl HL3.out ⟨w3.heap.size, 0, none⟩ 1 1 [.string s] rfl rfl (by exact newsR' w3 _ _) (one_str1 _) (by decide) (by have := HNL.out; unfold maxLen; omega) (by have := HNL.out; omega) hbs _ rfl ?_; intro g cap w5 hown1 hgrow hat hlt2))
   have HO5 := Lib.hid ((HO3.out.alloc (.cells #[.string s] 9)).trans' (S := fun _ => False) (T := fun i => (Value.slice (some ⟨w2.heap.size, 0, none⟩) ([[kDraw, d.name]]).length 1).ownBlock = some i) ((Only.refl _ _).grown hgrow (fun i e _ => e)) (fun i hi e => by have := ownR_ge HL3.out e; omega))
   have HL5 := Lib.hid (show LnsAt w2.heap.size w5 (.slice (some ⟨g, 0, none⟩) (([[kDraw, d.name]]) ++ [[kLottery, decW d.pool, decW d.pick]]).length cap) (([[kDraw, d.name]]) ++ [[kLottery, decW d.pool, decW d.pick]]) by
    unfold LnsAt
    rw [srowU_app, HS.out, List.length_append]; exact hown1)
   go_meet
   have hk := HK.out
   rw [show kindL d = [[kLottery, decW d.pool, decW d.pick]] by unfold kindL; rw [if_pos hk]]
   exact ⟨_, _, rfl, HL5.out, HO5.out⟩
  ·have q1 : (d.kind == 1) = false := by rw [hk]; rfl
   have q2 : (d.kind == 2) = true := by rw [hk]; rfl
   have HK := Lib.hid hk
   clear hk
   have HNL := Lib.hid (show [[kDraw, d.name]].length ≤ 100 by simp)
   have HOa := Lib.hid (HO1.out.alloc (.cells #[.int .i64 d.cls] 3))
   go_wp2_with fail
   refine (text_any kBallot _ _ [d.cls] _ (by exact pts_1 _ _) (by simp) (by exact (show (kBallot).size ≤ 1000000 by decide)) (by exact all1 (rg_R64 HR.out.cls)) (HG.out.only (HO2.out.trans HOa.out))).mono ?_
   rintro e w3 ⟨rfl, hO3⟩
   rw [text_1 HR.out.cls]
   have HO3 := Lib.hid (HOa.out.trans hO3)
   obtain ⟨s, hs⟩ : ∃ s, lineB [kBallot, decW d.cls] = s := ⟨_, rfl⟩
   rw [hs]
   have HS := Lib.hid hs
   have HL3 := Lib.hid ((HL1.out.only (((Only.refl (fun _ => False) _).alloc (.cells #[.int .i64 d.cls] 3)).trans hO3)).only ((Only.refl (fun _ => False) _).alloc (.cells #[.string s] 9)))
   clear hs hO3
   have hbs := (HO3.out.alloc (.cells #[.string s] 9)).size
   go_wp2_with (first | (refine wpList_append_lies _ rfl _ _ 42 rfl w2.heap.size 9 i0 _ 1 16 Tryz.underlying42 HI.out HI0.out HI1.out HI2.out rfl (by decide) _ _ _ rfl HL3.out ⟨w3.heap.size, 0, none⟩ 1 1 [.string s] rfl rfl (by exact newsR' w3 _ _) (one_str1 _) (by decide) (by have := HNL.out; unfold maxLen; omega) (by have := HNL.out; omega) hbs _ rfl ?_; intro g cap w5 hown1 hgrow hat hlt2))
   have HO5 := Lib.hid ((HO3.out.alloc (.cells #[.string s] 9)).trans' (S := fun _ => False) (T := fun i => (Value.slice (some ⟨w2.heap.size, 0, none⟩) ([[kDraw, d.name]]).length 1).ownBlock = some i) ((Only.refl _ _).grown hgrow (fun i e _ => e)) (fun i hi e => by have := ownR_ge HL3.out e; omega))
   have HL5 := Lib.hid (show LnsAt w2.heap.size w5 (.slice (some ⟨g, 0, none⟩) (([[kDraw, d.name]]) ++ [[kBallot, decW d.cls]]).length cap) (([[kDraw, d.name]]) ++ [[kBallot, decW d.cls]]) by
    unfold LnsAt
    rw [srowU_app, HS.out, List.length_append]; exact hown1)
   go_meet
   have hk := HK.out
   rw [show kindL d = [[kBallot, decW d.cls]] by unfold kindL; rw [if_neg (by rw [hk]; decide), if_pos hk]]
   exact ⟨_, _, rfl, HL5.out, HO5.out⟩
  ·have q1 : (d.kind == 1) = false := by rw [hk]; rfl
   have q2 : (d.kind == 2) = false := by rw [hk]; rfl
   have q3 : (d.kind == 3) = true := by rw [hk]; rfl
   have HK := Lib.hid hk
   clear hk
   have HNL := Lib.hid (show [[kDraw, d.name]].length ≤ 100 by simp)
   have HOa := Lib.hid (HO1.out.alloc (.cells #[.int .i64 d.size] 3))
   go_wp2_with fail
   refine (text_any kPanel _ _ [d.size] _ (by exact pts_1 _ _) (by simp) (by exact (show (kPanel).size ≤ 1000000 by decide)) (by exact all1 (rg_R64 HR.out.size)) (HG.out.only (HO2.out.trans HOa.out))).mono ?_
   rintro e w3 ⟨rfl, hO3⟩
   rw [text_1 HR.out.size]
   have HO3 := Lib.hid (HOa.out.trans hO3)
   obtain ⟨s, hs⟩ : ∃ s, lineB [kPanel, decW d.size] = s := ⟨_, rfl⟩
   rw [hs]
   have HS := Lib.hid hs
   have HL3 := Lib.hid ((HL1.out.only (((Only.refl (fun _ => False) _).alloc (.cells #[.int .i64 d.size] 3)).trans hO3)).only ((Only.refl (fun _ => False) _).alloc (.cells #[.string s] 9)))
   clear hs hO3
   have hbs := (HO3.out.alloc (.cells #[.string s] 9)).size
   go_wp2_with (first | (refine wpList_append_lies _ rfl _ _ 42 rfl w2.heap.size 9 i0 _ 1 16 Tryz.underlying42 HI.out HI0.out HI1.out HI2.out rfl (by decide) _ _ _ rfl HL3.out ⟨w3.heap.size, 0, none⟩ 1 1 [.string s] rfl rfl (by exact newsR' w3 _ _) (one_str1 _) (by decide) (by have := HNL.out; unfold maxLen; omega) (by have := HNL.out; omega) hbs _ rfl ?_; intro g cap w5 hown1 hgrow hat hlt2))
   have HO5 := Lib.hid ((HO3.out.alloc (.cells #[.string s] 9)).trans' (S := fun _ => False) (T := fun i => (Value.slice (some ⟨w2.heap.size, 0, none⟩) ([[kDraw, d.name]]).length 1).ownBlock = some i) ((Only.refl _ _).grown hgrow (fun i e _ => e)) (fun i hi e => by have := ownR_ge HL3.out e; omega))
   have HL5 := Lib.hid (show LnsAt w2.heap.size w5 (.slice (some ⟨g, 0, none⟩) (([[kDraw, d.name]]) ++ [[kPanel, decW d.size]]).length cap) (([[kDraw, d.name]]) ++ [[kPanel, decW d.size]]) by
    unfold LnsAt
    rw [srowU_app, HS.out, List.length_append]; exact hown1)
   go_meet
   have hk := HK.out
   rw [show kindL d = [[kPanel, decW d.size]] by unfold kindL; rw [if_neg (by rw [hk]; decide), if_neg (by rw [hk]; decide), if_pos hk]]
   exact ⟨_, _, rfl, HL5.out, HO5.out⟩
 case rest =>
  obtain ⟨a2, c2s, rfl, hlR, hoR⟩ := hcut
  have HL1 := Lib.hid hlR
  have HO1 := Lib.hid hoR
  have hkl : (kindL d).length = 1 := by
   unfold kindL
   rcases owns_k HR.out.owns with hk | hk | hk
   ·rw [if_pos hk]; rfl
   ·rw [if_neg (by rw [hk]; decide), if_pos hk]; rfl
   ·rw [if_neg (by rw [hk]; decide), if_neg (by rw [hk]; decide), if_pos hk]; rfl
  have HNL := Lib.hid (show ([kDraw, d.name] :: kindL d).length ≤ 100 by rw [List.length_cons, hkl]; decide)
  clear hkl hlR hoR c0 c1 c2 c3 c4 c5 c6 c7 c8 c9 c10 c11 c12
  have HZ3 := Lib.hid (row_still HO1.out HZ2.out)
  have c2 : wc.cell? ⟨w.heap.size, 2, none⟩ = some (Value.int .i64 d.round) := cell_of_row _ _ 2 _ _ _ HZ3.out
  have c3 : wc.cell? ⟨w.heap.size, 3, none⟩ = some (Value.int .i64 d.price) := cell_of_row _ _ 3 _ _ _ HZ3.out
  have HHE := Lib.hid (show ([kDraw, d.name] :: kindL d) ++ [[kRound, decW d.round], [kPrice, decW d.price]] = headL d from rfl)
  generalize ([kDraw, d.name] :: kindL d) = l2 at *
  go_upto_region 11 with (fail)
  go_cut [3] (fun v wx => ∃ a c, v = .slice a (headL d).length c ∧ LnsAt w2.heap.size wx v (headL d) ∧ Only (fun _ => False) w2 wx)
  case first =>
   have HKS := Lib.hid (show ∀ W, Only (fun _ => False) w2 W → W.cell? ⟨w.heap.size, 2, none⟩ = some (.int .i64 d.round) ∧ W.cell? ⟨w.heap.size, 3, none⟩ = some (.int .i64 d.price) from fun W hW => ⟨hW.cell (cell_of_row _ _ 2 _ _ _ HZ2.out) id, hW.cell (cell_of_row _ _ 3 _ _ _ HZ2.out) id⟩)
   refine wp_region_held_drew (S := fun W => W.cell? ⟨w.heap.size, 2, none⟩ = some (.int .i64 d.round) ∧ W.cell? ⟨w.heap.size, 3, none⟩ = some (.int .i64 d.price)) (by kernel_rfl) (HKS.out _ HO1.out.drew) fun hHeld => ?_
   have HOX := Lib.hid HO1.out.drew
   have HL1 := Lib.hid (show LnsAt w2.heap.size wc.drew _ l2 from HL1.out)
   generalize wc.drew = wd at *
   refine' wpAnyH_take (i := 0) (v := _) rfl (by kernel_rfl) (by kernel_rfl) (by kernel_rfl) (fun _ _ _ h => h) (Or.inl ⟨by rfl, ?hya0⟩) hHeld ?ra0
   case hya0 => (intro w hSw; obtain ⟨s0, s1⟩ := hSw; go_simp; with_reducible rfl)
   simp only [Act.put, List.getElem_toArray, List.getElem_cons_zero, List.setIfInBounds_toArray, List.set_cons_zero, List.set_cons_succ]
   refine' wpAnyH_take (i := 1) (v := _) rfl (by kernel_rfl) (by kernel_rfl) (by kernel_rfl) (fun _ _ _ h => h) (Or.inl ⟨by rfl, ?hya1⟩) hHeld ?ra1
   case hya1 => (intro w hSw; obtain ⟨s0, s1⟩ := hSw; go_simp; with_reducible rfl)
   simp only [Act.put, List.getElem_toArray, List.getElem_cons_zero, List.getElem_cons_succ, List.setIfInBounds_toArray, List.set_cons_zero, List.set_cons_succ]
   refine' wpAnyH_take (i := 2) (v := _) rfl (by kernel_rfl) (by kernel_rfl) (by kernel_rfl) (fun _ _ _ h => h) (Or.inl ⟨by rfl, ?hya2⟩) hHeld ?ra2
   case hya2 => (intro w hSw; obtain ⟨s0, s1⟩ := hSw; go_simp; with_reducible rfl)
   simp only [Act.put, List.getElem_toArray, List.getElem_cons_zero, List.getElem_cons_succ, List.setIfInBounds_toArray, List.set_cons_zero, List.set_cons_succ]
   refine' wpAnyH_take (i := 5) (v := _) rfl (by kernel_rfl) (by kernel_rfl) (by kernel_rfl) (fun _ _ _ h => h) (Or.inl ⟨by rfl, ?hya5⟩) hHeld ?ra5
   case hya5 => (intro w hSw; obtain ⟨s0, s1⟩ := hSw; go_simp; with_reducible rfl)
   simp only [Act.put, List.getElem_toArray, List.getElem_cons_zero, List.getElem_cons_succ, List.setIfInBounds_toArray, List.set_cons_zero, List.set_cons_succ]
   refine' wpAnyH_take (i := 6) (v := _) rfl (by kernel_rfl) (by kernel_rfl) (by kernel_rfl) (fun _ _ _ h => h) (Or.inl ⟨by rfl, ?hya6⟩) hHeld ?ra6
   case hya6 => (intro w hSw; obtain ⟨s0, s1⟩ := hSw; go_simp; with_reducible rfl)
   simp only [Act.put, List.getElem_toArray, List.getElem_cons_zero, List.getElem_cons_succ, List.setIfInBounds_toArray, List.set_cons_zero, List.set_cons_succ]
   refine wpAnyH_ready (rs := [3, 7]) (by kernel_rfl) (by simp) ?_
   refine AllReadyH.cons rfl (fun K hK => ?_) (AllReadyH.cons rfl (fun K hK => ?_) AllReadyH.nil)
   ·go_simp
    have HST := Lib.hid ((Only.refl (fun _ => False) wd).alloc (.cells #[.int .i64 d.round] 3))
    have HOX := Lib.hid (HOX.out.trans HST.out)
    have HL1 := Lib.hid (HL1.out.only HST.out)
    have HPA := Lib.hid (pts_1 wd d.round)
    refine hK.out _ _ (HKS.out _ HOX.out) (fun hHeld => ?_)
    clear hK K
    try simp only [Act.put, List.getElem_toArray, List.getElem_cons_zero, List.getElem_cons_succ, List.setIfInBounds_toArray, List.set_cons_zero, List.set_cons_succ]
    generalize (wd.alloc (.cells #[.int .i64 d.round] 3)) = v1 at *
    clear HST
    refine wpAnyH_ready (rs := [4, 7]) (by kernel_rfl) (by simp) ?_
    refine AllReadyH.cons rfl (fun K hK => ?_) (AllReadyH.cons rfl (fun K hK => ?_) AllReadyH.nil)
    ·go_simp
     refine (text_any kRound _ _ [d.round] _ HPA.out (by simp) (by decide) (by exact all1 (rg_R64 HR.out.round)) (HG.out.only (HO2.out.trans HOX.out))).mono ?_
     rintro e v2 ⟨rfl, hST⟩
     have HST := Lib.hid hST
     clear hST HPA
     have HOX := Lib.hid (HOX.out.trans HST.out)
     have HL1 := Lib.hid (HL1.out.only HST.out)
     rw [text_1 HR.out.round]
     refine hK.out _ _ (HKS.out _ HOX.out) (fun hHeld => ?_)
     clear hK K
     try simp only [Act.put, List.getElem_toArray, List.getElem_cons_zero, List.getElem_cons_succ, List.setIfInBounds_toArray, List.set_cons_zero, List.set_cons_succ]
     clear HST
     refine wpAnyH_ready (rs := [7]) (by kernel_rfl) (by simp) ?_
     refine AllReadyH.cons rfl (fun K hK => ?_) AllReadyH.nil
     go_simp
     have HST := Lib.hid ((Only.refl (fun _ => False) v2).alloc (.cells #[.int .i64 d.price] 3))
     have HOX := Lib.hid (HOX.out.trans HST.out)
     have HL1 := Lib.hid (HL1.out.only HST.out)
     have HPB := Lib.hid (pts_1 v2 d.price)
     refine hK.out _ _ (HKS.out _ HOX.out) (fun hHeld => ?_)
     clear hK K
     try simp only [Act.put, List.getElem_toArray, List.getElem_cons_zero, List.getElem_cons_succ, List.setIfInBounds_toArray, List.set_cons_zero, List.set_cons_succ]
     generalize (v2.alloc (.cells #[.int .i64 d.price] 3)) = v3 at *
     clear HST
     refine wpAnyH_ready (rs := [8]) (by kernel_rfl) (by simp) ?_
     refine AllReadyH.cons rfl (fun K hK => ?_) AllReadyH.nil
     go_simp
     refine (text_any kPrice _ _ [d.price] _ HPB.out (by simp) (by decide) (by exact all1 (rg_R64 HR.out.price)) (HG.out.only (HO2.out.trans HOX.out))).mono ?_
     rintro e v4 ⟨rfl, hST⟩
     have HST := Lib.hid hST
     clear hST HPB
     have HOX := Lib.hid (HOX.out.trans HST.out)
     have HL1 := Lib.hid (HL1.out.only HST.out)
     rw [text_1 HR.out.price]
     refine hK.out _ _ (HKS.out _ HOX.out) (fun hHeld => ?_)
     clear hK K
     try simp only [Act.put, List.getElem_toArray, List.getElem_cons_zero, List.getElem_cons_succ, List.setIfInBounds_toArray, List.set_cons_zero, List.set_cons_succ]
     clear HST
     refine wpAnyH_ready (rs := [9]) (by kernel_rfl) (by simp) ?_
     refine AllReadyH.cons rfl (fun K hK => ?_) AllReadyH.nil
     go_simp
     have HL1 := Lib.hid (HL1.out.only ((Only.refl (fun _ => False) _).alloc (.cells #[.string (lineB [kRound, decW d.round]), .string (lineB [kPrice, decW d.price])] 9)))
     have HOX := Lib.hid (HOX.out.alloc (.cells #[.string (lineB [kRound, decW d.round]), .string (lineB [kPrice, decW d.price])] 9))
     have HNW := Lib.hid (newsR' v4 [.string (lineB [kRound, decW d.round]), .string (lineB [kPrice, decW d.price])] 9)
     refine hK.out _ _ (HKS.out _ HOX.out) (fun hHeld => ?_)
     clear hK K
     try simp only [Act.put, List.getElem_toArray, List.getElem_cons_zero, List.getElem_cons_succ, List.setIfInBounds_toArray, List.set_cons_zero, List.set_cons_succ]
     
     have hgg : (v4.alloc (.cells #[.string (lineB [kRound, decW d.round]), .string (lineB [kPrice, decW d.price])] 9)) = (v4.alloc (.cells #[.string (lineB [kRound, decW d.round]), .string (lineB [kPrice, decW d.price])] 9)) := rfl
     clear hgg
     refine wpAnyH_ready (rs := [10]) (by kernel_rfl) (by simp) ?_
     refine AllReadyH.cons rfl (fun K hK => ?_) AllReadyH.nil
     have hbs := HOX.out.size
     refine step_append_lies _ rfl _ _ 42 rfl w2.heap.size 9 i0 _ 1 16 Tryz.underlying42 HI.out HI0.out HI1.out HI2.out rfl (by decide) _ _ _ (by rfl) HL1.out ⟨v4.heap.size, 0, none⟩ 2 2 [.string (lineB [kRound, decW d.round]), .string (lineB [kPrice, decW d.price])] (by rfl) rfl HNW.out (one_str2 _ _) (by decide) (by have := HNL.out; unfold maxLen; omega) (by have := HNL.out; omega) hbs _ rfl ?_
     intro g cap w5 hown1 hgrow hat hlt2
     have HOX := Lib.hid (HOX.out.trans' (S := fun _ => False) (T := fun i => (Value.slice a2 l2.length c2s).ownBlock = some i) ((Only.refl _ _).grown hgrow (fun i e _ => e)) (fun i hi e => by have := ownR_ge HL1.out e; omega))
     have HL5 := Lib.hid (show LnsAt w2.heap.size w5 (.slice (some ⟨g, 0, none⟩) (headL d).length cap) (headL d) by
      rw [← HHE.out]
      unfold LnsAt
      rw [srowU_app2, List.length_append]; exact hown1)
     refine hK.out _ _ (HKS.out _ HOX.out) (fun hHeld => ?_)
     clear hK K
     try simp only [Act.put, List.getElem_toArray, List.getElem_cons_zero, List.getElem_cons_succ, List.setIfInBounds_toArray, List.set_cons_zero, List.set_cons_succ]
     refine' wpAnyH_take (i := 11) (v := _) rfl (by kernel_rfl) (by kernel_rfl) (by kernel_rfl) (fun _ _ _ h => h) (Or.inl ⟨by rfl, ?hyz6x11⟩) hHeld ?rz6x11
     case hyz6x11 => (intro w hSw; obtain ⟨s0, s1⟩ := hSw; go_simp; with_reducible rfl)
     simp only [Act.put, List.getElem_toArray, List.getElem_cons_zero, List.getElem_cons_succ, List.setIfInBounds_toArray, List.set_cons_zero, List.set_cons_succ]
     refine wpAnyH_done (by kernel_rfl) ?_ _
     go_wp2_with fail
     go_meet
     have hhl : (headL d).length = l2.length + 2 := by rw [← HHE.out, List.length_append]; rfl
     have HL5 := HL5.out
     rw [hhl] at HL5 ⊢
     exact ⟨_, _, rfl, HL5, HOX.out⟩
    ·go_simp
     have HST := Lib.hid ((Only.refl (fun _ => False) v1).alloc (.cells #[.int .i64 d.price] 3))
     have HOX := Lib.hid (HOX.out.trans HST.out)
     have HL1 := Lib.hid (HL1.out.only HST.out)
     have HPA := Lib.hid (PtsAt.only HST.out HPA.out)
     have HPB := Lib.hid (pts_1 v1 d.price)
     refine hK.out _ _ (HKS.out _ HOX.out) (fun hHeld => ?_)
     clear hK K
     try simp only [Act.put, List.getElem_toArray, List.getElem_cons_zero, List.getElem_cons_succ, List.setIfInBounds_toArray, List.set_cons_zero, List.set_cons_succ]
     generalize (v1.alloc (.cells #[.int .i64 d.price] 3)) = v7 at *
     clear HST
     refine wpAnyH_ready (rs := [4]) (by kernel_rfl) (by simp) ?_
     refine AllReadyH.cons rfl (fun K hK => ?_) AllReadyH.nil
     go_simp
     refine (text_any kRound _ _ [d.round] _ HPA.out (by simp) (by decide) (by exact all1 (rg_R64 HR.out.round)) (HG.out.only (HO2.out.trans HOX.out))).mono ?_
     rintro e v8 ⟨rfl, hST⟩
     have HST := Lib.hid hST
     clear hST HPA
     have HOX := Lib.hid (HOX.out.trans HST.out)
     have HL1 := Lib.hid (HL1.out.only HST.out)
     have HPB := Lib.hid (PtsAt.only HST.out HPB.out)
     rw [text_1 HR.out.round]
     refine hK.out _ _ (HKS.out _ HOX.out) (fun hHeld => ?_)
     clear hK K
     try simp only [Act.put, List.getElem_toArray, List.getElem_cons_zero, List.getElem_cons_succ, List.setIfInBounds_toArray, List.set_cons_zero, List.set_cons_succ]
     clear HST
     refine wpAnyH_ready (rs := [8]) (by kernel_rfl) (by simp) ?_
     refine AllReadyH.cons rfl (fun K hK => ?_) AllReadyH.nil
     go_simp
     refine (text_any kPrice _ _ [d.price] _ HPB.out (by simp) (by decide) (by exact all1 (rg_R64 HR.out.price)) (HG.out.only (HO2.out.trans HOX.out))).mono ?_
     rintro e v9 ⟨rfl, hST⟩
     have HST := Lib.hid hST
     clear hST HPB
     have HOX := Lib.hid (HOX.out.trans HST.out)
     have HL1 := Lib.hid (HL1.out.only HST.out)
     rw [text_1 HR.out.price]
     refine hK.out _ _ (HKS.out _ HOX.out) (fun hHeld => ?_)
     clear hK K
     try simp only [Act.put, List.getElem_toArray, List.getElem_cons_zero, List.getElem_cons_succ, List.setIfInBounds_toArray, List.set_cons_zero, List.set_cons_succ]
     clear HST
     refine wpAnyH_ready (rs := [9]) (by kernel_rfl) (by simp) ?_
     refine AllReadyH.cons rfl (fun K hK => ?_) AllReadyH.nil
     go_simp
     have HL1 := Lib.hid (HL1.out.only ((Only.refl (fun _ => False) _).alloc (.cells #[.string (lineB [kRound, decW d.round]), .string (lineB [kPrice, decW d.price])] 9)))
     have HOX := Lib.hid (HOX.out.alloc (.cells #[.string (lineB [kRound, decW d.round]), .string (lineB [kPrice, decW d.price])] 9))
     have HNW := Lib.hid (newsR' v9 [.string (lineB [kRound, decW d.round]), .string (lineB [kPrice, decW d.price])] 9)
     refine hK.out _ _ (HKS.out _ HOX.out) (fun hHeld => ?_)
     clear hK K
     try simp only [Act.put, List.getElem_toArray, List.getElem_cons_zero, List.getElem_cons_succ, List.setIfInBounds_toArray, List.set_cons_zero, List.set_cons_succ]
     
     have hgg : (v9.alloc (.cells #[.string (lineB [kRound, decW d.round]), .string (lineB [kPrice, decW d.price])] 9)) = (v9.alloc (.cells #[.string (lineB [kRound, decW d.round]), .string (lineB [kPrice, decW d.price])] 9)) := rfl
     clear hgg
     refine wpAnyH_ready (rs := [10]) (by kernel_rfl) (by simp) ?_
     refine AllReadyH.cons rfl (fun K hK => ?_) AllReadyH.nil
     have hbs := HOX.out.size
     refine step_append_lies _ rfl _ _ 42 rfl w2.heap.size 9 i0 _ 1 16 Tryz.underlying42 HI.out HI0.out HI1.out HI2.out rfl (by decide) _ _ _ (by rfl) HL1.out ⟨v9.heap.size, 0, none⟩ 2 2 [.string (lineB [kRound, decW d.round]), .string (lineB [kPrice, decW d.price])] (by rfl) rfl HNW.out (one_str2 _ _) (by decide) (by have := HNL.out; unfold maxLen; omega) (by have := HNL.out; omega) hbs _ rfl ?_
     intro g cap w5 hown1 hgrow hat hlt2
     have HOX := Lib.hid (HOX.out.trans' (S := fun _ => False) (T := fun i => (Value.slice a2 l2.length c2s).ownBlock = some i) ((Only.refl _ _).grown hgrow (fun i e _ => e)) (fun i hi e => by have := ownR_ge HL1.out e; omega))
     have HL5 := Lib.hid (show LnsAt w2.heap.size w5 (.slice (some ⟨g, 0, none⟩) (headL d).length cap) (headL d) by
      rw [← HHE.out]
      unfold LnsAt
      rw [srowU_app2, List.length_append]; exact hown1)
     refine hK.out _ _ (HKS.out _ HOX.out) (fun hHeld => ?_)
     clear hK K
     try simp only [Act.put, List.getElem_toArray, List.getElem_cons_zero, List.getElem_cons_succ, List.setIfInBounds_toArray, List.set_cons_zero, List.set_cons_succ]
     refine' wpAnyH_take (i := 11) (v := _) rfl (by kernel_rfl) (by kernel_rfl) (by kernel_rfl) (fun _ _ _ h => h) (Or.inl ⟨by rfl, ?hyz11x11⟩) hHeld ?rz11x11
     case hyz11x11 => (intro w hSw; obtain ⟨s0, s1⟩ := hSw; go_simp; with_reducible rfl)
     simp only [Act.put, List.getElem_toArray, List.getElem_cons_zero, List.getElem_cons_succ, List.setIfInBounds_toArray, List.set_cons_zero, List.set_cons_succ]
     refine wpAnyH_done (by kernel_rfl) ?_ _
     go_wp2_with fail
     go_meet
     have hhl : (headL d).length = l2.length + 2 := by rw [← HHE.out, List.length_append]; rfl
     have HL5 := HL5.out
     rw [hhl] at HL5 ⊢
     exact ⟨_, _, rfl, HL5, HOX.out⟩
   ·go_simp
    have HST := Lib.hid ((Only.refl (fun _ => False) wd).alloc (.cells #[.int .i64 d.price] 3))
    have HOX := Lib.hid (HOX.out.trans HST.out)
    have HL1 := Lib.hid (HL1.out.only HST.out)
    have HPB := Lib.hid (pts_1 wd d.price)
    refine hK.out _ _ (HKS.out _ HOX.out) (fun hHeld => ?_)
    clear hK K
    try simp only [Act.put, List.getElem_toArray, List.getElem_cons_zero, List.getElem_cons_succ, List.setIfInBounds_toArray, List.set_cons_zero, List.set_cons_succ]
    generalize (wd.alloc (.cells #[.int .i64 d.price] 3)) = v12 at *
    clear HST
    refine wpAnyH_ready (rs := [3]) (by kernel_rfl) (by simp) ?_
    refine AllReadyH.cons rfl (fun K hK => ?_) AllReadyH.nil
    go_simp
    have HST := Lib.hid ((Only.refl (fun _ => False) v12).alloc (.cells #[.int .i64 d.round] 3))
    have HOX := Lib.hid (HOX.out.trans HST.out)
    have HL1 := Lib.hid (HL1.out.only HST.out)
    have HPB := Lib.hid (PtsAt.only HST.out HPB.out)
    have HPA := Lib.hid (pts_1 v12 d.round)
    refine hK.out _ _ (HKS.out _ HOX.out) (fun hHeld => ?_)
    clear hK K
    try simp only [Act.put, List.getElem_toArray, List.getElem_cons_zero, List.getElem_cons_succ, List.setIfInBounds_toArray, List.set_cons_zero, List.set_cons_succ]
    generalize (v12.alloc (.cells #[.int .i64 d.round] 3)) = v13 at *
    clear HST
    refine wpAnyH_ready (rs := [4]) (by kernel_rfl) (by simp) ?_
    refine AllReadyH.cons rfl (fun K hK => ?_) AllReadyH.nil
    go_simp
    refine (text_any kRound _ _ [d.round] _ HPA.out (by simp) (by decide) (by exact all1 (rg_R64 HR.out.round)) (HG.out.only (HO2.out.trans HOX.out))).mono ?_
    rintro e v14 ⟨rfl, hST⟩
    have HST := Lib.hid hST
    clear hST HPA
    have HOX := Lib.hid (HOX.out.trans HST.out)
    have HL1 := Lib.hid (HL1.out.only HST.out)
    have HPB := Lib.hid (PtsAt.only HST.out HPB.out)
    rw [text_1 HR.out.round]
    refine hK.out _ _ (HKS.out _ HOX.out) (fun hHeld => ?_)
    clear hK K
    try simp only [Act.put, List.getElem_toArray, List.getElem_cons_zero, List.getElem_cons_succ, List.setIfInBounds_toArray, List.set_cons_zero, List.set_cons_succ]
    clear HST
    refine wpAnyH_ready (rs := [8]) (by kernel_rfl) (by simp) ?_
    refine AllReadyH.cons rfl (fun K hK => ?_) AllReadyH.nil
    go_simp
    refine (text_any kPrice _ _ [d.price] _ HPB.out (by simp) (by decide) (by exact all1 (rg_R64 HR.out.price)) (HG.out.only (HO2.out.trans HOX.out))).mono ?_
    rintro e v15 ⟨rfl, hST⟩
    have HST := Lib.hid hST
    clear hST HPB
    have HOX := Lib.hid (HOX.out.trans HST.out)
    have HL1 := Lib.hid (HL1.out.only HST.out)
    rw [text_1 HR.out.price]
    refine hK.out _ _ (HKS.out _ HOX.out) (fun hHeld => ?_)
    clear hK K
    try simp only [Act.put, List.getElem_toArray, List.getElem_cons_zero, List.getElem_cons_succ, List.setIfInBounds_toArray, List.set_cons_zero, List.set_cons_succ]
    clear HST
    refine wpAnyH_ready (rs := [9]) (by kernel_rfl) (by simp) ?_
    refine AllReadyH.cons rfl (fun K hK => ?_) AllReadyH.nil
    go_simp
    have HL1 := Lib.hid (HL1.out.only ((Only.refl (fun _ => False) _).alloc (.cells #[.string (lineB [kRound, decW d.round]), .string (lineB [kPrice, decW d.price])] 9)))
    have HOX := Lib.hid (HOX.out.alloc (.cells #[.string (lineB [kRound, decW d.round]), .string (lineB [kPrice, decW d.price])] 9))
    have HNW := Lib.hid (newsR' v15 [.string (lineB [kRound, decW d.round]), .string (lineB [kPrice, decW d.price])] 9)
    refine hK.out _ _ (HKS.out _ HOX.out) (fun hHeld => ?_)
    clear hK K
    try simp only [Act.put, List.getElem_toArray, List.getElem_cons_zero, List.getElem_cons_succ, List.setIfInBounds_toArray, List.set_cons_zero, List.set_cons_succ]
    
    have hgg : (v15.alloc (.cells #[.string (lineB [kRound, decW d.round]), .string (lineB [kPrice, decW d.price])] 9)) = (v15.alloc (.cells #[.string (lineB [kRound, decW d.round]), .string (lineB [kPrice, decW d.price])] 9)) := rfl
    clear hgg
    refine wpAnyH_ready (rs := [10]) (by kernel_rfl) (by simp) ?_
    refine AllReadyH.cons rfl (fun K hK => ?_) AllReadyH.nil
    have hbs := HOX.out.size
    refine step_append_lies _ rfl _ _ 42 rfl w2.heap.size 9 i0 _ 1 16 Tryz.underlying42 HI.out HI0.out HI1.out HI2.out rfl (by decide) _ _ _ (by rfl) HL1.out ⟨v15.heap.size, 0, none⟩ 2 2 [.string (lineB [kRound, decW d.round]), .string (lineB [kPrice, decW d.price])] (by rfl) rfl HNW.out (one_str2 _ _) (by decide) (by have := HNL.out; unfold maxLen; omega) (by have := HNL.out; omega) hbs _ rfl ?_
    intro g cap w5 hown1 hgrow hat hlt2
    have HOX := Lib.hid (HOX.out.trans' (S := fun _ => False) (T := fun i => (Value.slice a2 l2.length c2s).ownBlock = some i) ((Only.refl _ _).grown hgrow (fun i e _ => e)) (fun i hi e => by have := ownR_ge HL1.out e; omega))
    have HL5 := Lib.hid (show LnsAt w2.heap.size w5 (.slice (some ⟨g, 0, none⟩) (headL d).length cap) (headL d) by
     rw [← HHE.out]
     unfold LnsAt
     rw [srowU_app2, List.length_append]; exact hown1)
    refine hK.out _ _ (HKS.out _ HOX.out) (fun hHeld => ?_)
    clear hK K
    try simp only [Act.put, List.getElem_toArray, List.getElem_cons_zero, List.getElem_cons_succ, List.setIfInBounds_toArray, List.set_cons_zero, List.set_cons_succ]
    refine' wpAnyH_take (i := 11) (v := _) rfl (by kernel_rfl) (by kernel_rfl) (by kernel_rfl) (fun _ _ _ h => h) (Or.inl ⟨by rfl, ?hyz17x11⟩) hHeld ?rz17x11
    case hyz17x11 => (intro w hSw; obtain ⟨s0, s1⟩ := hSw; go_simp; with_reducible rfl)
    simp only [Act.put, List.getElem_toArray, List.getElem_cons_zero, List.getElem_cons_succ, List.setIfInBounds_toArray, List.set_cons_zero, List.set_cons_succ]
    refine wpAnyH_done (by kernel_rfl) ?_ _
    go_wp2_with fail
    go_meet
    have hhl : (headL d).length = l2.length + 2 := by rw [← HHE.out, List.length_append]; rfl
    have HL5 := HL5.out
    rw [hhl] at HL5 ⊢
    exact ⟨_, _, rfl, HL5, HOX.out⟩
  case rest =>
  obtain ⟨a3, c3s, rfl, hlR, hoR⟩ := hcut
  have HL1 := Lib.hid hlR
  have HO1 := Lib.hid hoR
  clear hlR hoR HHE HNL HZ3
  have HZ3 := Lib.hid (row_still HO1.out HZ2.out)
  have HD3 := Lib.hid (HD2.out.only HO1.out (fun _ _ h => h))
  have c6 : wc.cell? ⟨w.heap.size, 6, none⟩ = some (Value.slice at1 d.tiers.length ct) := cell_of_row _ _ 6 _ _ _ HZ3.out
  have hlt0 : w.heap.size < wc.heap.size := (Array.getElem?_eq_some_iff.1 HZ3.out).1
  go_upto_block 1 with (fail)
  go_cut [3] (fun v wx => ∃ a c, v = .slice a (headL d ++ d.tiers.map tierL).length c ∧ LnsAt w2.heap.size wx v (headL d ++ d.tiers.map tierL) ∧ Only (fun _ => False) w2 wx)
  case first =>
   obtain ⟨l0, hl0⟩ : ∃ l, headL d = l := ⟨_, rfl⟩
   rw [hl0] at HL1 ⊢
   have HLE := Lib.hid hl0
   clear hl0 c6
   go_wp2_with fail
   go_loopw [3, 64] (fun v iv wr => ∃ (k : Nat) (ls : List (List ByteArray)) (a : Option Addr) (c : Nat), iv = .int .i64 k ∧ k ≤ d.tiers.length ∧ v = .slice a ls.length c ∧ ls = l0 ++ (d.tiers.take k).map tierL ∧ LnsAt w2.heap.size wr v ls ∧ Only (fun _ => False) w2 wr) (fun _ iv _ => d.tiers.length - (intOf iv).toNat)
   case atStart => exact ⟨0, l0, _, _, rfl, Nat.zero_le _, rfl, by simp, HL1.out, HO1.out⟩
   case round =>
    obtain ⟨k, ls, al, cl, rfl, hk, rfl, hls, hlw, hO4⟩ := hrel
    have HLS := Lib.hid hls
    have HL4 := Lib.hid hlw
    have HO4 := Lib.hid hO4
    have HZ4 := Lib.hid (row_still hO4 HZ2.out)
    have HD4 := Lib.hid (HD2.out.only hO4 (fun _ _ h => h))
    clear hls hlw hO4
    by_cases hlt : k < d.tiers.length
    ·have j1 : (k : Int) < d.tiers.length := by omega
     have j2 : 0 ≤ (k : Int) := by omega
     have HNL := Lib.hid (show ls.length ≤ 100 by
      have h1 := HR.out.t12
      have h2 : ((headL d) ++ (d.tiers.take k).map tierL).length ≤ (lnsZ d).length := by
       unfold lnsZ restL
       have h3 : (d.tiers.take k).length ≤ d.tiers.length := by rw [List.length_take]; omega
       simp only [List.length_append, List.length_map] at h3 ⊢
       omega
      have h3 := lines_small HR.out
      rw [HLS.out, ← HLE.out]
      omega)
     have HLN := Lib.hid (show l0 ++ (d.tiers.take (k + 1)).map tierL = ls ++ [tierL d.tiers[k]] by
      rw [take_snoc hlt, List.map_append, HLS.out, List.append_assoc]; rfl)
     have h0 := flat_at (fun x : Int × Int => [Value.int .i64 x.1, Value.int .i64 x.2]) 2 (fun _ => rfl) d.tiers k 0 hlt (by decide)
     have h1 := flat_at (fun x : Int × Int => [Value.int .i64 x.1, Value.int .i64 x.2]) 2 (fun _ => rfl) d.tiers k 1 hlt (by decide)
     obtain ⟨g, cap, hv, hg, hc1, hc2, d0⟩ := own_cell HD4.out.tiers h0
     obtain ⟨g1, cap1, hv1, _, _, _, d1⟩ := own_cell HD4.out.tiers h1
     rw [hv] at hv1
     simp only [Value.slice.injEq, Option.some.injEq, Addr.mk.injEq, and_true, true_and] at hv hv1
     obtain ⟨rfl, rfl⟩ := hv
     obtain ⟨rfl, rfl⟩ := hv1
     obtain ⟨r1, r2, _⟩ := tierOk_at hlt (HR.out.tiers k hlt)
     generalize d.tiers[k] = y at *
     obtain ⟨ya, yb⟩ := y
     change _ = some (Value.int .i64 ya) at d0
     change _ = some (Value.int .i64 yb) at d1
     rw [Nat.add_zero] at d0
     have HRS := Lib.hid (show R64 ya ∧ R64 yb from ⟨rg_R64 r1, rg_R64 r2⟩)
     clear h0 h1
     have hszr : w.heap.size < wr.heap.size := (Array.getElem?_eq_some_iff.1 HZ4.out).1
     have HOa := Lib.hid ((HO4.out.alloc (.cells #[.int .i64 ya, .int .i64 yb] 50)).alloc (.cells #[.int .i64 ya, .int .i64 yb] 3))
     go_wp2_with fail
     have HWO := Lib.hid (show kTier.size ≤ 1000000 by decide)
     refine (text_any kTier _ _ [ya, yb] _ (by exact pts_pair _ _ _ _) (by simp) (by exact HWO.out) (by exact all2 (rg_R64 r1) (rg_R64 r2)) (HG.out.only (HO2.out.trans HOa.out))).mono ?_
     rintro e w3 ⟨rfl, hO3⟩
     rw [text_2 r1 r2]
     have HO3 := Lib.hid (HOa.out.trans hO3)
     obtain ⟨s, hs⟩ : ∃ s, lineB [kTier, decW ya, decW yb] = s := ⟨_, rfl⟩
     rw [hs]
     have HS := Lib.hid hs
     have HL3 := Lib.hid ((HL4.out.only ((((Only.refl (fun _ => False) _).alloc (.cells #[.int .i64 ya, .int .i64 yb] 50)).alloc (.cells #[.int .i64 ya, .int .i64 yb] 3)).trans hO3)).only ((Only.refl (fun _ => False) _).alloc (.cells #[.string s] 9)))
     clear hs hO3
     have hbs := (HO3.out.alloc (.cells #[.string s] 9)).size
     go_wp2_with (first | (refine wpList_append_lies _ rfl _ _ 42 rfl w2.heap.size 9 i0 _ 1 16 Tryz.underlying42 HI.out HI0.out HI1.out HI2.out rfl (by decide) _ _ _ rfl HL3.out ⟨w3.heap.size, 0, none⟩ 1 1 [.string s] rfl rfl (by exact newsR' w3 _ _) (one_str1 _) (by decide) (by have := HNL.out; unfold maxLen; omega) (by have := HNL.out; omega) hbs _ rfl ?_; intro g cap w5 hown1 hgrow hat hlt2))
     have HO5 := Lib.hid ((HO3.out.alloc (.cells #[.string s] 9)).trans' (S := fun _ => False) (T := fun i => (Value.slice al ls.length cl).ownBlock = some i) ((Only.refl _ _).grown hgrow (fun i e _ => e)) (fun i hi e => by have := ownR_ge HL3.out e; omega))
     have HL5 := Lib.hid (show LnsAt w2.heap.size w5 (.slice (some ⟨g, 0, none⟩) (ls ++ [[kTier, decW ya, decW yb]]).length cap) (ls ++ [[kTier, decW ya, decW yb]]) by
      unfold LnsAt
      rw [srowU_app, HS.out, List.length_append]; exact hown1)
     go_roundw
     case rel => exact ⟨k + 1, ls ++ [[kTier, decW ya, decW yb]], _, _, by go_num, hlt, by rw [List.length_append]; rfl, HLN.out.symm, by have h := HL5.out; rw [List.length_append] at h; exact h, HO5.out⟩
     case measure => simp [intOf]; omega
    ·obtain rfl : k = d.tiers.length := by omega
     have j1 : ¬ (d.tiers.length : Int) < d.tiers.length := by omega
     have HLX := Lib.hid (show ls = l0 ++ d.tiers.map tierL by rw [HLS.out, List.take_length])
     clear hlt hk
     go_wp2_with fail
     go_meet
     have hle : headL d ++ d.tiers.map tierL = ls := by rw [HLE.out]; exact HLX.out.symm
     rw [hle]
     exact ⟨_, _, rfl, HL4.out, HO4.out⟩
  case rest =>
   obtain ⟨a3, c3s, rfl, hlR, hoR⟩ := hcut
   have HL1 := Lib.hid hlR
   have HO1 := Lib.hid hoR
   clear hlR hoR
   have HZ3 := Lib.hid (row_still HO1.out HZ2.out)
   have HD3 := Lib.hid (HD2.out.only HO1.out (fun _ _ h => h))
   have c7 : wc.cell? ⟨w.heap.size, 7, none⟩ = some (Value.bool d.roll) := cell_of_row _ _ 7 _ _ _ HZ3.out
   have hlt0 : w.heap.size < wc.heap.size := (Array.getElem?_eq_some_iff.1 HZ3.out).1
   have HNL := Lib.hid (show (headL d ++ d.tiers.map tierL).length ≤ 100 by
    have h2 : (headL d ++ d.tiers.map tierL).length ≤ (lnsZ d).length := by
     unfold lnsZ restL
     simp only [List.length_append, List.length_map]
     omega
    have h3 := lines_small HR.out
    omega)
   go_upto_if 79 with (fail)
   go_cut [3] (fun v wx => ∃ a c, v = .slice a (headL d ++ d.tiers.map tierL ++ rollL d.roll).length c ∧ LnsAt w2.heap.size wx v (headL d ++ d.tiers.map tierL ++ rollL d.roll) ∧ Only (fun _ => False) w2 wx)
   case first =>
    obtain ⟨l0, hl0⟩ : ∃ l, headL d ++ d.tiers.map tierL = l := ⟨_, rfl⟩
    rw [hl0] at HL1 HNL ⊢
    have HLE := Lib.hid hl0
    clear hl0
    cases hro : d.roll
    ·rw [hro] at c7
     go_wp2_with fail
     go_meet
     rw [hro, HLE.out]
     exact ⟨_, _, by rw [show rollL false = [] from rfl, List.append_nil], by rw [show rollL false = [] from rfl, List.append_nil]; exact HL1.out, HO1.out⟩
    ·rw [hro] at c7
     have HS := Lib.hid (show lineB [kRoll] = ⟨#[114, 111, 108, 108]⟩ by apply ba_ext; show lineW [kRoll] = _; rw [lineW_one]; rfl)
     obtain ⟨s, hs⟩ : ∃ s : ByteArray, (⟨#[114, 111, 108, 108]⟩ : ByteArray) = s := ⟨_, rfl⟩
     rw [hs] at HS ⊢
     clear hs
     have HLA := Lib.hid (HL1.out.only ((Only.refl (fun _ => False) _).alloc (.cells #[.string s] 9)))
     have HOA := Lib.hid (HO1.out.alloc (.cells #[.string s] 9))
     have hbs := HOA.out.size
     go_wp2_with (first | (refine wpList_append_lies _ rfl _ _ 42 rfl w2.heap.size 9 i0 _ 1 16 Tryz.underlying42 HI.out HI0.out HI1.out HI2.out rfl (by decide) _ _ _ rfl HLA.out ⟨wc.heap.size, 0, none⟩ 1 1 [.string s] rfl rfl (by exact newsR' wc _ _) (one_str1 _) (by decide) (by have := HNL.out; unfold maxLen; omega) (by have := HNL.out; omega) hbs _ rfl ?_; intro g cap w5 hown1 hgrow hat hlt2))
     have HO5 := Lib.hid (HOA.out.trans' (S := fun _ => False) (T := fun i => (Value.slice a3 l0.length c3s).ownBlock = some i) ((Only.refl _ _).grown hgrow (fun i e _ => e)) (fun i hi e => by have := ownR_ge HLA.out e; omega))
     have HL5 := Lib.hid (show LnsAt w2.heap.size w5 (.slice (some ⟨g, 0, none⟩) (l0.length + 1) cap) (l0 ++ [[kRoll]]) by
      unfold LnsAt
      rw [srowU_app, HS.out, List.length_append]; exact hown1)
     go_meet
     rw [hro, HLE.out]
     exact ⟨_, _, by rw [show rollL true = [[kRoll]] from rfl, List.length_append]; rfl, HL5.out, HO5.out⟩
   case rest =>
    obtain ⟨a3, c3s, rfl, hlR, hoR⟩ := hcut
    have HL1 := Lib.hid hlR
    have HO1 := Lib.hid hoR
    clear hlR hoR
    have HZ3 := Lib.hid (row_still HO1.out HZ2.out)
    have HD3 := Lib.hid (HD2.out.only HO1.out (fun _ _ h => h))
    clear HNL
    have c8 : wc.cell? ⟨w.heap.size, 8, none⟩ = some (Value.slice ap1 d.places.length cp) := cell_of_row _ _ 8 _ _ _ HZ3.out
    have hlt0 : w.heap.size < wc.heap.size := (Array.getElem?_eq_some_iff.1 HZ3.out).1
    go_upto_block 3 with (fail)
    go_cut [3] (fun v wx => ∃ a c, v = .slice a ((headL d ++ d.tiers.map tierL) ++ rollL d.roll ++ d.places.map placeL).length c ∧ LnsAt w2.heap.size wx v ((headL d ++ d.tiers.map tierL) ++ rollL d.roll ++ d.places.map placeL) ∧ Only (fun _ => False) w2 wx)
    case first =>
     obtain ⟨l0, hl0⟩ : ∃ l, (headL d ++ d.tiers.map tierL) ++ rollL d.roll = l := ⟨_, rfl⟩
     rw [hl0] at HL1 ⊢
     have HLE := Lib.hid hl0
     clear hl0 c8
     go_wp2_with fail
     go_loopw [3, 86] (fun v iv wr => ∃ (k : Nat) (ls : List (List ByteArray)) (a : Option Addr) (c : Nat), iv = .int .i64 k ∧ k ≤ d.places.length ∧ v = .slice a ls.length c ∧ ls = l0 ++ (d.places.take k).map placeL ∧ LnsAt w2.heap.size wr v ls ∧ Only (fun _ => False) w2 wr) (fun _ iv _ => d.places.length - (intOf iv).toNat)
     case atStart => exact ⟨0, l0, _, _, rfl, Nat.zero_le _, rfl, by simp, HL1.out, HO1.out⟩
     case round =>
      obtain ⟨k, ls, al, cl, rfl, hk, rfl, hls, hlw, hO4⟩ := hrel
      have HLS := Lib.hid hls
      have HL4 := Lib.hid hlw
      have HO4 := Lib.hid hO4
      have HZ4 := Lib.hid (row_still hO4 HZ2.out)
      have HD4 := Lib.hid (HD2.out.only hO4 (fun _ _ h => h))
      clear hls hlw hO4
      by_cases hlt : k < d.places.length
      ·have j1 : (k : Int) < d.places.length := by omega
       have j2 : 0 ≤ (k : Int) := by omega
       have HNL := Lib.hid (show ls.length ≤ 100 by
        have h1 := HR.out.p12
        have h2 : (((headL d ++ d.tiers.map tierL) ++ rollL d.roll) ++ (d.places.take k).map placeL).length ≤ (lnsZ d).length := by
         unfold lnsZ restL
         have h3 : (d.places.take k).length ≤ d.places.length := by rw [List.length_take]; omega
         simp only [List.length_append, List.length_map] at h3 ⊢
         omega
        have h3 := lines_small HR.out
        rw [HLS.out, ← HLE.out]
        omega)
       have HLN := Lib.hid (show l0 ++ (d.places.take (k + 1)).map placeL = ls ++ [placeL d.places[k]] by
        rw [take_snoc hlt, List.map_append, HLS.out, List.append_assoc]; rfl)
       have h0 := flat_at (fun x : ByteArray × Int => [Value.string x.1, Value.int .i64 x.2]) 2 (fun _ => rfl) d.places k 0 hlt (by decide)
       have h1 := flat_at (fun x : ByteArray × Int => [Value.string x.1, Value.int .i64 x.2]) 2 (fun _ => rfl) d.places k 1 hlt (by decide)
       obtain ⟨g, cap, hv, hg, hc1, hc2, d0⟩ := own_cell HD4.out.places h0
       obtain ⟨g1, cap1, hv1, _, _, _, d1⟩ := own_cell HD4.out.places h1
       rw [hv] at hv1
       simp only [Value.slice.injEq, Option.some.injEq, Addr.mk.injEq, and_true, true_and] at hv hv1
       obtain ⟨rfl, rfl⟩ := hv
       obtain ⟨rfl, rfl⟩ := hv1
       obtain ⟨r0, r1, _⟩ := placeOk_at hlt (HR.out.places k hlt)
       generalize d.places[k] = y at *
       obtain ⟨yn, ya⟩ := y
       change _ = some (Value.string yn) at d0
       change _ = some (Value.int .i64 ya) at d1
       rw [Nat.add_zero] at d0
       change nameB yn = true at r0
       have hns : yn.size ≤ 20 := by have := name_len r0; have e : yn.data.toList.length = yn.size := Array.length_toList; omega
       have i2 : ¬ (9223372036854775807 < 6 + yn.size) := by omega
       have HNS := Lib.hid hns
       clear r0 hns
       have HRS := Lib.hid (show R64 ya from rg_R64 r1)
       clear h0 h1
       have hszr : w.heap.size < wr.heap.size := (Array.getElem?_eq_some_iff.1 HZ4.out).1
       have HOa := Lib.hid ((HO4.out.alloc (.cells #[.string yn, .int .i64 ya] 73)).alloc (.cells #[.int .i64 ya] 3))
       go_wp2_with fail
       have HWO := Lib.hid (show ((⟨#[112, 108, 97, 99, 101, 32]⟩ : ByteArray) ++ yn).size ≤ 1000000 by rw [ByteArray.size_append, show (⟨#[112, 108, 97, 99, 101, 32]⟩ : ByteArray).size = 6 from rfl]; have := HNS.out; omega)
       refine (text_any _ _ _ [ya] _ (by exact pts_one _ _ _) (by simp) (by exact HWO.out) (by exact all1 (rg_R64 r1)) (HG.out.only (HO2.out.trans HOa.out))).mono ?_
       rintro e w3 ⟨rfl, hO3⟩
       rw [text_pl r1]
       have HO3 := Lib.hid (HOa.out.trans hO3)
       obtain ⟨s, hs⟩ : ∃ s, lineB [kPlace, yn, decW ya] = s := ⟨_, rfl⟩
       rw [hs]
       have HS := Lib.hid hs
       have HL3 := Lib.hid ((HL4.out.only ((((Only.refl (fun _ => False) _).alloc (.cells #[.string yn, .int .i64 ya] 73)).alloc (.cells #[.int .i64 ya] 3)).trans hO3)).only ((Only.refl (fun _ => False) _).alloc (.cells #[.string s] 9)))
       clear hs hO3
       have hbs := (HO3.out.alloc (.cells #[.string s] 9)).size
       go_wp2_with (first | (refine wpList_append_lies _ rfl _ _ 42 rfl w2.heap.size 9 i0 _ 1 16 Tryz.underlying42 HI.out HI0.out HI1.out HI2.out rfl (by decide) _ _ _ rfl HL3.out ⟨w3.heap.size, 0, none⟩ 1 1 [.string s] rfl rfl (by exact newsR' w3 _ _) (one_str1 _) (by decide) (by have := HNL.out; unfold maxLen; omega) (by have := HNL.out; omega) hbs _ rfl ?_; intro g cap w5 hown1 hgrow hat hlt2))
       have HO5 := Lib.hid ((HO3.out.alloc (.cells #[.string s] 9)).trans' (S := fun _ => False) (T := fun i => (Value.slice al ls.length cl).ownBlock = some i) ((Only.refl _ _).grown hgrow (fun i e _ => e)) (fun i hi e => by have := ownR_ge HL3.out e; omega))
       have HL5 := Lib.hid (show LnsAt w2.heap.size w5 (.slice (some ⟨g, 0, none⟩) (ls ++ [[kPlace, yn, decW ya]]).length cap) (ls ++ [[kPlace, yn, decW ya]]) by
        unfold LnsAt
        rw [srowU_app, HS.out, List.length_append]; exact hown1)
       go_roundw
       case rel => exact ⟨k + 1, ls ++ [[kPlace, yn, decW ya]], _, _, by go_num, hlt, by rw [List.length_append]; rfl, HLN.out.symm, by have h := HL5.out; rw [List.length_append] at h; exact h, HO5.out⟩
       case measure => simp [intOf]; omega
      ·obtain rfl : k = d.places.length := by omega
       have j1 : ¬ (d.places.length : Int) < d.places.length := by omega
       have HLX := Lib.hid (show ls = l0 ++ d.places.map placeL by rw [HLS.out, List.take_length])
       clear hlt hk
       go_wp2_with fail
       go_meet
       have hle : (headL d ++ d.tiers.map tierL) ++ rollL d.roll ++ d.places.map placeL = ls := by rw [HLE.out]; exact HLX.out.symm
       rw [hle]
       exact ⟨_, _, rfl, HL4.out, HO4.out⟩
    case rest =>
     obtain ⟨a3, c3s, rfl, hlR, hoR⟩ := hcut
     have HL1 := Lib.hid hlR
     have HO1 := Lib.hid hoR
     clear hlR hoR
     have HZ3 := Lib.hid (row_still HO1.out HZ2.out)
     have HD3 := Lib.hid (HD2.out.only HO1.out (fun _ _ h => h))
     have c11 : wc.cell? ⟨w.heap.size, 11, none⟩ = some (Value.slice aq1 d.quotas.length cq) := cell_of_row _ _ 11 _ _ _ HZ3.out
     have hlt0 : w.heap.size < wc.heap.size := (Array.getElem?_eq_some_iff.1 HZ3.out).1
     go_upto_block 5 with (fail)
     go_cut [3] (fun v wx => ∃ a c, v = .slice a ((headL d ++ d.tiers.map tierL ++ rollL d.roll) ++ d.places.map placeL ++ d.quotas.map quotaL).length c ∧ LnsAt w2.heap.size wx v ((headL d ++ d.tiers.map tierL ++ rollL d.roll) ++ d.places.map placeL ++ d.quotas.map quotaL) ∧ Only (fun _ => False) w2 wx)
     case first =>
      obtain ⟨l0, hl0⟩ : ∃ l, (headL d ++ d.tiers.map tierL ++ rollL d.roll) ++ d.places.map placeL = l := ⟨_, rfl⟩
      rw [hl0] at HL1 ⊢
      have HLE := Lib.hid hl0
      clear hl0 c11
      go_wp2_with fail
      go_loopw [3, 104] (fun v iv wr => ∃ (k : Nat) (ls : List (List ByteArray)) (a : Option Addr) (c : Nat), iv = .int .i64 k ∧ k ≤ d.quotas.length ∧ v = .slice a ls.length c ∧ ls = l0 ++ (d.quotas.take k).map quotaL ∧ LnsAt w2.heap.size wr v ls ∧ Only (fun _ => False) w2 wr) (fun _ iv _ => d.quotas.length - (intOf iv).toNat)
      case atStart => exact ⟨0, l0, _, _, rfl, Nat.zero_le _, rfl, by simp, HL1.out, HO1.out⟩
      case round =>
       obtain ⟨k, ls, al, cl, rfl, hk, rfl, hls, hlw, hO4⟩ := hrel
       have HLS := Lib.hid hls
       have HL4 := Lib.hid hlw
       have HO4 := Lib.hid hO4
       have HZ4 := Lib.hid (row_still hO4 HZ2.out)
       have HD4 := Lib.hid (HD2.out.only hO4 (fun _ _ h => h))
       clear hls hlw hO4
       by_cases hlt : k < d.quotas.length
       ·have j1 : (k : Int) < d.quotas.length := by omega
        have j2 : 0 ≤ (k : Int) := by omega
        have HNL := Lib.hid (show ls.length ≤ 100 by
         have h1 := HR.out.q12
         have h2 : (((headL d ++ d.tiers.map tierL ++ rollL d.roll) ++ d.places.map placeL) ++ (d.quotas.take k).map quotaL).length ≤ (lnsZ d).length := by
          unfold lnsZ restL
          have h3 : (d.quotas.take k).length ≤ d.quotas.length := by rw [List.length_take]; omega
          simp only [List.length_append, List.length_map] at h3 ⊢
          omega
         have h3 := lines_small HR.out
         rw [HLS.out, ← HLE.out]
         omega)
        have HLN := Lib.hid (show l0 ++ (d.quotas.take (k + 1)).map quotaL = ls ++ [quotaL d.quotas[k]] by
         rw [take_snoc hlt, List.map_append, HLS.out, List.append_assoc]; rfl)
        have h0 := flat_at (fun x : ByteArray × Int × Int => [Value.string x.1, Value.int .i64 x.2.1, Value.int .i64 x.2.2]) 3 (fun _ => rfl) d.quotas k 0 hlt (by decide)
        have h1 := flat_at (fun x : ByteArray × Int × Int => [Value.string x.1, Value.int .i64 x.2.1, Value.int .i64 x.2.2]) 3 (fun _ => rfl) d.quotas k 1 hlt (by decide)
        have h2 := flat_at (fun x : ByteArray × Int × Int => [Value.string x.1, Value.int .i64 x.2.1, Value.int .i64 x.2.2]) 3 (fun _ => rfl) d.quotas k 2 hlt (by decide)
        obtain ⟨g, cap, hv, hg, hc1, hc2, d0⟩ := own_cell HD4.out.quotas h0
        obtain ⟨g1, cap1, hv1, _, _, _, d1⟩ := own_cell HD4.out.quotas h1
        obtain ⟨g2, cap2, hv2, _, _, _, d2⟩ := own_cell HD4.out.quotas h2
        rw [hv] at hv1 hv2
        simp only [Value.slice.injEq, Option.some.injEq, Addr.mk.injEq, and_true, true_and] at hv hv1 hv2
        obtain ⟨rfl, rfl⟩ := hv
        obtain ⟨rfl, rfl⟩ := hv1
        obtain ⟨rfl, rfl⟩ := hv2
        obtain ⟨r0, r1, r2, _⟩ := quotaOk_at hlt (HR.out.quotas k hlt)
        generalize d.quotas[k] = y at *
        obtain ⟨yn, ya, yb⟩ := y
        change _ = some (Value.string yn) at d0
        change _ = some (Value.int .i64 ya) at d1
        change _ = some (Value.int .i64 yb) at d2
        rw [Nat.add_zero] at d0
        change nameB yn = true at r0
        have hns : yn.size ≤ 20 := by have := name_len r0; have e : yn.data.toList.length = yn.size := Array.length_toList; omega
        have i2 : ¬ (9223372036854775807 < 6 + yn.size) := by omega
        have HNS := Lib.hid hns
        clear r0 hns
        have HRS := Lib.hid (show R64 ya ∧ R64 yb from ⟨rg_R64 r1, rg_R64 r2⟩)
        clear h0 h1 h2
        have hszr : w.heap.size < wr.heap.size := (Array.getElem?_eq_some_iff.1 HZ4.out).1
        have HOa := Lib.hid ((HO4.out.alloc (.cells #[.string yn, .int .i64 ya, .int .i64 yb] 75)).alloc (.cells #[.int .i64 ya, .int .i64 yb] 3))
        go_wp2_with fail
        have HWO := Lib.hid (show ((⟨#[113, 117, 111, 116, 97, 32]⟩ : ByteArray) ++ yn).size ≤ 1000000 by rw [ByteArray.size_append, show (⟨#[113, 117, 111, 116, 97, 32]⟩ : ByteArray).size = 6 from rfl]; have := HNS.out; omega)
        refine (text_any _ _ _ [ya, yb] _ (by exact pts_pair _ _ _ _) (by simp) (by exact HWO.out) (by exact all2 (rg_R64 r1) (rg_R64 r2)) (HG.out.only (HO2.out.trans HOa.out))).mono ?_
        rintro e w3 ⟨rfl, hO3⟩
        rw [text_qu r1 r2]
        have HO3 := Lib.hid (HOa.out.trans hO3)
        obtain ⟨s, hs⟩ : ∃ s, lineB [kQuota, yn, decW ya, decW yb] = s := ⟨_, rfl⟩
        rw [hs]
        have HS := Lib.hid hs
        have HL3 := Lib.hid ((HL4.out.only ((((Only.refl (fun _ => False) _).alloc (.cells #[.string yn, .int .i64 ya, .int .i64 yb] 75)).alloc (.cells #[.int .i64 ya, .int .i64 yb] 3)).trans hO3)).only ((Only.refl (fun _ => False) _).alloc (.cells #[.string s] 9)))
        clear hs hO3
        have hbs := (HO3.out.alloc (.cells #[.string s] 9)).size
        go_wp2_with (first | (refine wpList_append_lies _ rfl _ _ 42 rfl w2.heap.size 9 i0 _ 1 16 Tryz.underlying42 HI.out HI0.out HI1.out HI2.out rfl (by decide) _ _ _ rfl HL3.out ⟨w3.heap.size, 0, none⟩ 1 1 [.string s] rfl rfl (by exact newsR' w3 _ _) (one_str1 _) (by decide) (by have := HNL.out; unfold maxLen; omega) (by have := HNL.out; omega) hbs _ rfl ?_; intro g cap w5 hown1 hgrow hat hlt2))
        have HO5 := Lib.hid ((HO3.out.alloc (.cells #[.string s] 9)).trans' (S := fun _ => False) (T := fun i => (Value.slice al ls.length cl).ownBlock = some i) ((Only.refl _ _).grown hgrow (fun i e _ => e)) (fun i hi e => by have := ownR_ge HL3.out e; omega))
        have HL5 := Lib.hid (show LnsAt w2.heap.size w5 (.slice (some ⟨g, 0, none⟩) (ls ++ [[kQuota, yn, decW ya, decW yb]]).length cap) (ls ++ [[kQuota, yn, decW ya, decW yb]]) by
         unfold LnsAt
         rw [srowU_app, HS.out, List.length_append]; exact hown1)
        go_roundw
        case rel => exact ⟨k + 1, ls ++ [[kQuota, yn, decW ya, decW yb]], _, _, by go_num, hlt, by rw [List.length_append]; rfl, HLN.out.symm, by have h := HL5.out; rw [List.length_append] at h; exact h, HO5.out⟩
        case measure => simp [intOf]; omega
       ·obtain rfl : k = d.quotas.length := by omega
        have j1 : ¬ (d.quotas.length : Int) < d.quotas.length := by omega
        have HLX := Lib.hid (show ls = l0 ++ d.quotas.map quotaL by rw [HLS.out, List.take_length])
        clear hlt hk
        go_wp2_with fail
        go_meet
        have hle : (headL d ++ d.tiers.map tierL ++ rollL d.roll) ++ d.places.map placeL ++ d.quotas.map quotaL = ls := by rw [HLE.out]; exact HLX.out.symm
        rw [hle]
        exact ⟨_, _, rfl, HL4.out, HO4.out⟩
     case rest =>
      obtain ⟨a3, c3s, rfl, hlR, hoR⟩ := hcut
      have HL1 := Lib.hid hlR
      have HO1 := Lib.hid hoR
      clear hlR hoR
      have HZ3 := Lib.hid (row_still HO1.out HZ2.out)
      have HD3 := Lib.hid (HD2.out.only HO1.out (fun _ _ h => h))
      have c12 : wc.cell? ⟨w.heap.size, 12, none⟩ = some (Value.slice ab1 d.barred.length cb) := cell_of_row _ _ 12 _ _ _ HZ3.out
      have hlt0 : w.heap.size < wc.heap.size := (Array.getElem?_eq_some_iff.1 HZ3.out).1
      go_upto_block 7 with (fail)
      go_cut [3] (fun v wx => ∃ a c, v = .slice a (((headL d ++ d.tiers.map tierL ++ rollL d.roll) ++ d.places.map placeL) ++ d.quotas.map quotaL ++ d.barred.map barL).length c ∧ LnsAt w2.heap.size wx v (((headL d ++ d.tiers.map tierL ++ rollL d.roll) ++ d.places.map placeL) ++ d.quotas.map quotaL ++ d.barred.map barL) ∧ Only (fun _ => False) w2 wx)
      case first =>
       obtain ⟨l0, hl0⟩ : ∃ l, ((headL d ++ d.tiers.map tierL ++ rollL d.roll) ++ d.places.map placeL) ++ d.quotas.map quotaL = l := ⟨_, rfl⟩
       rw [hl0] at HL1 ⊢
       have HLE := Lib.hid hl0
       clear hl0 c12
       go_wp2_with fail
       go_loopw [3, 124] (fun v iv wr => ∃ (k : Nat) (ls : List (List ByteArray)) (a : Option Addr) (c : Nat), iv = .int .i64 k ∧ k ≤ d.barred.length ∧ v = .slice a ls.length c ∧ ls = l0 ++ (d.barred.take k).map barL ∧ LnsAt w2.heap.size wr v ls ∧ Only (fun _ => False) w2 wr) (fun _ iv _ => d.barred.length - (intOf iv).toNat)
       case atStart => exact ⟨0, l0, _, _, rfl, Nat.zero_le _, rfl, by simp, HL1.out, HO1.out⟩
       case round =>
        obtain ⟨k, ls, al, cl, rfl, hk, rfl, hls, hlw, hO4⟩ := hrel
        have HLS := Lib.hid hls
        have HL4 := Lib.hid hlw
        have HO4 := Lib.hid hO4
        have HZ4 := Lib.hid (row_still hO4 HZ2.out)
        have HD4 := Lib.hid (HD2.out.only hO4 (fun _ _ h => h))
        clear hls hlw hO4
        by_cases hlt : k < d.barred.length
        ·have j1 : (k : Int) < d.barred.length := by omega
         have j2 : 0 ≤ (k : Int) := by omega
         have HNL := Lib.hid (show ls.length ≤ 100 by
          have h1 := HR.out.b40
          have h2 : ((((headL d ++ d.tiers.map tierL ++ rollL d.roll) ++ d.places.map placeL) ++ d.quotas.map quotaL) ++ (d.barred.take k).map barL).length ≤ (lnsZ d).length := by
           unfold lnsZ restL
           have h3 : (d.barred.take k).length ≤ d.barred.length := by rw [List.length_take]; omega
           simp only [List.length_append, List.length_map] at h3 ⊢
           omega
          have h3 := lines_small HR.out
          rw [HLS.out, ← HLE.out]
          omega)
         have HLN := Lib.hid (show l0 ++ (d.barred.take (k + 1)).map barL = ls ++ [barL d.barred[k]] by
          rw [take_snoc hlt, List.map_append, HLS.out, List.append_assoc]; rfl)
         have h0 : (irow d.barred)[k]? = some (.int .i64 d.barred[k]) := by unfold irow; simp [hlt]
         obtain ⟨g, cap, hv, hg, hc1, hc2, d0⟩ := own_cell HD4.out.bars h0
         simp only [Value.slice.injEq, true_and] at hv
         obtain ⟨rfl, rfl⟩ := hv
         have r1 := HR.out.barR _ (List.getElem_mem hlt)
         generalize d.barred[k] = ya at *
         have HRS := Lib.hid (show R64 ya from rg_R64 r1)
         clear h0
         have hszr : w.heap.size < wr.heap.size := (Array.getElem?_eq_some_iff.1 HZ4.out).1
         have HOa := Lib.hid ((HO4.out).alloc (.cells #[.int .i64 ya] 3))
         go_wp2_with fail
         have HWO := Lib.hid (show kBar.size ≤ 1000000 by decide)
         refine (text_any kBar _ _ [ya] _ (by exact pts_1 _ _) (by simp) (by exact HWO.out) (by exact all1 (rg_R64 r1)) (HG.out.only (HO2.out.trans HOa.out))).mono ?_
         rintro e w3 ⟨rfl, hO3⟩
         rw [text_1 r1]
         have HO3 := Lib.hid (HOa.out.trans hO3)
         obtain ⟨s, hs⟩ : ∃ s, lineB [kBar, decW ya] = s := ⟨_, rfl⟩
         rw [hs]
         have HS := Lib.hid hs
         have HL3 := Lib.hid ((HL4.out.only ((((Only.refl (fun _ => False) _)).alloc (.cells #[.int .i64 ya] 3)).trans hO3)).only ((Only.refl (fun _ => False) _).alloc (.cells #[.string s] 9)))
         clear hs hO3
         have hbs := (HO3.out.alloc (.cells #[.string s] 9)).size
         go_wp2_with (first | (refine wpList_append_lies _ rfl _ _ 42 rfl w2.heap.size 9 i0 _ 1 16 Tryz.underlying42 HI.out HI0.out HI1.out HI2.out rfl (by decide) _ _ _ rfl HL3.out ⟨w3.heap.size, 0, none⟩ 1 1 [.string s] rfl rfl (by exact newsR' w3 _ _) (one_str1 _) (by decide) (by have := HNL.out; unfold maxLen; omega) (by have := HNL.out; omega) hbs _ rfl ?_; intro g cap w5 hown1 hgrow hat hlt2))
         have HO5 := Lib.hid ((HO3.out.alloc (.cells #[.string s] 9)).trans' (S := fun _ => False) (T := fun i => (Value.slice al ls.length cl).ownBlock = some i) ((Only.refl _ _).grown hgrow (fun i e _ => e)) (fun i hi e => by have := ownR_ge HL3.out e; omega))
         have HL5 := Lib.hid (show LnsAt w2.heap.size w5 (.slice (some ⟨g, 0, none⟩) (ls ++ [[kBar, decW ya]]).length cap) (ls ++ [[kBar, decW ya]]) by
          unfold LnsAt
          rw [srowU_app, HS.out, List.length_append]; exact hown1)
         go_roundw
         case rel => exact ⟨k + 1, ls ++ [[kBar, decW ya]], _, _, by go_num, hlt, by rw [List.length_append]; rfl, HLN.out.symm, by have h := HL5.out; rw [List.length_append] at h; exact h, HO5.out⟩
         case measure => simp [intOf]; omega
        ·obtain rfl : k = d.barred.length := by omega
         have j1 : ¬ (d.barred.length : Int) < d.barred.length := by omega
         have HLX := Lib.hid (show ls = l0 ++ d.barred.map barL by rw [HLS.out, List.take_length])
         clear hlt hk
         go_wp2_with fail
         go_meet
         have hle : ((headL d ++ d.tiers.map tierL ++ rollL d.roll) ++ d.places.map placeL) ++ d.quotas.map quotaL ++ d.barred.map barL = ls := by rw [HLE.out]; exact HLX.out.symm
         rw [hle]
         exact ⟨_, _, rfl, HL4.out, HO4.out⟩
      case rest =>
       obtain ⟨a3, c3s, rfl, hlR, hoR⟩ := hcut
       have HL1 := Lib.hid hlR
       have HO1 := Lib.hid hoR
       clear hlR hoR
       have HZ3 := Lib.hid (row_still HO1.out HZ2.out)
       have HD3 := Lib.hid (HD2.out.only HO1.out (fun _ _ h => h))
       clear HD3 HZ3
       have hfull : ((((headL d ++ d.tiers.map tierL) ++ rollL d.roll) ++ d.places.map placeL) ++ d.quotas.map quotaL) ++ d.barred.map barL = lnsZ d := by unfold lnsZ restL; simp only [List.append_assoc]
       rw [hfull] at HL1 ⊢
       have hlen5 : 4 ≤ (lnsZ d).length := by
        unfold lnsZ headL
        have : (kindL d).length = 1 := by
         unfold kindL
         rcases owns_k HR.out.owns with hk | hk | hk
         ·rw [if_pos hk]; rfl
         ·rw [if_neg (by rw [hk]; decide), if_pos hk]; rfl
         ·rw [if_neg (by rw [hk]; decide), if_neg (by rw [hk]; decide), if_pos hk]; rfl
        simp only [List.length_append, List.length_cons, List.length_nil, this]
        omega
       obtain ⟨g, cap, hv, hg, hc1, hcx⟩ := lns_cell HL1.out (j := 0) (by omega)
       clear hcx
       simp only [Value.slice.injEq, true_and] at hv
       obtain ⟨rfl, rfl⟩ := hv
       have hjl := join_lines (ls := lnsZ d) (fun h => by rw [h] at hlen5; simp at hlen5)
       have hwl := right_size HR.out
       have hj2 : (Lib.join (((lnsZ d).map lineB).map (·.data.toList)) [10]).length + 1 = (writeB d).size := by
        have := congrArg List.length hjl
        rw [List.length_append] at this
        rw [show (writeB d).size = (flatL (lnsZ d)).length by unfold writeB writeL; simp [ByteArray.size], ← this]
        rfl
       have hJ := sjoin_many g 0 c3s ((lnsZ d).map lineB) ⟨#[10]⟩ wc (fun j x hx => by
        rw [List.getElem?_map] at hx
        cases hj : (lnsZ d)[j]? with
        | none => rw [hj] at hx; cases hx
        | some y =>
         rw [hj] at hx
         have hx := Option.some.inj hx
         have hlt := (List.getElem?_eq_some_iff.1 hj).1
         obtain ⟨g', cap', hv', _, _, hcell⟩ := lns_cell HL1.out (j := j) hlt
         simp only [Value.slice.injEq, Option.some.injEq, Addr.mk.injEq, and_true, true_and] at hv'
         obtain ⟨rfl, rfl⟩ := hv'
         rw [Nat.zero_add, hcell, ← hx]
         have : (lnsZ d)[j] = y := (List.getElem?_eq_some_iff.1 hj).2
         rw [this]) hg (by rw [List.length_map]; omega) (by rw [List.length_map]; have := lines_small HR.out; omega) (by rw [List.length_map]; exact hc1) (by
        have : (⟨#[10]⟩ : ByteArray).data.toList = [10] := rfl
        rw [this]
        omega)
       rw [List.length_map] at hJ
       have HJ := Lib.hid hJ
       have HE := Lib.hid (show (⟨(Lib.join (((lnsZ d).map lineB).map (·.data.toList)) (⟨#[10]⟩ : ByteArray).data.toList).toArray⟩ : ByteArray) ++ ⟨#[10]⟩ = writeB d by
        apply ba_ext
        rw [app_data]
        show Lib.join _ [10] ++ [10] = writeL d
        exact hjl)
       have hsz : (⟨(Lib.join (((lnsZ d).map lineB).map (·.data.toList)) (⟨#[10]⟩ : ByteArray).data.toList).toArray⟩ : ByteArray).size + 1 = (writeB d).size := by
        rw [← hj2]
        simp [ByteArray.size]
       generalize (⟨(Lib.join (((lnsZ d).map lineB).map (·.data.toList)) (⟨#[10]⟩ : ByteArray).data.toList).toArray⟩ : ByteArray) = s at *
       have i2 : ¬ (9223372036854775807 < s.size + 1) := by omega
       clear hJ hj2 hjl hwl hlen5 hfull hc1 hsz
       go_wp2_with fail
       refine HJ.out.mono ?_
       rintro e w6 ⟨rfl, hb6⟩
       have HO6 := Lib.hid (HO1.out.trans (Only.ofBelow hb6 _))
       go_wp2_with fail
       go_ret
       rw [← HE.out]
       exact ⟨rfl, HO2.out.trans HO6.out⟩
theorem print_any (d : Dr) (vt vp vq vb : Value) (base : Nat) (w : World) (hd : DrOwn base w d vt vp vq vb) (hG : GlobU w) (hbig : d.tiers.length ≤ 1000000 ∧ d.places.length ≤ 1000000 ∧ d.quotas.length ≤ 1000000 ∧ d.barred.length ≤ 1000000) :
  Calls Tryz.prog 11 #[.agg (drCells d vt vp vq vb)] w fun e w' => e = .returned (.string (printZ d)) ∧ Only (fun _ => False) w w' := by
 cases h : rightZ d with
 | false => rw [print_no2 d h]; exact print_false d vt vp vq vb base w hd h hbig
 | true =>
  rw [show printZ d = writeB d by unfold printZ; rw [if_pos h]]
  exact print_true d vt vp vq vb base w hd (right_iff.1 h) hG
end Go.Proofs.YteikkpiginfbkaaGreatDoor
