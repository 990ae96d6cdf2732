/-
  Rules: the walk of the law RulesPrints.
  Rules: the walk of the law RulesKeeps.
-/
import Derived.Test.YteikkpiginfbkaaGreatDoorPh37
import Derived.Test.YteikkpiginfbkaaGreatDoorPh35
import Derived.Test.YteikkpiginfbkaaGreatDoorPh36
namespace Go.Proofs.YteikkpiginfbkaaGreatDoor
open Go.RowKit

theorem emp_toList : (ByteArray.empty.toList == []) = true := by rw [ByteArray.toList_eq]; rfl
theorem some_toList {s : ByteArray} (h : s ≠ ByteArray.empty) : (s.toList == []) = false := by
  rw [beq_eq_false_iff_ne]
  intro e
  exact h (ba_ext (by rw [← ByteArray.toList_eq, e]; rfl))
end Go.Proofs.YteikkpiginfbkaaGreatDoor

namespace Go.Proofs.YteikkpiginfbkaaGreatDoor
open Go.RowKit

theorem en_rows {base g : Nat} {W : World} {e : En} {vp vw vg : Value} {cs old : Array Value} (h : EnOwn base W e vp vw vg) (hr : W.heap[g]? = some (.cells old 44 (0, 0))) : EnOwn base (W.setRow g cs) e vp vw vg := by
 have hO : Only (fun k => k = g) W (W.setRow g cs) := onlyR_row (S := fun k => k = g) (Only.refl _ _) (.inl rfl) cs
 exact ⟨hO.owns h.picks (fun k hk e => by rw [e] at hk; exact ownR_blk h.picks hr (by decide) hk), hO.owns h.wishes (fun k hk e => by rw [e] at hk; exact ownR_blk h.wishes hr (by decide) hk), hO.owns h.groups (fun k hk e => by rw [e] at hk; exact ownR_blk h.groups hr (by decide) hk)⟩
theorem alloc_only {W V : World} {o : Obj} (h : W.alloc o = V) : Only (fun _ => False) W V := h ▸ (Only.refl _ W).alloc o
theorem alloc_row {W V : World} {o : Obj} (h : W.alloc o = V) : V.heap[W.heap.size]? = some o := h ▸ heap_alloc_last W o
theorem dr_one {base : Nat} {w : World} {d : Dr} {vt vp vq vb : Value} (h : DrOwn base w d vt vp vq vb) : (drCells d vt vp vq vb).all (·.oneCell') = true := by
 obtain ⟨_, _, rfl⟩ := slice_of_own h.tiers
 obtain ⟨_, _, rfl⟩ := slice_of_own h.places
 obtain ⟨_, _, rfl⟩ := slice_of_own h.quotas
 obtain ⟨_, _, rfl⟩ := slice_of_own h.bars
 exact cells_one _ _ _ _ _ _ _ _ _ _ _ _ _
theorem en_one {base : Nat} {w : World} {e : En} {vp vw vg : Value} (h : EnOwn base w e vp vw vg) : (enCells e vp vw vg).all (·.oneCell') = true := by
 obtain ⟨_, _, rfl⟩ := slice_of_own h.picks
 obtain ⟨_, _, rfl⟩ := slice_of_own h.wishes
 obtain ⟨_, _, rfl⟩ := slice_of_own h.groups
 simp [enCells, Value.oneCell']
theorem own_at {w : World} {base n k : Nat} {a : Option Addr} {c : Nat} {l : List Int} (h : w.ownsRow base 3 1 (.slice a n c) n (irow l)) (hk : k < l.length) :
  ∃ g, a = some ⟨g, 0, none⟩ ∧ g < w.heap.size ∧ n ≤ c ∧ c ≤ 9223372036854775807 ∧ w.cell? ⟨g, k, none⟩ = some (.int .i64 (ptAt l k)) ∧ w.frozen? ⟨g, k, none⟩ = false ∧ l.length = n := by
 have hl : l.length = n := by have := h.1; simpa [irow] using this
 rcases h.2 with ⟨hv, h0⟩ | ⟨g, cap, cur, hv, hb, hg, hnc, hcm, hcs, htake⟩
 ·omega
 ·simp only [Value.slice.injEq, true_and] at hv
  obtain ⟨rfl, rfl⟩ := hv
  have hc := h.cells (g := g) rfl k (.int .i64 (ptAt l k)) (by unfold irow ptAt; rw [List.getElem?_map, List.getElem?_eq_getElem hk]; simp [List.getD, hk])
  rw [Addr.add_lit, Nat.zero_add] at hc
  exact ⟨g, rfl, (Array.getElem?_eq_some_iff.1 hg).1, hnc, by unfold maxLen at hcm; omega, hc, frozen_of_row _ _ _ _ _ hg, hl⟩
theorem own_setI {w : World} {base g cap n k : Nat} {l : List Int} {x : Int} (h : w.ownsRow base 3 1 (.slice (some ⟨g, 0, none⟩) n cap) n (irow l)) : (w.setCell ⟨g, k, none⟩ (.int .i64 x)).ownsRow base 3 1 (.slice (some ⟨g, 0, none⟩) n cap) n (irow (l.set k x)) := by
 refine ⟨by have := h.1; simpa [irow] using this, ?_⟩
 rcases h.2 with ⟨hv, _⟩ | ⟨g', cap', cur, hv, hb, hg, h1, h2, h3, h4⟩
 ·cases hv
 ·simp only [Value.slice.injEq, Option.some.injEq, Addr.mk.injEq, and_true, true_and] at hv
  obtain ⟨rfl, rfl⟩ := hv
  refine .inr ⟨g, cap, cur.setIfInBounds k (.int .i64 x), rfl, hb, heap_setCell_same w g k _ _ _ hg, h1, h2, by simpa using h3, ?_⟩
  rw [Array.toList_setIfInBounds, List.take_set, h4]
  unfold irow
  rw [List.map_set]
theorem own_at2 {w : World} {base e n k : Nat} {a : Option Addr} {c : Nat} {xs : List Value} (h : w.ownsRow base e 2 (.slice a n c) n xs) (hk : k < n) :
  ∃ g v0 v1, a = some ⟨g, 0, none⟩ ∧ g < w.heap.size ∧ n ≤ c ∧ c ≤ 9223372036854775807 ∧ w.cell? ⟨g, k * 2, none⟩ = some v0 ∧ w.cell? ⟨g, k * 2 + 1, none⟩ = some v1 ∧ w.frozen? ⟨g, k * 2, none⟩ = false ∧ w.frozen? ⟨g, k * 2 + 1, none⟩ = false := by
 have hl : xs.length = n * 2 := h.1
 rcases h.2 with ⟨hv, h0⟩ | ⟨g, cap, cur, hv, hb, hg, hnc, hcm, hcs, htake⟩
 ·omega
 ·simp only [Value.slice.injEq, true_and] at hv
  obtain ⟨rfl, rfl⟩ := hv
  have hc := h.cells (g := g) rfl (k * 2) xs[k * 2] (List.getElem?_eq_getElem (by omega))
  have hc2 := h.cells (g := g) rfl (k * 2 + 1) xs[k * 2 + 1] (List.getElem?_eq_getElem (by omega))
  rw [Addr.add_lit, Nat.zero_add] at hc hc2
  exact ⟨g, _, _, rfl, (Array.getElem?_eq_some_iff.1 hg).1, hnc, by unfold maxLen at hcm; omega, hc, hc2, frozen_of_row _ _ _ _ _ hg, frozen_of_row _ _ _ _ _ hg⟩
theorem own_setG {w : World} {base e size g cap n k : Nat} {xs : List Value} {x : Value} (h : w.ownsRow base e size (.slice (some ⟨g, 0, none⟩) n cap) n xs) : (w.setCell ⟨g, k, none⟩ x).ownsRow base e size (.slice (some ⟨g, 0, none⟩) n cap) n (xs.set k x) := by
 refine ⟨by rw [List.length_set]; exact h.1, ?_⟩
 rcases h.2 with ⟨hv, _⟩ | ⟨g', cap', cur, hv, hb, hg, h1, h2, h3, h4⟩
 ·cases hv
 ·simp only [Value.slice.injEq, Option.some.injEq, Addr.mk.injEq, and_true, true_and] at hv
  obtain ⟨rfl, rfl⟩ := hv
  refine .inr ⟨g, cap, cur.setIfInBounds k x, rfl, hb, heap_setCell_same w g k _ _ _ hg, h1, h2, by simpa using h3, ?_⟩
  rw [Array.toList_setIfInBounds, List.take_set, h4]
theorem makeE_len (q : Pers) : (makeE q).picks.length ≤ 1000000 ∧ (makeE q).wishes.length ≤ 1000000 ∧ (makeE q).groups.length ≤ 1000000 := by
 have l1 : (makeE q).picks.length = min q.picks.length 62 := by unfold makeE; rw [List.length_take]; omega
 have l2 : (makeE q).wishes.length = min q.wishes.length 14 := nms_len _ _ (by omega)
 have l3 : (makeE q).groups.length = min q.groups.length 14 := nms_len _ _ (by omega)
 omega
set_option maxRecDepth 100000 in
set_option maxHeartbeats 8000000 in
theorem rk_walk (p : Plan13) (vl vb : Value) (q : Pers) (vp vw vg : Value) (w : World) (hp : PlAt13 w p vl vb) (h64 : Pl64 p) (hq : PeAt w q vp vw vg) (hG : GlobU w) :
  Calls Tryz.prog 4 #[.agg (plCells p vl vb), .agg (peCells q vp vw vg)] w fun e w' => e = .returned (.bool true) ∧ Below w.heap.size w w' := by
 have HP := Lib.hid hp
 have H64 := Lib.hid h64
 have HQ := Lib.hid hq
 have HG := Lib.hid hG
 have HZ0 := Lib.hid (heap_alloc_last w (.cells (plCells p vl vb) 26))
 have HY0 := Lib.hid (heap_alloc_last (w.alloc (.cells (plCells p vl vb) 26)) (.cells (peCells q vp vw vg) 41))
 have HO1 := Lib.hid (((Only.refl (fun _ => False) w).alloc (.cells (plCells p vl vb) 26)).alloc (.cells (peCells q vp vw vg) 41))
 have HZ0 := Lib.hid (row_still ((Only.refl (fun _ => False) _).alloc (.cells (peCells q vp vw vg) 41)) HZ0.out)
 clear hp h64 hG hq
 rw [World.size_alloc] at HY0
 go_enter Tryz.func4, Tryz.ntmps4
 go_upto_region 1 with (fail)
 obtain ⟨B, hB⟩ : ∃ n, w.heap.size = n := ⟨_, rfl⟩
 rw [hB] at HZ0 HY0 ⊢
 generalize World.alloc (World.alloc w _) _ = w1 at *
 go_wp2_with fail
 refine (sane13_any w1 (HG.out.only HO1.out)).mono ?_
 rintro e w2 ⟨rfl, hO2⟩
 have HZ0 := Lib.hid (row_still hO2 HZ0.out)
 have HY0 := Lib.hid (row_still hO2 HY0.out)
 have HOY0 := Lib.hid (HO1.out.trans hO2)
 clear hO2
 go_upto_region 2 with (fail)
 obtain ⟨d, hd⟩ : ∃ d, makeZ p = d := ⟨_, rfl⟩
 have HDE := Lib.hid hd
 clear hd
 go_cut [6, 7] (fun v6 v7 wx => ∃ n1 n2 vt vp vq vx ut up uq ux, v6 = .pointer (some ⟨n1, 0, none⟩) ∧ v7 = .pointer (some ⟨n2, 0, none⟩) ∧ wx.heap[n1]? = some (.cells (drCells d vt vp vq vx) 33 (0, 0)) ∧ wx.heap[n2]? = some (.cells (drCells d ut up uq ux) 33 (0, 0)) ∧ DrOwn w2.heap.size wx d vt vp vq vx ∧ DrOwn w2.heap.size wx d ut up uq ux ∧ n1 ≠ n2 ∧ Only (fun _ => False) w2 wx)
 case first =>
  refine wp_region_split3 6 (by kernel_rfl) (by kernel_rfl) ?_
  simp only [List.take_succ_cons, List.take_zero]
  refine wpAny_by_facts _ _ (prFact w2.heap.size (plCells p vl vb) (DrVal w2.heap.size d) zeroDrC 33) prRel (by kernel_rfl) (by kernel_rfl) (prFact_only fun _ _ _ h hO => h.only hO) ?step ?fin
  case step =>
   intro i o f wx ho hO hW
   have hi : i < 6 := by have := (Array.getElem?_eq_some_iff.1 ho).1; simpa using this
   have hOx : Only (fun _ => False) w2 wx := ((Only.refl _ w2).drew).trans hO
   have hle : w2.heap.size ≤ wx.heap.size := hOx.size
   obtain rfl | rfl | rfl | rfl | rfl | rfl : i = 0 ∨ i = 1 ∨ i = 2 ∨ i = 3 ∨ i = 4 ∨ i = 5 := by omega
   all_goals (simp only [List.getElem?_toArray, List.getElem?_cons_zero, List.getElem?_cons_succ, Option.some.injEq] at ho; subst ho)
   ·exact pr_load (x := .tmp 2) (.inl rfl) rfl (by kernel_rfl) (row_still hOx HZ0.out) Tryz.underlying26 rfl Tryz.infoP13
   ·have h0 : f 0 = .agg (plCells p vl vb) := hW 0 (by kernel_rfl)
    refine pr_call (g := 12) (.inl rfl) ((show (execOp _ _).run Tryz.prog wx = .ok (.enter 12 #[f 0]) wx by kernel_rfl).trans (by rw [h0])) ((make_any p vl vb wx (HP.out.still (HOY0.out.trans hOx)) H64.out).mono ?_)
    rintro e w' ⟨ut, up, uq, ux, rfl, hown, hO'⟩
    exact ⟨_, rfl, ⟨ut, up, uq, ux, by rw [HDE.out], by have h := hown.base hle; rw [HDE.out] at h; exact h⟩, hO'⟩
   ·exact pr_load (x := .tmp 2) (.inr rfl) rfl (by kernel_rfl) (row_still hOx HZ0.out) Tryz.underlying26 rfl Tryz.infoP13
   ·have h0 : f 2 = .agg (plCells p vl vb) := hW 2 (by kernel_rfl)
    refine pr_call (g := 12) (.inr rfl) ((show (execOp _ _).run Tryz.prog wx = .ok (.enter 12 #[f 2]) wx by kernel_rfl).trans (by rw [h0])) ((make_any p vl vb wx (HP.out.still (HOY0.out.trans hOx)) H64.out).mono ?_)
    rintro e w' ⟨ut, up, uq, ux, rfl, hown, hO'⟩
    exact ⟨_, rfl, ⟨ut, up, uq, ux, by rw [HDE.out], by have h := hown.base hle; rw [HDE.out] at h; exact h⟩, hO'⟩
   ·exact pr_new (by omega) hle (by kernel_rfl)
   ·exact pr_new (by omega) hle (by kernel_rfl)
  case fin =>
   intro f wx hO hF hR
   have hOx : Only (fun _ => False) w2 wx := ((Only.refl _ w2).drew).trans hO
   obtain ⟨vt, vp, vq, vx, h1, ha⟩ := show DrVal w2.heap.size d (f 1) wx from hF 1 (by decide)
   obtain ⟨ut, up, uq, ux, h3, hb⟩ := show DrVal w2.heap.size d (f 3) wx from hF 3 (by decide)
   obtain ⟨na, h4, hn1, hr1⟩ := show NewAt w2.heap.size zeroDrC 33 (f 4) wx from hF 4 (by decide)
   obtain ⟨nb, h5, hn2, hr2⟩ := show NewAt w2.heap.size zeroDrC 33 (f 5) wx from hF 5 (by decide)
   have d1 := (show _ → _ → (_ : Value) ≠ _ from hR 4 5 (by decide) (by decide) (by decide)) (Nat.le_refl _) (by decide)
   rw [h4, h5] at d1
   have hne : na ≠ nb := fun h => d1 (by rw [h])
   have r2 := three_row2 (cs := drCells d vt vp vq vx) hr2 hne
   have k1 := setRow_heap wx na _ (drCells d vt vp vq vx) _ _ hr1
   have k2 := setRow_heap _ nb _ (drCells d ut up uq ux) _ _ r2
   have HA := Lib.hid (dr_oneE ha)
   have HB := Lib.hid (dr_oneE hb)
   have HR1 := Lib.hid hr1
   have HR2 := Lib.hid r2
   have HK := Lib.hid (show _ ∧ _ ∧ _ ∧ _ ∧ _ from ⟨(setRow_other _ _ _ (drCells d ut up uq ux) hne).trans k1, k2, own_rows (own_rows ha k1 hr1) k2 r2, own_rows (own_rows hb k1 hr1) k2 r2, onlyR_row (onlyR_row hOx (.inr hn1) (drCells d vt vp vq vx)) (.inr hn2) (drCells d ut up uq ux)⟩)
   have HN := Lib.hid hne
   clear hr1 r2 k1 k2 ha hb hn1 hn2 hr2 d1 hne
   simp only [headPost, List.drop_succ_cons, List.drop_zero, frameAll, Act.put, List.size_toArray, List.length_cons, List.length_nil, List.getElem?_toArray, List.getElem?_cons_zero, List.getElem?_cons_succ, Option.bind_some, List.setIfInBounds_toArray, List.set_cons_zero, List.set_cons_succ]
   rw [h1, h3, h4, h5]
   go_wp2_with (first
    | (refine wpList_store_row rfl 33 _ _ rfl na (drCells d vt vp vq vx) rfl rfl 33 _ HR1.out Tryz.infoDr rfl HA.out ?_)
    | (refine wpList_store_row rfl 33 _ _ rfl nb (drCells d ut up uq ux) rfl rfl 33 _ HR2.out Tryz.infoDr rfl HB.out ?_))
   go_meet
   exact ⟨na, nb, vt, vp, vq, vx, ut, up, uq, ux, rfl, rfl, HK.out.1, HK.out.2.1, HK.out.2.2.1, HK.out.2.2.2.1, HN.out, HK.out.2.2.2.2⟩
 case rest =>
  obtain ⟨n1, n2, xt, xp, xq, xx, yt, yp, yq, yx, rfl, rfl, hr1, hr2, hd1, hd2, hne, hO3⟩ := hcut
  obtain ⟨w3, rfl⟩ : ∃ x, x = wc := ⟨_, rfl⟩
  obtain ⟨at1, ct, rfl⟩ := slice_of_own hd1.tiers
  obtain ⟨ap1, cp, rfl⟩ := slice_of_own hd1.places
  obtain ⟨aq1, cq, rfl⟩ := slice_of_own hd1.quotas
  obtain ⟨ab1, cb, rfl⟩ := slice_of_own hd1.bars
  obtain ⟨bt1, dt, rfl⟩ := slice_of_own hd2.tiers
  obtain ⟨bp1, dp, rfl⟩ := slice_of_own hd2.places
  obtain ⟨bq1, dq, rfl⟩ := slice_of_own hd2.quotas
  obtain ⟨bb1, db, rfl⟩ := slice_of_own hd2.bars
  have HR1 := Lib.hid hr1
  have HR2 := Lib.hid hr2
  have HD1 := Lib.hid hd1
  have HD2 := Lib.hid hd2
  have HNE1 := Lib.hid hne
  have HY0 := Lib.hid (row_still hO3 HY0.out)
  have HOY0 := Lib.hid (HOY0.out.trans hO3)
  clear hr1 hr2 hd1 hd2 hne hO3 HZ0
  go_upto_region 3 with (fail)
  obtain ⟨x, hx⟩ : ∃ x, makeE q = x := ⟨_, rfl⟩
  have HXE := Lib.hid hx
  clear hx
  go_cut [8, 9] (fun v8 v9 wx => ∃ m1 m2 xt xp xq yt yp yq, v8 = .pointer (some ⟨m1, 0, none⟩) ∧ v9 = .pointer (some ⟨m2, 0, none⟩) ∧ wx.heap[m1]? = some (.cells (enCells x xt xp xq) 44 (0, 0)) ∧ wx.heap[m2]? = some (.cells (enCells x yt yp yq) 44 (0, 0)) ∧ EnOwn w3.heap.size wx x xt xp xq ∧ EnOwn w3.heap.size wx x yt yp yq ∧ m1 ≠ m2 ∧ Only (fun _ => False) w3 wx)
  case first =>
   refine wp_region_split3 6 (by kernel_rfl) (by kernel_rfl) ?_
   simp only [List.take_succ_cons, List.take_zero]
   refine wpAny_by_facts _ _ (prFact w3.heap.size (peCells q vp vw vg) (EnVal w3.heap.size x) zeroEnC 44) prRel (by kernel_rfl) (by kernel_rfl) (prFact_only fun _ _ _ h hO => h.only hO) ?step ?fin
   case step =>
    intro i o f wx ho hO hW
    have hi : i < 6 := by have := (Array.getElem?_eq_some_iff.1 ho).1; simpa using this
    have hOx : Only (fun _ => False) w3 wx := ((Only.refl _ w3).drew).trans hO
    have hle : w3.heap.size ≤ wx.heap.size := hOx.size
    obtain rfl | rfl | rfl | rfl | rfl | rfl : i = 0 ∨ i = 1 ∨ i = 2 ∨ i = 3 ∨ i = 4 ∨ i = 5 := by omega
    all_goals (simp only [List.getElem?_toArray, List.getElem?_cons_zero, List.getElem?_cons_succ, Option.some.injEq] at ho; subst ho)
    ·exact pr_load (x := .tmp 3) (.inl rfl) rfl (by kernel_rfl) (row_still hOx HY0.out) Tryz.underlying41 rfl (by kernel_rfl)
    ·have h0 : f 0 = .agg (peCells q vp vw vg) := hW 0 (by kernel_rfl)
     refine pr_call (g := 14) (.inl rfl) ((show (execOp _ _).run Tryz.prog wx = .ok (.enter 14 #[f 0]) wx by kernel_rfl).trans (by rw [h0])) ((pmake_any q vp vw vg wx (HQ.out.still (HOY0.out.trans hOx))).mono ?_)
     rintro e w' ⟨yt, yp, yq, rfl, hown, hO'⟩
     exact ⟨_, rfl, ⟨yt, yp, yq, by rw [HXE.out], by have h := (show EnOwn w3.heap.size _ _ _ _ _ from ⟨ownR_base hown.picks hle, ownR_base hown.wishes hle, ownR_base hown.groups hle⟩); rw [HXE.out] at h; exact h⟩, hO'⟩
    ·exact pr_load (x := .tmp 3) (.inr rfl) rfl (by kernel_rfl) (row_still hOx HY0.out) Tryz.underlying41 rfl (by kernel_rfl)
    ·have h0 : f 2 = .agg (peCells q vp vw vg) := hW 2 (by kernel_rfl)
     refine pr_call (g := 14) (.inr rfl) ((show (execOp _ _).run Tryz.prog wx = .ok (.enter 14 #[f 2]) wx by kernel_rfl).trans (by rw [h0])) ((pmake_any q vp vw vg wx (HQ.out.still (HOY0.out.trans hOx))).mono ?_)
     rintro e w' ⟨yt, yp, yq, rfl, hown, hO'⟩
     exact ⟨_, rfl, ⟨yt, yp, yq, by rw [HXE.out], by have h := (show EnOwn w3.heap.size _ _ _ _ _ from ⟨ownR_base hown.picks hle, ownR_base hown.wishes hle, ownR_base hown.groups hle⟩); rw [HXE.out] at h; exact h⟩, hO'⟩
    ·exact pr_new (by omega) hle (by kernel_rfl)
    ·exact pr_new (by omega) hle (by kernel_rfl)
   case fin =>
    intro f wx hO hF hR
    have hOx : Only (fun _ => False) w3 wx := ((Only.refl _ w3).drew).trans hO
    obtain ⟨xt, xp, xq, h1, ha⟩ := show EnVal w3.heap.size x (f 1) wx from hF 1 (by decide)
    obtain ⟨yt, yp, yq, h3, hb⟩ := show EnVal w3.heap.size x (f 3) wx from hF 3 (by decide)
    obtain ⟨na, h4, hn1, hr1⟩ := show NewAt w3.heap.size zeroEnC 44 (f 4) wx from hF 4 (by decide)
    obtain ⟨nb, h5, hn2, hr2⟩ := show NewAt w3.heap.size zeroEnC 44 (f 5) wx from hF 5 (by decide)
    have d1 := (show _ → _ → (_ : Value) ≠ _ from hR 4 5 (by decide) (by decide) (by decide)) (Nat.le_refl _) (by decide)
    rw [h4, h5] at d1
    have hne : na ≠ nb := fun h => d1 (by rw [h])
    have r2 := three_row2 (cs := enCells x xt xp xq) hr2 hne
    have k1 := setRow_heap wx na _ (enCells x xt xp xq) _ _ hr1
    have k2 := setRow_heap _ nb _ (enCells x yt yp yq) _ _ r2
    have HA := Lib.hid (en_oneL ha)
    have HB := Lib.hid (en_oneL hb)
    have HR1 := Lib.hid hr1
    have HR2 := Lib.hid r2
    have HK := Lib.hid (show _ ∧ _ ∧ _ ∧ _ ∧ _ from ⟨(setRow_other _ _ _ (enCells x yt yp yq) hne).trans k1, k2, en_rowsL (cs := enCells x yt yp yq) (en_rowsL (cs := enCells x xt xp xq) ha hr1) r2, en_rowsL (cs := enCells x yt yp yq) (en_rowsL (cs := enCells x xt xp xq) hb hr1) r2, onlyR_row (onlyR_row hOx (.inr hn1) (enCells x xt xp xq)) (.inr hn2) (enCells x yt yp yq)⟩)
    have HN := Lib.hid hne
    clear hr1 r2 k1 k2 ha hb hn1 hn2 hr2 d1 hne
    simp only [headPost, List.drop_succ_cons, List.drop_zero, frameAll, Act.put, List.size_toArray, List.length_cons, List.length_nil, List.getElem?_toArray, List.getElem?_cons_zero, List.getElem?_cons_succ, Option.bind_some, List.setIfInBounds_toArray, List.set_cons_zero, List.set_cons_succ]
    rw [h1, h3, h4, h5]
    go_wp2_with (first
     | (refine wpList_store_row rfl 44 _ _ rfl na (enCells x xt xp xq) rfl rfl 44 _ HR1.out Tryz.infoEn rfl HA.out ?_)
     | (refine wpList_store_row rfl 44 _ _ rfl nb (enCells x yt yp yq) rfl rfl 44 _ HR2.out Tryz.infoEn rfl HB.out ?_))
    go_meet
    exact ⟨na, nb, xt, xp, xq, yt, yp, yq, rfl, rfl, HK.out.1, HK.out.2.1, HK.out.2.2.1, HK.out.2.2.2.1, HN.out, HK.out.2.2.2.2⟩
  case rest =>
   obtain ⟨m1, m2, xt, xp, xq, yt, yp, yq, rfl, rfl, hr1, hr2, hd1, hd2, hne, hO3⟩ := hcut
   obtain ⟨w4, rfl⟩ : ∃ x, x = wc := ⟨_, rfl⟩
   obtain ⟨at2, c2t, rfl⟩ := slice_of_own hd1.picks
   obtain ⟨ap2, c2p, rfl⟩ := slice_of_own hd1.wishes
   obtain ⟨aq2, c2q, rfl⟩ := slice_of_own hd1.groups
   obtain ⟨bt2, d2t, rfl⟩ := slice_of_own hd2.picks
   obtain ⟨bp2, d2p, rfl⟩ := slice_of_own hd2.wishes
   obtain ⟨bq2, d2q, rfl⟩ := slice_of_own hd2.groups
   have HM1 := Lib.hid hr1
   have HM2 := Lib.hid hr2
   have HE1 := Lib.hid hd1
   have HE2 := Lib.hid hd2
   have HR1 := Lib.hid (row_still hO3 HR1.out)
   have HR2 := Lib.hid (row_still hO3 HR2.out)
   have HD1 := Lib.hid (HD1.out.only hO3 (fun _ _ h => h))
   have HD2 := Lib.hid (HD2.out.only hO3 (fun _ _ h => h))
   have HOY0 := Lib.hid (HOY0.out.trans hO3)
   clear hr1 hr2 hd1 hd2 hne hO3 HY0
   have HMO := Lib.hid (make_ok p H64.out)
   have HDB := Lib.hid (make_DrB H64.out)
   have HSZ := Lib.hid (print_size d)
   rw [HDE.out] at HMO HDB
   have HXL := Lib.hid (makeE_len q)
   rw [HXE.out] at HXL
   obtain ⟨g1, hg1⟩ : ∃ n, w2.heap.size = n := ⟨_, rfl⟩
   rw [hg1] at HD1 HD2
   obtain ⟨g2, hg2⟩ : ∃ n, w3.heap.size = n := ⟨_, rfl⟩
   rw [hg2] at HE1 HE2
   clear hg1 hg2
   have c0 : w4.cell? ⟨n1, 0, none⟩ = some (Value.string d.name) := cell_of_row _ _ 0 _ _ _ HR1.out
   have c1 : w4.cell? ⟨n1, 1, none⟩ = some (Value.int .i64 d.kind) := cell_of_row _ _ 1 _ _ _ HR1.out
   have c2 : w4.cell? ⟨n1, 2, none⟩ = some (Value.int .i64 d.round) := cell_of_row _ _ 2 _ _ _ HR1.out
   have c3 : w4.cell? ⟨n1, 3, none⟩ = some (Value.int .i64 d.price) := cell_of_row _ _ 3 _ _ _ HR1.out
   have c4 : w4.cell? ⟨n1, 4, none⟩ = some (Value.int .i64 d.pool) := cell_of_row _ _ 4 _ _ _ HR1.out
   have c5 : w4.cell? ⟨n1, 5, none⟩ = some (Value.int .i64 d.pick) := cell_of_row _ _ 5 _ _ _ HR1.out
   have c6 : w4.cell? ⟨n1, 6, none⟩ = some (Value.slice at1 d.tiers.length ct) := cell_of_row _ _ 6 _ _ _ HR1.out
   have c7 : w4.cell? ⟨n1, 7, none⟩ = some (Value.bool d.roll) := cell_of_row _ _ 7 _ _ _ HR1.out
   have c8 : w4.cell? ⟨n1, 8, none⟩ = some (Value.slice ap1 d.places.length cp) := cell_of_row _ _ 8 _ _ _ HR1.out
   have c9 : w4.cell? ⟨n1, 9, none⟩ = some (Value.int .i64 d.cls) := cell_of_row _ _ 9 _ _ _ HR1.out
   have c10 : w4.cell? ⟨n1, 10, none⟩ = some (Value.int .i64 d.size) := cell_of_row _ _ 10 _ _ _ HR1.out
   have c11 : w4.cell? ⟨n1, 11, none⟩ = some (Value.slice aq1 d.quotas.length cq) := cell_of_row _ _ 11 _ _ _ HR1.out
   have c12 : w4.cell? ⟨n1, 12, none⟩ = some (Value.slice ab1 d.barred.length cb) := cell_of_row _ _ 12 _ _ _ HR1.out
   have cl : n1 < w4.heap.size := (Array.getElem?_eq_some_iff.1 HR1.out).1
   go_wp2_with fail
   refine (print_any d _ _ _ _ g1 w4 HD1.out (HG.out.only HOY0.out) HDB.out).mono ?_
   rintro e w5 ⟨rfl, hO⟩
   have HOY0 := Lib.hid (HOY0.out.trans hO)
   have HR1 := Lib.hid (row_still hO HR1.out)
   have HR2 := Lib.hid (row_still hO HR2.out)
   have HM1 := Lib.hid (row_still hO HM1.out)
   have HM2 := Lib.hid (row_still hO HM2.out)
   have HD1 := Lib.hid (HD1.out.only hO (fun _ _ h => h))
   have HD2 := Lib.hid (HD2.out.only hO (fun _ _ h => h))
   have HE1 := Lib.hid (HE1.out.only hO)
   have HE2 := Lib.hid (HE2.out.only hO)
   clear hO c0 c1 c2 c3 c4 c5 c6 c7 c8 c9 c10 c11 c12 cl
   obtain ⟨s, hs⟩ : ∃ s, printZ d = s := ⟨_, rfl⟩
   have HSE := Lib.hid hs
   rw [hs] at HSZ ⊢
   clear hs
   have c0 : w5.cell? ⟨n1, 0, none⟩ = some (Value.string d.name) := cell_of_row _ _ 0 _ _ _ HR1.out
   have c1 : w5.cell? ⟨n1, 1, none⟩ = some (Value.int .i64 d.kind) := cell_of_row _ _ 1 _ _ _ HR1.out
   have c2 : w5.cell? ⟨n1, 2, none⟩ = some (Value.int .i64 d.round) := cell_of_row _ _ 2 _ _ _ HR1.out
   have c3 : w5.cell? ⟨n1, 3, none⟩ = some (Value.int .i64 d.price) := cell_of_row _ _ 3 _ _ _ HR1.out
   have c4 : w5.cell? ⟨n1, 4, none⟩ = some (Value.int .i64 d.pool) := cell_of_row _ _ 4 _ _ _ HR1.out
   have c5 : w5.cell? ⟨n1, 5, none⟩ = some (Value.int .i64 d.pick) := cell_of_row _ _ 5 _ _ _ HR1.out
   have c6 : w5.cell? ⟨n1, 6, none⟩ = some (Value.slice at1 d.tiers.length ct) := cell_of_row _ _ 6 _ _ _ HR1.out
   have c7 : w5.cell? ⟨n1, 7, none⟩ = some (Value.bool d.roll) := cell_of_row _ _ 7 _ _ _ HR1.out
   have c8 : w5.cell? ⟨n1, 8, none⟩ = some (Value.slice ap1 d.places.length cp) := cell_of_row _ _ 8 _ _ _ HR1.out
   have c9 : w5.cell? ⟨n1, 9, none⟩ = some (Value.int .i64 d.cls) := cell_of_row _ _ 9 _ _ _ HR1.out
   have c10 : w5.cell? ⟨n1, 10, none⟩ = some (Value.int .i64 d.size) := cell_of_row _ _ 10 _ _ _ HR1.out
   have c11 : w5.cell? ⟨n1, 11, none⟩ = some (Value.slice aq1 d.quotas.length cq) := cell_of_row _ _ 11 _ _ _ HR1.out
   have c12 : w5.cell? ⟨n1, 12, none⟩ = some (Value.slice ab1 d.barred.length cb) := cell_of_row _ _ 12 _ _ _ HR1.out
   have cl : n1 < w5.heap.size := (Array.getElem?_eq_some_iff.1 HR1.out).1
   have e0 : w5.cell? ⟨n2, 0, none⟩ = some (Value.string d.name) := cell_of_row _ _ 0 _ _ _ HR2.out
   have e1 : w5.cell? ⟨n2, 1, none⟩ = some (Value.int .i64 d.kind) := cell_of_row _ _ 1 _ _ _ HR2.out
   have e2 : w5.cell? ⟨n2, 2, none⟩ = some (Value.int .i64 d.round) := cell_of_row _ _ 2 _ _ _ HR2.out
   have e3 : w5.cell? ⟨n2, 3, none⟩ = some (Value.int .i64 d.price) := cell_of_row _ _ 3 _ _ _ HR2.out
   have e4 : w5.cell? ⟨n2, 4, none⟩ = some (Value.int .i64 d.pool) := cell_of_row _ _ 4 _ _ _ HR2.out
   have e5 : w5.cell? ⟨n2, 5, none⟩ = some (Value.int .i64 d.pick) := cell_of_row _ _ 5 _ _ _ HR2.out
   have e6 : w5.cell? ⟨n2, 6, none⟩ = some (Value.slice bt1 d.tiers.length dt) := cell_of_row _ _ 6 _ _ _ HR2.out
   have e7 : w5.cell? ⟨n2, 7, none⟩ = some (Value.bool d.roll) := cell_of_row _ _ 7 _ _ _ HR2.out
   have e8 : w5.cell? ⟨n2, 8, none⟩ = some (Value.slice bp1 d.places.length dp) := cell_of_row _ _ 8 _ _ _ HR2.out
   have e9 : w5.cell? ⟨n2, 9, none⟩ = some (Value.int .i64 d.cls) := cell_of_row _ _ 9 _ _ _ HR2.out
   have e10 : w5.cell? ⟨n2, 10, none⟩ = some (Value.int .i64 d.size) := cell_of_row _ _ 10 _ _ _ HR2.out
   have e11 : w5.cell? ⟨n2, 11, none⟩ = some (Value.slice bq1 d.quotas.length dq) := cell_of_row _ _ 11 _ _ _ HR2.out
   have e12 : w5.cell? ⟨n2, 12, none⟩ = some (Value.slice bb1 d.barred.length db) := cell_of_row _ _ 12 _ _ _ HR2.out
   have el : n2 < w5.heap.size := (Array.getElem?_eq_some_iff.1 HR2.out).1
   go_wp2_with fail
   refine (equal_any d d _ _ _ _ _ _ _ _ true g1 g1 w5 HD1.out HD2.out HDB.out HDB.out (by simp)).mono ?_
   rintro e w6 ⟨rfl, hO⟩
   have HOY0 := Lib.hid (HOY0.out.trans hO)
   have HR1 := Lib.hid (row_still hO HR1.out)
   have HR2 := Lib.hid (row_still hO HR2.out)
   have HM1 := Lib.hid (row_still hO HM1.out)
   have HM2 := Lib.hid (row_still hO HM2.out)
   have HD1 := Lib.hid (HD1.out.only hO (fun _ _ h => h))
   have HD2 := Lib.hid (HD2.out.only hO (fun _ _ h => h))
   have HE1 := Lib.hid (HE1.out.only hO)
   have HE2 := Lib.hid (HE2.out.only hO)
   clear hO c0 c1 c2 c3 c4 c5 c6 c7 c8 c9 c10 c11 c12 cl e0 e1 e2 e3 e4 e5 e6 e7 e8 e9 e10 e11 e12 el
   have c0 : w6.cell? ⟨m1, 0, none⟩ = some (Value.int .i64 x.id) := cell_of_row _ _ 0 _ _ _ HM1.out
   have c1 : w6.cell? ⟨m1, 1, none⟩ = some (Value.int .i64 x.cls) := cell_of_row _ _ 1 _ _ _ HM1.out
   have c2 : w6.cell? ⟨m1, 2, none⟩ = some (Value.int .i64 x.fam) := cell_of_row _ _ 2 _ _ _ HM1.out
   have c3 : w6.cell? ⟨m1, 3, none⟩ = some (Value.slice at2 x.picks.length c2t) := cell_of_row _ _ 3 _ _ _ HM1.out
   have c4 : w6.cell? ⟨m1, 4, none⟩ = some (Value.slice ap2 x.wishes.length c2p) := cell_of_row _ _ 4 _ _ _ HM1.out
   have c5 : w6.cell? ⟨m1, 5, none⟩ = some (Value.slice aq2 x.groups.length c2q) := cell_of_row _ _ 5 _ _ _ HM1.out
   have cl : m1 < w6.heap.size := (Array.getElem?_eq_some_iff.1 HM1.out).1
   go_wp2_with fail
   refine (printent_any x _ _ _ g2 w6 HE1.out HXL.out (HG.out.only HOY0.out)).mono ?_
   rintro e w7 ⟨rfl, hO⟩
   have HOY0 := Lib.hid (HOY0.out.trans hO)
   have HR1 := Lib.hid (row_still hO HR1.out)
   have HR2 := Lib.hid (row_still hO HR2.out)
   have HM1 := Lib.hid (row_still hO HM1.out)
   have HM2 := Lib.hid (row_still hO HM2.out)
   have HD1 := Lib.hid (HD1.out.only hO (fun _ _ h => h))
   have HD2 := Lib.hid (HD2.out.only hO (fun _ _ h => h))
   have HE1 := Lib.hid (HE1.out.only hO)
   have HE2 := Lib.hid (HE2.out.only hO)
   clear hO c0 c1 c2 c3 c4 c5 cl
   go_upto_region 7 with (fail)
   go_cut [44] (fun v wx => v = .bool false ∧ Only (fun _ => False) w7 wx)
   case first =>
    as_aux_lemma =>
     have c0 : w7.cell? ⟨n1, 0, none⟩ = some (Value.string d.name) := cell_of_row _ _ 0 _ _ _ HR1.out
     have c1 : w7.cell? ⟨n1, 1, none⟩ = some (Value.int .i64 d.kind) := cell_of_row _ _ 1 _ _ _ HR1.out
     have c2 : w7.cell? ⟨n1, 2, none⟩ = some (Value.int .i64 d.round) := cell_of_row _ _ 2 _ _ _ HR1.out
     have c3 : w7.cell? ⟨n1, 3, none⟩ = some (Value.int .i64 d.price) := cell_of_row _ _ 3 _ _ _ HR1.out
     have c4 : w7.cell? ⟨n1, 4, none⟩ = some (Value.int .i64 d.pool) := cell_of_row _ _ 4 _ _ _ HR1.out
     have c5 : w7.cell? ⟨n1, 5, none⟩ = some (Value.int .i64 d.pick) := cell_of_row _ _ 5 _ _ _ HR1.out
     have c6 : w7.cell? ⟨n1, 6, none⟩ = some (Value.slice at1 d.tiers.length ct) := cell_of_row _ _ 6 _ _ _ HR1.out
     have c7 : w7.cell? ⟨n1, 7, none⟩ = some (Value.bool d.roll) := cell_of_row _ _ 7 _ _ _ HR1.out
     have c8 : w7.cell? ⟨n1, 8, none⟩ = some (Value.slice ap1 d.places.length cp) := cell_of_row _ _ 8 _ _ _ HR1.out
     have c9 : w7.cell? ⟨n1, 9, none⟩ = some (Value.int .i64 d.cls) := cell_of_row _ _ 9 _ _ _ HR1.out
     have c10 : w7.cell? ⟨n1, 10, none⟩ = some (Value.int .i64 d.size) := cell_of_row _ _ 10 _ _ _ HR1.out
     have c11 : w7.cell? ⟨n1, 11, none⟩ = some (Value.slice aq1 d.quotas.length cq) := cell_of_row _ _ 11 _ _ _ HR1.out
     have c12 : w7.cell? ⟨n1, 12, none⟩ = some (Value.slice ab1 d.barred.length cb) := cell_of_row _ _ 12 _ _ _ HR1.out
     have cl : n1 < w7.heap.size := (Array.getElem?_eq_some_iff.1 HR1.out).1
     have e0 : w7.cell? ⟨n2, 0, none⟩ = some (Value.string d.name) := cell_of_row _ _ 0 _ _ _ HR2.out
     have e1 : w7.cell? ⟨n2, 1, none⟩ = some (Value.int .i64 d.kind) := cell_of_row _ _ 1 _ _ _ HR2.out
     have e2 : w7.cell? ⟨n2, 2, none⟩ = some (Value.int .i64 d.round) := cell_of_row _ _ 2 _ _ _ HR2.out
     have e3 : w7.cell? ⟨n2, 3, none⟩ = some (Value.int .i64 d.price) := cell_of_row _ _ 3 _ _ _ HR2.out
     have e4 : w7.cell? ⟨n2, 4, none⟩ = some (Value.int .i64 d.pool) := cell_of_row _ _ 4 _ _ _ HR2.out
     have e5 : w7.cell? ⟨n2, 5, none⟩ = some (Value.int .i64 d.pick) := cell_of_row _ _ 5 _ _ _ HR2.out
     have e6 : w7.cell? ⟨n2, 6, none⟩ = some (Value.slice bt1 d.tiers.length dt) := cell_of_row _ _ 6 _ _ _ HR2.out
     have e7 : w7.cell? ⟨n2, 7, none⟩ = some (Value.bool d.roll) := cell_of_row _ _ 7 _ _ _ HR2.out
     have e8 : w7.cell? ⟨n2, 8, none⟩ = some (Value.slice bp1 d.places.length dp) := cell_of_row _ _ 8 _ _ _ HR2.out
     have e9 : w7.cell? ⟨n2, 9, none⟩ = some (Value.int .i64 d.cls) := cell_of_row _ _ 9 _ _ _ HR2.out
     have e10 : w7.cell? ⟨n2, 10, none⟩ = some (Value.int .i64 d.size) := cell_of_row _ _ 10 _ _ _ HR2.out
     have e11 : w7.cell? ⟨n2, 11, none⟩ = some (Value.slice bq1 d.quotas.length dq) := cell_of_row _ _ 11 _ _ _ HR2.out
     have e12 : w7.cell? ⟨n2, 12, none⟩ = some (Value.slice bb1 d.barred.length db) := cell_of_row _ _ 12 _ _ _ HR2.out
     have el : n2 < w7.heap.size := (Array.getElem?_eq_some_iff.1 HR2.out).1
     go_wp2_with fail
     refine (requal_any d d _ _ _ _ _ _ _ _ true g1 g1 w7 HD1.out HD2.out HDB.out HDB.out (by simp)).mono ?_
     rintro e w8 ⟨rfl, hO⟩
     have HO8 := Lib.hid hO
     have HOY0 := Lib.hid (HOY0.out.trans hO)
     have HR1 := Lib.hid (row_still hO HR1.out)
     have HR2 := Lib.hid (row_still hO HR2.out)
     have HM1 := Lib.hid (row_still hO HM1.out)
     have HM2 := Lib.hid (row_still hO HM2.out)
     have HD1 := Lib.hid (HD1.out.only hO (fun _ _ h => h))
     have HD2 := Lib.hid (HD2.out.only hO (fun _ _ h => h))
     have HE1 := Lib.hid (HE1.out.only hO)
     have HE2 := Lib.hid (HE2.out.only hO)
     clear hO c0 c1 c2 c3 c4 c5 c6 c7 c8 c9 c10 c11 c12 cl e0 e1 e2 e3 e4 e5 e6 e7 e8 e9 e10 e11 e12 el
     have c0 : w8.cell? ⟨m1, 0, none⟩ = some (Value.int .i64 x.id) := cell_of_row _ _ 0 _ _ _ HM1.out
     have c1 : w8.cell? ⟨m1, 1, none⟩ = some (Value.int .i64 x.cls) := cell_of_row _ _ 1 _ _ _ HM1.out
     have c2 : w8.cell? ⟨m1, 2, none⟩ = some (Value.int .i64 x.fam) := cell_of_row _ _ 2 _ _ _ HM1.out
     have c3 : w8.cell? ⟨m1, 3, none⟩ = some (Value.slice at2 x.picks.length c2t) := cell_of_row _ _ 3 _ _ _ HM1.out
     have c4 : w8.cell? ⟨m1, 4, none⟩ = some (Value.slice ap2 x.wishes.length c2p) := cell_of_row _ _ 4 _ _ _ HM1.out
     have c5 : w8.cell? ⟨m1, 5, none⟩ = some (Value.slice aq2 x.groups.length c2q) := cell_of_row _ _ 5 _ _ _ HM1.out
     have cl : m1 < w8.heap.size := (Array.getElem?_eq_some_iff.1 HM1.out).1
     have e0 : w8.cell? ⟨m2, 0, none⟩ = some (Value.int .i64 x.id) := cell_of_row _ _ 0 _ _ _ HM2.out
     have e1 : w8.cell? ⟨m2, 1, none⟩ = some (Value.int .i64 x.cls) := cell_of_row _ _ 1 _ _ _ HM2.out
     have e2 : w8.cell? ⟨m2, 2, none⟩ = some (Value.int .i64 x.fam) := cell_of_row _ _ 2 _ _ _ HM2.out
     have e3 : w8.cell? ⟨m2, 3, none⟩ = some (Value.slice bt2 x.picks.length d2t) := cell_of_row _ _ 3 _ _ _ HM2.out
     have e4 : w8.cell? ⟨m2, 4, none⟩ = some (Value.slice bp2 x.wishes.length d2p) := cell_of_row _ _ 4 _ _ _ HM2.out
     have e5 : w8.cell? ⟨m2, 5, none⟩ = some (Value.slice bq2 x.groups.length d2q) := cell_of_row _ _ 5 _ _ _ HM2.out
     have el : m2 < w8.heap.size := (Array.getElem?_eq_some_iff.1 HM2.out).1
     go_wp2_with fail
     refine (rsame_any x _ _ _ _ _ _ g2 g2 w8 HE1.out HE2.out HXL.out.1).mono ?_
     rintro e w9 ⟨rfl, hO⟩
     have HO9 := Lib.hid (HO8.out.trans hO)
     clear hO c0 c1 c2 c3 c4 c5 cl e0 e1 e2 e3 e4 e5 el
     go_wp2_with fail
     go_meet
     exact ⟨rfl, HO9.out⟩
   case rest =>
    obtain ⟨rfl, hO⟩ := hcut
    obtain ⟨w8, rfl⟩ : ∃ x, x = wc := ⟨_, rfl⟩
    have HOY0 := Lib.hid (HOY0.out.trans hO)
    have HR1 := Lib.hid (row_still hO HR1.out)
    have HR2 := Lib.hid (row_still hO HR2.out)
    have HM1 := Lib.hid (row_still hO HM1.out)
    have HM2 := Lib.hid (row_still hO HM2.out)
    have HD1 := Lib.hid (HD1.out.only hO (fun _ _ h => h))
    have HD2 := Lib.hid (HD2.out.only hO (fun _ _ h => h))
    have HE1 := Lib.hid (HE1.out.only hO)
    have HE2 := Lib.hid (HE2.out.only hO)
    clear hO
    obtain ⟨er, po, dx, hpz⟩ : ∃ er po dx, parseZ s = (er, po, dx) := ⟨_, _, _, rfl⟩
    have HPZ := Lib.hid hpz
    clear hpz
    go_upto_region 9 with (fail)
    go_wp2_with fail
    refine (parse_any s w8 (by have := HSZ.out; omega) (HG.out.only HOY0.out).len).mono ?_
    rw [HPZ.out]
    rintro e w9 ⟨ut, up, uq, ub, rfl, hdx, hO⟩
    have hdx : DrOwn w8.heap.size w9 dx ut up uq ub := hdx
    obtain ⟨rt1, st, rfl⟩ := slice_of_own hdx.tiers
    obtain ⟨rp1, sp, rfl⟩ := slice_of_own hdx.places
    obtain ⟨rq1, sq, rfl⟩ := slice_of_own hdx.quotas
    obtain ⟨rb1, sb, rfl⟩ := slice_of_own hdx.bars
    have HXT := Lib.hid hdx.tiers
    have HXB := Lib.hid hdx.bars
    have HX8 := Lib.hid hO
    clear hdx hO
    go_upto_region 10 with (first | (refine wpList_store_row rfl 33 _ _ rfl w9.heap.size (drCells dx (.slice rt1 dx.tiers.length st) (.slice rp1 dx.places.length sp) (.slice rq1 dx.quotas.length sq) (.slice rb1 dx.barred.length sb)) rfl rfl 33 _ (heap_alloc_last w9 _) Tryz.infoDr rfl (cells_one _ _ _ _ _ _ _ _ _ _ _ _ _) ?_; rw [World.setRow_alloc_new]))
    have HXR := Lib.hid (heap_alloc_last w9 (.cells (drCells dx (.slice rt1 dx.tiers.length st) (.slice rp1 dx.places.length sp) (.slice rq1 dx.quotas.length sq) (.slice rb1 dx.barred.length sb)) 33))
    have HA := Lib.hid ((Only.refl (fun _ => False) w9).alloc (.cells (drCells dx (.slice rt1 dx.tiers.length st) (.slice rp1 dx.places.length sp) (.slice rq1 dx.quotas.length sq) (.slice rb1 dx.barred.length sb)) 33))
    generalize World.alloc w9 _ = w10 at *
    obtain ⟨nx, hnx⟩ : ∃ n, w9.heap.size = n := ⟨_, rfl⟩
    rw [hnx] at HXR ⊢
    have HXT := Lib.hid (HA.out.owns HXT.out (fun _ _ h => h))
    have HXB := Lib.hid (HA.out.owns HXB.out (fun _ _ h => h))
    have HX8 := Lib.hid (HX8.out.trans HA.out)
    clear hnx HA
    obtain ⟨g8, hg8⟩ : ∃ n, w8.heap.size = n := ⟨_, rfl⟩
    have HG8 := Lib.hid hg8
    rw [hg8] at HXT HXB
    clear hg8
    have c12 : w10.cell? ⟨nx, 12, none⟩ = some (.slice rb1 dx.barred.length sb) := cell_of_row _ _ 12 _ _ _ HXR.out
    have cl : nx < w10.heap.size := (Array.getElem?_eq_some_iff.1 HXR.out).1
    go_upto_block 0 with (fail)
    clear c12 cl
    go_cut [] (fun wx => wx.heap[nx]? = some (.cells (drCells dx (.slice rt1 dx.tiers.length st) (.slice rp1 dx.places.length sp) (.slice rq1 dx.quotas.length sq) (.slice rb1 dx.barred.length sb)) 33 (0, 0)) ∧ (∃ xs, wx.ownsRow g8 50 2 (.slice rt1 dx.tiers.length st) dx.tiers.length xs) ∧ Only (fun _ => False) w8 wx)
    case first =>
     go_wp2_with fail
     go_loopw [54] (fun iv wr => ∃ k : Nat, iv = .int .i64 k ∧ k ≤ dx.barred.length ∧ wr.heap[nx]? = some (.cells (drCells dx (.slice rt1 dx.tiers.length st) (.slice rp1 dx.places.length sp) (.slice rq1 dx.quotas.length sq) (.slice rb1 dx.barred.length sb)) 33 (0, 0)) ∧ (∃ l, l.length = dx.barred.length ∧ wr.ownsRow g8 3 1 (.slice rb1 dx.barred.length sb) dx.barred.length (irow l)) ∧ (∃ xs, wr.ownsRow g8 50 2 (.slice rt1 dx.tiers.length st) dx.tiers.length xs) ∧ Only (fun _ => False) w8 wr) (fun iv _ => dx.barred.length - (intOf iv).toNat)
     case atStart => exact ⟨0, rfl, Nat.zero_le _, HXR.out, ⟨_, rfl, HXB.out⟩, ⟨_, HXT.out⟩, HX8.out⟩
     case round =>
      obtain ⟨k, rfl, hk, hrow, ⟨l, hl, hob⟩, ⟨xs, hot⟩, hO⟩ := hrel
      have HR := Lib.hid hrow
      have HB := Lib.hid hob
      have HT := Lib.hid hot
      have HO := Lib.hid hO
      have HL := Lib.hid hl
      have c12 : wr.cell? ⟨nx, 12, none⟩ = some (.slice rb1 dx.barred.length sb) := cell_of_row _ _ 12 _ _ _ HR.out
      have cl : nx < wr.heap.size := (Array.getElem?_eq_some_iff.1 HR.out).1
      have j0 : 0 ≤ (k : Int) := by omega
      clear hrow hob hot hO hl
      by_cases hlt : k < dx.barred.length
      ·have j1 : (k : Int) < dx.barred.length := by omega
       obtain ⟨g, hg, y1, y2, y3, y4, y5, y6⟩ := own_at HB.out (by rw [HL.out]; exact hlt)
       subst hg
       have HGE := Lib.hid (ownR_ge (g := g) HB.out rfl)
       have HNX := Lib.hid (show (Value.slice (some ⟨g, 0, none⟩) dx.barred.length sb).ownBlock ≠ some nx from ownR_blk HB.out HR.out (by decide))
       have HTN := Lib.hid (show (Value.slice rt1 dx.tiers.length st).ownBlock ≠ some g from fun e => ownR_ne HT.out HB.out (by decide) g e rfl)
       have HLT := Lib.hid hlt
       clear hlt hk
       go_wp2_with fail
       go_roundw
       case rel => exact ⟨k + 1, by go_num, HLT.out, row_set_other HR.out (fun e => HNX.out (by rw [e]; rfl)), ⟨_, (List.length_set ..).trans HL.out, own_setI HB.out⟩, ⟨_, set_own HT.out HTN.out⟩, HO.out.setCell (.inr (by have := HGE.out; have := HG8.out; show w8.heap.size ≤ g; omega)) _⟩
       case measure => simp [intOf]; have := HLT.out; omega
      ·obtain rfl : k = dx.barred.length := by omega
       have j1 : ¬ (dx.barred.length : Int) < dx.barred.length := by omega
       clear hlt hk
       go_wp2_with fail
       go_meet
       exact ⟨HR.out, ⟨_, HT.out⟩, HO.out⟩
    case rest =>
     obtain ⟨hrow, ⟨xs0, hot⟩, hO⟩ := hcut
     obtain ⟨w11, rfl⟩ : ∃ x, x = wc := ⟨_, rfl⟩
     have HXR := Lib.hid hrow
     have HXT := Lib.hid hot
     have HX8 := Lib.hid hO
     clear hrow hot hO
     have c6 : w11.cell? ⟨nx, 6, none⟩ = some (.slice rt1 dx.tiers.length st) := cell_of_row _ _ 6 _ _ _ HXR.out
     have cl : nx < w11.heap.size := (Array.getElem?_eq_some_iff.1 HXR.out).1
     go_upto_block 2 with (fail)
     clear c6 cl
     go_cut [] (fun wx => Only (fun _ => False) w8 wx)
     case first =>
      go_wp2_with fail
      go_loopw [65] (fun iv wr => ∃ k : Nat, iv = .int .i64 k ∧ k ≤ dx.tiers.length ∧ wr.heap[nx]? = some (.cells (drCells dx (.slice rt1 dx.tiers.length st) (.slice rp1 dx.places.length sp) (.slice rq1 dx.quotas.length sq) (.slice rb1 dx.barred.length sb)) 33 (0, 0)) ∧ (∃ xs, wr.ownsRow g8 50 2 (.slice rt1 dx.tiers.length st) dx.tiers.length xs) ∧ Only (fun _ => False) w8 wr) (fun iv _ => dx.tiers.length - (intOf iv).toNat)
      case atStart => exact ⟨0, rfl, Nat.zero_le _, HXR.out, ⟨_, HXT.out⟩, HX8.out⟩
      case round =>
       obtain ⟨k, rfl, hk, hrow, ⟨xs, hot⟩, hO⟩ := hrel
       have HR := Lib.hid hrow
       have HT := Lib.hid hot
       have HO := Lib.hid hO
       have c6 : wr.cell? ⟨nx, 6, none⟩ = some (.slice rt1 dx.tiers.length st) := cell_of_row _ _ 6 _ _ _ HR.out
       have cl : nx < wr.heap.size := (Array.getElem?_eq_some_iff.1 HR.out).1
       have j0 : 0 ≤ (k : Int) := by omega
       clear hrow hot hO
       by_cases hlt : k < dx.tiers.length
       ·have j1 : (k : Int) < dx.tiers.length := by omega
        obtain ⟨g, v0, v1, hg, y1, y2, y3, y4, y5, y6, y7⟩ := own_at2 HT.out hlt
        subst hg
        have HGE := Lib.hid (ownR_ge (g := g) HT.out rfl)
        have HNX := Lib.hid (show (Value.slice (some ⟨g, 0, none⟩) dx.tiers.length st).ownBlock ≠ some nx from ownR_blk HT.out HR.out (by decide))
        have HLT := Lib.hid hlt
        clear hlt hk
        go_wp2_with fail
        go_roundw
        case rel => exact ⟨k + 1, by go_num, HLT.out, row_set_other (row_set_other HR.out (fun e => HNX.out (by rw [e]; rfl))) (fun e => HNX.out (by rw [e]; rfl)), ⟨_, own_setG (own_setG HT.out)⟩, (HO.out.setCell (.inr (by have := HGE.out; have := HG8.out; show w8.heap.size ≤ g; omega)) _).setCell (.inr (by have := HGE.out; have := HG8.out; show w8.heap.size ≤ g; omega)) _⟩
        case measure => simp [intOf]; have := HLT.out; omega
       ·obtain rfl : k = dx.tiers.length := by omega
        have j1 : ¬ (dx.tiers.length : Int) < dx.tiers.length := by omega
        clear hlt hk
        go_wp2_with fail
        go_meet
        exact HO.out
     case rest =>
      have hO := hcut
      obtain ⟨w12, rfl⟩ : ∃ x, x = wc := ⟨_, rfl⟩
      have HOY0 := Lib.hid (HOY0.out.trans hO)
      have HR1 := Lib.hid (row_still hO HR1.out)
      have HR2 := Lib.hid (row_still hO HR2.out)
      have HM1 := Lib.hid (row_still hO HM1.out)
      have HM2 := Lib.hid (row_still hO HM2.out)
      have HD1 := Lib.hid (HD1.out.only hO (fun _ _ h => h))
      have HD2 := Lib.hid (HD2.out.only hO (fun _ _ h => h))
      have HE1 := Lib.hid (HE1.out.only hO)
      have HE2 := Lib.hid (HE2.out.only hO)
      clear hO hcut HX8 HXR HXT
      by_cases hr : rightZ d = true
      ·have hsw : s = writeB d := by rw [← HSE.out]; unfold printZ; rw [if_pos hr]
       have q1 : (s.toList == []) = false := some_toList (by rw [hsw]; exact write_pos d)
       have hh : (er, po, dx) = (0, 0, d) := HPZ.out.symm.trans (by rw [hsw]; exact parse_write (right_iff.1 hr))
       simp only [Prod.mk.injEq] at hh
       obtain ⟨rfl, rfl, rfl⟩ := hh
       clear hsw hr
       go_upto_region 20 with (fail)
       go_wp2_with fail
       refine (parse_any s w12 (by have := HSZ.out; omega) (HG.out.only HOY0.out).len).mono ?_
       rw [HPZ.out]
       rintro e w13 ⟨ut, up, uq, ub, rfl, hdx, hO⟩
       have hdx : DrOwn w12.heap.size w13 dx ut up uq ub := hdx
       obtain ⟨rt2, st2, rfl⟩ := slice_of_own hdx.tiers
       obtain ⟨rp2, sp2, rfl⟩ := slice_of_own hdx.places
       obtain ⟨rq2, sq2, rfl⟩ := slice_of_own hdx.quotas
       obtain ⟨rb2, sb2, rfl⟩ := slice_of_own hdx.bars
       have HU := Lib.hid hdx
       have HOY0 := Lib.hid (HOY0.out.trans hO)
       have HR1 := Lib.hid (row_still hO HR1.out)
       have HR2 := Lib.hid (row_still hO HR2.out)
       have HM1 := Lib.hid (row_still hO HM1.out)
       have HM2 := Lib.hid (row_still hO HM2.out)
       have HD1 := Lib.hid (HD1.out.only hO (fun _ _ h => h))
       have HD2 := Lib.hid (HD2.out.only hO (fun _ _ h => h))
       have HE1 := Lib.hid (HE1.out.only hO)
       have HE2 := Lib.hid (HE2.out.only hO)
       clear hO hdx
       go_upto_region 21 with (first | (refine wpList_store_row rfl 33 _ _ rfl w13.heap.size (drCells dx (.slice rt2 dx.tiers.length st2) (.slice rp2 dx.places.length sp2) (.slice rq2 dx.quotas.length sq2) (.slice rb2 dx.barred.length sb2)) rfl rfl 33 _ (heap_alloc_last w13 _) Tryz.infoDr rfl (cells_one _ _ _ _ _ _ _ _ _ _ _ _ _) ?_; rw [World.setRow_alloc_new]))
       have HYR := Lib.hid (heap_alloc_last w13 (.cells (drCells dx (.slice rt2 dx.tiers.length st2) (.slice rp2 dx.places.length sp2) (.slice rq2 dx.quotas.length sq2) (.slice rb2 dx.barred.length sb2)) 33))
       have hA := ((Only.refl (fun _ => False) w13).alloc (.cells (drCells dx (.slice rt2 dx.tiers.length st2) (.slice rp2 dx.places.length sp2) (.slice rq2 dx.quotas.length sq2) (.slice rb2 dx.barred.length sb2)) 33))
       generalize World.alloc w13 _ = w14 at *
       obtain ⟨ny, hny⟩ : ∃ n, w13.heap.size = n := ⟨_, rfl⟩
       rw [hny] at HYR ⊢
       have HOY0 := Lib.hid (HOY0.out.trans hA)
       have HR1 := Lib.hid (row_still hA HR1.out)
       have HR2 := Lib.hid (row_still hA HR2.out)
       have HM1 := Lib.hid (row_still hA HM1.out)
       have HM2 := Lib.hid (row_still hA HM2.out)
       have HD1 := Lib.hid (HD1.out.only hA (fun _ _ h => h))
       have HD2 := Lib.hid (HD2.out.only hA (fun _ _ h => h))
       have HE1 := Lib.hid (HE1.out.only hA)
       have HE2 := Lib.hid (HE2.out.only hA)
       have HU := Lib.hid (HU.out.only hA (fun _ _ h => h))
       clear hA hny
       have c0 : w14.cell? ⟨n1, 0, none⟩ = some (Value.string dx.name) := cell_of_row _ _ 0 _ _ _ HR1.out
       have c1 : w14.cell? ⟨n1, 1, none⟩ = some (Value.int .i64 dx.kind) := cell_of_row _ _ 1 _ _ _ HR1.out
       have c2 : w14.cell? ⟨n1, 2, none⟩ = some (Value.int .i64 dx.round) := cell_of_row _ _ 2 _ _ _ HR1.out
       have c3 : w14.cell? ⟨n1, 3, none⟩ = some (Value.int .i64 dx.price) := cell_of_row _ _ 3 _ _ _ HR1.out
       have c4 : w14.cell? ⟨n1, 4, none⟩ = some (Value.int .i64 dx.pool) := cell_of_row _ _ 4 _ _ _ HR1.out
       have c5 : w14.cell? ⟨n1, 5, none⟩ = some (Value.int .i64 dx.pick) := cell_of_row _ _ 5 _ _ _ HR1.out
       have c6 : w14.cell? ⟨n1, 6, none⟩ = some (Value.slice at1 dx.tiers.length ct) := cell_of_row _ _ 6 _ _ _ HR1.out
       have c7 : w14.cell? ⟨n1, 7, none⟩ = some (Value.bool dx.roll) := cell_of_row _ _ 7 _ _ _ HR1.out
       have c8 : w14.cell? ⟨n1, 8, none⟩ = some (Value.slice ap1 dx.places.length cp) := cell_of_row _ _ 8 _ _ _ HR1.out
       have c9 : w14.cell? ⟨n1, 9, none⟩ = some (Value.int .i64 dx.cls) := cell_of_row _ _ 9 _ _ _ HR1.out
       have c10 : w14.cell? ⟨n1, 10, none⟩ = some (Value.int .i64 dx.size) := cell_of_row _ _ 10 _ _ _ HR1.out
       have c11 : w14.cell? ⟨n1, 11, none⟩ = some (Value.slice aq1 dx.quotas.length cq) := cell_of_row _ _ 11 _ _ _ HR1.out
       have c12 : w14.cell? ⟨n1, 12, none⟩ = some (Value.slice ab1 dx.barred.length cb) := cell_of_row _ _ 12 _ _ _ HR1.out
       have cl : n1 < w14.heap.size := (Array.getElem?_eq_some_iff.1 HR1.out).1
       have e0 : w14.cell? ⟨ny, 0, none⟩ = some (Value.string dx.name) := cell_of_row _ _ 0 _ _ _ HYR.out
       have e1 : w14.cell? ⟨ny, 1, none⟩ = some (Value.int .i64 dx.kind) := cell_of_row _ _ 1 _ _ _ HYR.out
       have e2 : w14.cell? ⟨ny, 2, none⟩ = some (Value.int .i64 dx.round) := cell_of_row _ _ 2 _ _ _ HYR.out
       have e3 : w14.cell? ⟨ny, 3, none⟩ = some (Value.int .i64 dx.price) := cell_of_row _ _ 3 _ _ _ HYR.out
       have e4 : w14.cell? ⟨ny, 4, none⟩ = some (Value.int .i64 dx.pool) := cell_of_row _ _ 4 _ _ _ HYR.out
       have e5 : w14.cell? ⟨ny, 5, none⟩ = some (Value.int .i64 dx.pick) := cell_of_row _ _ 5 _ _ _ HYR.out
       have e6 : w14.cell? ⟨ny, 6, none⟩ = some (Value.slice rt2 dx.tiers.length st2) := cell_of_row _ _ 6 _ _ _ HYR.out
       have e7 : w14.cell? ⟨ny, 7, none⟩ = some (Value.bool dx.roll) := cell_of_row _ _ 7 _ _ _ HYR.out
       have e8 : w14.cell? ⟨ny, 8, none⟩ = some (Value.slice rp2 dx.places.length sp2) := cell_of_row _ _ 8 _ _ _ HYR.out
       have e9 : w14.cell? ⟨ny, 9, none⟩ = some (Value.int .i64 dx.cls) := cell_of_row _ _ 9 _ _ _ HYR.out
       have e10 : w14.cell? ⟨ny, 10, none⟩ = some (Value.int .i64 dx.size) := cell_of_row _ _ 10 _ _ _ HYR.out
       have e11 : w14.cell? ⟨ny, 11, none⟩ = some (Value.slice rq2 dx.quotas.length sq2) := cell_of_row _ _ 11 _ _ _ HYR.out
       have e12 : w14.cell? ⟨ny, 12, none⟩ = some (Value.slice rb2 dx.barred.length sb2) := cell_of_row _ _ 12 _ _ _ HYR.out
       have el : ny < w14.heap.size := (Array.getElem?_eq_some_iff.1 HYR.out).1
       go_wp2_with fail
       refine (requal_any dx dx _ _ _ _ _ _ _ _ true w12.heap.size g1 w14 HU.out HD1.out HDB.out HDB.out (by simp)).mono ?_
       rintro e w15 ⟨rfl, hO⟩
       have HOZ := Lib.hid (HOY0.out.trans hO)
       clear hO c0 c1 c2 c3 c4 c5 c6 c7 c8 c9 c10 c11 c12 cl e0 e1 e2 e3 e4 e5 e6 e7 e8 e9 e10 e11 e12 el
       go_wp2_with fail
       go_ret
       exact ⟨rfl, HOZ.out.below (Nat.le_refl _) (fun _ _ h => h)⟩
      ·have hsw : s = ByteArray.empty := by rw [← HSE.out]; unfold printZ; rw [if_neg hr]
       have q1 : (s.toList == []) = true := by rw [hsw]; exact emp_toList
       clear hsw hr
       go_upto_region 20 with (fail)
       go_wp2_with fail
       refine (parse_any s w12 (by have := HSZ.out; omega) (HG.out.only HOY0.out).len).mono ?_
       rw [HPZ.out]
       rintro e w13 ⟨ut, up, uq, ub, rfl, hdx, hO⟩
       have hdx : DrOwn w12.heap.size w13 dx ut up uq ub := hdx
       obtain ⟨rt2, st2, rfl⟩ := slice_of_own hdx.tiers
       obtain ⟨rp2, sp2, rfl⟩ := slice_of_own hdx.places
       obtain ⟨rq2, sq2, rfl⟩ := slice_of_own hdx.quotas
       obtain ⟨rb2, sb2, rfl⟩ := slice_of_own hdx.bars
       have HOZ := Lib.hid (HOY0.out.trans hO)
       clear hO hdx
       go_upto_region 21 with (first | (refine wpList_store_row rfl 33 _ _ rfl w13.heap.size (drCells dx (.slice rt2 dx.tiers.length st2) (.slice rp2 dx.places.length sp2) (.slice rq2 dx.quotas.length sq2) (.slice rb2 dx.barred.length sb2)) rfl rfl 33 _ (heap_alloc_last w13 _) Tryz.infoDr rfl (cells_one _ _ _ _ _ _ _ _ _ _ _ _ _) ?_; rw [World.setRow_alloc_new]))
       have HOZ := Lib.hid (HOZ.out.alloc (.cells (drCells dx (.slice rt2 dx.tiers.length st2) (.slice rp2 dx.places.length sp2) (.slice rq2 dx.quotas.length sq2) (.slice rb2 dx.barred.length sb2)) 33))
       generalize World.alloc w13 _ = w14 at *
       go_wp2_with fail
       go_ret
       exact ⟨rfl, HOZ.out.below (Nat.le_refl _) (fun _ _ h => h)⟩
end Go.Proofs.YteikkpiginfbkaaGreatDoor
