/-
  The walk of counting.
-/
import Derived.Test.YtalclldccnichaaGreatCount
import Derived.Deep.DeepCutAuto
namespace Go.Proofs.YtalclldccnichaaGreat
open Go.RowKit

/-- Shares in a slice. -/
def ShsAt (W : World) (sv : Value) (l : List (Int × Int)) : Prop :=
  (∃ a c, sv = .slice a 0 c ∧ l = []) ∨ ∃ b off cap, sv = .slice (some ⟨b, off, none⟩) l.length cap ∧ b < W.heap.size ∧ l.length ≤ cap ∧ cap ≤ 9223372036854775807 ∧
    ∀ j, j < l.length → W.cell? ⟨b, off + j * 2, none⟩ = some (.int .i64 (shAt l j).1) ∧ W.cell? ⟨b, off + j * 2 + 1, none⟩ = some (.int .i64 (shAt l j).2)

set_option maxRecDepth 100000 in
set_option maxHeartbeats 4000000 in
theorem counting_some (pf : Nat) (per : Int → Bool) (hper : ∀ (y : Int) (bb : Bool) (w : World), per y = bb → Calls Tryz.prog pf #[.int .i64 y] w fun e w' => e = .returned (.bool bb) ∧ Only (fun _ => False) w w')
    (hent : ∀ (v : Value) (w : World), (callFunc pf #[v]).run Tryz.prog w = .ok (.enter pf #[v]) w) (need : Int) (b off cap : Nat) (l : List (Int × Int)) (w : World) (hw : ShsW l) (hlen : l.length ≤ 1000000) (hneed : 1 ≤ need) (hneed2 : need ≤ 1000000)
    (hc : ∀ j, j < l.length → w.cell? ⟨b, off + j * 2, none⟩ = some (.int .i64 (shAt l j).1) ∧ w.cell? ⟨b, off + j * 2 + 1, none⟩ = some (.int .i64 (shAt l j).2)) (hb : b < w.heap.size) :
    Calls Tryz.prog 61 #[.int .i64 need, .slice (some ⟨b, off, none⟩) l.length cap, .func (.func pf) #[] #[]] w (CountPost w per l need) := by
  have hmm := @run_makeMap Tryz.prog
  have HP := Lib.hid hper
  have HC := Lib.hid hc
  have HW := Lib.hid hw
  clear hc hw hper
  go_enter Tryz.func61, Tryz.ntmps61
  go_wp2_with fail
  have HS0 := Lib.hid (set_new (w.alloc (.map #[] 0)) w.heap.size (heap_alloc_new w _))
  have HO0 := Lib.hid ((Only.refl (fun _ => False) w).alloc (.map #[] 0))
  clear hmm
  go_loopw [6, 7, 17] (fun vp vq vi wr => ∃ k : Nat, vi = .int .i64 k ∧ k ≤ l.length ∧ (cntTo per l k).1.length < need ∧ Counting w wr (w.heap.size + 1) w.heap.size vp vq (cntTo per l k)) (fun _ _ vi _ => l.length - (intOf vi).toNat)
  case atStart => exact ⟨0, rfl, Nat.zero_le _, by simp [cntTo]; omega, ⟨World.ownsRow_nil _ _ _ _, World.ownsRow_nil _ _ _ _, HS0.out, fun k e => by simp [Value.ownBlock] at e, fun k e => by simp [Value.ownBlock] at e, HO0.out⟩⟩
  case round =>
    clear HS0 HO0
    obtain ⟨k, rfl, hk, hlt0, hC⟩ := hrel
    by_cases hlt : k < l.length
    · obtain ⟨e0, e1⟩ := HC.out k hlt
      have d0 := hC.only.cell e0 (fun h => h)
      have d1 := hC.only.cell e1 (fun h => h)
      have hwk := HW.out.wf k
      have HST := Lib.hid (show cntTo per l (k + 1) = (if inTo (cntTo per l k).1 (cntTo per l k).1.length (shAt l k).1 || !ptB (shAt l k).1 || !per (shAt l k).2 then cntTo per l k else ((cntTo per l k).1 ++ [(shAt l k).1], (cntTo per l k).2 ++ [(shAt l k).2])) from rfl)
      have hcl := (cntTo_len per l k).2
      have HCL := Lib.hid (cntTo_len per l k).1
      have HPRE := Lib.hid (cntTo_pre per l (k + 1) l.length (by omega))
      have HFL := Lib.hid (show (cntTo per l (k + 1)).1.length ≤ (cntTo per l l.length).1.length by
        have := congrArg List.length (cntTo_pre per l (k + 1) l.length (by omega)).1
        simp only [List.length_take] at this; omega)
      generalize cntTo per l k = pq at *
      obtain ⟨ps, qs⟩ := pq
      generalize shAt l k = s at *
      obtain ⟨x, y⟩ := s
      dsimp only at d0 d1 hwk hlt0 hcl
      obtain ⟨⟨w1, w2⟩, ⟨w3, w4⟩⟩ := hwk
      have hl := fun (o : Obj) => (hC.set.frame ((Only.refl (fun _ => False) wr).alloc o) (fun h => h)).look x (WalkArith.wf_i64 (by omega))
      have hsz := hC.only.size
      have hbl : b < wr.heap.size := by omega
      have hmb := hC.set.lt
      have HCC := Lib.hid hC
      clear hC e0 e1
      dsimp only at hl
      obtain ⟨a6, c6, rfl⟩ := slice_of_own HCC.out.pts
      obtain ⟨a7, c7, rfl⟩ := slice_of_own HCC.out.num
      cases hi : inTo ps ps.length x
      · cases hp : ptB x
        · have HN := Lib.hid (show cntTo per l (k + 1) = (ps, qs) by rw [HST.out, hi, hp]; rfl)
          rw [hi] at hl
          clear hi
          go_wp2_with fail
          refine (point_is x false _ hp).mono ?_
          rintro e w' ⟨rfl, rfl⟩
          go_wp2
          go_roundw
          case rel => exact ⟨k + 1, by go_num, by omega, by rw [HN.out]; exact hlt0, by rw [HN.out]; exact HCC.out.frame ((Only.refl _ _).alloc _)⟩
          case measure => simp [intOf]; omega
        · cases hpe : per y
          · have HN := Lib.hid (show cntTo per l (k + 1) = (ps, qs) by rw [HST.out, hi, hp, hpe]; rfl)
            rw [hi] at hl
            clear hi
            go_wp2_with fail
            refine (point_is x true _ hp).mono ?_
            rintro e w' ⟨rfl, rfl⟩
            go_wp2_with fail
            refine (HP.out y false _ hpe).mono ?_
            rintro e w5 ⟨rfl, hO5⟩
            have HO6 := Lib.hid (show Only (fun _ => False) wr w5 from ((Only.refl _ wr).alloc _).trans hO5)
            clear hO5
            go_wp2
            go_roundw
            case rel => exact ⟨k + 1, by go_num, by omega, by rw [HN.out]; exact hlt0, by rw [HN.out]; exact HCC.out.frame HO6.out⟩
            case measure => simp [intOf]; omega
          · have HN := Lib.hid (show cntTo per l (k + 1) = (ps ++ [x], qs ++ [y]) by rw [HST.out, hi, hp, hpe]; rfl)
            rw [hi] at hl
            clear hi
            go_wp2_with fail
            refine (point_is x true _ hp).mono ?_
            rintro e w' ⟨rfl, rfl⟩
            go_wp2_with fail
            refine (HP.out y true _ hpe).mono ?_
            rintro e w5 ⟨rfl, hO5⟩
            have hO6 : Only (fun _ => False) wr w5 := ((Only.refl _ wr).alloc _).trans hO5
            have hblk : w5.heap[wr.heap.size]? = some (.cells #[.int .i64 x, .int .i64 y] 53 (0, 0)) := by
              rw [hO5.block wr.heap.size (by simp) (fun h => h)]; exact heap_alloc_new wr _
            have s0 := cell_of_row w5 wr.heap.size 0 _ 53 (0, 0) hblk
            have s1 := cell_of_row w5 wr.heap.size 1 _ 53 (0, 0) hblk
            simp at s0 s1
            have hz5 := (Array.getElem?_eq_some_iff.1 hblk).1
            obtain ⟨wn, hrun, hS2, hO7⟩ := (HCC.out.set.frame hO6 (fun h => h)).add (by unfold maxLen; dsimp only; omega) x (WalkArith.wf_i64 (by omega))
            dsimp only at hrun hS2
            have hblk2 : wn.heap[wr.heap.size]? = some (.cells #[.int .i64 x, .int .i64 y] 53 (0, 0)) := by
              rw [hO7.block wr.heap.size hz5 (by omega)]; exact hblk
            have hC6 := HCC.out.frame hO6
            have HM := Lib.hid (show Mid w wn (w.heap.size + 1) w.heap.size wr.heap.size (ps.length + 1) (fun z => z == x || inTo ps ps.length z) x y (.slice a6 ps.length c6) (.slice a7 qs.length c7) ps qs from
              ⟨hO7.owns hC6.pts (fun k hk e => (hC6.ne k hk).2 e), hO7.owns hC6.num (fun k hk e => hC6.nq k hk e), hS2, fun k hk => (hC6.ne k hk).1, fun k hk => ⟨(hC6.ne k hk).2, by have := (own_lt HCC.out.pts hk).1; omega⟩, fun k hk => ⟨hC6.nq k hk, by have := (own_lt HCC.out.num hk).1; omega⟩, hblk2,
               hC6.only.trans' hO7 (fun i hi e => by omega), by omega⟩)
            have hql : qs.length ≤ 1000000 := by have := HCL.out; omega
            clear hblk hblk2 hS2 hO5 hO6 hO7 hC6
            go_wp2_with fail
            obtain ⟨i0, hi0, hz0, hz1, hz2⟩ := info_parts Tryz.infoI
            go_cut [6, 7] (fun v6 v7 wx => Counting w wx (w.heap.size + 1) w.heap.size v6 v7 (ps ++ [x], qs ++ [y]))
            case first =>
              refine wp_region_held (S := fun w' => w'.cell? ⟨wr.heap.size, 0, none⟩ = some (.int .i64 x) ∧ w'.cell? ⟨wr.heap.size, 1, none⟩ = some (.int .i64 y)) (by kernel_rfl) ?_
              change wpAnyH _ _ _ _ _ _ _ _ wn.drew
              have m0 := HM.out.drew
              generalize wn.drew = wd at *
              have hHeld := m0.cells
              refine' wpAnyH_take (i := 0) (v := _) rfl (by kernel_rfl) (by kernel_rfl) (by kernel_rfl) (fun _ _ _ h => h) (Or.inl ⟨by rfl, ?hy0⟩) hHeld ?r0
              case hy0 => (intro w hSw; obtain ⟨s0, s1⟩ := hSw; go_simp; with_reducible rfl)
              simp only [Act.put, List.getElem_toArray, List.getElem_cons_zero, List.setIfInBounds_toArray, List.set_cons_zero, List.set_cons_succ]
              refine' wpAnyH_take (i := 1) (v := _) rfl (by kernel_rfl) (by kernel_rfl) (by kernel_rfl) (fun _ _ _ h => h) (Or.inl ⟨by rfl, ?hy1⟩) hHeld ?r1
              case hy1 => (intro w hSw; obtain ⟨s0, s1⟩ := hSw; go_simp; with_reducible rfl)
              simp only [Act.put, List.getElem_toArray, List.getElem_cons_zero, List.getElem_cons_succ, List.setIfInBounds_toArray, List.set_cons_zero, List.set_cons_succ]
              refine' wpAnyH_take (i := 2) (v := _) rfl (by kernel_rfl) (by kernel_rfl) (by kernel_rfl) (fun _ _ _ h => h) (Or.inl ⟨by rfl, ?hy2⟩) hHeld ?r2
              case hy2 => (intro w hSw; obtain ⟨s0, s1⟩ := hSw; go_simp; with_reducible rfl)
              simp only [Act.put, List.getElem_toArray, List.getElem_cons_zero, List.getElem_cons_succ, List.setIfInBounds_toArray, List.set_cons_zero, List.set_cons_succ]
              refine' wpAnyH_take (i := 5) (v := _) rfl (by kernel_rfl) (by kernel_rfl) (by kernel_rfl) (fun _ _ _ h => h) (Or.inl ⟨by rfl, ?hy5⟩) hHeld ?r5
              case hy5 => (intro w hSw; obtain ⟨s0, s1⟩ := hSw; go_simp; with_reducible rfl)
              simp only [Act.put, List.getElem_toArray, List.getElem_cons_zero, List.getElem_cons_succ, List.setIfInBounds_toArray, List.set_cons_zero, List.set_cons_succ]
              refine' wpAnyH_take (i := 6) (v := _) rfl (by kernel_rfl) (by kernel_rfl) (by kernel_rfl) (fun _ _ _ h => h) (Or.inl ⟨by rfl, ?hy6⟩) hHeld ?r6
              case hy6 => (intro w hSw; obtain ⟨s0, s1⟩ := hSw; go_simp; with_reducible rfl)
              simp only [Act.put, List.getElem_toArray, List.getElem_cons_zero, List.getElem_cons_succ, List.setIfInBounds_toArray, List.set_cons_zero, List.set_cons_succ]
              refine' wpAnyH_take (i := 7) (v := _) rfl (by kernel_rfl) (by kernel_rfl) (by kernel_rfl) (fun _ _ _ h => h) (Or.inl ⟨by rfl, ?hy7⟩) hHeld ?r7
              case hy7 => (intro w hSw; obtain ⟨s0, s1⟩ := hSw; go_simp; with_reducible rfl)
              simp only [Act.put, List.getElem_toArray, List.getElem_cons_zero, List.getElem_cons_succ, List.setIfInBounds_toArray, List.set_cons_zero, List.set_cons_succ]
              refine wpAnyH_ready (rs := [3, 8]) (by kernel_rfl) (by simp) ?_
              refine AllReadyH.cons rfl (fun K hK => ?_) (AllReadyH.cons rfl (fun K hK => ?_) AllReadyH.nil)
              · go_simp
                have m1 := m0.alloc (.cells #[.int .i64 x] 3)
                have t1 := Tmp.new m0 x
                refine hK.out _ _ m1.cells (fun hHeld => ?_)
                clear hK K
                try simp only [Act.put, List.getElem_toArray, List.getElem_cons_zero, List.getElem_cons_succ, List.setIfInBounds_toArray, List.set_cons_zero, List.set_cons_succ]
                refine wpAnyH_ready (rs := [4, 8]) (by kernel_rfl) (by simp) ?_
                refine AllReadyH.cons rfl (fun K hK => ?_) (AllReadyH.cons rfl (fun K hK => ?_) AllReadyH.nil)
                · refine step_append_lies _ rfl _ _ 22 rfl (w.heap.size + 1) 3 i0 _ 1 8 Tryz.underlying22 hi0 hz0 hz1 hz2 rfl (by decide) (.slice a6 ps.length c6) ps.length (irow ps) rfl m1.pts ⟨wd.heap.size, 0, none⟩ 1 1 [.int .i64 x] rfl rfl t1.news (one_int _) (by decide) (by unfold maxLen; omega) (by omega) (by have := m1.only.size; have := m1.set.lt; omega) _ rfl ?_
                  intro gz2 cz2 w2n ho2 hg2 ha2 hl2
                  have m2 := m1.left ho2 hg2 ha2
                  refine hK.out _ _ m2.cells (fun hHeld => ?_)
                  clear hK K
                  try simp only [Act.put, List.getElem_toArray, List.getElem_cons_zero, List.getElem_cons_succ, List.setIfInBounds_toArray, List.set_cons_zero, List.set_cons_succ]
                  refine wpAnyH_ready (rs := [8]) (by kernel_rfl) (by simp) ?_
                  refine AllReadyH.cons rfl (fun K hK => ?_) AllReadyH.nil
                  go_simp
                  have m3 := m2.alloc (.cells #[.int .i64 y] 3)
                  have t3o := t1.alloc (.cells #[.int .i64 y] 3)
                  have t3 := Tmp.new m2 y
                  refine hK.out _ _ m3.cells (fun hHeld => ?_)
                  clear hK K
                  try simp only [Act.put, List.getElem_toArray, List.getElem_cons_zero, List.getElem_cons_succ, List.setIfInBounds_toArray, List.set_cons_zero, List.set_cons_succ]
                  refine wpAnyH_ready (rs := [9]) (by kernel_rfl) (by simp) ?_
                  refine AllReadyH.cons rfl (fun K hK => ?_) AllReadyH.nil
                  refine step_append_lies _ rfl _ _ 22 rfl (w.heap.size + 1) 3 i0 _ 1 8 Tryz.underlying22 hi0 hz0 hz1 hz2 rfl (by decide) (.slice a7 qs.length c7) qs.length (irow qs) rfl m3.num ⟨w2n.heap.size, 0, none⟩ 1 1 [.int .i64 y] rfl rfl t3.news (one_int _) (by decide) (by unfold maxLen; omega) (by omega) (by have := m3.only.size; have := m3.set.lt; omega) _ rfl ?_
                  intro gz4 cz4 w4n ho4 hg4 ha4 hl4
                  have m4 := m3.right ho4 hg4 ha4
                  refine hK.out _ _ m4.cells (fun hHeld => ?_)
                  clear hK K
                  try simp only [Act.put, List.getElem_toArray, List.getElem_cons_zero, List.getElem_cons_succ, List.setIfInBounds_toArray, List.set_cons_zero, List.set_cons_succ]
                  refine' wpAnyH_take (i := 10) (v := _) rfl (by kernel_rfl) (by kernel_rfl) (by kernel_rfl) (fun _ _ _ h => h) (Or.inl ⟨by rfl, ?hy10o5⟩) hHeld ?r10o5
                  case hy10o5 => (intro w hSw; obtain ⟨s0, s1⟩ := hSw; go_simp; with_reducible rfl)
                  simp only [Act.put, List.getElem_toArray, List.getElem_cons_zero, List.getElem_cons_succ, List.setIfInBounds_toArray, List.set_cons_zero, List.set_cons_succ]
                  refine' wpAnyH_take (i := 11) (v := _) rfl (by kernel_rfl) (by kernel_rfl) (by kernel_rfl) (fun _ _ _ h => h) (Or.inl ⟨by rfl, ?hy11o5⟩) hHeld ?r11o5
                  case hy11o5 => (intro w hSw; obtain ⟨s0, s1⟩ := hSw; go_simp; with_reducible rfl)
                  simp only [Act.put, List.getElem_toArray, List.getElem_cons_zero, List.getElem_cons_succ, List.setIfInBounds_toArray, List.set_cons_zero, List.set_cons_succ]
                  refine wpAnyH_done (by kernel_rfl) ?_ _
                  try simp only [Act.put, List.getElem_toArray, List.getElem_cons_zero, List.getElem_cons_succ, List.setIfInBounds_toArray, List.set_cons_zero, List.set_cons_succ, List.drop_succ_cons, List.drop_zero]
                  have HCO := Lib.hid (m4.counting rfl)
                  clear hHeld
                  go_wp2_with fail
                  go_meet
                  exact HCO.out
                · go_simp
                  have m6 := m1.alloc (.cells #[.int .i64 y] 3)
                  have t6o := t1.alloc (.cells #[.int .i64 y] 3)
                  have t6 := Tmp.new m1 y
                  simp only [World.size_alloc] at t6
                  refine hK.out _ _ m6.cells (fun hHeld => ?_)
                  clear hK K
                  try simp only [Act.put, List.getElem_toArray, List.getElem_cons_zero, List.getElem_cons_succ, List.setIfInBounds_toArray, List.set_cons_zero, List.set_cons_succ]
                  refine wpAnyH_ready (rs := [4]) (by kernel_rfl) (by simp) ?_
                  refine AllReadyH.cons rfl (fun K hK => ?_) AllReadyH.nil
                  refine step_append_lies _ rfl _ _ 22 rfl (w.heap.size + 1) 3 i0 _ 1 8 Tryz.underlying22 hi0 hz0 hz1 hz2 rfl (by decide) (.slice a6 ps.length c6) ps.length (irow ps) rfl m6.pts ⟨wd.heap.size, 0, none⟩ 1 1 [.int .i64 x] rfl rfl t6o.news (one_int _) (by decide) (by unfold maxLen; omega) (by omega) (by have := m6.only.size; have := m6.set.lt; omega) _ rfl ?_
                  intro gz7 cz7 w7n ho7 hg7 ha7 hl7
                  have m7 := m6.left ho7 hg7 ha7
                  have t7o := t6.left (m := ps.length + 1) (cap := cz7) hg7 ha7
                  refine hK.out _ _ m7.cells (fun hHeld => ?_)
                  clear hK K
                  try simp only [Act.put, List.getElem_toArray, List.getElem_cons_zero, List.getElem_cons_succ, List.setIfInBounds_toArray, List.set_cons_zero, List.set_cons_succ]
                  refine wpAnyH_ready (rs := [9]) (by kernel_rfl) (by simp) ?_
                  refine AllReadyH.cons rfl (fun K hK => ?_) AllReadyH.nil
                  refine step_append_lies _ rfl _ _ 22 rfl (w.heap.size + 1) 3 i0 _ 1 8 Tryz.underlying22 hi0 hz0 hz1 hz2 rfl (by decide) (.slice a7 qs.length c7) qs.length (irow qs) rfl m7.num ⟨wd.heap.size + 1, 0, none⟩ 1 1 [.int .i64 y] rfl rfl t7o.news (one_int _) (by decide) (by unfold maxLen; omega) (by omega) (by have := m7.only.size; have := m7.set.lt; omega) _ rfl ?_
                  intro gz8 cz8 w8n ho8 hg8 ha8 hl8
                  have m8 := m7.right ho8 hg8 ha8
                  refine hK.out _ _ m8.cells (fun hHeld => ?_)
                  clear hK K
                  try simp only [Act.put, List.getElem_toArray, List.getElem_cons_zero, List.getElem_cons_succ, List.setIfInBounds_toArray, List.set_cons_zero, List.set_cons_succ]
                  refine' wpAnyH_take (i := 10) (v := _) rfl (by kernel_rfl) (by kernel_rfl) (by kernel_rfl) (fun _ _ _ h => h) (Or.inl ⟨by rfl, ?hy10o9⟩) hHeld ?r10o9
                  case hy10o9 => (intro w hSw; obtain ⟨s0, s1⟩ := hSw; go_simp; with_reducible rfl)
                  simp only [Act.put, List.getElem_toArray, List.getElem_cons_zero, List.getElem_cons_succ, List.setIfInBounds_toArray, List.set_cons_zero, List.set_cons_succ]
                  refine' wpAnyH_take (i := 11) (v := _) rfl (by kernel_rfl) (by kernel_rfl) (by kernel_rfl) (fun _ _ _ h => h) (Or.inl ⟨by rfl, ?hy11o9⟩) hHeld ?r11o9
                  case hy11o9 => (intro w hSw; obtain ⟨s0, s1⟩ := hSw; go_simp; with_reducible rfl)
                  simp only [Act.put, List.getElem_toArray, List.getElem_cons_zero, List.getElem_cons_succ, List.setIfInBounds_toArray, List.set_cons_zero, List.set_cons_succ]
                  refine wpAnyH_done (by kernel_rfl) ?_ _
                  try simp only [Act.put, List.getElem_toArray, List.getElem_cons_zero, List.getElem_cons_succ, List.setIfInBounds_toArray, List.set_cons_zero, List.set_cons_succ, List.drop_succ_cons, List.drop_zero]
                  have HCO := Lib.hid (m8.counting rfl)
                  clear hHeld
                  go_wp2_with fail
                  go_meet
                  exact HCO.out
              · go_simp
                have m10 := m0.alloc (.cells #[.int .i64 y] 3)
                have t10 := Tmp.new m0 y
                refine hK.out _ _ m10.cells (fun hHeld => ?_)
                clear hK K
                try simp only [Act.put, List.getElem_toArray, List.getElem_cons_zero, List.getElem_cons_succ, List.setIfInBounds_toArray, List.set_cons_zero, List.set_cons_succ]
                refine wpAnyH_ready (rs := [3]) (by kernel_rfl) (by simp) ?_
                refine AllReadyH.cons rfl (fun K hK => ?_) AllReadyH.nil
                go_simp
                have m11 := m10.alloc (.cells #[.int .i64 x] 3)
                have t11o := t10.alloc (.cells #[.int .i64 x] 3)
                have t11 := Tmp.new m10 x
                simp only [World.size_alloc] at t11
                refine hK.out _ _ m11.cells (fun hHeld => ?_)
                clear hK K
                try simp only [Act.put, List.getElem_toArray, List.getElem_cons_zero, List.getElem_cons_succ, List.setIfInBounds_toArray, List.set_cons_zero, List.set_cons_succ]
                refine wpAnyH_ready (rs := [4]) (by kernel_rfl) (by simp) ?_
                refine AllReadyH.cons rfl (fun K hK => ?_) AllReadyH.nil
                refine step_append_lies _ rfl _ _ 22 rfl (w.heap.size + 1) 3 i0 _ 1 8 Tryz.underlying22 hi0 hz0 hz1 hz2 rfl (by decide) (.slice a6 ps.length c6) ps.length (irow ps) rfl m11.pts ⟨wd.heap.size + 1, 0, none⟩ 1 1 [.int .i64 x] rfl rfl t11.news (one_int _) (by decide) (by unfold maxLen; omega) (by omega) (by have := m11.only.size; have := m11.set.lt; omega) _ rfl ?_
                intro gz12 cz12 w12n ho12 hg12 ha12 hl12
                have m12 := m11.left ho12 hg12 ha12
                have t12o := t11o.left (m := ps.length + 1) (cap := cz12) hg12 ha12
                refine hK.out _ _ m12.cells (fun hHeld => ?_)
                clear hK K
                try simp only [Act.put, List.getElem_toArray, List.getElem_cons_zero, List.getElem_cons_succ, List.setIfInBounds_toArray, List.set_cons_zero, List.set_cons_succ]
                refine wpAnyH_ready (rs := [9]) (by kernel_rfl) (by simp) ?_
                refine AllReadyH.cons rfl (fun K hK => ?_) AllReadyH.nil
                refine step_append_lies _ rfl _ _ 22 rfl (w.heap.size + 1) 3 i0 _ 1 8 Tryz.underlying22 hi0 hz0 hz1 hz2 rfl (by decide) (.slice a7 qs.length c7) qs.length (irow qs) rfl m12.num ⟨wd.heap.size, 0, none⟩ 1 1 [.int .i64 y] rfl rfl t12o.news (one_int _) (by decide) (by unfold maxLen; omega) (by omega) (by have := m12.only.size; have := m12.set.lt; omega) _ rfl ?_
                intro gz13 cz13 w13n ho13 hg13 ha13 hl13
                have m13 := m12.right ho13 hg13 ha13
                refine hK.out _ _ m13.cells (fun hHeld => ?_)
                clear hK K
                try simp only [Act.put, List.getElem_toArray, List.getElem_cons_zero, List.getElem_cons_succ, List.setIfInBounds_toArray, List.set_cons_zero, List.set_cons_succ]
                refine' wpAnyH_take (i := 10) (v := _) rfl (by kernel_rfl) (by kernel_rfl) (by kernel_rfl) (fun _ _ _ h => h) (Or.inl ⟨by rfl, ?hy10o14⟩) hHeld ?r10o14
                case hy10o14 => (intro w hSw; obtain ⟨s0, s1⟩ := hSw; go_simp; with_reducible rfl)
                simp only [Act.put, List.getElem_toArray, List.getElem_cons_zero, List.getElem_cons_succ, List.setIfInBounds_toArray, List.set_cons_zero, List.set_cons_succ]
                refine' wpAnyH_take (i := 11) (v := _) rfl (by kernel_rfl) (by kernel_rfl) (by kernel_rfl) (fun _ _ _ h => h) (Or.inl ⟨by rfl, ?hy11o14⟩) hHeld ?r11o14
                case hy11o14 => (intro w hSw; obtain ⟨s0, s1⟩ := hSw; go_simp; with_reducible rfl)
                simp only [Act.put, List.getElem_toArray, List.getElem_cons_zero, List.getElem_cons_succ, List.setIfInBounds_toArray, List.set_cons_zero, List.set_cons_succ]
                refine wpAnyH_done (by kernel_rfl) ?_ _
                try simp only [Act.put, List.getElem_toArray, List.getElem_cons_zero, List.getElem_cons_succ, List.setIfInBounds_toArray, List.set_cons_zero, List.set_cons_succ, List.drop_succ_cons, List.drop_zero]
                have HCO := Lib.hid (m13.counting rfl)
                clear hHeld
                go_wp2_with fail
                go_meet
                exact HCO.out
            case rest =>
              obtain ⟨a8, c8, rfl⟩ := slice_of_own hcut.pts
              obtain ⟨a9, c9, rfl⟩ := slice_of_own hcut.num
              have HCN := Lib.hid hcut
              have HV1 := Lib.hid (show PtsAt wc.heap.size wc (.slice a8 (ps.length + 1) c8) (ps ++ [x]) by
                have h := pts_of_own hcut.pts (by simp; omega)
                simp only [List.length_append, List.length_singleton] at h; exact h)
              have HV2 := Lib.hid (show PtsAt wc.heap.size wc (.slice a9 (qs.length + 1) c9) (qs ++ [y]) by
                have h := pts_of_own hcut.num (by simp; omega)
                simp only [List.length_append, List.length_singleton] at h; exact h)
              clear hcut
              by_cases hnd : (ps.length : Int) + 1 = need
              · have hbb : (((ps.length : Int) + 1) == need) = true := by simp; omega
                have hbc : (((ps.length + 1 : Nat) : Int) == need) = true := by simp; omega
                have HPP := HPRE.out
                rw [HN.out] at HPP
                have HPQ := Lib.hid HPP
                have HF2 := HFL.out
                rw [HN.out] at HF2
                have HF3 := Lib.hid HF2
                have HND := Lib.hid hnd
                clear HPP HF2 hnd
                go_wp2
                go_ret3
                refine ⟨HCN.out.only, .inl ⟨hneed, ?_, _, _, rfl, ?_, ?_⟩⟩
                · have h1 := HF3.out; have h2 := HND.out; simp at h1; omega
                · have h2 := HND.out
                  rw [show need.toNat = (ps ++ [x]).length by simp; omega, ← HPQ.out.1]
                  exact HV1.out
                · have h2 := HND.out
                  have h3 := HPQ.out.2
                  rw [show need.toNat = (ps ++ [x]).length by simp; omega, ← h3]
                  exact HV2.out
              · have hbb : (((ps.length : Int) + 1) == need) = false := by simp; omega
                have hbc : (((ps.length + 1 : Nat) : Int) == need) = false := by simp; omega
                have HND := Lib.hid hnd
                clear hnd
                go_wp2
                go_roundw
                case rel => exact ⟨k + 1, by go_num, by omega, by have := HND.out; rw [HN.out]; simp; omega, by rw [HN.out]; exact HCN.out⟩
                case measure => simp [intOf]; omega
      · have HN := Lib.hid (show cntTo per l (k + 1) = (ps, qs) by rw [HST.out, hi]; rfl)
        rw [hi] at hl
        clear hi
        go_wp2
        go_roundw
        case rel => exact ⟨k + 1, by go_num, by omega, by rw [HN.out]; exact hlt0, by rw [HN.out]; exact HCC.out.frame ((Only.refl _ _).alloc _)⟩
        case measure => simp [intOf]; omega
    · have HL := Lib.hid (show (cntTo per l l.length).1.length < need by rw [← show k = l.length by omega]; exact hlt0)
      have HO := Lib.hid hC.only
      clear hC hlt0
      go_wp2
      go_ret3
      exact ⟨HO.out, .inr ⟨.inr HL.out, rfl⟩⟩

theorem counting_low (pf : Nat) (per : Int → Bool) (need : Int) (a : Option Addr) (n cap : Nat) (l : List (Int × Int)) (w : World) (hneed : need < 1) :
    Calls Tryz.prog 61 #[.int .i64 need, .slice a n cap, .func (.func pf) #[] #[]] w (CountPost w per l need) := by
  go_enter Tryz.func61, Tryz.ntmps61
  go_wp2
  go_ret3
  exact ⟨Only.refl _ _, .inr ⟨.inl hneed, rfl⟩⟩

theorem counting_nil (pf : Nat) (per : Int → Bool) (need : Int) (a : Option Addr) (cap : Nat) (w : World) (hneed : 1 ≤ need) :
    Calls Tryz.prog 61 #[.int .i64 need, .slice a 0 cap, .func (.func pf) #[] #[]] w (CountPost w per [] need) := by
  have hmm := @run_makeMap Tryz.prog
  go_enter Tryz.func61, Tryz.ntmps61
  go_wp2_with fail
  have HO0 := Lib.hid ((Only.refl (fun _ => False) w).alloc (.map #[] 0))
  clear hmm
  go_loopw [17] (fun vi wr => vi = .int .i64 0 ∧ wr = w.alloc (.map #[] 0)) (fun _ _ => 0)
  case atStart => exact ⟨rfl, rfl⟩
  case round =>
    obtain ⟨rfl, rfl⟩ := hrel
    go_wp2
    go_ret3
    exact ⟨HO0.out, .inr ⟨.inr (by simp [cntTo]; omega), rfl⟩⟩

theorem counting_any (pf : Nat) (per : Int → Bool) (hper : ∀ (y : Int) (bb : Bool) (w : World), per y = bb → Calls Tryz.prog pf #[.int .i64 y] w fun e w' => e = .returned (.bool bb) ∧ Only (fun _ => False) w w')
    (hent : ∀ (v : Value) (w : World), (callFunc pf #[v]).run Tryz.prog w = .ok (.enter pf #[v]) w) (need : Int) (sv : Value) (l : List (Int × Int)) (w : World) (hw : ShsW l) (hlen : l.length ≤ 1000000) (hneed2 : need ≤ 1000000) (hs : ShsAt w sv l) :
    Calls Tryz.prog 61 #[.int .i64 need, sv, .func (.func pf) #[] #[]] w (CountPost w per l need) := by
  rcases hs with ⟨a, c, rfl, rfl⟩ | ⟨b, off, cap, rfl, hb, _, _, hc⟩
  · by_cases h : need < 1
    · exact counting_low pf per need a 0 c [] w h
    · exact counting_nil pf per need a c w (by omega)
  · by_cases h : need < 1
    · exact counting_low pf per need _ _ _ l w h
    · exact counting_some pf per hper hent need b off cap l w hw hlen (by omega) hneed2 hc hb
end Go.Proofs.YtalclldccnichaaGreat
