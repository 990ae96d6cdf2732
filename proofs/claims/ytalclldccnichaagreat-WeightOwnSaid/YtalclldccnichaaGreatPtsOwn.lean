/-
  Package weight: Points and Begin, with who owns their results.
-/
import Derived.Test.YtalclldccnichaaGreatWtD
namespace Go.Proofs.YtalclldccnichaaGreat
open Go.RowKit

theorem Build.gown {w wr : World} {g n : Nat} {vs : Nat → Value} {rows : List (List Int)} (h : Build w wr w.heap.size g n vs (fun j => rows.getD j [])) (hn : rows.length = n) (hm : n ≤ 1000000) :
    GridOwn w.heap.size wr (.slice (some ⟨g, 0, none⟩) n n) ((List.range n).map vs) rows := by
  have hat : ∀ j, j < n → ((List.range n).map vs).getD j undef = vs j := fun j hj => by simp [List.getD, hj]
  obtain ⟨c, hb, hs, hc⟩ := h.row
  refine ⟨?_, by simp [hn], fun j hj => ?_, fun b hb' j hj => ?_⟩
  · rw [List.length_map, List.length_range]
    refine ⟨by simp, .inr ⟨g, n, c, rfl, h.gl, hb, Nat.le_refl _, by unfold maxLen; omega, by omega, ?_⟩⟩
    refine List.ext_getElem? fun i => ?_
    by_cases hi : i < n
    · rw [List.getElem?_take_of_lt (by omega), Array.getElem?_toList, hc i hi]
      simp [hi]
    · rw [List.getElem?_eq_none (by simp; omega), List.getElem?_eq_none (by simp; omega)]
  · simp only [List.length_map, List.length_range] at hj
    rw [hat j hj]; exact h.own j hj
  · simp only [List.length_map, List.length_range] at hj
    rw [hat j hj]
    simp only [Value.ownBlock, Option.some.injEq] at hb'
    rw [← hb']; exact h.far j hj
set_option maxRecDepth 100000 in
set_option maxHeartbeats 4000000 in
theorem points_some_own (b off cap : Nat) (l : List Mb) (w : World) (hw : MbsW l) (hb : b < w.heap.size) (_hcap : l.length ≤ cap) (_hcap2 : cap ≤ 9223372036854775807)
    (hc : ∀ j, j < l.length → w.cell? ⟨b, off + j * 3, none⟩ = some (.int .i64 (mbAt l j).id) ∧ w.cell? ⟨b, off + j * 3 + 1, none⟩ = some (.int .i64 (mbAt l j).wt) ∧ w.cell? ⟨b, off + j * 3 + 2, none⟩ = some (.int .i64 (mbAt l j).pb)) :
    Calls Tryz.prog 28 #[.slice (some ⟨b, off, none⟩) l.length cap] w (RPtsPost w l) := by
  have hmm := @run_makeMap Tryz.prog
  obtain ⟨i0, hi0, hz0, hz1, hz2⟩ := info_parts Tryz.infoI
  obtain ⟨j0, hj0, hy0, hy1, hy2⟩ := info_parts Tryz.infoI2
  have HC := Lib.hid hc
  have HW := Lib.hid hw
  clear hc hw
  by_cases hl1 : 1 ≤ l.length
  · by_cases hl2 : l.length ≤ 13
    · have d1 : decide ((l.length : Int) < 1) = false := decide_eq_false (by omega)
      have d2 : decide ((13 : Int) < (l.length : Int)) = false := decide_eq_false (by omega)
      have HRB := Lib.hid (show rightB l = (mbOk l l.length && decide (sumTo l l.length ≤ 60)) by unfold rightB; rw [decide_eq_true hl1, decide_eq_true hl2]; rfl)
      go_enter Tryz.func28, Tryz.ntmps28
      go_wp2_with fail
      have HS0 := Lib.hid (set_new (w.alloc (.map #[] 0)) w.heap.size (heap_alloc_new w _))
      have HO0 := Lib.hid ((Only.refl (fun _ => False) w).alloc (.map #[] 0))
      clear hmm
      go_loopw [5, 23] (fun vs vi wr => ∃ k : Nat, vi = .int .i64 k ∧ vs = .int .i64 (sumTo l k) ∧ k ≤ l.length ∧ mbOk l k = true ∧ SetAt wr w.heap.size k (inTo (ids l) k) ∧ Only (fun _ => False) w wr) (fun _ vi _ => l.length - (intOf vi).toNat)
      case atStart => exact ⟨0, rfl, rfl, Nat.zero_le _, rfl, HS0.out, HO0.out⟩
      case round =>
        clear HS0 HO0
        obtain ⟨k, rfl, rfl, hk, hok, hS, hO⟩ := hrel
        have hsz := hO.size
        have hsm := (mbOk_wt l k hok).2 k (Nat.le_refl _)
        obtain ⟨s0, s1⟩ := hsm
        by_cases hlt : k < l.length
        · obtain ⟨e0, e1, e2⟩ := HC.out k hlt
          have c0 := hO.cell e0 (fun h => h)
          have c1 := hO.cell e1 (fun h => h)
          have c2 := hO.cell e2 (fun h => h)
          have HST := Lib.hid (show mbOk l (k + 1) = (mbOk l k && (!inTo (ids l) k (mbAt l k).id && (decide (1 ≤ (mbAt l k).wt) && decide ((mbAt l k).wt ≤ 20)))) from rfl)
          have HSU := Lib.hid (show sumTo l (k + 1) = sumTo l k + (mbAt l k).wt from rfl)
          have HIN := Lib.hid (fun z => show inTo (ids l) (k + 1) z = (z == (mbAt l k).id || inTo (ids l) k z) by rw [inTo, ptAt_ids])
          obtain ⟨⟨w1, w2⟩, ⟨w3, w4⟩⟩ := HW.out.wf k
          have hbl : b < wr.heap.size := by omega
          have hmb := hS.lt
          generalize mbAt l k = m at *
          obtain ⟨id, wt, pb⟩ := m
          dsimp only at c0 c1 c2 w1 w2 w3 w4
          generalize sumTo l k = s at *
          have hl := fun (o : Obj) => (hS.frame ((Only.refl (fun _ => False) wr).alloc o) (fun h => h)).look id (WalkArith.wf_i64 (by omega))
          have HS := Lib.hid hS
          have HO := Lib.hid hO
          have HOK := Lib.hid hok
          clear hS hO hok e0 e1 e2
          cases hin : inTo (ids l) k id
          · rw [hin] at hl
            have HI := Lib.hid hin
            clear hin
            by_cases h1 : 1 ≤ wt
            · have q1 : decide (wt < 1) = false := decide_eq_false (by omega)
              by_cases h2 : wt ≤ 20
              · have q2 : decide (20 < wt) = false := decide_eq_false (by omega)
                have hO1 : Only (fun _ => False) wr (wr.alloc (.cells #[.int .i64 id, .int .i64 wt, .int .i64 pb] 68)) := (Only.refl _ wr).alloc _
                have hblk : (wr.alloc (.cells #[.int .i64 id, .int .i64 wt, .int .i64 pb] 68)).heap[wr.heap.size]? = some (.cells #[.int .i64 id, .int .i64 wt, .int .i64 pb] 68 (0, 0)) := heap_alloc_new wr _
                obtain ⟨wn, hrun, hS2, hO7⟩ := (HS.out.frame hO1 (fun h => h)).add (by unfold maxLen; omega) id (WalkArith.wf_i64 (by omega))
                have hblk2 : wn.heap[wr.heap.size]? = some (.cells #[.int .i64 id, .int .i64 wt, .int .i64 pb] 68 (0, 0)) := by
                  rw [hO7.block wr.heap.size (by simp) (by omega)]; exact hblk
                have s1 := cell_of_row wn wr.heap.size 1 _ 68 (0, 0) hblk2
                simp at s1
                have hz5 := (Array.getElem?_eq_some_iff.1 hblk2).1
                have HSN := Lib.hid hS2
                have HON := Lib.hid ((HO.out.trans hO1).trans' hO7 (fun i hi e => by omega))
                have HOKN := Lib.hid (show mbOk l (k + 1) = true by rw [HST.out, HOK.out, HI.out, decide_eq_true h1, decide_eq_true h2]; rfl)
                clear hO1 hblk hS2 hO7 hblk2
                go_wp2
                go_roundw
                case rel => exact ⟨k + 1, by go_num, by rw [HSU.out], by omega, HOKN.out, by
                  have := HSN.out
                  have e : (fun z => z == id || inTo (ids l) k z) = inTo (ids l) (k + 1) := by funext z; rw [HIN.out]
                  rw [e] at this; exact this, HON.out⟩
                case measure => simp [intOf]; omega
              · have q2 : decide (20 < wt) = true := decide_eq_true (by omega)
                have HF := Lib.hid (show rightB l = false by
                  rw [HRB.out, mbOk_false l l.length (k + 1) (by omega) (by rw [HST.out, decide_eq_false h2]; simp)]; rfl)
                go_wp2
                go_ret2
                exact ⟨HO.out.alloc _, .inr ⟨HF.out, rfl⟩⟩
            · have q1 : decide (wt < 1) = true := decide_eq_true (by omega)
              have HF := Lib.hid (show rightB l = false by
                rw [HRB.out, mbOk_false l l.length (k + 1) (by omega) (by rw [HST.out, decide_eq_false h1]; simp)]; rfl)
              go_wp2
              go_ret2
              exact ⟨HO.out.alloc _, .inr ⟨HF.out, rfl⟩⟩
          · rw [hin] at hl
            have HF := Lib.hid (show rightB l = false by
              rw [HRB.out, mbOk_false l l.length (k + 1) (by omega) (by rw [HST.out, hin]; simp)]; rfl)
            clear hin
            go_wp2
            go_ret2
            exact ⟨HO.out.alloc _, .inr ⟨HF.out, rfl⟩⟩
        · obtain rfl : k = l.length := by omega
          have HO := Lib.hid hO
          have HWT := Lib.hid (mbOk_wt l l.length hok)
          by_cases h60 : sumTo l l.length ≤ 60
          · have q3 : decide (60 < sumTo l l.length) = false := decide_eq_false (by omega)
            have HR := Lib.hid (show rightB l = true by rw [HRB.out, hok, decide_eq_true h60]; rfl)
            have hmk := run_make_row (P := Tryz.prog) 26 22 j0 _ Tryz.underlying26 hj0 hy0 hy1 rfl .i64 .i64 l.length (by rw [hy2]; omega) (by omega) wr
            have HB0 := Lib.hid (show Build w (wr.alloc (.cells (madeCells #[.slice none 0 0] l.length) 22)) (w.heap.size) wr.heap.size l.length (fun _ => .slice none 0 0) (fun _ => []) from
              ⟨World.rowIs_made wr _ _ _, fun j _ => World.ownsRow_nil _ _ _ _, fun i j _ _ _ b hb => by simp [Value.ownBlock] at hb, fun j _ => by simp [Value.ownBlock], hO.alloc _, Nat.le_refl _, hsz⟩)
            clear hS hO hok
            go_wp2_with fail
            clear hmk
            have HB1 := Lib.hid (HB0.out.congr (rows' := rowsIn l 0 0) (fun j _ => by unfold rowsIn; rw [if_neg (by omega)]; split <;> rfl))
            clear HB0
            generalize wr.heap.size = G at *
            go_loopw [9, 56] (fun vn vi wq => ∃ (k : Nat) (vs : Nat → Value), vi = .int .i64 k ∧ vn = .int .i64 (sumTo l k + 1) ∧ k ≤ l.length ∧ Build w wq w.heap.size G l.length vs (rowsIn l k 0)) (fun _ vi _ => l.length - (intOf vi).toNat)
            case atStart => exact ⟨0, _, rfl, rfl, Nat.zero_le _, HB1.out⟩
            case round =>
              clear HB1
              obtain ⟨k, vs, rfl, rfl, hk, hB⟩ := hrel
              have hsz2 := hB.only.size
              by_cases hlt2 : k < l.length
              · obtain ⟨e0, e1, e2⟩ := HC.out k hlt2
                have c0 := hB.only.cell e0 (fun h => h)
                have c1 := hB.only.cell e1 (fun h => h)
                have c2 := hB.only.cell e2 (fun h => h)
                have hbl : b < wr.heap.size := by omega
                obtain ⟨hw1, hw2⟩ := HWT.out.1 k hlt2
                obtain ⟨hs1, hs2⟩ := HWT.out.2 k (by omega)
                have HSU := Lib.hid (show sumTo l (k + 1) = sumTo l k + (mbAt l k).wt from rfl)
                have HNX := Lib.hid (rowsIn_next l k)
                have HRA := Lib.hid (rowsIn_at l k)
                have HRS := Lib.hid (rowsIn_step l k)
                have HB2 := Lib.hid (hB.frame ((Only.refl (fun _ => False) wr).alloc (.cells #[.int .i64 (mbAt l k).id, .int .i64 (mbAt l k).wt, .int .i64 (mbAt l k).pb] 68)))
                clear hB e0 e1 e2
                generalize mbAt l k = m at *
                obtain ⟨id, wt, pb⟩ := m
                dsimp only at c0 c1 c2 hw1 hw2 HB2
                generalize sumTo l k = s at *
                obtain ⟨wn, rfl⟩ : ∃ wn : Nat, wt = wn := ⟨wt.toNat, by omega⟩
                dsimp only [Int.toNat_natCast] at HNX
                go_wp2_with fail
                go_loopw [9, 63] (fun vn vt wi => ∃ (t : Nat) (us : Nat → Value), vt = .int .i64 t ∧ vn = .int .i64 (s + t + 1) ∧ t ≤ wn ∧ Build w wi w.heap.size G l.length us (rowsIn l k t)) (fun _ vt _ => wn - (intOf vt).toNat)
                case atStart => exact ⟨0, vs, rfl, by simp, Nat.zero_le _, HB2.out⟩
                case round =>
                  clear HB2
                  obtain ⟨t, us, rfl, rfl, ht, hB⟩ := hrel
                  have hsz3 := hB.only.size
                  by_cases htl : t < wn
                  · have p0 := hB.row.cell hlt2
                    have hGl := hB.row.lt
                    have hB3 := hB.frame ((Only.refl (fun _ => False) wr).alloc (.cells #[.int .i64 (s + t + 1)] 3))
                    have HB3 := Lib.hid hB3
                    have hown : (wr.alloc (.cells #[.int .i64 (s + t + 1)] 3)).ownsRow w.heap.size 3 1 (us k) t (irow (upI s t)) := by
                      have := hB3.own k hlt2
                      rw [HRA.out t, upI_len] at this; exact this
                    obtain ⟨a6, c6, hus⟩ := slice_of_own hown
                    have HUS := Lib.hid hus
                    rw [hus] at p0 hown
                    clear hB hB3 hus
                    go_wp2_with (at_builtin; refine wpList_append_lies _ rfl _ _ 22 rfl w.heap.size 3 i0 _ 1 8 Tryz.underlying22 hi0 hz0 hz1 hz2 rfl (by decide) _ t (irow (upI s t)) rfl hown ⟨wr.heap.size, 0, none⟩ 1 1 [.int .i64 (s + t + 1)] rfl rfl (cell_one_new _ _ _) (one_int _) (by decide) ?c1 ?c2 ?c3 _ rfl ?_)
                    case c1 => unfold maxLen; omega
                    case c2 => omega
                    case c3 => first | omega | (simp; omega)
                    intro g1 cp1 w1 ho1 hg1 ha1 hgl1
                    have hg1' : (wr.alloc (.cells #[.int .i64 (s + t + 1)] 3)).grownBy w1 (us k).ownBlock := by rw [HUS.out]; exact hg1
                    have ha1' : (us k).ownBlock = some g1 ∨ g1 = (wr.alloc (.cells #[.int .i64 (s + t + 1)] 3)).heap.size := by rw [HUS.out, World.size_alloc]; exact ha1
                    have HB4 := Lib.hid (HB3.out.push' (rows' := rowsIn l k (t + 1)) hlt2 (upI s t) (HRA.out t) (upI_len s t) ho1 hg1' ha1' (fun j _ => HRS.out t j))
                    have hr1 : w1.rowIs G 22 l.length us := HB3.out.row.of_block (hg1'.block G HB3.out.row.lt (fun e => HB3.out.far k hlt2 e.symm))
                    have p1 := hr1.cell hlt2
                    have p2 := hr1.frozen k
                    have hGl1 := hr1.lt
                    clear hg1' ha1' ho1 hg1 ha1 hown hr1 HB3
                    go_wp2
                    go_roundw
                    case rel => exact ⟨t + 1, _, by go_num, by congr 1; go_num, by omega, HB4.out⟩
                    case measure => simp [intOf]; omega
                  · obtain rfl : t = wn := by omega
                    have HB5 := Lib.hid (hB.congr (rows' := rowsIn l (k + 1) 0) (fun j _ => HNX.out j))
                    clear hB
                    go_wp2
                    go_roundw
                    case rel => exact ⟨k + 1, us, by go_num, by rw [HSU.out], by omega, HB5.out⟩
                    case measure => simp [intOf]; omega
              · obtain rfl : k = l.length := by omega
                have HG := Lib.hid ((hB.congr (rows' := fun j => (pointsOf l).getD j []) (fun j hj => rowsIn_done l j hj)).gown (pointsOf_len l) (by omega))
                have HOE := Lib.hid hB.only
                clear hB
                go_wp2
                go_ret2
                exact ⟨HOE.out, .inl ⟨HR.out, _, _, rfl, HG.out⟩⟩
          · have q3 : decide (60 < sumTo l l.length) = true := decide_eq_true (by omega)
            have HF := Lib.hid (show rightB l = false by rw [HRB.out, decide_eq_false h60, Bool.and_false])
            clear hS hO hok
            go_wp2
            go_ret2
            exact ⟨HO.out, .inr ⟨HF.out, rfl⟩⟩
    · have d2 : decide ((13 : Int) < (l.length : Int)) = true := decide_eq_true (by omega)
      have d1 : decide ((l.length : Int) < 1) = false := decide_eq_false (by omega)
      have HF := Lib.hid (show rightB l = false by unfold rightB; rw [decide_eq_false hl2]; simp)
      go_enter Tryz.func28, Tryz.ntmps28
      go_wp2
      go_ret2
      exact ⟨Only.refl _ _, .inr ⟨HF.out, rfl⟩⟩
  · have d1 : decide ((l.length : Int) < 1) = true := decide_eq_true (by omega)
    have HF := Lib.hid (show rightB l = false by unfold rightB; rw [decide_eq_false hl1]; simp)
    go_enter Tryz.func28, Tryz.ntmps28
    go_wp2
    go_ret2
    exact ⟨Only.refl _ _, .inr ⟨HF.out, rfl⟩⟩
theorem points_nil_own (a : Option Addr) (c : Nat) (w : World) : Calls Tryz.prog 28 #[.slice a 0 c] w (RPtsPost w []) := by
  go_enter Tryz.func28, Tryz.ntmps28
  go_wp2
  go_ret2
  exact ⟨Only.refl _ _, .inr ⟨rfl, rfl⟩⟩
theorem points_own (sv : Value) (l : List Mb) (w : World) (hw : MbsW l) (hs : MbsAt w sv l) : Calls Tryz.prog 28 #[sv] w (RPtsPost w l) := by
  rcases hs with ⟨a, c, rfl, rfl⟩ | ⟨b, off, cap, rfl, hb, h1, h2, hc⟩
  · exact points_nil_own a c w
  · exact points_some_own b off cap l w hw hb h1 h2 hc
/-- What Begin leaves, with who owns it. -/
def BegPostO (w : World) (l : List Mb) (ds : List Dl) (e : Ending) (w' : World) : Prop :=
  Only (fun _ => False) w w' ∧ ((begB l ds = true ∧ ∃ vc vp us, e = .returned (.tuple #[.agg #[vc, vp], .bool true]) ∧ w'.ownsRow (w.heap.size + 1) 3 1 vc (colTo ds (ndOf l) (ndOf l)).length (irow (colTo ds (ndOf l) (ndOf l))) ∧ GridAt w' vp (pointsOf l) ∧ GridOwn (w.heap.size + 1) w' vp us (pointsOf l)) ∨
    (begB l ds = false ∧ e = .returned (.tuple #[.agg #[.slice none 0 0, .slice none 0 0], .bool false])))

set_option maxRecDepth 100000 in
set_option maxHeartbeats 2000000 in
theorem begin_own (sv dv : Value) (l : List Mb) (ds : List Dl) (w : World) (hM : MbsAt w sv l) (hw : MbsW l) (hD : DlsAt w dv ds) (hS : DlsS ds) :
    Calls Tryz.prog 9 #[sv, dv] w (BegPostO w l ds) := by
  obtain ⟨i0, hi0, hz0, hz1, hz2⟩ := info_parts Tryz.infoI
  obtain ⟨ad, cd, rfl⟩ := hD.slice
  obtain ⟨am, cm, rfl⟩ := hM.slice
  have hA := (Only.refl (fun _ => False) w).alloc (.cells #[.slice none 0 0, .slice none 0 0] 28)
  have HA := Lib.hid hA
  have HD := Lib.hid (hD.only hA)
  have HZ0 := Lib.hid (heap_alloc_last w (.cells #[.slice none 0 0, .slice none 0 0] 28))
  have HP := Lib.hid (points_own _ l _ hw (hM.only hA))
  have HS := Lib.hid hS
  have hlen := hS.len
  clear hD hM hA hw hS
  have HNO := Lib.hid (fun (w1 : World) (h1 : Only (fun _ => False) (w.alloc (.cells #[.slice none 0 0, .slice none 0 0] 28)) w1) (hb : begB l ds = false) => show BegPostO w l ds (.returned (.tuple #[.agg #[.slice none 0 0, .slice none 0 0], .bool false])) (w1.setRow w.heap.size #[.slice none 0 0, .slice none 0 0]) from ⟨(HA.out.trans h1).setRow (Nat.le_refl _) _, .inr ⟨hb, rfl⟩⟩)
  go_enter Tryz.func9, Tryz.ntmps9
  go_wp2_with fail
  refine HP.out.mono ?_
  rintro e w1 ⟨hO1, ⟨hr, vp, us, rfl, hGO⟩ | ⟨hr, rfl⟩⟩
  · have HZ1 := Lib.hid (row_still hO1 HZ0.out)
    have HO1 := Lib.hid hO1
    have hG := points_grid hGO hr
    have HG := Lib.hid hG
    have HGO := Lib.hid hGO
    have HR := Lib.hid hr
    obtain ⟨s1, s2, s3, s4, s5, s6, s7, s8⟩ := right_sum hr
    have HT := Lib.hid (fun (w' : World) (h : Only (fun _ => False) w1 w') => wtotal_is vp (pointsOf l) w' (hG.only h) (fun k hk => s1 k (by rw [pointsOf_len] at hk; exact hk)))
    rw [s2] at HT
    have HND := Lib.hid (fun w => need_is (nOf l) (ndOf l) w (by omega) s5)
    have HBG := Lib.hid (show begB l ds = (decide (1 ≤ ds.length) && fitB ds (nOf l) (ndOf l)) by unfold begB; rw [hr]; rfl)
    obtain ⟨ap, cp, rfl⟩ := hG.slice
    have hnd60 : ndOf l ≤ 60 := by omega
    have HND5 := Lib.hid s5
    generalize hn0 : nOf l = n at *
    generalize hnd0 : ndOf l = nd at *
    clear hO1 hG hGO hr HP s1 s2 s5 s8 hn0
    by_cases h0 : 1 ≤ ds.length
    · have q1 : ((ds.length : Int) == 0) = false := beq_eq_false_iff_ne.2 (by omega)
      rw [decide_eq_true h0, Bool.true_and] at HBG
      go_wp2_with fail
      refine (HT.out w1 (Only.refl _ _)).mono ?_
      rintro e w1' ⟨rfl, rfl⟩
      go_wp2_with fail
      obtain ⟨fb, hfb⟩ : ∃ fb, fitB ds n nd = fb := ⟨_, rfl⟩
      refine (dealt_is _ ds n nd fb w1 (HD.out.only HO1.out) (by omega) HND5.out HS.out hfb).mono ?_
      rintro e w2 ⟨rfl, hO2⟩
      have HO2 := Lib.hid (HO1.out.trans hO2)
      have HO12 := Lib.hid hO2
      have HZ2 := Lib.hid (row_still hO2 HZ1.out)
      have HFB := Lib.hid hfb
      rw [hfb] at HBG
      clear hO2 hfb
      cases fb
      · have HN := Lib.hid (HNO.out w2 HO2.out HBG.out)
        go_wp2_with (first | (refine wpList_store_row rfl 28 _ _ rfl w.heap.size #[.slice none 0 0, .slice none 0 0] rfl rfl 28 _ HZ2.out Tryz.infoKe rfl (two_slices _ _ _ _ _ _) ?_))
        exact bodyPost_ret (v := .tuple #[.agg #[.slice none 0 0, .slice none 0 0], .bool false]) (results_cell_tmp (p := 4) (q := 5) rfl _ _ w.heap.size 28 #[.slice none 0 0, .slice none 0 0] (0, 0) _ rfl (setRow_heap _ _ _ _ _ _ HZ2.out) Tryz.underlying28 rfl Tryz.infoKe _ rfl) rfl HN.out
      · go_wp2_with fail
        refine (HT.out w2 HO12.out).mono ?_
        rintro e w2' ⟨rfl, rfl⟩
        go_wp2_with fail
        refine (HND.out _).mono ?_
        rintro e w2' ⟨rfl, rfl⟩
        have hmk := run_make_row (P := Tryz.prog) 22 3 i0 _ Tryz.underlying22 hi0 hz0 hz1 rfl .i64 .i64 nd (by rw [hz2]; omega) (by omega) w2
        go_wp2_with fail
        clear hmk
        have HO25 := Lib.hid (HA.out.trans HO2.out)
        have HFIT := Lib.hid (fun k (hk : k < ds.length) => fit_at ds n nd HFB.out k hk)
        have HC0 := Lib.hid (show CbAt w2 (w2.alloc (.cells (madeCells #[.int .i64 0] nd) 3)) nd (colTo ds nd 0) from ⟨own_made w2 nd (by omega), (Only.refl _ w2).alloc _⟩)
        have hw2 : w.heap.size < w2.heap.size := own_lt0 HZ2.out
        go_loopw [38] (fun vi wr => ∃ j : Nat, j ≤ nd ∧ vi = .int .i64 j ∧ CbAt w2 wr nd (colTo ds nd j)) (fun vi _ => nd - (intOf vi).toNat)
        case atStart => exact ⟨0, Nat.zero_le _, rfl, HC0.out⟩
        case round =>
          clear HC0
          obtain ⟨j, hj, rfl, hC⟩ := hrel
          have HC := Lib.hid hC
          have HLJ := Lib.hid (colTo_len ds nd j)
          by_cases hlt : j < nd
          · obtain ⟨o1, o2, o3, o4, o5⟩ := own_at hC.own HLJ.out hlt
            have HC1 := Lib.hid (hC.put HLJ.out hlt (z := 1))
            have HCN := Lib.hid (show colTo ds nd (j + 1) = (colTo ds nd j).set j (prodTo ds j ds.length) from rfl)
            have i1 : (j : Int) < nd := by omega
            have i2 : 0 ≤ (j : Int) := by omega
            generalize colTo ds nd j = L at *
            clear hC
            go_wp2_with fail
            generalize wr.setCell ⟨w2.heap.size, j, none⟩ (.int .i64 1) = wq at *
            go_loopw [46] (fun vk wi => ∃ k : Nat, k ≤ ds.length ∧ vk = .int .i64 k ∧ CbAt w2 wi nd (L.set j (prodTo ds j k))) (fun vk _ => ds.length - (intOf vk).toNat)
            case atStart => exact ⟨0, Nat.zero_le _, rfl, HC1.out⟩
            case round =>
              clear HC1
              obtain ⟨k, hk, rfl, hK⟩ := hrel
              by_cases hkl : k < ds.length
              · obtain ⟨b, off, c0, c2, rfl, hb, hc1, hc2, x0, x1, x2, hd⟩ := (HD.out.only (HO2.out.trans hK.only)).cellAt hkl
                have hcl := HFIT.out k hkl
                obtain ⟨a0, k0, rfl⟩ := hd.cm.slice
                obtain ⟨a2, k2, rfl⟩ := hd.bx.slice
                obtain ⟨bc, oc, rfl, hbc, hl0, hcc1, hcc2, hcell⟩ := hd.cm.cellAt (k := j) (by omega)
                have HPN := Lib.hid (show prodTo ds j (k + 1) = prodTo ds j k * ptAt (dlAt ds k).cm j % 2305843009213691579 from rfl)
                have HLK := Lib.hid (show (L.set j (prodTo ds j k)).length = nd by rw [List.length_set, HLJ.out])
                have hA : Only (fun _ => False) wr (wr.alloc (.cells #[.slice (some ⟨bc, oc, none⟩) (dlAt ds k).cm.length k0, .int .i64 (dlAt ds k).pt, .slice a2 (dlAt ds k).bx.length k2] 72)) := (Only.refl _ wr).alloc _
                have HKA := Lib.hid (hK.frame hA)
                obtain ⟨o1, o2, o3, o4, o5⟩ := own_at HKA.out.own HLK.out hlt
                rw [ptAt_set, if_pos ⟨rfl, by rw [HLJ.out]; exact hlt⟩] at o4
                have y0 := hA.cell hcell id
                have hbc2 := Nat.lt_of_lt_of_le hbc hA.size
                have hz := heap_alloc_last wr (.cells #[.slice (some ⟨bc, oc, none⟩) (dlAt ds k).cm.length k0, .int .i64 (dlAt ds k).pt, .slice a2 (dlAt ds k).bx.length k2] 72)
                have z0 := cell_of_row _ _ 0 _ _ _ hz
                have lz := own_lt0 hz
                have HPUT := Lib.hid (fun m z => (show CbAt w2 (World.drewN _ m) nd _ from HKA.out.frame ((Only.refl _ _).drewN m)).put (z := z) HLK.out hlt)
                have HSS := Lib.hid (fun z => show (L.set j (prodTo ds j k)).set j z = L.set j z from List.set_set _)
                rw [hcl] at *
                generalize (dlAt ds k).pt = pt at *
                generalize (dlAt ds k).bx.length = bl at *
                generalize ptAt (dlAt ds k).cm j = cz at *
                generalize prodTo ds j k = pz at *
                have i3 : (k : Int) < ds.length := by omega
                have i4 : 0 ≤ (k : Int) := by omega
                clear hd hK hA hz hl0 hk
                go_wp2_with fail
                clear x0 x1 x2
                generalize wr.alloc (.cells #[.slice (some ⟨bc, oc, none⟩) nd k0, .int .i64 pt, .slice a2 bl k2] 72) = wA at *
                refine wp_region_quiet_split 13 (by kernel_rfl) (by kernel_rfl) (by kernel_rfl) ?_
                simp only [List.take_succ_cons, List.take_zero, List.drop_succ_cons, List.drop_zero]
                repeat (go_big_quiet_step ((go_at_call 41; exact quiet_left (mul_any _ _ _ _ (by decide) (by decide)))))
                refine wpQuiet_nil ?_
                intro _ hw'
                obtain ⟨nq, hw''⟩ := hw'
                subst hw''
                have HQ1 := Lib.hid (HPUT.out nq (pz * cz % 2305843009213691579))
                rw [HSS.out] at HQ1
                clear HPUT
                go_wp2
                go_roundw
                case rel => exact ⟨k + 1, by omega, by go_num, by rw [HPN.out]; exact HQ1.out⟩
                case measure => simp [intOf]; omega
              · obtain rfl : k = ds.length := by omega
                have i3 : ¬ (ds.length : Int) < ds.length := by omega
                have HK := Lib.hid hK
                clear hK
                go_wp2
                go_roundw
                case rel => exact ⟨j + 1, by omega, by go_num, by rw [HCN.out]; exact HK.out⟩
                case measure => simp [intOf]; omega
          · obtain rfl : j = nd := by omega
            have i1 : ¬ (j : Int) < j := by omega
            have HZ3 := Lib.hid (row_still hC.only HZ2.out)
            have HPOST := Lib.hid (show ∀ w6, Only (fun k => k = w.heap.size) wr w6 → BegPostO w l ds (.returned (.tuple #[.agg #[.slice (some ⟨w2.heap.size, 0, none⟩) j j, .slice ap (pointsOf l).length cp], .bool true])) w6 from fun w6 hO6 => by
              refine ⟨(HO25.out.trans hC.only).trans' hO6 (fun i hi e => by omega), .inl ⟨HBG.out, _, _, us, rfl, ?_, ?_, ?_⟩⟩
              · rw [hnd0]
                exact own_base (hO6.owns hC.own (fun x hx e => by have := own_low' hC.own hx; omega)) (by omega)
              · exact grid_kept hO6 (keys_empty HZ3.out).1 (keys_empty HZ3.out).2 (points_ne HR.out) (HG.out.only (HO12.out.trans hC.only))
              · refine ((HGO.out.keep (HO12.out.trans hC.only) (fun _ _ h => h)).keep hO6 ?_).base (by simp)
                intro k hk e
                rw [World.size_alloc] at hk
                omega)
            clear hC hlt hj
            go_wp2_with (first | (refine wpList_store_row rfl 28 _ _ rfl w.heap.size #[.slice (some ⟨w2.heap.size, 0, none⟩) j j, .slice ap (pointsOf l).length cp] rfl rfl 28 _ HZ3.out Tryz.infoKe rfl (two_slices _ _ _ _ _ _) ?_))
            refine bodyPost_ret (v := .tuple #[.agg #[.slice (some ⟨w2.heap.size, 0, none⟩) j j, .slice ap (pointsOf l).length cp], .bool true]) (results_cell_tmp (p := 4) (q := 5) rfl _ _ w.heap.size 28 #[.slice (some ⟨w2.heap.size, 0, none⟩) j j, .slice ap (pointsOf l).length cp] (0, 0) _ rfl (setRow_heap _ _ _ _ _ _ HZ3.out) Tryz.underlying28 rfl Tryz.infoKe _ rfl) rfl (HPOST.out _ ?_)
            exact (Only.refl (fun k => k = w.heap.size) wr).trans' (T := fun k => k = w.heap.size) ⟨rfl, rfl, rfl, by simp, fun k _ hk => heap_setRow_other _ _ _ _ hk⟩ (fun _ _ e => e)
    · have q1 : ((ds.length : Int) == 0) = true := beq_iff_eq.2 (by omega)
      rw [decide_eq_false h0, Bool.false_and] at HBG
      have HN := Lib.hid (HNO.out w1 HO1.out HBG.out)
      go_wp2_with (first | (refine wpList_store_row rfl 28 _ _ rfl w.heap.size #[.slice none 0 0, .slice none 0 0] rfl rfl 28 _ HZ1.out Tryz.infoKe rfl (two_slices _ _ _ _ _ _) ?_))
      exact bodyPost_ret (v := .tuple #[.agg #[.slice none 0 0, .slice none 0 0], .bool false]) (results_cell_tmp (p := 4) (q := 5) rfl _ _ w.heap.size 28 #[.slice none 0 0, .slice none 0 0] (0, 0) _ rfl (setRow_heap _ _ _ _ _ _ HZ1.out) Tryz.underlying28 rfl Tryz.infoKe _ rfl) rfl HN.out
  · have HZ1 := Lib.hid (row_still hO1 HZ0.out)
    have HN := Lib.hid (HNO.out w1 hO1 (by unfold begB; rw [hr]; rfl))
    clear hO1 hr HP
    go_wp2_with (first | (refine wpList_store_row rfl 28 _ _ rfl w.heap.size #[.slice none 0 0, .slice none 0 0] rfl rfl 28 _ HZ1.out Tryz.infoKe rfl (two_slices _ _ _ _ _ _) ?_))
    exact bodyPost_ret (v := .tuple #[.agg #[.slice none 0 0, .slice none 0 0], .bool false]) (results_cell_tmp (p := 4) (q := 5) rfl _ _ w.heap.size 28 #[.slice none 0 0, .slice none 0 0] (0, 0) _ rfl (setRow_heap _ _ _ _ _ _ HZ1.out) Tryz.underlying28 rfl Tryz.infoKe _ rfl) rfl HN.out
end Go.Proofs.YtalclldccnichaaGreat
