/-
  The walk of the program's Points.
-/
import Derived.Test.YtalclldccnichaaGreatPoints
namespace Go.Proofs.YtalclldccnichaaGreat
open Go.RowKit

theorem Tryz.infoI2 : (Tryz.prog.info? 22).map (fun i => (i.zero, i.size, i.bytes)) = some (some (.slice none 0 0), 1, 24) := by kernel_rfl
/-- What Points leaves. -/
def PtsPost (w : World) (l : List Mb) (e : Ending) (w' : World) : Prop :=
  Only (fun _ => False) w w' ∧ ((rightB l = true ∧ ∃ v, e = .returned (.tuple #[v, .bool true]) ∧ GridAt w' v (pointsOf l)) ∨ (rightB l = false ∧ e = .returned (.tuple #[.slice none 0 0, .bool false])))
theorem pointsOf_at (l : List Mb) (j : Nat) (h : j < l.length) : (pointsOf l).getD j [] = rowsAt l j := by
  unfold pointsOf; simp [List.getD, h]
theorem pointsOf_len (l : List Mb) : (pointsOf l).length = l.length := by unfold pointsOf; simp

theorem Build.push' {w wn w' : World} {base g n k t : Nat} {x : Int} {vs : Nat → Value} {rows rows' : Nat → List Int} (h : Build w wn base g n vs rows) (hk : k < n) (r : List Int) (hr : rows k = r) (ht : r.length = t) {b cap : Nat}
    (hown : w'.ownsRow base 3 1 (.slice (some ⟨b, 0, none⟩) (t + 1) cap) (t + 1) (irow r ++ [.int .i64 x])) (hg : wn.grownBy w' (vs k).ownBlock) (hat : (vs k).ownBlock = some b ∨ b = wn.heap.size) (hrr : ∀ j, j < n → (if j = k then r ++ [x] else rows j) = rows' j) :
    Build w (w'.setCell ⟨g, k, none⟩ (.slice (some ⟨b, 0, none⟩) (t + 1) cap)) base g n (fun j => if j = k then .slice (some ⟨b, 0, none⟩) (t + 1) cap else vs j) rows' := by
  subst hr ht
  exact (h.push hk hown hg hat).congr hrr
/-- The rows while row k is at t. -/
def rowsIn (l : List Mb) (k t : Nat) (j : Nat) : List Int := if j < k then rowsAt l j else if j = k then upI (sumTo l k) t else []
theorem rowsIn_at (l : List Mb) (k t : Nat) : rowsIn l k t k = upI (sumTo l k) t := by unfold rowsIn; rw [if_neg (by omega), if_pos rfl]
theorem rowsIn_step (l : List Mb) (k t j : Nat) : (if j = k then upI (sumTo l k) t ++ [sumTo l k + t + 1] else rowsIn l k t j) = rowsIn l k (t + 1) j := by
  unfold rowsIn
  by_cases e : j = k
  · subst e; rw [if_pos rfl, if_neg (by omega), if_pos rfl]; rfl
  · rw [if_neg e, if_neg e, if_neg e]
theorem rowsIn_next (l : List Mb) (k j : Nat) : rowsIn l k (mbAt l k).wt.toNat j = rowsIn l (k + 1) 0 j := by
  unfold rowsIn
  by_cases h1 : j < k
  · rw [if_pos h1, if_pos (by omega)]
  · by_cases e : j = k
    · subst e; rw [if_neg h1, if_pos rfl, if_pos (by omega)]; rfl
    · rw [if_neg h1, if_neg e, if_neg (by omega)]
      split <;> rfl
theorem rowsIn_done (l : List Mb) (j : Nat) (h : j < l.length) : rowsIn l l.length 0 j = (pointsOf l).getD j [] := by
  unfold rowsIn; rw [if_pos h, pointsOf_at l j h]

set_option maxRecDepth 100000 in
set_option maxHeartbeats 4000000 in
theorem points_some (b off cap : Nat) (l : List Mb) (w : World) (hw : MbsW l) (hb : b < w.heap.size) (_hcap : l.length ≤ cap) (_hcap2 : cap ≤ 9223372036854775807)
    (hc : ∀ j, j < l.length → w.cell? ⟨b, off + j * 3, none⟩ = some (.int .i64 (mbAt l j).id) ∧ w.cell? ⟨b, off + j * 3 + 1, none⟩ = some (.int .i64 (mbAt l j).wt) ∧ w.cell? ⟨b, off + j * 3 + 2, none⟩ = some (.int .i64 (mbAt l j).pb)) :
    Calls Tryz.prog 28 #[.slice (some ⟨b, off, none⟩) l.length cap] w (PtsPost w l) := by
  have hmm := @run_makeMap Tryz.prog
  obtain ⟨i0, hi0, hz0, hz1, hz2⟩ := info_parts Tryz.infoI
  obtain ⟨j0, hj0, hy0, hy1, hy2⟩ := info_parts Tryz.infoI2
  have HC := Lib.hid hc
  have HW := Lib.hid hw
  clear hc hw
  by_cases hl1 : 1 ≤ l.length
  · by_cases hl2 : l.length ≤ 13
    · have d1 : decide ((l.length : Int) < 1) = false := decide_eq_false (by omega)
      have d2 : decide ((13 : Int) < (l.length : Int)) = false := decide_eq_false (by omega)
      have HRB := Lib.hid (show rightB l = (mbOk l l.length && decide (sumTo l l.length ≤ 60)) by unfold rightB; rw [decide_eq_true hl1, decide_eq_true hl2]; rfl)
      go_enter Tryz.func28, Tryz.ntmps28
      go_wp2_with fail
      have HS0 := Lib.hid (set_new (w.alloc (.map #[] 0)) w.heap.size (heap_alloc_new w _))
      have HO0 := Lib.hid ((Only.refl (fun _ => False) w).alloc (.map #[] 0))
      clear hmm
      go_loopw [5, 23] (fun vs vi wr => ∃ k : Nat, vi = .int .i64 k ∧ vs = .int .i64 (sumTo l k) ∧ k ≤ l.length ∧ mbOk l k = true ∧ SetAt wr w.heap.size k (inTo (ids l) k) ∧ Only (fun _ => False) w wr) (fun _ vi _ => l.length - (intOf vi).toNat)
      case atStart => exact ⟨0, rfl, rfl, Nat.zero_le _, rfl, HS0.out, HO0.out⟩
      case round =>
        clear HS0 HO0
        obtain ⟨k, rfl, rfl, hk, hok, hS, hO⟩ := hrel
        have hsz := hO.size
        have hsm := (mbOk_wt l k hok).2 k (Nat.le_refl _)
        obtain ⟨s0, s1⟩ := hsm
        by_cases hlt : k < l.length
        · obtain ⟨e0, e1, e2⟩ := HC.out k hlt
          have c0 := hO.cell e0 (fun h => h)
          have c1 := hO.cell e1 (fun h => h)
          have c2 := hO.cell e2 (fun h => h)
          have HST := Lib.hid (show mbOk l (k + 1) = (mbOk l k && (!inTo (ids l) k (mbAt l k).id && (decide (1 ≤ (mbAt l k).wt) && decide ((mbAt l k).wt ≤ 20)))) from rfl)
          have HSU := Lib.hid (show sumTo l (k + 1) = sumTo l k + (mbAt l k).wt from rfl)
          have HIN := Lib.hid (fun z => show inTo (ids l) (k + 1) z = (z == (mbAt l k).id || inTo (ids l) k z) by rw [inTo, ptAt_ids])
          obtain ⟨⟨w1, w2⟩, ⟨w3, w4⟩⟩ := HW.out.wf k
          have hbl : b < wr.heap.size := by omega
          have hmb := hS.lt
          generalize mbAt l k = m at *
          obtain ⟨id, wt, pb⟩ := m
          dsimp only at c0 c1 c2 w1 w2 w3 w4
          generalize sumTo l k = s at *
          have hl := fun (o : Obj) => (hS.frame ((Only.refl (fun _ => False) wr).alloc o) (fun h => h)).look id (WalkArith.wf_i64 (by omega))
          have HS := Lib.hid hS
          have HO := Lib.hid hO
          have HOK := Lib.hid hok
          clear hS hO hok e0 e1 e2
          cases hin : inTo (ids l) k id
          · rw [hin] at hl
            have HI := Lib.hid hin
            clear hin
            by_cases h1 : 1 ≤ wt
            · have q1 : decide (wt < 1) = false := decide_eq_false (by omega)
              by_cases h2 : wt ≤ 20
              · have q2 : decide (20 < wt) = false := decide_eq_false (by omega)
                have hO1 : Only (fun _ => False) wr (wr.alloc (.cells #[.int .i64 id, .int .i64 wt, .int .i64 pb] 68)) := (Only.refl _ wr).alloc _
                have hblk : (wr.alloc (.cells #[.int .i64 id, .int .i64 wt, .int .i64 pb] 68)).heap[wr.heap.size]? = some (.cells #[.int .i64 id, .int .i64 wt, .int .i64 pb] 68 (0, 0)) := heap_alloc_new wr _
                obtain ⟨wn, hrun, hS2, hO7⟩ := (HS.out.frame hO1 (fun h => h)).add (by unfold maxLen; omega) id (WalkArith.wf_i64 (by omega))
                have hblk2 : wn.heap[wr.heap.size]? = some (.cells #[.int .i64 id, .int .i64 wt, .int .i64 pb] 68 (0, 0)) := by
                  rw [hO7.block wr.heap.size (by simp) (by omega)]; exact hblk
                have s1 := cell_of_row wn wr.heap.size 1 _ 68 (0, 0) hblk2
                simp at s1
                have hz5 := (Array.getElem?_eq_some_iff.1 hblk2).1
                have HSN := Lib.hid hS2
                have HON := Lib.hid ((HO.out.trans hO1).trans' hO7 (fun i hi e => by omega))
                have HOKN := Lib.hid (show mbOk l (k + 1) = true by rw [HST.out, HOK.out, HI.out, decide_eq_true h1, decide_eq_true h2]; rfl)
                clear hO1 hblk hS2 hO7 hblk2
                go_wp2
                go_roundw
                case rel => exact ⟨k + 1, by go_num, by rw [HSU.out], by omega, HOKN.out, by
                  have := HSN.out
                  have e : (fun z => z == id || inTo (ids l) k z) = inTo (ids l) (k + 1) := by funext z; rw [HIN.out]
                  rw [e] at this; exact this, HON.out⟩
                case measure => simp [intOf]; omega
              · have q2 : decide (20 < wt) = true := decide_eq_true (by omega)
                have HF := Lib.hid (show rightB l = false by
                  rw [HRB.out, mbOk_false l l.length (k + 1) (by omega) (by rw [HST.out, decide_eq_false h2]; simp)]; rfl)
                go_wp2
                go_ret2
                exact ⟨HO.out.alloc _, .inr ⟨HF.out, rfl⟩⟩
            · have q1 : decide (wt < 1) = true := decide_eq_true (by omega)
              have HF := Lib.hid (show rightB l = false by
                rw [HRB.out, mbOk_false l l.length (k + 1) (by omega) (by rw [HST.out, decide_eq_false h1]; simp)]; rfl)
              go_wp2
              go_ret2
              exact ⟨HO.out.alloc _, .inr ⟨HF.out, rfl⟩⟩
          · rw [hin] at hl
            have HF := Lib.hid (show rightB l = false by
              rw [HRB.out, mbOk_false l l.length (k + 1) (by omega) (by rw [HST.out, hin]; simp)]; rfl)
            clear hin
            go_wp2
            go_ret2
            exact ⟨HO.out.alloc _, .inr ⟨HF.out, rfl⟩⟩
        · obtain rfl : k = l.length := by omega
          have HO := Lib.hid hO
          have HWT := Lib.hid (mbOk_wt l l.length hok)
          by_cases h60 : sumTo l l.length ≤ 60
          · have q3 : decide (60 < sumTo l l.length) = false := decide_eq_false (by omega)
            have HR := Lib.hid (show rightB l = true by rw [HRB.out, hok, decide_eq_true h60]; rfl)
            have hmk := run_make_row (P := Tryz.prog) 26 22 j0 _ Tryz.underlying26 hj0 hy0 hy1 rfl .i64 .i64 l.length (by rw [hy2]; omega) (by omega) wr
            have HB0 := Lib.hid (show Build w (wr.alloc (.cells (madeCells #[.slice none 0 0] l.length) 22)) (w.heap.size) wr.heap.size l.length (fun _ => .slice none 0 0) (fun _ => []) from
              ⟨World.rowIs_made wr _ _ _, fun j _ => World.ownsRow_nil _ _ _ _, fun i j _ _ _ b hb => by simp [Value.ownBlock] at hb, fun j _ => by simp [Value.ownBlock], hO.alloc _, Nat.le_refl _, hsz⟩)
            clear hS hO hok
            go_wp2_with fail
            clear hmk
            have HB1 := Lib.hid (HB0.out.congr (rows' := rowsIn l 0 0) (fun j _ => by unfold rowsIn; rw [if_neg (by omega)]; split <;> rfl))
            clear HB0
            generalize wr.heap.size = G at *
            go_loopw [9, 56] (fun vn vi wq => ∃ (k : Nat) (vs : Nat → Value), vi = .int .i64 k ∧ vn = .int .i64 (sumTo l k + 1) ∧ k ≤ l.length ∧ Build w wq w.heap.size G l.length vs (rowsIn l k 0)) (fun _ vi _ => l.length - (intOf vi).toNat)
            case atStart => exact ⟨0, _, rfl, rfl, Nat.zero_le _, HB1.out⟩
            case round =>
              clear HB1
              obtain ⟨k, vs, rfl, rfl, hk, hB⟩ := hrel
              have hsz2 := hB.only.size
              by_cases hlt2 : k < l.length
              · obtain ⟨e0, e1, e2⟩ := HC.out k hlt2
                have c0 := hB.only.cell e0 (fun h => h)
                have c1 := hB.only.cell e1 (fun h => h)
                have c2 := hB.only.cell e2 (fun h => h)
                have hbl : b < wr.heap.size := by omega
                obtain ⟨hw1, hw2⟩ := HWT.out.1 k hlt2
                obtain ⟨hs1, hs2⟩ := HWT.out.2 k (by omega)
                have HSU := Lib.hid (show sumTo l (k + 1) = sumTo l k + (mbAt l k).wt from rfl)
                have HNX := Lib.hid (rowsIn_next l k)
                have HRA := Lib.hid (rowsIn_at l k)
                have HRS := Lib.hid (rowsIn_step l k)
                have HB2 := Lib.hid (hB.frame ((Only.refl (fun _ => False) wr).alloc (.cells #[.int .i64 (mbAt l k).id, .int .i64 (mbAt l k).wt, .int .i64 (mbAt l k).pb] 68)))
                clear hB e0 e1 e2
                generalize mbAt l k = m at *
                obtain ⟨id, wt, pb⟩ := m
                dsimp only at c0 c1 c2 hw1 hw2 HB2
                generalize sumTo l k = s at *
                obtain ⟨wn, rfl⟩ : ∃ wn : Nat, wt = wn := ⟨wt.toNat, by omega⟩
                dsimp only [Int.toNat_natCast] at HNX
                go_wp2_with fail
                go_loopw [9, 63] (fun vn vt wi => ∃ (t : Nat) (us : Nat → Value), vt = .int .i64 t ∧ vn = .int .i64 (s + t + 1) ∧ t ≤ wn ∧ Build w wi w.heap.size G l.length us (rowsIn l k t)) (fun _ vt _ => wn - (intOf vt).toNat)
                case atStart => exact ⟨0, vs, rfl, by simp, Nat.zero_le _, HB2.out⟩
                case round =>
                  clear HB2
                  obtain ⟨t, us, rfl, rfl, ht, hB⟩ := hrel
                  have hsz3 := hB.only.size
                  by_cases htl : t < wn
                  · have p0 := hB.row.cell hlt2
                    have hGl := hB.row.lt
                    have hB3 := hB.frame ((Only.refl (fun _ => False) wr).alloc (.cells #[.int .i64 (s + t + 1)] 3))
                    have HB3 := Lib.hid hB3
                    have hown : (wr.alloc (.cells #[.int .i64 (s + t + 1)] 3)).ownsRow w.heap.size 3 1 (us k) t (irow (upI s t)) := by
                      have := hB3.own k hlt2
                      rw [HRA.out t, upI_len] at this; exact this
                    obtain ⟨a6, c6, hus⟩ := slice_of_own hown
                    have HUS := Lib.hid hus
                    rw [hus] at p0 hown
                    clear hB hB3 hus
                    go_wp2_with (at_builtin; refine wpList_append_lies _ rfl _ _ 22 rfl w.heap.size 3 i0 _ 1 8 Tryz.underlying22 hi0 hz0 hz1 hz2 rfl (by decide) _ t (irow (upI s t)) rfl hown ⟨wr.heap.size, 0, none⟩ 1 1 [.int .i64 (s + t + 1)] rfl rfl (cell_one_new _ _ _) (one_int _) (by decide) ?c1 ?c2 ?c3 _ rfl ?_)
                    case c1 => unfold maxLen; omega
                    case c2 => omega
                    case c3 => first | omega | (simp; omega)
                    intro g1 cp1 w1 ho1 hg1 ha1 hgl1
                    have hg1' : (wr.alloc (.cells #[.int .i64 (s + t + 1)] 3)).grownBy w1 (us k).ownBlock := by rw [HUS.out]; exact hg1
                    have ha1' : (us k).ownBlock = some g1 ∨ g1 = (wr.alloc (.cells #[.int .i64 (s + t + 1)] 3)).heap.size := by rw [HUS.out, World.size_alloc]; exact ha1
                    have HB4 := Lib.hid (HB3.out.push' (rows' := rowsIn l k (t + 1)) hlt2 (upI s t) (HRA.out t) (upI_len s t) ho1 hg1' ha1' (fun j _ => HRS.out t j))
                    have hr1 : w1.rowIs G 22 l.length us := HB3.out.row.of_block (hg1'.block G HB3.out.row.lt (fun e => HB3.out.far k hlt2 e.symm))
                    have p1 := hr1.cell hlt2
                    have p2 := hr1.frozen k
                    have hGl1 := hr1.lt
                    clear hg1' ha1' ho1 hg1 ha1 hown hr1 HB3
                    go_wp2
                    go_roundw
                    case rel => exact ⟨t + 1, _, by go_num, by congr 1; go_num, by omega, HB4.out⟩
                    case measure => simp [intOf]; omega
                  · obtain rfl : t = wn := by omega
                    have HB5 := Lib.hid (hB.congr (rows' := rowsIn l (k + 1) 0) (fun j _ => HNX.out j))
                    clear hB
                    go_wp2
                    go_roundw
                    case rel => exact ⟨k + 1, us, by go_num, by rw [HSU.out], by omega, HB5.out⟩
                    case measure => simp [intOf]; omega
              · obtain rfl : k = l.length := by omega
                have HG := Lib.hid ((hB.congr (rows' := fun j => (pointsOf l).getD j []) (fun j hj => rowsIn_done l j hj)).grid (pointsOf_len l) (by omega) (fun j hj => by
                  rw [pointsOf_at l j hj]; unfold rowsAt; rw [upI_len]; have := (HWT.out.1 j hj).2; omega))
                have HOE := Lib.hid hB.only
                clear hB
                go_wp2
                go_ret2
                exact ⟨HOE.out, .inl ⟨HR.out, _, rfl, HG.out⟩⟩
          · have q3 : decide (60 < sumTo l l.length) = true := decide_eq_true (by omega)
            have HF := Lib.hid (show rightB l = false by rw [HRB.out, decide_eq_false h60, Bool.and_false])
            clear hS hO hok
            go_wp2
            go_ret2
            exact ⟨HO.out, .inr ⟨HF.out, rfl⟩⟩
    · have d2 : decide ((13 : Int) < (l.length : Int)) = true := decide_eq_true (by omega)
      have d1 : decide ((l.length : Int) < 1) = false := decide_eq_false (by omega)
      have HF := Lib.hid (show rightB l = false by unfold rightB; rw [decide_eq_false hl2]; simp)
      go_enter Tryz.func28, Tryz.ntmps28
      go_wp2
      go_ret2
      exact ⟨Only.refl _ _, .inr ⟨HF.out, rfl⟩⟩
  · have d1 : decide ((l.length : Int) < 1) = true := decide_eq_true (by omega)
    have HF := Lib.hid (show rightB l = false by unfold rightB; rw [decide_eq_false hl1]; simp)
    go_enter Tryz.func28, Tryz.ntmps28
    go_wp2
    go_ret2
    exact ⟨Only.refl _ _, .inr ⟨HF.out, rfl⟩⟩
end Go.Proofs.YtalclldccnichaaGreat
