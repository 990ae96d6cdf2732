/-
  The reference's total and Points.
-/
import Derived.Test.YtalclldccnichaaGreatPoints2
namespace Go.Proofs.YtalclldccnichaaGreat
open Go.RowKit

theorem points_nil (a : Option Addr) (c : Nat) (w : World) : Calls Tryz.prog 28 #[.slice a 0 c] w (PtsPost w []) := by
  go_enter Tryz.func28, Tryz.ntmps28
  go_wp2
  go_ret2
  exact ⟨Only.refl _ _, .inr ⟨rfl, rfl⟩⟩
theorem points_any (sv : Value) (l : List Mb) (w : World) (hw : MbsW l) (hs : MbsAt w sv l) : Calls Tryz.prog 28 #[sv] w (PtsPost w l) := by
  rcases hs with ⟨a, c, rfl, rfl⟩ | ⟨b, off, cap, rfl, hb, h1, h2, hc⟩
  · exact points_nil a c w
  · exact points_some b off cap l w hw hb h1 h2 hc

theorem inTo_mono (zs : List Int) (z : Int) {k j : Nat} (h : j ≤ k) : inTo zs j z = true → inTo zs k z = true := by
  induction k with
  | zero => intro h1; rw [show j = 0 by omega] at h1; exact h1
  | succ k ih =>
    intro h1
    by_cases e : j = k + 1
    · rw [← e]; exact h1
    · rw [inTo, ih (by omega) h1]; simp
def totZ (l : List Mb) : Int := if rightB l then sumTo l l.length else 0
theorem rightB_spec {l : List Mb} (h : rightB l = true) : 1 ≤ l.length ∧ l.length ≤ 13 ∧ mbOk l l.length = true ∧ sumTo l l.length ≤ 60 := by
  unfold rightB at h
  simp only [Bool.and_eq_true, decide_eq_true_eq] at h
  exact ⟨h.1.1, h.1.2, h.2.1, h.2.2⟩
theorem sumTo_pos (l : List Mb) : ∀ k, mbOk l k = true → (k : Int) ≤ sumTo l k := by
  intro k
  induction k with
  | zero => intro _; simp [sumTo]
  | succ k ih =>
    intro h
    have h1 := (mbOk_wt l (k + 1) h).1 k (by omega)
    have h2 : mbOk l k = true := by
      cases e : mbOk l k
      · rw [mbOk_false l (k + 1) k (by omega) e] at h; exact h
      · rfl
    have := ih h2
    rw [sumTo]; omega
theorem totZ_pos {l : List Mb} (h : rightB l = true) : 1 ≤ totZ l ∧ totZ l ≤ 60 := by
  obtain ⟨h1, _, h3, h4⟩ := rightB_spec h
  have := sumTo_pos l l.length h3
  unfold totZ; rw [if_pos h]; omega

set_option maxRecDepth 100000 in
set_option maxHeartbeats 2000000 in
theorem rtotal_some (b off cap : Nat) (l : List Mb) (z : Int) (w : World) (hw : MbsW l) (_hb : b < w.heap.size) (_hcap : l.length ≤ cap) (_hcap2 : cap ≤ 9223372036854775807) (hz : totZ l = z)
    (hc : ∀ j, j < l.length → w.cell? ⟨b, off + j * 3, none⟩ = some (.int .i64 (mbAt l j).id) ∧ w.cell? ⟨b, off + j * 3 + 1, none⟩ = some (.int .i64 (mbAt l j).wt) ∧ w.cell? ⟨b, off + j * 3 + 2, none⟩ = some (.int .i64 (mbAt l j).pb)) :
    Calls Tryz.prog 35 #[.slice (some ⟨b, off, none⟩) l.length cap] w fun e w' => e = .returned (.int .i64 z) ∧ Only (fun _ => False) w w' := by
  have HC := Lib.hid hc
  have HW := Lib.hid hw
  have HZ := Lib.hid hz
  clear hc hw hz
  by_cases hl1 : 1 ≤ l.length
  · by_cases hl2 : l.length ≤ 13
    · have d1 : decide ((l.length : Int) < 1) = false := decide_eq_false (by omega)
      have d2 : decide ((13 : Int) < (l.length : Int)) = false := decide_eq_false (by omega)
      have HRB := Lib.hid (show rightB l = (mbOk l l.length && decide (sumTo l l.length ≤ 60)) by unfold rightB; rw [decide_eq_true hl1, decide_eq_true hl2]; rfl)
      have HF := Lib.hid (show rightB l = false → z = 0 from fun h => by rw [← HZ.out]; unfold totZ; rw [h]; rfl)
      go_enter Tryz.func35, Tryz.ntmps35
      go_wp2_with fail
      go_loopw [3, 4] (fun vs vi wr => ∃ k n : Nat, vi = .int .i64 k ∧ vs = .int .i64 (sumTo l k) ∧ k ≤ l.length ∧ mbOk l k = true ∧ wr = w.drewN n) (fun _ vi _ => l.length - (intOf vi).toNat)
      case atStart => exact ⟨0, 0, rfl, rfl, Nat.zero_le _, rfl, rfl⟩
      case round =>
        obtain ⟨k, n, rfl, rfl, hk, hok, rfl⟩ := hrel
        have hsm := (mbOk_wt l k hok).2 k (Nat.le_refl _)
        obtain ⟨s0, s1⟩ := hsm
        by_cases hlt : k < l.length
        · obtain ⟨c0, c1, _⟩ := HC.out k hlt
          have HST := Lib.hid (show mbOk l (k + 1) = (mbOk l k && (!inTo (ids l) k (mbAt l k).id && (decide (1 ≤ (mbAt l k).wt) && decide ((mbAt l k).wt ≤ 20)))) from rfl)
          have HSU := Lib.hid (show sumTo l (k + 1) = sumTo l k + (mbAt l k).wt from rfl)
          generalize mbAt l k = m at *
          obtain ⟨id, wt, pb⟩ := m
          dsimp only at c0 c1
          generalize sumTo l k = s at *
          have HOK := Lib.hid hok
          clear hok
          by_cases h1 : 1 ≤ wt
          · have q1 : decide (wt < 1) = false := decide_eq_false (by omega)
            by_cases h2 : wt ≤ 20
            · have q2 : decide (20 < wt) = false := decide_eq_false (by omega)
              have HQ := Lib.hid (show decide (1 ≤ wt) = true ∧ decide (wt ≤ 20) = true from ⟨decide_eq_true h1, decide_eq_true h2⟩)
              go_wp2_with fail
              go_loopw [5] (fun vj wi => ∃ (j nn : Nat), j ≤ k ∧ vj = .int .i64 j ∧ inTo (ids l) j id = false ∧ wi = w.drewN nn) (fun vj _ => k - (intOf vj).toNat)
              case atStart => exact ⟨0, n, Nat.zero_le _, rfl, rfl, rfl⟩
              case round =>
                obtain ⟨j, nn, hj, rfl, hin, rfl⟩ := hrel
                have HIN := Lib.hid hin
                clear hin
                by_cases hjl : j < k
                · obtain ⟨p0, _, _⟩ := HC.out j (by omega)
                  have HI2 := Lib.hid (show inTo (ids l) (j + 1) id = (id == (mbAt l j).id || inTo (ids l) j id) by rw [inTo, ptAt_ids])
                  generalize (mbAt l j).id = u at *
                  by_cases he : u = id
                  · have q : (u == id) = true := by simp [he]
                    have HZ0 := Lib.hid (HF.out (by
                      rw [HRB.out]
                      have h3 : inTo (ids l) (j + 1) id = true := by rw [HI2.out, he]; simp
                      have h4 : inTo (ids l) k id = true := inTo_mono (ids l) id (by omega) h3
                      rw [mbOk_false l l.length (k + 1) (by omega) (by rw [HST.out, h4]; simp)]; rfl))
                    clear he
                    go_wp2_with fail
                    go_quiet (fail)
                    go_wp2
                    go_ret
                    exact ⟨ret_int HZ0.out.symm, ((Only.refl _ w).drewN _).drewN _⟩
                  · have q : (u == id) = false := by simp [he]
                    have HN := Lib.hid (show inTo (ids l) (j + 1) id = false by
                      rw [HI2.out, HIN.out]; simp; exact fun h => he h.symm)
                    clear he
                    go_wp2_with fail
                    go_quiet (fail)
                    go_wp2
                    go_roundw
                    case rel => exact ⟨j + 1, nn + nq, by omega, by go_num, HN.out, by first | rfl | trivial⟩
                    case measure => simp [intOf]; omega
                · obtain rfl : j = k := by omega
                  have HOKN := Lib.hid (show mbOk l (j + 1) = true by rw [HST.out, HOK.out, HIN.out, HQ.out.1, HQ.out.2]; rfl)
                  go_wp2
                  go_roundw
                  case rel => exact ⟨j + 1, nn, by go_num, by rw [HSU.out], by omega, HOKN.out, rfl⟩
                  case measure => simp [intOf]; omega
            · have q2 : decide (20 < wt) = true := decide_eq_true (by omega)
              have HZ0 := Lib.hid (HF.out (by
                rw [HRB.out, mbOk_false l l.length (k + 1) (by omega) (by rw [HST.out, decide_eq_false h2]; simp)]; rfl))
              go_wp2
              go_ret
              exact ⟨ret_int HZ0.out.symm, (Only.refl _ w).drewN _⟩
          · have q1 : decide (wt < 1) = true := decide_eq_true (by omega)
            have HZ0 := Lib.hid (HF.out (by
              rw [HRB.out, mbOk_false l l.length (k + 1) (by omega) (by rw [HST.out, decide_eq_false h1]; simp)]; rfl))
            go_wp2
            go_ret
            exact ⟨ret_int HZ0.out.symm, (Only.refl _ w).drewN _⟩
        · obtain rfl : k = l.length := by omega
          by_cases h60 : sumTo l l.length ≤ 60
          · have q3 : decide (60 < sumTo l l.length) = false := decide_eq_false (by omega)
            have HR := Lib.hid (show sumTo l l.length = z by rw [← HZ.out]; unfold totZ; rw [HRB.out, hok, decide_eq_true h60]; rfl)
            clear hok
            go_wp2
            go_ret
            exact ⟨ret_int HR.out, (Only.refl _ w).drewN _⟩
          · have q3 : decide (60 < sumTo l l.length) = true := decide_eq_true (by omega)
            have HZ0 := Lib.hid (HF.out (by rw [HRB.out, decide_eq_false h60, Bool.and_false]))
            clear hok
            go_wp2
            go_ret
            exact ⟨ret_int HZ0.out.symm, (Only.refl _ w).drewN _⟩
    · have d2 : decide ((13 : Int) < (l.length : Int)) = true := decide_eq_true (by omega)
      have d1 : decide ((l.length : Int) < 1) = false := decide_eq_false (by omega)
      have HZ0 := Lib.hid (show z = 0 by rw [← HZ.out]; unfold totZ rightB; rw [decide_eq_false hl2]; simp)
      go_enter Tryz.func35, Tryz.ntmps35
      go_wp2
      go_ret
      exact ⟨ret_int HZ0.out.symm, Only.refl _ _⟩
  · have d1 : decide ((l.length : Int) < 1) = true := decide_eq_true (by omega)
    have HZ0 := Lib.hid (show z = 0 by rw [← HZ.out]; unfold totZ rightB; rw [decide_eq_false hl1]; simp)
    go_enter Tryz.func35, Tryz.ntmps35
    go_wp2
    go_ret
    exact ⟨ret_int HZ0.out.symm, Only.refl _ _⟩
theorem rtotal_nil (a : Option Addr) (c : Nat) (w : World) : Calls Tryz.prog 35 #[.slice a 0 c] w fun e w' => e = .returned (.int .i64 0) ∧ Only (fun _ => False) w w' := by
  go_enter Tryz.func35, Tryz.ntmps35
  go_wp2
  go_ret
  exact ⟨rfl, Only.refl _ _⟩
theorem rtotal_any (sv : Value) (l : List Mb) (z : Int) (w : World) (hw : MbsW l) (hs : MbsAt w sv l) (hz : totZ l = z) : Calls Tryz.prog 35 #[sv] w fun e w' => e = .returned (.int .i64 z) ∧ Only (fun _ => False) w w' := by
  rcases hs with ⟨a, c, rfl, rfl⟩ | ⟨b, off, cap, rfl, hb, h1, h2, hc⟩
  · obtain rfl : z = 0 := by rw [← hz]; rfl
    exact rtotal_nil a c w
  · exact rtotal_some b off cap l z w hw hb h1 h2 hz hc
end Go.Proofs.YtalclldccnichaaGreat
