/-
  The reference's Check, fits and Begin in general.
-/
import Derived.Test.YtalclldccnichaaGreatWtB
namespace Go.Proofs.YtalclldccnichaaGreat
open Go.RowKit

set_option maxRecDepth 100000 in
set_option maxHeartbeats 2000000 in
theorem rcheck_is (a0 a2 : Option Addr) (k0 k2 : Nat) (d : Dl) (n : Nat) (bb : Bool) (w : World) (hD : DlAt w (.slice a0 d.cm.length k0) (.int .i64 d.pt) (.slice a2 d.bx.length k2) d) (hn : n ≤ 1000) (_hbx : d.bx.length ≤ 1000000) (hcm : d.cm.length ≤ 1000000) (hb : chkB d n = bb) :
    Calls Tryz.prog 72 #[.agg #[.slice a0 d.cm.length k0, .int .i64 d.pt, .slice a2 d.bx.length k2], .int .i64 n] w fun e w' => e = .returned (.bool bb) ∧ Only (fun _ => False) w w' := by
  have HB := Lib.hid hb
  have hA := (Only.refl (fun _ => False) w).alloc (.cells #[.slice a0 d.cm.length k0, .int .i64 d.pt, .slice a2 d.bx.length k2] 72)
  have hz := heap_alloc_last w (.cells #[.slice a0 d.cm.length k0, .int .i64 d.pt, .slice a2 d.bx.length k2] 72)
  have HA := Lib.hid hA
  have HBX := Lib.hid (hD.bx.only hA)
  have e0 := cell_of_row _ _ 0 _ _ _ hz
  have e1 := cell_of_row _ _ 1 _ _ _ hz
  have e2 := cell_of_row _ _ 2 _ _ _ hz
  have l0 := own_lt0 hz
  obtain ⟨mp, hmp⟩ : ∃ mp, memB d.pt = mp := ⟨_, rfl⟩
  obtain ⟨mc, hmc⟩ : ∃ mc, membersB d.cm = mc := ⟨_, rfl⟩
  have HMP := Lib.hid (fun w => rmember_is d.pt mp w hmp)
  have HMM := Lib.hid (rmembers_is _ d.cm mc _ (hD.cm.only hA) hcm hmc)
  have HPP := Lib.hid hmp
  have HCC := Lib.hid hmc
  clear hD hA hz hb hmp hmc
  by_cases h1 : d.bx.length = n
  · by_cases h2 : 1 ≤ d.cm.length
    · by_cases h3 : d.cm.length ≤ n
      · have q1 : ((d.bx.length : Int) != n) = false := by rw [h1]; simp
        have q2 : ¬ (d.cm.length : Int) < 1 := by omega
        have q3 : ¬ (n : Int) < d.cm.length := by omega
        cases mp
        · have HF := Lib.hid (show bb = false by rw [← HB.out]; unfold chkB; rw [HPP.out]; simp)
          clear h1
          go_enter Tryz.func72, Tryz.ntmps72
          go_wp2_with fail
          refine (HMP.out _).mono ?_
          rintro e w' ⟨rfl, rfl⟩
          go_wp2_with fail
          refine HMM.out.mono ?_
          rintro e w' ⟨rfl, rfl⟩
          go_wp2
          go_ret
          exact ⟨by rw [HF.out]; rfl, HA.out⟩
        · cases mc
          · have HF := Lib.hid (show bb = false by rw [← HB.out]; unfold chkB; rw [HCC.out]; simp)
            clear h1
            go_enter Tryz.func72, Tryz.ntmps72
            go_wp2_with fail
            refine (HMP.out _).mono ?_
            rintro e w' ⟨rfl, rfl⟩
            go_wp2_with fail
            refine HMM.out.mono ?_
            rintro e w' ⟨rfl, rfl⟩
            go_wp2
            go_ret
            exact ⟨by rw [HF.out]; rfl, HA.out⟩
          · have HB1 := Lib.hid (show chkB d n = b16B d.bx by unfold chkB; rw [decide_eq_true h1, decide_eq_true h2, decide_eq_true h3, HPP.out, HCC.out]; simp)
            have H1 := Lib.hid h1
            have hh1 : n = d.bx.length := h1.symm
            subst hh1
            clear h1
            go_enter Tryz.func72, Tryz.ntmps72
            go_wp2_with fail
            refine (HMP.out _).mono ?_
            rintro e w' ⟨rfl, rfl⟩
            go_wp2_with fail
            refine HMM.out.mono ?_
            rintro e w' ⟨rfl, rfl⟩
            go_wp2_with fail
            generalize w.alloc (.cells #[.slice a0 d.cm.length k0, .int .i64 d.pt, .slice a2 d.bx.length k2] 72) = w1 at *
            go_loop [7] (fun vi => ∃ k : Nat, k ≤ d.bx.length ∧ vi = .int .i64 k ∧ ∀ j, j < k → (sAt d.bx j).size = 16) (fun vi => d.bx.length - (intOf vi).toNat)
            case atStart => exact ⟨0, Nat.zero_le _, rfl, fun j h => by omega⟩
            case round =>
              obtain ⟨k, hk, rfl, hall⟩ := hrel
              have HALL := Lib.hid hall
              clear hall
              by_cases hlt : k < d.bx.length
              · obtain ⟨b, off, rfl, hb, hc1, hc2, hcell⟩ := HBX.out.cellAt (k := k) hlt
                have i1 : (k : Int) < d.bx.length := by omega
                by_cases h16 : (sAt d.bx k).size = 16
                · have q4 : (((sAt d.bx k).size : Int) != 16) = false := by rw [h16]; rfl
                  have HN := Lib.hid (show ∀ j, j < k + 1 → (sAt d.bx j).size = 16 from fun j hj => by
                    by_cases e : j = k
                    · rw [e]; exact h16
                    · exact HALL.out j (by omega))
                  clear h16
                  generalize sAt d.bx k = s at *
                  go_wp2
                  go_round
                  case rel => exact ⟨k + 1, by omega, by go_num, HN.out⟩
                  case measure => simp [intOf]; omega
                · have HF := Lib.hid (show bb = false by rw [← HB.out, HB1.out, b16_no d.bx k hlt h16])
                  have q4 : (((sAt d.bx k).size : Int) != 16) = true := by rw [bne_iff_ne]; omega
                  clear h16
                  generalize sAt d.bx k = s at *
                  go_wp2
                  go_ret
                  exact ⟨by rw [HF.out]; rfl, HA.out⟩
              · have i1 : ¬ (k : Int) < d.bx.length := by omega
                have HB2 := Lib.hid (show bb = true by rw [← HB.out, HB1.out, b16_yes d.bx (fun j hj => HALL.out j (by omega))])
                go_wp2
                go_ret
                exact ⟨by rw [HB2.out]; rfl, HA.out⟩
      · have HF := Lib.hid (show bb = false by rw [← HB.out]; unfold chkB; rw [decide_eq_false h3]; simp)
        have q1 : ((d.bx.length : Int) != n) = false := by rw [h1]; simp
        have q2 : ¬ (d.cm.length : Int) < 1 := by omega
        have q3 : (n : Int) < d.cm.length := by omega
        clear h1
        go_enter Tryz.func72, Tryz.ntmps72
        go_wp2_with fail
        refine (HMP.out _).mono ?_
        rintro e w' ⟨rfl, rfl⟩
        go_wp2_with fail
        refine HMM.out.mono ?_
        rintro e w' ⟨rfl, rfl⟩
        go_wp2
        go_ret
        exact ⟨by rw [HF.out]; rfl, HA.out⟩
    · have HF := Lib.hid (show bb = false by rw [← HB.out]; unfold chkB; rw [decide_eq_false h2]; simp)
      have q1 : ((d.bx.length : Int) != n) = false := by rw [h1]; simp
      have q2 : (d.cm.length : Int) < 1 := by omega
      clear h1
      go_enter Tryz.func72, Tryz.ntmps72
      go_wp2_with fail
      refine (HMP.out _).mono ?_
      rintro e w' ⟨rfl, rfl⟩
      go_wp2_with fail
      refine HMM.out.mono ?_
      rintro e w' ⟨rfl, rfl⟩
      go_wp2
      go_ret
      exact ⟨by rw [HF.out]; rfl, HA.out⟩
  · have HF := Lib.hid (show bb = false by rw [← HB.out]; unfold chkB; rw [decide_eq_false h1]; rfl)
    have q1 : ((d.bx.length : Int) != n) = true := by rw [bne_iff_ne]; omega
    clear h1
    go_enter Tryz.func72, Tryz.ntmps72
    go_wp2_with fail
    refine (HMP.out _).mono ?_
    rintro e w' ⟨rfl, rfl⟩
    go_wp2_with fail
    refine HMM.out.mono ?_
    rintro e w' ⟨rfl, rfl⟩
    go_wp2
    go_ret
    exact ⟨by rw [HF.out]; rfl, HA.out⟩

set_option maxRecDepth 100000 in
set_option maxHeartbeats 1000000 in
theorem rfits_is (sv : Value) (l : List Dl) (n nd : Nat) (bb : Bool) (w : World) (hD : DlsAt w sv l) (hS : DlsS l) (hn : n ≤ 1000) (hnd : needZ n = nd) (hb : (decide (1 ≤ l.length) && fitB l n nd) = bb) :
    Calls Tryz.prog 44 #[sv, .int .i64 n] w fun e w' => e = .returned (.bool bb) ∧ Only (fun _ => False) w w' := by
  obtain ⟨a, c, rfl⟩ := hD.slice
  have HD := Lib.hid hD
  have HB := Lib.hid hb
  have HS := Lib.hid hS.each
  have hlen := hS.len
  have HND := Lib.hid (fun w => rneed_is n nd w (by omega) hnd)
  clear hD hb hnd hS
  go_enter Tryz.func44, Tryz.ntmps44
  go_wp2_with fail
  go_loopw [5] (fun vi wr => ∃ k : Nat, k ≤ l.length ∧ vi = .int .i64 k ∧ (∀ j, j < k → (chkB (dlAt l j) n && decide ((dlAt l j).cm.length = nd)) = true) ∧ Only (fun _ => False) w wr) (fun vi _ => l.length - (intOf vi).toNat)
  case atStart => exact ⟨0, Nat.zero_le _, rfl, fun j h => by omega, Only.refl _ _⟩
  case round =>
    obtain ⟨k, hk, rfl, hall, hO⟩ := hrel
    have HALL := Lib.hid hall
    have HO := Lib.hid hO
    clear hall
    by_cases hlt : k < l.length
    · obtain ⟨b, off, c0, c2, rfl, hb, hc1, hc2, x0, x1, x2, hd⟩ := (HD.out.only hO).cellAt hlt
      obtain ⟨hs1, hs2⟩ := HS.out k hlt
      obtain ⟨a0, k0, rfl⟩ := hd.cm.slice
      obtain ⟨a2, k2, rfl⟩ := hd.bx.slice
      obtain ⟨cb, hcb⟩ : ∃ cb, chkB (dlAt l k) n = cb := ⟨_, rfl⟩
      have HCK := Lib.hid (rcheck_is a0 a2 k0 k2 (dlAt l k) n cb wr hd hn hs1 hs2 hcb)
      have HST := Lib.hid (fun (h : (cb && decide ((dlAt l k).cm.length = nd)) = false) => show bb = false by rw [← HB.out, fit_no l n nd k hlt (by rw [hcb]; exact h), Bool.and_false])
      have HSN := Lib.hid (fun (h : (cb && decide ((dlAt l k).cm.length = nd)) = true) => show ∀ j, j < k + 1 → (chkB (dlAt l j) n && decide ((dlAt l j).cm.length = nd)) = true from fun j hj => by
        by_cases e : j = k
        · rw [e, hcb]; exact h
        · exact HALL.out j (by omega))
      generalize (dlAt l k).pt = pt at *
      generalize (dlAt l k).bx.length = bl at *
      generalize (dlAt l k).cm.length = cl at *
      have i1 : (k : Int) < l.length := by omega
      have i2 : 0 ≤ (k : Int) := by omega
      clear hd hcb hO
      go_wp2_with fail
      refine HCK.out.mono ?_
      rintro e w1 ⟨rfl, hO1⟩
      have HO1 := Lib.hid (HO.out.trans hO1)
      have y0 := hO1.cell x0 (fun h => h)
      have hb1 := Nat.lt_of_lt_of_le hb hO1.size
      clear hO1 x0 x1 x2 HCK
      cases cb
      · have HF := Lib.hid (HST.out rfl)
        clear HST HSN
        go_wp2_with fail
        go_quiet ((go_at_call 34; exact quiet_left (HND.out _)))
        have HO2 := Lib.hid (HO1.out.drewN nq)
        go_wp2
        go_ret
        exact ⟨by rw [HF.out]; rfl, HO2.out⟩
      · by_cases hcl : cl = nd
        · have HN := Lib.hid (HSN.out (by rw [decide_eq_true hcl]; rfl))
          have q1 : ((cl : Int) != nd) = false := by rw [hcl]; simp
          clear HST HSN hcl
          go_wp2_with fail
          go_quiet ((go_at_call 34; exact quiet_left (HND.out _)))
          have HO2 := Lib.hid (HO1.out.drewN nq)
          go_wp2
          go_roundw
          case rel => exact ⟨k + 1, by omega, by go_num, HN.out, HO2.out⟩
          case measure => simp [intOf]; omega
        · have HF := Lib.hid (HST.out (by rw [decide_eq_false hcl]; rfl))
          have q1 : ((cl : Int) != nd) = true := by rw [bne_iff_ne]; omega
          clear HST HSN hcl
          go_wp2_with fail
          go_quiet ((go_at_call 34; exact quiet_left (HND.out _)))
          have HO2 := Lib.hid (HO1.out.drewN nq)
          go_wp2
          go_ret
          exact ⟨by rw [HF.out]; rfl, HO2.out⟩
    · obtain rfl : k = l.length := by omega
      have i1 : ¬ (l.length : Int) < l.length := by omega
      have HF := Lib.hid (show bb = decide (1 ≤ l.length) by rw [← HB.out, fit_yes l n nd HALL.out, Bool.and_true])
      clear hO
      by_cases h0 : 1 ≤ l.length
      · have i2 : decide (0 < l.length) = true := decide_eq_true (by omega)
        have i3 : decide ((0 : Int) < l.length) = true := decide_eq_true (by omega)
        rw [decide_eq_true h0] at HF
        go_wp2
        go_ret
        exact ⟨by rw [HF.out]; rfl, HO.out⟩
      · have i2 : decide (0 < l.length) = false := decide_eq_false (by omega)
        have i3 : decide ((0 : Int) < l.length) = false := decide_eq_false (by omega)
        rw [decide_eq_false h0] at HF
        go_wp2
        go_ret
        exact ⟨by rw [HF.out]; rfl, HO.out⟩
end Go.Proofs.YtalclldccnichaaGreat
