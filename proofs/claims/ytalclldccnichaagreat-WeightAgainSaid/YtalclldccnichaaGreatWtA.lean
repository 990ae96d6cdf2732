/-
  The program's dealings: members, Check; package weight: total, dealt.
-/
import Derived.Test.YtalclldccnichaaGreatRef08
namespace Go.Proofs.YtalclldccnichaaGreat
open Go.RowKit

set_option maxHeartbeats 1000000 in
theorem members_is (sv : Value) (zs : List Int) (bb : Bool) (w : World) (hI : PtsAt w.heap.size w sv zs) (_hlen : zs.length ≤ 1000000) (hb : membersB zs = bb) :
    Calls Tryz.prog 95 #[sv] w fun e w' => e = .returned (.bool bb) ∧ Only (fun _ => False) w w' := by
  obtain ⟨a1, c1, rfl⟩ := hI.slice
  have HI := Lib.hid hI
  have HB := Lib.hid hb
  clear hI hb
  go_enter Tryz.func95, Tryz.ntmps95
  go_wp2_with fail
  go_loopw [7] (fun vi wr => ∃ (k : Nat), k ≤ zs.length ∧ vi = .int .i64 k ∧ (∀ j, j < k → memB (ptAt zs j) = true) ∧ Only (fun _ => False) w wr) (fun vi _ => zs.length - (intOf vi).toNat)
  case atStart => exact ⟨0, Nat.zero_le _, rfl, fun j h => by omega, Only.refl _ _⟩
  case round =>
    obtain ⟨k, hk, rfl, hall, hO⟩ := hrel
    have HA := Lib.hid hall
    have HO := Lib.hid hO
    clear hall hO
    by_cases hlt : k < zs.length
    · obtain ⟨b, off, rfl, hb, hl0, hc1, hc2, hcell⟩ := (HI.out.only HO.out).cellAt hlt
      have i1 : (k : Int) < zs.length := by omega
      clear hl0
      cases hm : memB (ptAt zs k)
      · have HF := Lib.hid (show bb = false by rw [← HB.out]; exact membersB_take zs k hlt hm)
        have HM := Lib.hid (member_is (ptAt zs k) false wr hm)
        generalize ptAt zs k = z at *
        go_wp2_with fail
        refine HM.out.mono ?_
        rintro e w1 ⟨rfl, hO1⟩
        have HO1 := Lib.hid (HO.out.trans hO1)
        clear hO1
        go_wp2
        go_ret
        exact ⟨by rw [HF.out]; rfl, HO1.out⟩
      · have HN := Lib.hid (show ∀ j, j < k + 1 → memB (ptAt zs j) = true from fun j hj => by
          by_cases e : j = k
          · rw [e]; exact hm
          · exact HA.out j (by omega))
        have HM := Lib.hid (member_is (ptAt zs k) true wr hm)
        generalize ptAt zs k = z at *
        go_wp2_with fail
        refine HM.out.mono ?_
        rintro e w1 ⟨rfl, hO1⟩
        have HO1 := Lib.hid (HO.out.trans hO1)
        clear hO1
        go_wp2
        go_roundw
        case rel => exact ⟨k + 1, by omega, by go_num, HN.out, HO1.out⟩
        case measure => simp [intOf]; omega
    · have HT := Lib.hid (show bb = true by rw [← HB.out]; exact membersB_all zs (fun j hj => HA.out j (by omega)))
      have i1 : ¬ (k : Int) < zs.length := by omega
      go_wp2
      go_ret
      exact ⟨by rw [HT.out]; rfl, HO.out⟩
/-- Boxes of 16 bytes. -/
def b16B (l : List ByteArray) : Bool := l.all (fun s => s.size == 16)
theorem b16_no (l : List ByteArray) (k : Nat) (h : k < l.length) (hb : (sAt l k).size ≠ 16) : b16B l = false := by
  unfold b16B
  rw [List.all_eq_false]
  refine ⟨l[k], List.getElem_mem h, ?_⟩
  have : sAt l k = l[k] := by simp [sAt, List.getD, h]
  rw [← this]; simpa using hb
theorem b16_yes (l : List ByteArray) (h : ∀ j, j < l.length → (sAt l j).size = 16) : b16B l = true := by
  unfold b16B
  rw [List.all_eq_true]
  intro x hx
  obtain ⟨j, hj, rfl⟩ := List.mem_iff_getElem.1 hx
  have := h j hj
  simpa [sAt, List.getD, hj] using this
/-- Is a dealing in form for n keys? -/
def chkB (d : Dl) (n : Nat) : Bool := (decide (d.bx.length = n) && decide (1 ≤ d.cm.length) && decide (d.cm.length ≤ n)) && (b16B d.bx && (membersB d.cm && memB d.pt))

set_option maxRecDepth 100000 in
set_option maxHeartbeats 1000000 in
theorem check_is (a0 a2 : Option Addr) (k0 k2 : Nat) (d : Dl) (n : Nat) (bb : Bool) (w : World) (hD : DlAt w (.slice a0 d.cm.length k0) (.int .i64 d.pt) (.slice a2 d.bx.length k2) d) (_hn : n ≤ 1000) (hbx : d.bx.length ≤ 1000000) (hcm : d.cm.length ≤ 1000000) (hb : chkB d n = bb) :
    Calls Tryz.prog 67 #[.agg #[.slice a0 d.cm.length k0, .int .i64 d.pt, .slice a2 d.bx.length k2], .int .i64 n] w fun e w' => e = .returned (.bool bb) ∧ Only (fun _ => False) w w' := by
  have HB := Lib.hid hb
  have hA := (Only.refl (fun _ => False) w).alloc (.cells #[.slice a0 d.cm.length k0, .int .i64 d.pt, .slice a2 d.bx.length k2] 72)
  have hz := heap_alloc_last w (.cells #[.slice a0 d.cm.length k0, .int .i64 d.pt, .slice a2 d.bx.length k2] 72)
  have HZ := Lib.hid hz
  have HA := Lib.hid hA
  have HCM := Lib.hid (hD.cm.only hA)
  have HBX := Lib.hid (hD.bx.only hA)
  have e0 := cell_of_row _ _ 0 _ _ _ hz
  have e1 := cell_of_row _ _ 1 _ _ _ hz
  have e2 := cell_of_row _ _ 2 _ _ _ hz
  have l0 := own_lt0 hz
  clear hD hA hz hb
  by_cases h1 : d.bx.length = n
  · by_cases h2 : 1 ≤ d.cm.length
    · by_cases h3 : d.cm.length ≤ n
      · have HB1 := Lib.hid (show chkB d n = (b16B d.bx && (membersB d.cm && memB d.pt)) by unfold chkB; rw [decide_eq_true h1, decide_eq_true h2, decide_eq_true h3]; rfl)
        have q1 : ((d.bx.length : Int) != n) = false := by rw [h1]; simp
        have q2 : ¬ (d.cm.length : Int) < 1 := by omega
        have q3 : ¬ (n : Int) < d.cm.length := by omega
        have H1 := Lib.hid h1
        clear h1
        go_enter Tryz.func67, Tryz.ntmps67
        go_wp2_with fail
        generalize w.alloc (.cells #[.slice a0 d.cm.length k0, .int .i64 d.pt, .slice a2 d.bx.length k2] 72) = w1 at *
        go_loop [28] (fun vi => ∃ k : Nat, k ≤ d.bx.length ∧ vi = .int .i64 k ∧ ∀ j, j < k → (sAt d.bx j).size = 16) (fun vi => d.bx.length - (intOf vi).toNat)
        case atStart => exact ⟨0, Nat.zero_le _, rfl, fun j h => by omega⟩
        case round =>
          obtain ⟨k, hk, rfl, hall⟩ := hrel
          have HALL := Lib.hid hall
          clear hall
          by_cases hlt : k < d.bx.length
          · obtain ⟨b, off, rfl, hb, hc1, hc2, hcell⟩ := HBX.out.cellAt (k := k) hlt
            have i1 : (k : Int) < d.bx.length := by omega
            by_cases h16 : (sAt d.bx k).size = 16
            · have q4 : (((sAt d.bx k).size : Int) != 16) = false := by rw [h16]; rfl
              have HN := Lib.hid (show ∀ j, j < k + 1 → (sAt d.bx j).size = 16 from fun j hj => by
                by_cases e : j = k
                · rw [e]; exact h16
                · exact HALL.out j (by omega))
              clear h16
              generalize sAt d.bx k = s at *
              go_wp2
              go_round
              case rel => exact ⟨k + 1, by omega, by go_num, HN.out⟩
              case measure => simp [intOf]; omega
            · have HF := Lib.hid (show bb = false by rw [← HB.out, HB1.out, b16_no d.bx k hlt h16]; rfl)
              have q4 : (((sAt d.bx k).size : Int) != 16) = true := by rw [bne_iff_ne]; omega
              clear h16
              generalize sAt d.bx k = s at *
              go_wp2
              go_ret
              exact ⟨by rw [HF.out]; rfl, HA.out⟩
          · have i1 : ¬ (k : Int) < d.bx.length := by omega
            have HB2 := Lib.hid (show bb = (membersB d.cm && memB d.pt) by rw [← HB.out, HB1.out, b16_yes d.bx (fun j hj => HALL.out j (by omega))]; rfl)
            cases hm : membersB d.cm
            · have HF := Lib.hid (show bb = false by rw [HB2.out, hm]; rfl)
              have HMM := Lib.hid (members_is _ d.cm false w1 HCM.out hcm hm)
              clear hm
              go_wp2_with fail
              refine HMM.out.mono ?_
              rintro e w2 ⟨rfl, hO2⟩
              have HO2 := Lib.hid (HA.out.trans hO2)
              clear hO2
              go_wp2
              go_ret
              exact ⟨by rw [HF.out]; rfl, HO2.out⟩
            · have HF := Lib.hid (show bb = memB d.pt by rw [HB2.out, hm]; rfl)
              have HMM := Lib.hid (members_is _ d.cm true w1 HCM.out hcm hm)
              clear hm
              go_wp2_with fail
              refine HMM.out.mono ?_
              rintro e w2 ⟨rfl, hO2⟩
              have HO2 := Lib.hid (HA.out.trans hO2)
              have c1 := hO2.cell e1 id
              have l2 := Nat.lt_of_lt_of_le l0 hO2.size
              clear hO2
              go_wp2_with fail
              refine (member_is d.pt (memB d.pt) w2 rfl).mono ?_
              rintro e w3 ⟨rfl, hO3⟩
              have HO3 := Lib.hid (HO2.out.trans hO3)
              generalize memB d.pt = mb at *
              clear hO3
              go_wp2
              go_ret
              exact ⟨by rw [HF.out]; rfl, HO3.out⟩
      · have HF := Lib.hid (show bb = false by rw [← HB.out]; unfold chkB; rw [decide_eq_false h3]; simp)
        have q1 : ((d.bx.length : Int) != n) = false := by rw [h1]; simp
        have q2 : ¬ (d.cm.length : Int) < 1 := by omega
        have q3 : (n : Int) < d.cm.length := by omega
        clear h1
        go_enter Tryz.func67, Tryz.ntmps67
        go_wp2
        go_ret
        exact ⟨by rw [HF.out]; rfl, HA.out⟩
    · have HF := Lib.hid (show bb = false by rw [← HB.out]; unfold chkB; rw [decide_eq_false h2]; simp)
      have q1 : ((d.bx.length : Int) != n) = false := by rw [h1]; simp
      have q2 : (d.cm.length : Int) < 1 := by omega
      clear h1
      go_enter Tryz.func67, Tryz.ntmps67
      go_wp2
      go_ret
      exact ⟨by rw [HF.out]; rfl, HA.out⟩
  · have HF := Lib.hid (show bb = false by rw [← HB.out]; unfold chkB; rw [decide_eq_false h1]; rfl)
    have q1 : ((d.bx.length : Int) != n) = true := by rw [bne_iff_ne]; omega
    clear h1
    go_enter Tryz.func67, Tryz.ntmps67
    go_wp2
    go_ret
    exact ⟨by rw [HF.out]; rfl, HA.out⟩
/-- The number of points of rows. -/
def gridTo (rows : List (List Int)) : Nat → Nat
  | 0 => 0
  | k + 1 => gridTo rows k + (rows.getD k []).length
def gridN (rows : List (List Int)) : Nat := gridTo rows rows.length
set_option maxHeartbeats 1000000 in
theorem wtotal_is (gv : Value) (rows : List (List Int)) (w : World) (hG : GridAt w gv rows) (hs : ∀ k, k ≤ rows.length → gridTo rows k ≤ 1000000) :
    Calls Tryz.prog 40 #[gv] w fun e w' => e = .returned (.int .i64 (gridN rows)) ∧ w = w' := by
  have HG := Lib.hid hG
  have HS := Lib.hid hs
  obtain ⟨a, c, rfl⟩ := hG.slice
  clear hG hs
  go_enter Tryz.func40, Tryz.ntmps40
  go_wp2_with fail
  go_loop [3, 8] (fun vn vi => ∃ k : Nat, k ≤ rows.length ∧ vi = .int .i64 k ∧ vn = .int .i64 (gridTo rows k)) (fun _ vi => rows.length - (intOf vi).toNat)
  case atStart => exact ⟨0, Nat.zero_le _, rfl, rfl⟩
  case round =>
    obtain ⟨k, hk, rfl, rfl⟩ := hrel
    by_cases hlt : k < rows.length
    · have i1 : (k : Int) < rows.length := by omega
      rcases HG.out with ⟨_, _, _, h0⟩ | ⟨b, off, cap, hv, hb, h1, h2, hc⟩
      · rw [h0] at hlt; simp at hlt
      · simp only [Value.slice.injEq, true_and] at hv
        obtain ⟨rfl, rfl⟩ := hv
        obtain ⟨u, hu, hp⟩ := hc k hlt
        obtain ⟨au, cu, rfl⟩ := hp.slice
        have HN := Lib.hid (show gridTo rows (k + 1) = gridTo rows k + (rows.getD k []).length from rfl)
        have s1 := HS.out k hk
        have s2 := HS.out (k + 1) (by omega)
        rw [HN.out] at s2
        generalize gridTo rows k = t at *
        generalize (rows.getD k []).length = m at *
        clear hc hp
        go_wp2
        go_round
        case rel => exact ⟨k + 1, by omega, by go_num, by rw [HN.out]; go_num⟩
        case measure => simp [intOf]; omega
    · obtain rfl : k = rows.length := by omega
      have i1 : ¬ (rows.length : Int) < rows.length := by omega
      go_wp2
      go_ret
      exact ⟨rfl, rfl⟩
end Go.Proofs.YtalclldccnichaaGreat
