/-
  The program's texts of dealings: Text.
  The deal laws' sanity.
  The walk of the law DealValues.
  A dealing by numbers: the reference's Keys, Numbers.
  What the law DealDeals holds while it runs.
  The reference's copy of a dealing.
-/
import Derived.Test.YtkpfachmakfncaaGreatDoorPk17
import Derived.Laws.EntriesVeiled
import Derived.Test.YtkpfachmakfncaaGreatDoorPk13
import Derived.Test.YtkpfachmakfncaaGreatDoorPk12
import Derived.IntWalk
namespace Go.Proofs.YtkpfachmakfncaaGreatDoor
open Go.RowKit

theorem numB_len (n : Int) (h0 : -9223372036854775808 ≤ n) (h1 : n ≤ 9223372036854775807) : (numB n).length ≤ 22 := by
  have := Lib.itoa_length_le n h0 h1
  simp only [numB, List.length_cons]
  omega
theorem numsB_len : ∀ (l : List Int), (∀ x ∈ l, -9223372036854775808 ≤ x ∧ x ≤ 9223372036854775807) → (numsB l).length ≤ 22 * l.length
  | [], _ => by simp [numsB]
  | a :: l, h => by
    have h1 := numB_len a (h a (by simp)).1 (h a (by simp)).2
    have h2 := numsB_len l (fun x hx => h x (by simp [hx]))
    have : numsB (a :: l) = numB a ++ numsB l := rfl
    rw [this, List.length_append, List.length_cons]
    omega
theorem hexTo_len (s : ByteArray) : ∀ k, (hexTo s k).length = 2 * k
  | 0 => rfl
  | k + 1 => by rw [hexTo, List.length_append, hexTo_len s k]; simp; omega
theorem boxTB_len (s : ByteArray) : (boxTB s).length = 1 + 2 * s.size := by unfold boxTB hexB; rw [List.length_cons, hexTo_len]; omega
theorem boxesB_lenN (N : Nat) : ∀ (l : List ByteArray), (∀ s ∈ l, s.size ≤ N) → (boxesB l).length ≤ (2 * N + 1) * l.length
  | [], _ => by simp [boxesB]
  | a :: l, h => by
    have h1 := boxTB_len a
    have h2 := boxesB_lenN N l (fun x hx => h x (by simp [hx]))
    have h3 := h a (by simp)
    have : boxesB (a :: l) = boxTB a ++ boxesB l := rfl
    rw [this, List.length_append, List.length_cons, Nat.mul_add]
    omega
theorem mem_ptAt {l : List Int} (h : IntsW l) : ∀ x ∈ l, -9223372036854775808 ≤ x ∧ x ≤ 9223372036854775807 := by
  intro x hx
  obtain ⟨j, hj, rfl⟩ := List.mem_iff_getElem.1 hx
  have := h.wf j
  simpa [ptAt, List.getD, hj] using this
theorem mem_sAt {l : List ByteArray} {n : Nat} (h : ∀ i, (sAt l i).size ≤ n) : ∀ x ∈ l, x.size ≤ n := by
  intro x hx
  obtain ⟨j, hj, rfl⟩ := List.mem_iff_getElem.1 hx
  have := h j
  simpa [sAt, List.getD, hj] using this
def hexS : ByteArray := ⟨#[48, 49, 50, 51, 52, 53, 54, 55, 56, 57, 97, 98, 99, 100, 101, 102]⟩
theorem hexS_at : ∀ n : Nat, n < 16 → (hexS.extract n (n + 1)).data.toList = [hexDig n] := by
  intro n hn
  have : ∀ n : Fin 16, (hexS.extract n.1 (n.1 + 1)).data.toList = [hexDig n.1] := by decide +kernel
  exact this ⟨n, hn⟩
theorem tx_start (w : World) (o : Obj) : TxAt (w.alloc o) (w.heap.size + 1) [] (((w.alloc o).alloc (.cells #[.pointer none, .slice none 0 0] 56)).alloc (.cells #[.func (.func 23) #[.pointer (some ⟨w.heap.size + 1, 0, none⟩)] #[]] 57)) := by
  have h1 := bld_new (w.heap.size + 1) (w.alloc o) (by simp)
  have e : (w.alloc o).heap.size = w.heap.size + 1 := by simp
  rw [e] at h1
  refine ⟨h1.only ((Only.refl _ _).alloc _), ?_, ?_⟩
  · have := heap_alloc_last ((w.alloc o).alloc (.cells #[.pointer none, .slice none 0 0] 56)) (.cells #[.func (.func 23) #[.pointer (some ⟨w.heap.size + 1, 0, none⟩)] #[]] 57)
    simpa using this
  · exact (((Below.refl _ (w.alloc o)).alloc (by simp) _).alloc (by simp) _)
theorem TxAt.row {w wr : World} {b k : Nat} {l : List UInt8} {o : Obj} (h : TxAt w b l wr) (hk : w.heap[k]? = some o) (hb : k < b) : wr.heap[k]? = some o := (h.below.block k hb).trans hk

theorem and15 (x : Int) (h0 : 0 ≤ x) (h1 : x ≤ 255) : bits BinOp.and IntKind.u8 x 15 = x % 16 := by
  obtain ⟨n, rfl⟩ := Int.eq_ofNat_of_zero_le h0
  have : ∀ n : Fin 256, bits BinOp.and IntKind.u8 (n.1 : Int) 15 = (n.1 : Int) % 16 := by decide +kernel
  exact this ⟨n, by omega⟩
set_option maxRecDepth 100000 in
set_option maxHeartbeats 4000000 in
theorem textW_any (a0 a2 : Option Addr) (k0 k2 : Nat) (d : Dl) (w : World) (hD : DlAt w (.slice a0 d.cm.length k0) (.int .i64 d.pt) (.slice a2 d.bx.length k2) d) (hcm : d.cm.length ≤ 2000000) (hbx : d.bx.length ≤ 2000000) (hp : IntsW d.cm ∧ -9223372036854775808 ≤ d.pt ∧ d.pt ≤ 9223372036854775807) (hs : ∀ i, (sAt d.bx i).size ≤ 2000000) (hG : Glob w) :
    Calls Tryz.prog 6 #[.agg #[.slice a0 d.cm.length k0, .int .i64 d.pt, .slice a2 d.bx.length k2]] w fun e w' => e = .returned (.string (textB d)) ∧ Only (fun _ => False) w w' := by
  obtain ⟨hcw, hp0, hp1⟩ := hp
  have hA := (Only.refl (fun _ => False) w).alloc (.cells #[.slice a0 d.cm.length k0, .int .i64 d.pt, .slice a2 d.bx.length k2] 25)
  have HA := Lib.hid hA
  have HD := Lib.hid (hD.only hA)
  have HG := Lib.hid (hG.only hA)
  have HZ := Lib.hid (heap_alloc_last w (.cells #[.slice a0 d.cm.length k0, .int .i64 d.pt, .slice a2 d.bx.length k2] 25))
  have HT0 := Lib.hid (tx_start w (.cells #[.slice a0 d.cm.length k0, .int .i64 d.pt, .slice a2 d.bx.length k2] 25))
  have hw0 : (w.alloc (.cells #[.slice a0 d.cm.length k0, .int .i64 d.pt, .slice a2 d.bx.length k2] 25)).heap.size = w.heap.size + 1 := by simp
  have HCW := Lib.hid hcw
  have HSS := Lib.hid hs
  have HTX := Lib.hid (show textL d = [100, 101, 97, 108] ++ numB d.cm.length ++ numsB d.cm ++ numB d.pt ++ boxesB d.bx from rfl)
  have HL1 := Lib.hid (fun k => numsB_len (d.cm.take k) (fun x hx => mem_ptAt hcw x (List.mem_of_mem_take hx)))
  have HL2 := Lib.hid (fun k => boxesB_lenN 2000000 (d.bx.take k) (fun x hx => mem_sAt hs x (List.mem_of_mem_take hx)))
  have HNUM := Lib.hid (fun (w0 : World) (hz : w0.heap.size = w.heap.size + 1) (hG0 : Glob w0) (n : Int) (l : List UInt8) (wr : World) (h0 : -9223372036854775808 ≤ n) (h1 : n ≤ 9223372036854775807) (hT : TxAt w0 (w.heap.size + 1) l wr) (hl : l.length ≤ 1000000000) => number1_any (w.heap.size + 1) l n w0 wr h0 h1 hT hl (hG0.only (Only.ofBelow (by rw [hz]; exact hT.below) _)) (fun w' hB => hG0.only (Only.ofBelow (by rw [hz]; exact hT.below.trans hB) _)))
  have HPTS := Lib.hid (fun (w0 : World) (hz : w0.heap.size = w.heap.size + 1) (l : List UInt8) (wr : World) (hD : DlAt w0 (.slice a0 d.cm.length k0) (.int .i64 d.pt) (.slice a2 d.bx.length k2) d) (hT : TxAt w0 (w.heap.size + 1) l wr) => hD.only (Only.ofBelow (by rw [hz]; exact hT.below) _))
  have HW0 := Lib.hid hw0
  clear hA hD hG hcw hs hw0
  go_enter Tryz.func6, Tryz.ntmps6
  go_wp2_with fail
  refine (bwrite_any (w.heap.size + 1) (w.heap.size + 1) [] ⟨#[100, 101, 97, 108]⟩ _ HT0.out.is (by decide) (Nat.le_of_lt HT0.out.is.lt)).mono ?_
  rintro e w1 ⟨rfl, hp1⟩
  have HT1 := Lib.hid (HT0.out.post hp1)
  clear hp1 HT0
  generalize hW0 : w.alloc (.cells #[.slice a0 d.cm.length k0, .int .i64 d.pt, .slice a2 d.bx.length k2] 25) = w0 at *
  clear hW0
  have f0 : _ = some (Value.slice a0 d.cm.length k0) := cell_of_row _ _ 0 _ _ _ (HT1.out.row HZ.out (Nat.lt_succ_self _))
  go_wp2_with fail
  refine (HNUM.out w0 HW0.out HG.out d.cm.length _ w1 (by omega) (by omega) HT1.out (by decide)).mono ?_
  rintro e w2 ⟨rfl, hT2⟩
  have HT2 := Lib.hid (show TxAt w0 (w.heap.size + 1) ([100, 101, 97, 108] ++ numB d.cm.length) w2 from hT2)
  obtain ⟨p1, hp1'⟩ : ∃ l, [100, 101, 97, 108] ++ numB d.cm.length = l := ⟨_, rfl⟩
  have HP1L := Lib.hid (show p1.length ≤ 26 by rw [← hp1', List.length_append]; have := numB_len d.cm.length (by omega) (by omega); simp only [List.length_cons, List.length_nil]; omega)
  rw [hp1'] at HTX HT2
  clear hT2 f0 HT1 hp1'
  have f0 : _ = some (Value.slice a0 d.cm.length k0) := cell_of_row _ _ 0 _ _ _ (HT2.out.row HZ.out (Nat.lt_succ_self _))
  go_wp2_with fail
  go_loopw [23] (fun vi wr => ∃ k : Nat, k ≤ d.cm.length ∧ vi = .int .i64 k ∧ TxAt w0 (w.heap.size + 1) (p1 ++ numsB (d.cm.take k)) wr) (fun vi _ => d.cm.length - (intOf vi).toNat)
  case atStart => exact ⟨0, Nat.zero_le _, rfl, by rw [List.take_zero]; simpa [numsB] using HT2.out⟩
  case round =>
    clear f0
    obtain ⟨k, hk, rfl, hT⟩ := hrel
    have HT := Lib.hid hT
    by_cases hlt : k < d.cm.length
    · obtain ⟨bc, oc, rfl, hb, hl0, hcp1, hcp2, hcell⟩ := (HPTS.out w0 HW0.out _ wr HD.out hT).cm.cellAt hlt
      have HSTEP := Lib.hid (show p1 ++ numsB (d.cm.take (k + 1)) = (p1 ++ numsB (d.cm.take k)) ++ numB (ptAt d.cm k) by unfold numsB; rw [flat_step numB 0 d.cm k hlt, List.append_assoc]; rfl)
      have HNL := Lib.hid (show (p1 ++ numsB (d.cm.take k)).length ≤ 1000000000 by
        have h1 := HL1.out k
        have h2 := HP1L.out
        rw [List.length_take] at h1
        rw [List.length_append]
        omega)
      obtain ⟨z0, z1⟩ := HCW.out.wf k
      generalize ptAt d.cm k = z at *
      have i1 : (k : Int) < d.cm.length := by omega
      clear hl0 hk hT
      go_wp2_with fail
      refine (HNUM.out w0 HW0.out HG.out z _ wr z0 z1 HT.out HNL.out).mono ?_
      rintro e w3 ⟨rfl, hT3⟩
      have HT3 := Lib.hid hT3
      rw [← HSTEP.out] at HT3
      clear hT3
      go_wp2
      go_roundw
      case rel => exact ⟨k + 1, by omega, by go_num, HT3.out⟩
      case measure => simp [intOf]; omega
    · obtain rfl : k = d.cm.length := by omega
      rw [List.take_length] at HT
      have i1 : ¬ (d.cm.length : Int) < d.cm.length := by omega
      have f1 : _ = some (Value.int .i64 d.pt) := cell_of_row _ _ 1 _ _ _ (HT.out.row HZ.out (Nat.lt_succ_self _))
      have HNL := Lib.hid (show (p1 ++ numsB d.cm).length ≤ 1000000000 by
        have h1 := HL1.out d.cm.length
        have h2 := HP1L.out
        rw [List.take_length] at h1
        rw [List.length_append]
        omega)
      clear hT hlt hk HT2
      go_wp2_with fail
      refine (HNUM.out w0 HW0.out HG.out d.pt _ wr hp0 hp1 HT.out HNL.out).mono ?_
      rintro e w3 ⟨rfl, hT3⟩
      have HT3 := Lib.hid hT3
      obtain ⟨p2, hp2'⟩ : ∃ l, p1 ++ numsB d.cm ++ numB d.pt = l := ⟨_, rfl⟩
      have HP2L := Lib.hid (show p2.length ≤ 50000000 by
        have h1 := HL1.out d.cm.length
        have h2 := HP1L.out
        rw [List.take_length] at h1
        have := numB_len d.pt hp0 hp1
        rw [← hp2', List.length_append, List.length_append]
        omega)
      rw [hp2'] at HTX HT3
      clear hT3 f1 HT hp2' HNL HP1L HL1
      have f2 : _ = some (Value.slice a2 d.bx.length k2) := cell_of_row _ _ 2 _ _ _ (HT3.out.row HZ.out (Nat.lt_succ_self _))
      go_wp2_with fail
      generalize hwr : wr = wq at *
      go_loopw [38] (fun vi wr => ∃ k : Nat, k ≤ d.bx.length ∧ vi = .int .i64 k ∧ TxAt w0 (w.heap.size + 1) (p2 ++ boxesB (d.bx.take k)) wr) (fun vi _ => d.bx.length - (intOf vi).toNat)
      case atStart => exact ⟨0, Nat.zero_le _, rfl, by rw [List.take_zero]; simpa [boxesB] using HT3.out⟩
      case round =>
        clear f2 HT3 hwr
        obtain ⟨k, hk, rfl, hT⟩ := hrel
        generalize wr = w4 at *
        have HT := Lib.hid hT
        by_cases hlt : k < d.bx.length
        · obtain ⟨bc, oc, rfl, hb, hcp1, hcp2, hcell⟩ := strs_cellAt (HPTS.out w0 HW0.out _ w4 HD.out hT).bx hlt
          have HSTEP := Lib.hid (show p2 ++ boxesB (d.bx.take (k + 1)) = (p2 ++ boxesB (d.bx.take k)) ++ boxTB (sAt d.bx k) by unfold boxesB; rw [flat_step boxTB ByteArray.empty d.bx k hlt, List.append_assoc]; rfl)
          have hsz := HSS.out k
          have HNL := Lib.hid (show (p2 ++ boxesB (d.bx.take k)).length ≤ 100000000000000 by
            have h1 := HL2.out k
            have h2 := HP2L.out
            rw [List.length_take] at h1
            rw [List.length_append]
            omega)
          generalize sAt d.bx k = s at *
          generalize p2 ++ boxesB (d.bx.take k) = p3 at *
          have i2 : (k : Int) < d.bx.length := by omega
          have c0 : _ = some (Value.func (.func 23) #[.pointer (some ⟨w.heap.size + 1, 0, none⟩)] #[]) := cell_of_row _ _ 0 _ _ _ HT.out.cell
          clear hk hT
          have HB1 := Lib.hid (fun (l : List UInt8) (x : ByteArray) (wr : World) (hT : TxAt w0 (w.heap.size + 1) l wr) (hl : l.length + x.size ≤ 140737488355328) => bwrite_any (w.heap.size + 1) (w.heap.size + 1) l x wr hT.is hl (Nat.le_of_lt hT.is.lt))
          go_wp2_with fail
          refine (HB1.out _ ⟨#[32]⟩ w4 HT.out (by have := HNL.out; show _ + 1 ≤ _; omega)).mono ?_
          rintro e w5 ⟨rfl, hp5⟩
          have HT5 := Lib.hid (HT.out.post hp5)
          clear hp5 c0 HT
          go_wp2_with fail
          go_loopw [46] (fun vi wr => ∃ j : Nat, j ≤ s.size ∧ vi = .int .i64 j ∧ TxAt w0 (w.heap.size + 1) (p3 ++ 32 :: hexTo s j) wr) (fun vi _ => s.size - (intOf vi).toNat)
          case atStart => exact ⟨0, Nat.zero_le _, rfl, HT5.out⟩
          case round =>
            clear HT5
            obtain ⟨j, hj, rfl, hT⟩ := hrel
            have HT := Lib.hid hT
            by_cases hjl : j < s.size
            · have c0 : _ = some (Value.func (.func 23) #[.pointer (some ⟨w.heap.size + 1, 0, none⟩)] #[]) := cell_of_row _ _ 0 _ _ _ hT.cell
              have i3 : (j : Int) < s.size := by omega
              have i4 : 0 ≤ (j : Int) := by omega
              have hbz := byteZ_eq s j hjl
              obtain ⟨x0, x1⟩ : 0 ≤ byteZ s j ∧ byteZ s j ≤ 255 := by obtain ⟨n, hn, e⟩ := byteZ_nat s j; omega
              have HX := Lib.hid (show hexTo s (j + 1) = hexTo s j ++ [hexDig ((byteZ s j).toNat / 16), hexDig ((byteZ s j).toNat % 16)] from rfl)
              generalize byteZ s j = x at *
              have q0 : 0 ≤ x / 16 := by omega
              have q1 : x / 16 ≤ 15 := by omega
              have q2 : x / 16 + 1 ≤ 16 := by omega
              have q3 : x / 16 ≤ x / 16 + 1 := by omega
              have q4 : (x / 16 + 1) % 256 = x / 16 + 1 := by omega
              have q5 : 0 ≤ x / 16 + 1 := by omega
              clear hT hj
              go_wp2_with fail
              refine wp_region_quiet_split2 11 (by kernel_rfl) (by kernel_rfl) (by kernel_rfl) ?_
              simp only [List.take_succ_cons, List.take_zero, List.drop_succ_cons, List.drop_zero]
              repeat (go_big_quiet_step (fail))
              refine wpQuiet_nil ?_
              intro _ hw'
              obtain ⟨nq, hw''⟩ := hw'
              subst hw''
              have HT1 := Lib.hid (HT.out.only ((Only.refl (fun _ => False) wr).drewN nq))
              have HE1 := Lib.hid (hexS_at (x / 16).toNat (by omega))
              have en1 : (x / 16 + 1).toNat = (x / 16).toNat + 1 := by omega
              clear HT c0
              go_wp2_with fail
              rw [en1]
              have hes := hexTo_len s j
              refine (HB1.out _ _ _ HT1.out (by
                rw [show (ByteArray.extract ⟨#[48, 49, 50, 51, 52, 53, 54, 55, 56, 57, 97, 98, 99, 100, 101, 102]⟩ (x / 16).toNat ((x / 16).toNat + 1)).size = 1 from congrArg List.length HE1.out]
                have := HNL.out
                rw [List.length_append, List.length_cons, hes]
                omega)).mono ?_
              rintro e w6 ⟨rfl, hp6⟩
              have hT6 := HT1.out.post hp6
              rw [show (ByteArray.extract ⟨#[48, 49, 50, 51, 52, 53, 54, 55, 56, 57, 97, 98, 99, 100, 101, 102]⟩ (x / 16).toNat ((x / 16).toNat + 1)).data.toList = [hexDig (x / 16).toNat] from HE1.out] at hT6
              have HT6 := Lib.hid hT6
              have c1 : _ = some (Value.func (.func 23) #[.pointer (some ⟨w.heap.size + 1, 0, none⟩)] #[]) := cell_of_row _ _ 0 _ _ _ hT6.cell
              have hand := and15 x x0 x1
              have r0 : 0 ≤ x % 16 := by omega
              have r1 : x % 16 ≤ 15 := by omega
              have r2 : x % 16 + 1 ≤ 16 := by omega
              have r3 : x % 16 ≤ x % 16 + 1 := by omega
              have r4 : (x % 16 + 1) % 256 = x % 16 + 1 := by omega
              have r5 : 0 ≤ x % 16 + 1 := by omega
              clear hp6 hT6 HT1 q0 q1 q2 q3 q4 q5 en1 HE1
              go_wp2_with fail
              refine wp_region_quiet_split2 11 (by kernel_rfl) (by kernel_rfl) (by kernel_rfl) ?_
              simp only [List.take_succ_cons, List.take_zero, List.drop_succ_cons, List.drop_zero]
              repeat (go_big_quiet_step (fail))
              refine wpQuiet_nil ?_
              intro _ hw'
              obtain ⟨nq2, hw''⟩ := hw'
              subst hw''
              have HT7 := Lib.hid (HT6.out.only ((Only.refl (fun _ => False) w6).drewN nq2))
              have HE2 := Lib.hid (hexS_at (x % 16).toNat (by omega))
              have en2 : (x % 16 + 1).toNat = (x % 16).toNat + 1 := by omega
              clear HT6 c1 hand
              go_wp2_with fail
              rw [en2]
              refine (HB1.out _ _ _ HT7.out (by
                rw [show (ByteArray.extract ⟨#[48, 49, 50, 51, 52, 53, 54, 55, 56, 57, 97, 98, 99, 100, 101, 102]⟩ (x % 16).toNat ((x % 16).toNat + 1)).size = 1 from congrArg List.length HE2.out]
                have := HNL.out
                rw [List.length_append, List.length_append, List.length_cons, hes, List.length_singleton]
                omega)).mono ?_
              rintro e w8 ⟨rfl, hp8⟩
              have hT8 := HT7.out.post hp8
              rw [show (ByteArray.extract ⟨#[48, 49, 50, 51, 52, 53, 54, 55, 56, 57, 97, 98, 99, 100, 101, 102]⟩ (x % 16).toNat ((x % 16).toNat + 1)).data.toList = [hexDig (x % 16).toNat] from HE2.out] at hT8
              have HT8 := Lib.hid (show TxAt w0 (w.heap.size + 1) (p3 ++ 32 :: hexTo s (j + 1)) w8 by
                have e : p3 ++ 32 :: hexTo s (j + 1) = (p3 ++ 32 :: hexTo s j) ++ [hexDig (x / 16).toNat] ++ [hexDig (x % 16).toNat] := by
                  rw [HX.out, show x.toNat / 16 = (x / 16).toNat by omega, show x.toNat % 16 = (x % 16).toNat by omega]
                  simp
                rw [e]; exact hT8)
              clear hp8 hT8 HT7 HE2 r0 r1 r2 r3 r4 r5 en2
              go_wp2
              go_roundw
              case rel => exact ⟨j + 1, by omega, by go_num, HT8.out⟩
              case measure => simp [intOf]; omega
            · obtain rfl : j = s.size := by omega
              have i3 : ¬ (s.size : Int) < s.size := by omega
              have HTN := Lib.hid (show TxAt w0 (w.heap.size + 1) (p2 ++ boxesB (d.bx.take (k + 1))) wr by rw [HSTEP.out]; exact HT.out)
              clear hT HT hjl hj
              go_wp2
              go_roundw
              case rel => exact ⟨k + 1, by omega, by go_num, HTN.out⟩
              case measure => simp [intOf]; omega
        · obtain rfl : k = d.bx.length := by omega
          rw [List.take_length] at HT
          have i1 : ¬ (d.bx.length : Int) < d.bx.length := by omega
          have HS := Lib.hid (bstring_any (w.heap.size + 1) (w.heap.size + 1) _ w4 HT.out.is (Nat.le_of_lt HT.out.is.lt))
          have HE := Lib.hid (show (⟨(p2 ++ boxesB d.bx).toArray⟩ : ByteArray) = textB d by unfold textB; rw [HTX.out])
          have HO := Lib.hid (HA.out.trans (Only.ofBelow (by rw [HW0.out]; exact HT.out.below) (fun _ => False)))
          have hlow := HT.out.is.lt
          clear hT hlt hk
          go_wp2_with fail
          refine HS.out.mono ?_
          rintro e w9 ⟨rfl, hB9⟩
          have HO9 := Lib.hid (show Only (fun _ => False) w w9 from HA.out.trans (Only.ofBelow (by rw [HW0.out]; exact HT.out.below.trans hB9) (fun _ => False)))
          rw [HE.out]
          clear hB9
          go_wp2
          go_ret
          exact ⟨rfl, HO9.out⟩
theorem text_any (a0 a2 : Option Addr) (k0 k2 : Nat) (d : Dl) (w : World) (hD : DlAt w (.slice a0 d.cm.length k0) (.int .i64 d.pt) (.slice a2 d.bx.length k2) d) (hcm : d.cm.length ≤ 10000) (hbx : d.bx.length ≤ 10000) (hp : IntsW d.cm ∧ -9223372036854775808 ≤ d.pt ∧ d.pt ≤ 9223372036854775807) (hs : ∀ i, (sAt d.bx i).size ≤ 10000) (hG : Glob w) :
    Calls Tryz.prog 6 #[.agg #[.slice a0 d.cm.length k0, .int .i64 d.pt, .slice a2 d.bx.length k2]] w fun e w' => e = .returned (.string (textB d)) ∧ Only (fun _ => False) w w' :=
  textW_any a0 a2 k0 k2 d w hD (by omega) (by omega) hp (fun i => Nat.le_trans (hs i) (by decide)) hG
end Go.Proofs.YtkpfachmakfncaaGreatDoor

namespace Go.Proofs.YtkpfachmakfncaaGreatDoor
open Go.RowKit

theorem sane_key : powM 4 9 2305843009213691579 = 262144 := by kernel_rfl
theorem sane_mem : membersB [262144] = true := by kernel_rfl
theorem sane_no : membersB [2] = false := by kernel_rfl
theorem sane_mem3 : membersB [262144, 262144, 262144] = true := by kernel_rfl
theorem sane_in2 (j : Nat) : 0 ≤ ptAt [3, 5] j ∧ ptAt [3, 5] j < 1152921504606845789 := by
  match j with
  | 0 => decide
  | 1 => decide
  | j + 2 => simp [ptAt, List.getD]
theorem sane_in (j : Nat) (_ : j < [(3 : Int), 5].length) : 0 ≤ ptAt [3, 5] j ∧ ptAt [3, 5] j < 1152921504606845789 := sane_in2 j
theorem sane_text : textB ⟨[4, 16], 64, [⟨#[97]⟩, ⟨#[]⟩]⟩ = ⟨#[100, 101, 97, 108, 32, 50, 32, 52, 32, 49, 54, 32, 54, 52, 32, 54, 49, 32]⟩ := by kernel_rfl
theorem strs_lit (w : World) (l : List ByteArray) (T : TypeId) (n : Nat) (hn : w.heap.size = n) (h : l.length ≤ 9223372036854775807) : StrsAt (w.alloc (.cells (srowS l).toArray T)) (.slice (some ⟨n, 0, none⟩) l.length l.length) l := by
  subst hn
  refine .inr ⟨w.heap.size, 0, l.length, rfl, by simp, Nat.le_refl _, h, fun j hj => ?_⟩
  rw [Nat.zero_add, cell_of_row _ w.heap.size j (srowS l).toArray T (0, 0) (heap_alloc_new w _)]
  simp [srowS, sAt, List.getD, hj]
set_option maxRecDepth 100000 in
set_option maxHeartbeats 4000000 in
theorem sanity7_any (w : World) (hG : Glob w) : Calls Tryz.prog 5 #[] w fun e w' => e = .returned (.bool true) ∧ Only (fun _ => False) w w' := by
  have HG := Lib.hid hG
  clear hG
  go_enter Tryz.func5, Tryz.ntmps5
  go_wp2_with fail
  refine (rpow_any 4 9 2305843009213691579 _ (by decide) (by decide) (by decide) (by decide)).mono ?_
  rintro e w' ⟨rfl, rfl⟩
  rw [sane_key]
  go_wp2_with fail
  have hP1 := pts_lit w [1, 2] 3 (by decide)
  have hP2 := pts_at (w.alloc (.cells #[.int .i64 1, .int .i64 2] 3)) [262144] 3 (w.heap.size + 1) (by simp) (by decide)
  have hOa := (Only.refl (fun _ => False) (w.alloc (.cells #[.int .i64 1, .int .i64 2] 3))).alloc (.cells #[.int .i64 262144] 3)
  have hOb := ((Only.refl (fun _ => False) w).alloc (.cells #[.int .i64 1, .int .i64 2] 3)).alloc (.cells #[.int .i64 262144] 3)
  refine (deal_counts _ _ [1, 2] [262144] _ _ (hP1.only hOa) hP2 (by decide) (by decide) (by decide) (.inr (.inr (by decide)))).mono ?_
  rintro e w1 ⟨rfl, hO1⟩
  have HO1 := Lib.hid (hOb.trans hO1)
  clear hP1 hP2 hOa hOb hO1
  go_wp2_with (first | (refine wpList_store_row rfl 25 _ _ rfl w1.heap.size zeroDl rfl rfl 25 _ (heap_alloc_last w1 _) Tryz.infoDl rfl (dl_one _ _ _ _ _ _ _) ?_; rw [World.setRow_alloc_new]))
  have HO2 := Lib.hid (HO1.out.alloc (.cells zeroDl 25))
  have hs : (w1.alloc (.cells zeroDl 25)).heap.size = w1.heap.size + 1 := by simp
  have HS := Lib.hid hs
  clear hs
  generalize w1.heap.size = n1 at *
  generalize w1.alloc (.cells zeroDl 25) = w2 at *
  clear HO1
  have hP1 := pts_at w2 [1] 3 (n1 + 1) HS.out (by decide)
  have hP2 := pts_at (w2.alloc (.cells #[.int .i64 1] 3)) [2] 3 (n1 + 1 + 1) (by rw [World.size_alloc, HS.out]) (by decide)
  have hOa := (Only.refl (fun _ => False) (w2.alloc (.cells #[.int .i64 1] 3))).alloc (.cells #[.int .i64 2] 3)
  have hOb := ((Only.refl (fun _ => False) w2).alloc (.cells #[.int .i64 1] 3)).alloc (.cells #[.int .i64 2] 3)
  refine (deal_counts _ _ [1] [2] _ _ (hP1.only hOa) hP2 (by decide) (by decide) (by decide) (.inl sane_no)).mono ?_
  rintro e w3 ⟨rfl, hO3⟩
  have HO3 := Lib.hid (HO2.out.trans (hOb.trans hO3))
  clear hP1 hP2 hOa hOb hO3 HO2 HS
  go_wp2_with (first | (refine wpList_store_row rfl 25 _ _ rfl w3.heap.size zeroDl rfl rfl 25 _ (heap_alloc_last w3 _) Tryz.infoDl rfl (dl_one _ _ _ _ _ _ _) ?_; rw [World.setRow_alloc_new]))
  have HO4 := Lib.hid (HO3.out.alloc (.cells zeroDl 25))
  have hs : (w3.alloc (.cells zeroDl 25)).heap.size = w3.heap.size + 1 := by simp
  have HS := Lib.hid hs
  clear hs
  generalize w3.heap.size = n3 at *
  generalize w3.alloc (.cells zeroDl 25) = w4 at *
  clear HO3
  have hP1 := pts_at w4 [3, 5] 3 (n3 + 1) HS.out (by decide)
  have hP2 := pts_at (w4.alloc (.cells #[.int .i64 3, .int .i64 5] 3)) [262144, 262144, 262144] 3 (n3 + 1 + 1) (by rw [World.size_alloc, HS.out]) (by decide)
  have hOa := (Only.refl (fun _ => False) (w4.alloc (.cells #[.int .i64 3, .int .i64 5] 3))).alloc (.cells #[.int .i64 262144, .int .i64 262144, .int .i64 262144] 3)
  have hOb := ((Only.refl (fun _ => False) w4).alloc (.cells #[.int .i64 3, .int .i64 5] 3)).alloc (.cells #[.int .i64 262144, .int .i64 262144, .int .i64 262144] 3)
  refine (pdeal_yes _ _ [3, 5] [262144, 262144, 262144] _ _ (hP1.only hOa) hP2 (by decide) (by decide) (by decide) sane_mem3 sane_in (by decide) (HG.out.only (HO4.out.trans hOb))).mono ?_
  rintro e w5 ⟨hO5, c0, c2, rfl, hD⟩
  have HO5 := Lib.hid (HO4.out.trans (hOb.trans hO5))
  have HONE := Lib.hid (slice_one hD.cm hD.bx (dealZ [3, 5] [262144, 262144, 262144] ⟨#[115]⟩).pt)
  have hDA : DlAt w5 c0 (.int .i64 (dealZ [3, 5] [262144, 262144, 262144] ⟨#[115]⟩).pt) c2 (dealZ [3, 5] [262144, 262144, 262144] ⟨#[115]⟩) := hD.at (by rw [show (dealZ [3, 5] [262144, 262144, 262144] ⟨#[115]⟩).cm.length = 2 from cmTo_len _ _]; decide) (by rw [show (dealZ [3, 5] [262144, 262144, 262144] ⟨#[115]⟩).bx.length = 3 from bxTo_len _ _ _ _]; decide)
  obtain ⟨a0, k0, rfl⟩ := hDA.cm.slice
  obtain ⟨a2, k2, rfl⟩ := hDA.bx.slice
  have HDA := Lib.hid hDA
  have HUN := Lib.hid (uns_dealt [3, 5] [262144, 262144, 262144] ⟨#[115]⟩ 9 1 (by decide) (by decide) (by decide) sane_key.symm sane_in2)
  have HSZ := Lib.hid (show (sAt (dealZ [3, 5] [262144, 262144, 262144] ⟨#[115]⟩).bx 1).size ≤ 9223372036854775807 by
    rw [show sAt (dealZ [3, 5] [262144, 262144, 262144] ⟨#[115]⟩).bx 1 = _ from bxTo_at _ _ _ _ _ (show 1 < 3 by decide)]
    unfold boxOf
    rw [strOf_size, sealL_len]
    decide)
  have HCM := Lib.hid (show (dealZ [3, 5] [262144, 262144, 262144] ⟨#[115]⟩).cm.length = 2 from cmTo_len _ _)
  have HBX := Lib.hid (show (dealZ [3, 5] [262144, 262144, 262144] ⟨#[115]⟩).bx.length = 3 from bxTo_len _ _ _ _)
  clear hP1 hP2 hOa hOb hO5 HO4 hD hDA HS
  generalize dealZ [3, 5] [262144, 262144, 262144] ⟨#[115]⟩ = d at *
  go_wp2_with (first | (refine wpList_store_row rfl 25 _ _ rfl w5.heap.size #[.slice a0 d.cm.length k0, .int .i64 d.pt, .slice a2 d.bx.length k2] rfl rfl 25 _ (heap_alloc_last w5 _) Tryz.infoDl rfl HONE.out ?_; rw [World.setRow_alloc_new]))
  have HO6 := Lib.hid (HO5.out.alloc (.cells #[.slice a0 d.cm.length k0, .int .i64 d.pt, .slice a2 d.bx.length k2] 25))
  have HZ6 := Lib.hid (heap_alloc_last w5 (.cells #[.slice a0 d.cm.length k0, .int .i64 d.pt, .slice a2 d.bx.length k2] 25))
  have HD6 := Lib.hid (HDA.out.only ((Only.refl (fun _ => False) w5).alloc (.cells #[.slice a0 d.cm.length k0, .int .i64 d.pt, .slice a2 d.bx.length k2] 25)))
  generalize w5.alloc (.cells #[.slice a0 d.cm.length k0, .int .i64 d.pt, .slice a2 d.bx.length k2] 25) = w6 at *
  generalize w5.heap.size = n5 at *
  clear HO5 HDA
  refine (open_no a0 a2 k0 k2 d 9 5 w6 (by rw [HBX.out]; decide) (.inr (by rw [HBX.out]; decide))).mono ?_
  rintro e w7 ⟨rfl, hO7⟩
  have hO7a := hO7.alloc (.cells #[.int .i64 0, .int .i64 0] 48)
  have HO8 := Lib.hid (HO6.out.trans hO7a)
  have HZ8 := Lib.hid (row_still hO7a HZ6.out)
  have HD8 := Lib.hid (HD6.out.only hO7a)
  clear hO7 hO7a HZ6 HD6 HO6
  go_wp2_with (first | (refine wpList_store_row rfl 48 _ _ rfl w7.heap.size #[.int .i64 0, .int .i64 0] rfl rfl 48 _ (heap_alloc_last w7 _) Tryz.infoShr rfl (two_one _ _) ?_; rw [World.setRow_alloc_new]) | (refine wpList_load_row rfl 25 _ rfl n5 rfl 25 #[.slice a0 d.cm.length k0, .int .i64 d.pt, .slice a2 d.bx.length k2] (0, 0) _ HZ8.out Tryz.underlying25 rfl Tryz.infoDl ?_))
  generalize w7.alloc (.cells #[.int .i64 0, .int .i64 0] 48) = w8 at *
  generalize w7.heap.size = n7 at *
  have HOP := Lib.hid (open_yes a0 a2 k0 k2 d 9 1 w8 HD8.out (by rw [HCM.out]; decide) (by rw [HBX.out]; decide) (by rw [HBX.out]; decide) HSZ.out (HG.out.only HO8.out))
  rw [show unsV d (seedN d 9).toNat 1 = (2, 13, true) by rw [HUN.out]; kernel_rfl] at HOP
  refine HOP.out.mono ?_
  rintro e w9 ⟨rfl, hO9⟩
  have hO9a := hO9.alloc (.cells #[.int .i64 2, .int .i64 13] 48)
  have HO10 := Lib.hid (HO8.out.trans hO9a)
  have HZ10 := Lib.hid (heap_alloc_last w9 (.cells #[.int .i64 2, .int .i64 13] 48))
  have hs : (w9.alloc (.cells #[.int .i64 2, .int .i64 13] 48)).heap.size = w9.heap.size + 1 := by simp
  have HS := Lib.hid hs
  clear hO9 hO9a hs HOP HUN HSZ HCM HBX HONE HZ8 HD8 HO8
  go_wp2_with (first | (refine wpList_store_row rfl 48 _ _ rfl w9.heap.size #[.int .i64 2, .int .i64 13] rfl rfl 48 _ (heap_alloc_last w9 _) Tryz.infoShr rfl (two_one _ _) ?_; rw [World.setRow_alloc_new]))
  generalize w9.alloc (.cells #[.int .i64 2, .int .i64 13] 48) = w10 at *
  generalize w9.heap.size = n9 at *
  have HV1 := Lib.hid (pvalue_any _ [3, 5, 1] 2 _ (pts_at w10 [3, 5, 1] 3 (n9 + 1) HS.out (by decide)) (by decide))
  rw [show valZ [3, 5, 1] 2 = 17 by kernel_rfl] at HV1
  refine HV1.out.mono ?_
  rintro e w11 ⟨rfl, hO11⟩
  have hO11a := ((Only.refl (fun _ => False) w10).alloc (.cells #[.int .i64 3, .int .i64 5, .int .i64 1] 3)).trans hO11
  have HO11 := Lib.hid (HO10.out.trans hO11a)
  have HZ11 := Lib.hid (row_still hO11a HZ10.out)
  clear hO11 hO11a HV1 HS HO10 HZ10
  go_wp2_with fail
  have HV2 := Lib.hid (pvalue_any _ [3, 5, 1] 0 _ (pts_lit w11 [3, 5, 1] 3 (by decide)) (by decide))
  rw [show valZ [3, 5, 1] 0 = 3 by kernel_rfl] at HV2
  refine HV2.out.mono ?_
  rintro e w12 ⟨rfl, hO12⟩
  have hO12a := ((Only.refl (fun _ => False) w11).alloc (.cells #[.int .i64 3, .int .i64 5, .int .i64 1] 3)).trans hO12
  have HO12 := Lib.hid (HO11.out.trans hO12a)
  have HZ12 := Lib.hid (row_still hO12a HZ11.out)
  clear hO12 hO12a HV2 HO11 HZ11
  go_wp2_with fail
  have HV3 := Lib.hid (at_any (.slice none 0 0) [] 7 w12 (.inl ⟨none, 0, rfl, rfl⟩) (by decide))
  rw [show atZ [] 7 = 1 by kernel_rfl] at HV3
  refine HV3.out.mono ?_
  rintro e w13 ⟨rfl, hB13⟩
  have hO13 := Only.ofBelow hB13 (fun _ => False)
  have HO13 := Lib.hid (HO12.out.trans hO13)
  have HZ13 := Lib.hid (row_still hO13 HZ12.out)
  clear hO13 hB13 HV3 HO12 HZ12
  go_wp2_with fail
  have HV4 := Lib.hid (at_any _ [4] 7 _ (pts_lit w13 [4] 3 (by decide)) (by decide))
  rw [show atZ [4] 7 = 4 by kernel_rfl] at HV4
  refine HV4.out.mono ?_
  rintro e w14 ⟨rfl, hB14⟩
  have hO14 := ((Only.refl (fun _ => False) w13).alloc (.cells #[.int .i64 4] 3)).trans (Only.ofBelow hB14 (fun _ => False))
  have HO14 := Lib.hid (HO13.out.trans hO14)
  have HZ14 := Lib.hid (row_still hO14 HZ13.out)
  clear hO14 hB14 HV4 HO13 HZ13
  have heq : ∀ w, (binOp .eql 48 (.agg #[.int .i64 2, .int .i64 13]) (.agg #[.int .i64 2, .int .i64 13])).run Tryz.prog w = .ok (.bool true) w := fun _ => by kernel_rfl
  have c0 : _ = some (Value.int .i64 2) := cell_of_row _ _ 0 _ _ _ HZ14.out
  have c1 : _ = some (Value.int .i64 13) := cell_of_row _ _ 1 _ _ _ HZ14.out
  go_wp2_with fail
  have hP1 := pts_lit w14 [4, 16] 3 (by decide)
  have hS1 := strs_lit (w14.alloc (.cells #[.int .i64 4, .int .i64 16] 3)) [⟨#[97]⟩, ⟨#[]⟩] 9 (w14.heap.size + 1) (by simp) (by decide)
  have hOa := (Only.refl (fun _ => False) (w14.alloc (.cells #[.int .i64 4, .int .i64 16] 3))).alloc (.cells #[.string ⟨#[97]⟩, .string ⟨#[]⟩] 9)
  have hOb := ((Only.refl (fun _ => False) w14).alloc (.cells #[.int .i64 4, .int .i64 16] 3)).alloc (.cells #[.string ⟨#[97]⟩, .string ⟨#[]⟩] 9)
  have HT := Lib.hid (text_any (some ⟨w14.heap.size, 0, none⟩) (some ⟨w14.heap.size + 1, 0, none⟩) 2 2 ⟨[4, 16], 64, [⟨#[97]⟩, ⟨#[]⟩]⟩ _ ⟨hP1.only hOa, rfl, hS1⟩ (by decide) (by decide) ⟨⟨fun j => by match j with | 0 => decide | 1 => decide | j + 2 => simp [ptAt, List.getD]⟩, by decide, by decide⟩ (fun i => by match i with | 0 => decide | 1 => decide | i + 2 => simp [sAt, List.getD]) (HG.out.only (HO14.out.trans hOb)))
  rw [sane_text] at HT
  have HO15 := Lib.hid (HO14.out.trans hOb)
  clear hP1 hS1 hOa hOb
  refine HT.out.mono ?_
  rintro e w15 ⟨rfl, hO15⟩
  have HO16 := Lib.hid (HO15.out.trans hO15)
  clear hO15 HT HO14 HO15 heq
  go_wp2
  go_ret
  exact ⟨rfl, HO16.out⟩
end Go.Proofs.YtkpfachmakfncaaGreatDoor

namespace Go.Proofs.YtkpfachmakfncaaGreatDoor
open Go.RowKit

theorem pts_takeV {n₀ : Nat} {W : World} {sv : Value} {l : List Int} (h : PtsAt n₀ W sv l) (n : Nat) (hn : n ≤ l.length) {a : Option Addr} {c : Nat} (hv : sv = .slice a l.length c) : PtsAt n₀ W (.slice a n c) (l.take n) := by
  have hl : (l.take n).length = n := by rw [List.length_take]; omega
  rcases h with ⟨a', c', e, rfl⟩ | ⟨b, off, cap, e, hb, h1, h2, hc⟩
  · simp at hn; subst hn; exact .inl ⟨a, c, rfl, by simp⟩
  · rw [hv] at e
    simp only [Value.slice.injEq, true_and] at e
    obtain ⟨rfl, rfl⟩ := e
    refine .inr ⟨b, off, c, by rw [hl], hb, by omega, h2, fun j hj => ?_⟩
    rw [hl] at hj
    rw [ptAt_take l n j hj]; exact hc j (by omega)
def resF (n : Int) : Int := n % 1152921504606845789
def powF4 (n : Int) : Int := powM 4 (n % 1152921504606845789) 2305843009213691579
theorem map_ptAt (f : Int → Int) (l : List Int) (j : Nat) (h : j < l.length) : ptAt (l.map f) j = f (ptAt l j) := by simp [ptAt, List.getD, h]
theorem map_cm (l : List Int) : l.map powF4 = cmTo (l.map resF) (l.map resF).length := by
  have aux : ∀ k, k ≤ l.length → (l.take k).map powF4 = cmTo (l.map resF) k := by
    intro k
    induction k with
    | zero => intro _; rfl
    | succ k ih =>
      intro hk
      rw [take_snoc powF4 l 0 k (by omega), ih (by omega), cmTo, map_ptAt resF l k (by omega)]
      rfl
  have := aux l.length (Nat.le_refl _)
  rw [List.take_length] at this
  rw [this, List.length_map]
theorem resF_bd (l : List Int) (j : Nat) : 0 ≤ ptAt (l.map resF) j ∧ ptAt (l.map resF) j < 1152921504606845789 := by
  by_cases h : j < l.length
  · rw [map_ptAt resF l j h]; unfold resF; omega
  · rw [show ptAt (l.map resF) j = 0 by simp [ptAt, List.getD, List.getElem?_eq_none (by omega : l.length ≤ j)]]; decide

end Go.Proofs.YtkpfachmakfncaaGreatDoor

namespace Go.Proofs.YtkpfachmakfncaaGreatDoor
open Go.RowKit

def keysL (S : List Int) : List Int := (S.take 12).map powF4
def numsL (S C : List Int) : List Int := (C.take (min 12 S.length)).map resF
theorem keysL_len (S : List Int) : (keysL S).length = min 12 S.length := by simp [keysL]
theorem numsL_len (S C : List Int) : (numsL S C).length = min (min 12 S.length) C.length := by simp [numsL]
set_option maxRecDepth 100000 in
set_option maxHeartbeats 2000000 in
theorem keys_any (sv cv : Value) (S : List Int) (seed : ByteArray) (w : World) (hS : PtsAt w.heap.size w sv S) (hc : ∃ a n c, cv = .slice a n c) (hl : S.length ≤ 9223372036854775807) :
    Calls Tryz.prog 12 #[.agg #[sv, cv, .string seed]] w fun e w' => ∃ v, e = .returned v ∧ w'.ownsRow w.heap.size 3 1 v (keysL S).length (irow (keysL S)) ∧ Only (fun _ => False) w w' := by
  obtain ⟨i0, hi0, hz0, hz1, hz2⟩ := info_parts Tryz.infoI
  obtain ⟨a0, c0, rfl⟩ := hS.slice
  obtain ⟨a1, n1, c1, rfl⟩ := hc
  have hA := (Only.refl (fun _ => False) w).alloc (.cells #[.slice a0 S.length c0, .slice a1 n1 c1, .string seed] 36)
  have HA := Lib.hid hA
  have HS := Lib.hid (hS.only hA)
  have HZ := Lib.hid (heap_alloc_last w (.cells #[.slice a0 S.length c0, .slice a1 n1 c1, .string seed] 36))
  have hsz0 : (w.alloc (.cells #[.slice a0 S.length c0, .slice a1 n1 c1, .string seed] 36)).heap.size = w.heap.size + 1 := by simp
  have HSZ := Lib.hid hsz0
  have HKL := Lib.hid (keysL_len S)
  clear hS hA hsz0
  go_enter Tryz.func12, Tryz.ntmps12
  go_wp2_with fail
  generalize w.alloc (.cells #[.slice a0 S.length c0, .slice a1 n1 c1, .string seed] 36) = w0 at *
  go_loopw [3, 4] (fun v vi wr => ∃ k : Nat, k ≤ min 12 S.length ∧ vi = .int .i64 k ∧ wr.ownsRow w0.heap.size 3 1 v k (irow ((S.take k).map powF4)) ∧ Only (fun _ => False) w0 wr) (fun _ vi _ => 12 - (intOf vi).toNat)
  case atStart => exact ⟨0, Nat.zero_le _, rfl, World.ownsRow_nil _ _ _ _, Only.refl _ _⟩
  case round =>
    obtain ⟨k, hk, rfl, hown, hO⟩ := hrel
    have b0 : _ = some (Value.slice a0 S.length c0) := cell_of_row _ _ 0 _ _ _ (row_still hO HZ.out)
    have hsz := hO.size
    have HO := Lib.hid hO
    have HOW := Lib.hid hown
    by_cases h1 : k < S.length
    · by_cases h2 : k < 12
      · obtain ⟨sb, so, rfl, hsb, hl0, hsc1, hsc2, hcell⟩ := HS.out.cellAt h1
        have e0 := hO.cell hcell (fun h => h)
        have HT := Lib.hid (take_snoc powF4 S 0 k h1)
        have hx : ptAt S k = S.getD k 0 := rfl
        rw [hx] at e0
        have HP := Lib.hid (show powF4 (S.getD k 0) = powM 4 (S.getD k 0 % 1152921504606845789) 2305843009213691579 from rfl)
        generalize S.getD k 0 = z at *
        generalize powF4 z = z2 at *
        have hrb : 0 ≤ z % 1152921504606845789 ∧ z % 1152921504606845789 < 1152921504606845789 := by omega
        have hbl : sb < wr.heap.size := by omega
        have i1 : (k : Int) < S.length := by omega
        have i2 : (k : Int) < 12 := by omega
        have i3 : 0 ≤ (k : Int) := by omega
        obtain ⟨av, cv, rfl⟩ := slice_of_own hown
        generalize (S.take k).map powF4 = P at *
        clear hO hown hcell hx hl0
        go_wp2_with fail
        refine (rres_any z 1152921504606845789 _ (by decide) (by decide)).mono ?_
        rintro e w' ⟨rfl, rfl⟩
        generalize z % 1152921504606845789 = r at *
        go_wp2_with fail
        refine (rpow_any 4 r 2305843009213691579 _ (by decide) (by decide) hrb.1 (by omega)).mono ?_
        rintro e w' ⟨rfl, rfl⟩
        rw [← HP.out]
        go_wp2_with (at_builtin; refine wpList_append_lies _ rfl _ _ 22 rfl w0.heap.size 3 i0 _ 1 8 Tryz.underlying22 hi0 hz0 hz1 hz2 rfl (by decide) _ k (irow P) rfl (HOW.out.alloc _) ⟨wr.heap.size, 0, none⟩ 1 1 [.int .i64 z2] rfl rfl (cell_one_new _ _ _) (one_int _) (by decide) ?c1 ?c2 ?c3 _ rfl ?_)
        case c1 => unfold maxLen; omega
        case c2 => omega
        case c3 => first | omega | (simp; omega)
        intro g1 cp1 w2 ho1 hg1 ha1 _
        have HO2 := Lib.hid ((HO.out.alloc _).grow (HOW.out.alloc _) (Nat.le_refl _) hg1)
        have HOW2 := Lib.hid (show w2.ownsRow w0.heap.size 3 1 (.slice (some ⟨g1, 0, none⟩) (k + 1) cp1) (k + 1) (irow ((S.take (k + 1)).map powF4)) by rw [HT.out, irow_append]; exact ho1)
        clear ho1 hg1 ha1
        go_wp2
        go_roundw
        case rel => exact ⟨k + 1, by omega, by go_num, HOW2.out, HO2.out⟩
        case measure => simp [intOf]; omega
      · obtain rfl : k = 12 := by omega
        have i1 : ((12 : Nat) : Int) < S.length := by omega
        have HF := Lib.hid (show wr.ownsRow w.heap.size 3 1 u3 (keysL S).length (irow (keysL S)) by rw [HKL.out, show min 12 S.length = 12 by omega]; exact own_base hown (by rw [HSZ.out]; omega))
        have HOF := Lib.hid (HA.out.trans hO)
        clear hO hown h2
        go_wp2
        go_ret
        exact ⟨_, rfl, HF.out, HOF.out⟩
    · have i1 : ¬ (k : Int) < S.length := by omega
      have d1 : decide ((k : Int) < S.length) = false := decide_eq_false i1
      obtain rfl : k = S.length := by omega
      have HF := Lib.hid (show wr.ownsRow w.heap.size 3 1 u3 (keysL S).length (irow (keysL S)) by
        rw [HKL.out, show min 12 S.length = S.length by omega]
        have e : keysL S = (S.take S.length).map powF4 := by unfold keysL; rw [List.take_of_length_le (by omega), List.take_length]
        rw [e]
        exact own_base hown (by rw [HSZ.out]; omega))
      have HOF := Lib.hid (HA.out.trans hO)
      clear hO hown h1
      go_wp2
      go_ret
      exact ⟨_, rfl, HF.out, HOF.out⟩
set_option maxRecDepth 100000 in
set_option maxHeartbeats 2000000 in
theorem nums_any (sv cv : Value) (S C : List Int) (seed : ByteArray) (w : World) (hC : PtsAt w.heap.size w cv C) (hs : ∃ a c, sv = .slice a S.length c) (hl : S.length ≤ 9223372036854775807) (hl2 : C.length ≤ 9223372036854775807) :
    Calls Tryz.prog 13 #[.agg #[sv, cv, .string seed]] w fun e w' => ∃ v, e = .returned v ∧ w'.ownsRow w.heap.size 3 1 v (numsL S C).length (irow (numsL S C)) ∧ Only (fun _ => False) w w' := by
  obtain ⟨i0, hi0, hz0, hz1, hz2⟩ := info_parts Tryz.infoI
  obtain ⟨a1, c1, rfl⟩ := hC.slice
  obtain ⟨a0, c0, rfl⟩ := hs
  have hA := (Only.refl (fun _ => False) w).alloc (.cells #[.slice a0 S.length c0, .slice a1 C.length c1, .string seed] 36)
  have HA := Lib.hid hA
  have HC := Lib.hid (hC.only hA)
  have HZ := Lib.hid (heap_alloc_last w (.cells #[.slice a0 S.length c0, .slice a1 C.length c1, .string seed] 36))
  have hsz0 : (w.alloc (.cells #[.slice a0 S.length c0, .slice a1 C.length c1, .string seed] 36)).heap.size = w.heap.size + 1 := by simp
  have HSZ := Lib.hid hsz0
  have HKL := Lib.hid (numsL_len S C)
  clear hC hA hsz0
  go_enter Tryz.func13, Tryz.ntmps13
  go_wp2_with fail
  generalize w.alloc (.cells #[.slice a0 S.length c0, .slice a1 C.length c1, .string seed] 36) = w0 at *
  go_loopw [3, 4] (fun v vi wr => ∃ k : Nat, k ≤ min (min 12 S.length) C.length ∧ vi = .int .i64 k ∧ wr.ownsRow w0.heap.size 3 1 v k (irow ((C.take k).map resF)) ∧ Only (fun _ => False) w0 wr) (fun _ vi _ => 12 - (intOf vi).toNat)
  case atStart => exact ⟨0, Nat.zero_le _, rfl, World.ownsRow_nil _ _ _ _, Only.refl _ _⟩
  case round =>
    obtain ⟨k, hk, rfl, hown, hO⟩ := hrel
    have b0 : _ = some (Value.slice a0 S.length c0) := cell_of_row _ _ 0 _ _ _ (row_still hO HZ.out)
    have b1 : _ = some (Value.slice a1 C.length c1) := cell_of_row _ _ 1 _ _ _ (row_still hO HZ.out)
    have hsz := hO.size
    have HO := Lib.hid hO
    have HOW := Lib.hid hown
    have HEND := Lib.hid (show k = min (min 12 S.length) C.length → wr.ownsRow w.heap.size 3 1 u3 (numsL S C).length (irow (numsL S C)) from fun e => by
      rw [HKL.out, ← e]
      have e2 : numsL S C = (C.take k).map resF := by
        unfold numsL
        by_cases h : C.length ≤ min 12 S.length
        · rw [List.take_of_length_le h, List.take_of_length_le (by omega)]
        · rw [show k = min 12 S.length by omega]
      rw [e2]
      exact own_base hown (by rw [HSZ.out]; omega))
    have HOF := Lib.hid (HA.out.trans hO)
    by_cases h1 : k < C.length
    · by_cases h3 : k < S.length
      · by_cases h2 : k < 12
        · obtain ⟨sb, so, rfl, hsb, hl0, hsc1, hsc2, hcell⟩ := HC.out.cellAt h1
          have e0 := hO.cell hcell (fun h => h)
          have HT := Lib.hid (take_snoc resF C 0 k h1)
          have hx : ptAt C k = C.getD k 0 := rfl
          rw [hx] at e0
          have HP := Lib.hid (show resF (C.getD k 0) = C.getD k 0 % 1152921504606845789 from rfl)
          generalize C.getD k 0 = z at *
          generalize resF z = z2 at *
          have hbl : sb < wr.heap.size := by omega
          have i1 : (k : Int) < C.length := by omega
          have i2 : (k : Int) < 12 := by omega
          have i3 : 0 ≤ (k : Int) := by omega
          have i4 : (k : Int) < S.length := by omega
          obtain ⟨av, cv, rfl⟩ := slice_of_own hown
          generalize (C.take k).map resF = P at *
          clear hO hown hcell hx hl0 HEND
          go_wp2_with fail
          refine (rres_any z 1152921504606845789 _ (by decide) (by decide)).mono ?_
          rintro e w' ⟨rfl, rfl⟩
          rw [← HP.out]
          go_wp2_with (at_builtin; refine wpList_append_lies _ rfl _ _ 22 rfl w0.heap.size 3 i0 _ 1 8 Tryz.underlying22 hi0 hz0 hz1 hz2 rfl (by decide) _ k (irow P) rfl (HOW.out.alloc _) ⟨wr.heap.size, 0, none⟩ 1 1 [.int .i64 z2] rfl rfl (cell_one_new _ _ _) (one_int _) (by decide) ?c1 ?c2 ?c3 _ rfl ?_)
          case c1 => unfold maxLen; omega
          case c2 => omega
          case c3 => first | omega | (simp; omega)
          intro g1 cp1 w2 ho1 hg1 ha1 _
          have HO2 := Lib.hid ((HO.out.alloc _).grow (HOW.out.alloc _) (Nat.le_refl _) hg1)
          have HOW2 := Lib.hid (show w2.ownsRow w0.heap.size 3 1 (.slice (some ⟨g1, 0, none⟩) (k + 1) cp1) (k + 1) (irow ((C.take (k + 1)).map resF)) by rw [HT.out, irow_append]; exact ho1)
          clear ho1 hg1 ha1
          go_wp2
          go_roundw
          case rel => exact ⟨k + 1, by omega, by go_num, HOW2.out, HO2.out⟩
          case measure => simp [intOf]; omega
        · have HF := Lib.hid (HEND.out (by omega))
          obtain rfl : k = 12 := by omega
          have i1 : ((12 : Nat) : Int) < C.length := by omega
          have i4 : ((12 : Nat) : Int) < S.length := by omega
          clear hO hown h2 HEND
          go_wp2
          go_ret
          exact ⟨_, rfl, HF.out, HOF.out⟩
      · have HF := Lib.hid (HEND.out (by omega))
        have i1 : (k : Int) < C.length := by omega
        have i4 : ¬ (k : Int) < S.length := by omega
        have d1 : decide ((k : Int) < S.length) = false := decide_eq_false i4
        clear hO hown h3 HEND
        go_wp2
        go_ret
        exact ⟨_, rfl, HF.out, HOF.out⟩
    · have HF := Lib.hid (HEND.out (by omega))
      have i1 : ¬ (k : Int) < C.length := by omega
      have d1 : decide ((k : Int) < C.length) = false := decide_eq_false i1
      clear hO hown h1 HEND
      go_wp2
      go_ret
      exact ⟨_, rfl, HF.out, HOF.out⟩
end Go.Proofs.YtkpfachmakfncaaGreatDoor

namespace Go.Proofs.YtkpfachmakfncaaGreatDoor
open Go.RowKit

theorem own_tyD {w : World} {b e s n g : Nat} {v : Value} {xs : List Value} (h : w.ownsRow b e s v n xs) (hg : v.ownBlock = some g) : ∃ cur, w.heap[g]? = some (.cells cur e (0, 0)) := by
  rcases h.2 with ⟨rfl, _⟩ | ⟨g', cap, cur, rfl, _, hgg, _⟩
  · simp [Value.ownBlock] at hg
  · obtain rfl : g' = g := by simpa [Value.ownBlock] using hg
    exact ⟨cur, hgg⟩
theorem own_ne_blkD {w : World} {b e s n g t : Nat} {v : Value} {xs : List Value} {cs : Array Value} {fr : Nat × Nat} (h : w.ownsRow b e s v n xs) (hb : w.heap[g]? = some (.cells cs t fr)) (hne : e ≠ t) : v.ownBlock ≠ some g := by
  intro hk
  obtain ⟨c, hc⟩ := own_tyD h hk
  rw [hc] at hb
  simp only [Option.some.injEq, Obj.cells.injEq] at hb
  exact hne hb.2.1
theorem own_setD {w : World} {base e n j g cap size : Nat} {xs : List Value} (h : w.ownsRow base e size (.slice (some ⟨g, 0, none⟩) n cap) n xs) (u : Value) : (w.setCell ⟨g, j, none⟩ u).ownsRow base e size (.slice (some ⟨g, 0, none⟩) n cap) n (xs.set j u) := by
  refine ⟨by rw [List.length_set]; exact h.1, ?_⟩
  rcases h.2 with ⟨hn, _⟩ | ⟨g', cap', cur, hv, hb, hg, hcap, hcap2, hsz, htk⟩
  · simp at hn
  · simp only [Value.slice.injEq, Option.some.injEq, Addr.mk.injEq, and_true, true_and] at hv
    obtain ⟨rfl, rfl⟩ := hv
    refine .inr ⟨g, cap, cur.setIfInBounds j u, rfl, hb, heap_setCell_same w g j cur e u hg, hcap, hcap2, by rw [Array.size_setIfInBounds]; exact hsz, ?_⟩
    rw [Array.toList_setIfInBounds, List.take_set, htk]
theorem irow_setD (L : List Int) (j : Nat) (z : Int) : (irow L).set j (.int .i64 z) = irow (L.set j z) := by unfold irow; rw [List.map_set]
theorem own_lt0D {w : World} {g : Nat} {o : Obj} (h : w.heap[g]? = some o) : g < w.heap.size := (Array.getElem?_eq_some_iff.1 h).1
theorem own_emptyD (w : World) (base e size : Nat) (hb : base ≤ w.heap.size) : (w.alloc (.cells #[] e)).ownsRow base e size (.slice (some ⟨w.heap.size, 0, none⟩) 0 0) 0 [] :=
  ⟨by simp, .inr ⟨w.heap.size, 0, #[], rfl, hb, heap_alloc_last w _, Nat.le_refl _, by decide, by simp, by simp⟩⟩
theorem own_cellsD {w : World} {base : Nat} {v : Value} {L : List Int} (h : w.ownsRow base 3 1 v L.length (irow L)) (hp : 0 < L.length) :
    ∃ g cap, v = .slice (some ⟨g, 0, none⟩) L.length cap ∧ g < w.heap.size ∧ L.length ≤ cap ∧ cap ≤ 9223372036854775807 ∧ ∀ j, j < L.length → w.cell? ⟨g, j, none⟩ = some (.int .i64 (ptAt L j)) ∧ w.frozen? ⟨g, j, none⟩ = false := by
  rcases h.2 with ⟨_, h0⟩ | ⟨g, cap, cur, rfl, hb, hg, hcap, hcap2, hsz, htk⟩
  · omega
  · refine ⟨g, cap, rfl, (Array.getElem?_eq_some_iff.1 hg).1, hcap, by unfold maxLen at hcap2; omega, fun j hj => ⟨?_, frozen_of_row _ _ j _ _ hg⟩⟩
    rw [cell_of_row w g j cur 3 (0, 0) hg]
    have h1 := irow_get L j hj
    rw [← h1, ← htk, List.getElem?_take_of_lt (by omega)]
    simp
structure DdAt (w w1 wr : World) (n3 n5 : Nat) (v6 v7 v12 : Value) (K F M : List Int) (vs vc : Value) (seed : ByteArray) (q0 q1 q2 : Int) : Prop where
  keys : wr.ownsRow w1.heap.size 3 1 v6 K.length (irow K)
  nums : wr.ownsRow w1.heap.size 3 1 v7 F.length (irow F)
  more : wr.ownsRow w1.heap.size 3 1 v12 M.length (irow M)
  ne67 : ∀ k, v6.ownBlock = some k → v7.ownBlock ≠ some k
  ne6m : ∀ k, v6.ownBlock = some k → v12.ownBlock ≠ some k
  ne7m : ∀ k, v7.ownBlock = some k → v12.ownBlock ≠ some k
  q : wr.heap[w.heap.size + 1]? = some (.cells #[.int .i64 q0, .int .i64 q1, .int .i64 q2] 26 (0, 0))
  p : wr.heap[w.heap.size]? = some (.cells #[vs, vc, .string seed] 36 (0, 0))
  d : ∃ x0 x1 x2, wr.heap[n3]? = some (.cells #[x0, x1, x2] 25 (0, 0))
  e : ∃ x0 x1 x2, wr.heap[n5]? = some (.cells #[x0, x1, x2] 25 (0, 0))
  ne35 : n3 ≠ n5
  low3 : w1.heap.size ≤ n3
  low5 : w1.heap.size ≤ n5
  low : w.heap.size + 2 ≤ w1.heap.size
  only : Only (fun _ => False) w wr
section
variable {w w1 wr w' : World} {n3 n5 : Nat} {v6 v7 v12 : Value} {K F M : List Int} {vs vc : Value} {seed : ByteArray} {q0 q1 q2 : Int}
theorem DdAt.frame (h : DdAt w w1 wr n3 n5 v6 v7 v12 K F M vs vc seed q0 q1 q2) (hO : Only (fun _ => False) wr w') : DdAt w w1 w' n3 n5 v6 v7 v12 K F M vs vc seed q0 q1 q2 :=
  ⟨hO.owns h.keys (fun _ _ h => h), hO.owns h.nums (fun _ _ h => h), hO.owns h.more (fun _ _ h => h), h.ne67, h.ne6m, h.ne7m, row_still hO h.q, row_still hO h.p,
    h.d.elim fun a t => t.elim fun b t => t.elim fun c t => ⟨a, b, c, row_still hO t⟩, h.e.elim fun a t => t.elim fun b t => t.elim fun c t => ⟨a, b, c, row_still hO t⟩, h.ne35, h.low3, h.low5, h.low, h.only.trans hO⟩
theorem DdAt.setKey {g c j : Nat} (h : DdAt w w1 wr n3 n5 (.slice (some ⟨g, 0, none⟩) K.length c) v7 v12 K F M vs vc seed q0 q1 q2) (x : Int) :
    DdAt w w1 (wr.setCell ⟨g, j, none⟩ (.int .i64 x)) n3 n5 (.slice (some ⟨g, 0, none⟩) K.length c) v7 v12 (K.set j x) F M vs vc seed q0 q1 q2 := by
  have hb : (Value.slice (some ⟨g, 0, none⟩) K.length c).ownBlock = some g := rfl
  have hS : Only (fun k => k = g) wr (wr.setCell ⟨g, j, none⟩ (.int .i64 x)) := (Only.refl (fun k => k = g) wr).setCell (p := ⟨g, j, none⟩) (.inl rfl) _
  have hg := own_low' h.keys hb
  have hl := h.low
  have hd : n3 ≠ g := fun e => by obtain ⟨_, _, _, t⟩ := h.d; exact own_ne_blkD h.keys t (by decide) (by rw [e]; rfl)
  have he : n5 ≠ g := fun e => by obtain ⟨_, _, _, t⟩ := h.e; exact own_ne_blkD h.keys t (by decide) (by rw [e]; rfl)
  refine ⟨?_, hS.owns h.nums (fun k hk e => h.ne67 g rfl (by rw [hk, show k = g from e])), hS.owns h.more (fun k hk e => h.ne6m g rfl (by rw [hk, show k = g from e])), h.ne67, h.ne6m, h.ne7m, ?_, ?_, ?_, ?_, h.ne35, h.low3, h.low5, h.low, ?_⟩
  · rw [List.length_set]
    have := own_setD (j := j) h.keys (.int .i64 x)
    rw [irow_setD] at this
    exact this
  · exact (hS.block _ (own_lt0D h.q) (show w.heap.size + 1 ≠ g by omega)).trans h.q
  · exact (hS.block _ (own_lt0D h.p) (show w.heap.size ≠ g by omega)).trans h.p
  · exact h.d.elim fun a t => t.elim fun b t => t.elim fun c t => ⟨a, b, c, (hS.block _ (own_lt0D t) hd).trans t⟩
  · exact h.e.elim fun a t => t.elim fun b t => t.elim fun c t => ⟨a, b, c, (hS.block _ (own_lt0D t) he).trans t⟩
  · exact h.only.trans' hS (fun i hi e => by have e' : i = g := e; omega)
theorem DdAt.setNum {g c j : Nat} (h : DdAt w w1 wr n3 n5 v6 (.slice (some ⟨g, 0, none⟩) F.length c) v12 K F M vs vc seed q0 q1 q2) (x : Int) :
    DdAt w w1 (wr.setCell ⟨g, j, none⟩ (.int .i64 x)) n3 n5 v6 (.slice (some ⟨g, 0, none⟩) F.length c) v12 K (F.set j x) M vs vc seed q0 q1 q2 := by
  have hb : (Value.slice (some ⟨g, 0, none⟩) F.length c).ownBlock = some g := rfl
  have hS : Only (fun k => k = g) wr (wr.setCell ⟨g, j, none⟩ (.int .i64 x)) := (Only.refl (fun k => k = g) wr).setCell (p := ⟨g, j, none⟩) (.inl rfl) _
  have hg := own_low' h.nums hb
  have hl := h.low
  have hd : n3 ≠ g := fun e => by obtain ⟨_, _, _, t⟩ := h.d; exact own_ne_blkD h.nums t (by decide) (by rw [e]; rfl)
  have he : n5 ≠ g := fun e => by obtain ⟨_, _, _, t⟩ := h.e; exact own_ne_blkD h.nums t (by decide) (by rw [e]; rfl)
  refine ⟨hS.owns h.keys (fun k hk e => h.ne67 k hk (by rw [show k = g from e]; rfl)), ?_, hS.owns h.more (fun k hk e => h.ne7m g rfl (by rw [hk, show k = g from e])), h.ne67, h.ne6m, h.ne7m, ?_, ?_, ?_, ?_, h.ne35, h.low3, h.low5, h.low, ?_⟩
  · rw [List.length_set]
    have := own_setD (j := j) h.nums (.int .i64 x)
    rw [irow_setD] at this
    exact this
  · exact (hS.block _ (own_lt0D h.q) (show w.heap.size + 1 ≠ g by omega)).trans h.q
  · exact (hS.block _ (own_lt0D h.p) (show w.heap.size ≠ g by omega)).trans h.p
  · exact h.d.elim fun a t => t.elim fun b t => t.elim fun c t => ⟨a, b, c, (hS.block _ (own_lt0D t) hd).trans t⟩
  · exact h.e.elim fun a t => t.elim fun b t => t.elim fun c t => ⟨a, b, c, (hS.block _ (own_lt0D t) he).trans t⟩
  · exact h.only.trans' hS (fun i hi e => by have e' : i = g := e; omega)
theorem DdAt.setRow {n : Nat} (h : DdAt w w1 wr n3 n5 v6 v7 v12 K F M vs vc seed q0 q1 q2) (hn : n = n3 ∨ n = n5) (y0 y1 y2 : Value) :
    DdAt w w1 (wr.setRow n #[y0, y1, y2]) n3 n5 v6 v7 v12 K F M vs vc seed q0 q1 q2 ∧ (wr.setRow n #[y0, y1, y2]).heap[n]? = some (.cells #[y0, y1, y2] 25 (0, 0)) ∧ ∀ k, k ≠ n → (wr.setRow n #[y0, y1, y2]).heap[k]? = wr.heap[k]? := by
  obtain ⟨x0, x1, x2, hr⟩ : ∃ x0 x1 x2, wr.heap[n]? = some (.cells #[x0, x1, x2] 25 (0, 0)) := by
    rcases hn with rfl | rfl
    · exact h.d
    · exact h.e
  have hS : Only (fun k => k = n) wr (wr.setRow n #[y0, y1, y2]) := ⟨rfl, rfl, rfl, by simp, fun k _ hk => heap_setRow_other _ _ _ _ hk⟩
  have hnew := setRow_heap wr n _ #[y0, y1, y2] _ _ hr
  have hlow : w1.heap.size ≤ n := by rcases hn with rfl | rfl; exact h.low3; exact h.low5
  have hl := h.low
  refine ⟨⟨hS.owns h.keys (fun k hk e => own_ne_blkD h.keys hr (by decide) (by rw [hk, show k = n from e])), hS.owns h.nums (fun k hk e => own_ne_blkD h.nums hr (by decide) (by rw [hk, show k = n from e])), hS.owns h.more (fun k hk e => own_ne_blkD h.more hr (by decide) (by rw [hk, show k = n from e])), h.ne67, h.ne6m, h.ne7m, ?_, ?_, ?_, ?_, h.ne35, h.low3, h.low5, h.low, ?_⟩, hnew, fun k hk => heap_setRow_other _ _ _ _ hk⟩
  · exact (hS.block _ (own_lt0D h.q) (show w.heap.size + 1 ≠ n by omega)).trans h.q
  · exact (hS.block _ (own_lt0D h.p) (show w.heap.size ≠ n by omega)).trans h.p
  · by_cases e : n3 = n
    · subst e; exact ⟨_, _, _, hnew⟩
    · exact h.d.elim fun a t => t.elim fun b t => t.elim fun c t => ⟨a, b, c, (hS.block _ (own_lt0D t) e).trans t⟩
  · by_cases e : n5 = n
    · subst e; exact ⟨_, _, _, hnew⟩
    · exact h.e.elim fun a t => t.elim fun b t => t.elim fun c t => ⟨a, b, c, (hS.block _ (own_lt0D t) e).trans t⟩
  · exact h.only.trans' hS (fun i hi e => by have e' : i = n := e; omega)
end
theorem DlOwn.rowD {base n : Nat} {w : World} {c0 c2 : Value} {d : Dl} {xs : Array Value} {fr : Nat × Nat} (h : DlOwn base w c0 c2 d) (hr : w.heap[n]? = some (.cells xs 25 fr)) (ys : Array Value) : DlOwn base (w.setRow n ys) c0 c2 d := by
  have hS : Only (fun k => k = n) w (w.setRow n ys) := ⟨rfl, rfl, rfl, by simp, fun k _ hk => heap_setRow_other _ _ _ _ hk⟩
  exact ⟨hS.owns h.cm (fun k hk e => own_ne_blkD h.cm hr (by decide) (by rw [hk, show k = n from e])), hS.owns h.bx (fun k hk e => own_ne_blkD h.bx hr (by decide) (by rw [hk, show k = n from e]))⟩
theorem DlOwn.frame {base : Nat} {w w' : World} {c0 c2 : Value} {d : Dl} (h : DlOwn base w c0 c2 d) (hO : Only (fun _ => False) w w') : DlOwn base w' c0 c2 d := ⟨hO.owns h.cm (fun _ _ h => h), hO.owns h.bx (fun _ _ h => h)⟩
/-- The three lists of numbers that are dealt. -/
theorem DdAt.elem {w w1 : World} {n3 n5 : Nat} {v6 v7 v12 : Value} {K F M : List Int} {vs vc : Value} {seed : ByteArray} {q0 q1 q2 : Int} (hF : F.length ≤ 100) (hM : M.length ≤ 100) (k : Nat) (hk : k < 3) :
    ∃ v L, (#[v7, v12, .slice none 0 0] : Array Value)[k]? = some v ∧ L.length ≤ 100 ∧ ∀ W, DdAt w w1 W n3 n5 v6 v7 v12 K F M vs vc seed q0 q1 q2 → PtsAt W.heap.size W v L := by
  match k, hk with
  | 0, _ => exact ⟨v7, F, rfl, hF, fun W h => pts_of_own h.nums (by omega)⟩
  | 1, _ => exact ⟨v12, M, rfl, hM, fun W h => pts_of_own h.more (by omega)⟩
  | 2, _ => exact ⟨.slice none 0 0, [], rfl, by simp, fun W _ => .inl ⟨none, 0, rfl, rfl⟩⟩
end Go.Proofs.YtkpfachmakfncaaGreatDoor

namespace Go.Proofs.YtkpfachmakfncaaGreatDoor
open Go.RowKit

theorem run_append_nil {w : World} (base : Nat) (t ty e : TypeId) (i : TypeInfo) (size : Nat) (ht : Tryz.prog.underlying t = some (.slice e)) (hi : Tryz.prog.info? e = some i)
    (v : Value) (n : Nat) (xs : List Value) (hown : w.ownsRow base e size v n xs) (c : Nat) :
    (Builtin.append_ #[t, t] ty #[v, .slice none 0 c]).run Tryz.prog w = .ok v w := by
  rcases hown.2 with ⟨rfl, rfl⟩ | ⟨g, cap, cur, rfl, _, _, hnc, _⟩
  · simp [Builtin.append_, run_underlying ht, sizeOf, typeInfo, hi, Builtin.lenOf, Builtin.firstCells]
  · simp [Builtin.append_, run_underlying ht, sizeOf, typeInfo, hi, Builtin.lenOf, Builtin.firstCells, hnc, storeCells]
/-- append of all of a slice to an empty one that is owned. -/
theorem run_append_ints {w : World} {a0 : Option Addr} {k0 base : Nat} {L : List Int} (ty : TypeId) (hL : PtsAt w.heap.size w (.slice a0 L.length k0) L) (hm5 : L.length ≤ 1000000) {v : Value} (hown : w.ownsRow base 3 1 v 0 []) (hb : base ≤ w.heap.size) :
    ∃ v' w', (Builtin.append_ #[22, 22] ty #[v, .slice a0 L.length k0]).run Tryz.prog w = .ok v' w' ∧ w'.ownsRow base 3 1 v' L.length (irow L) ∧ Only (fun i => v.ownBlock = some i) w w' := by
  obtain ⟨i0, hi0, hz0, hz1, hz2⟩ := info_parts Tryz.infoI
  have hll : (irow L).length = L.length * 1 := by unfold irow; rw [List.length_map, Nat.mul_one]
  have h1 : ∀ u ∈ irow L, u.oneCell' = true := fun u hu => by unfold irow at hu; rw [List.mem_map] at hu; obtain ⟨z, _, rfl⟩ := hu; rfl
  have some_ : ∀ ad, a0 = some ad → (∀ j u, (irow L)[j]? = some u → w.cell? (ad.add j) = some u) → ∃ v' w', (Builtin.append_ #[22, 22] ty #[v, .slice a0 L.length k0]).run Tryz.prog w = .ok v' w' ∧ w'.ownsRow base 3 1 v' L.length (irow L) ∧ Only (fun i => v.ownBlock = some i) w w' := by
    intro ad e hc
    subst e
    obtain ⟨v', w', hr, ho, hg, _⟩ := run_append_own (P := Tryz.prog) (w := w) base 22 ty 3 i0 _ 1 8 Tryz.underlying22 hi0 hz0 hz1 hz2 rfl (by decide) v 0 [] hown ad L.length k0 _ hll hc h1 (by unfold maxLen; omega) (by omega) hb
    rw [Nat.zero_add, List.nil_append] at ho
    exact ⟨v', w', hr, ho, (Only.refl _ _).grown hg (fun i e _ => e)⟩
  rcases hL with ⟨a, c, e1, e2⟩ | ⟨b, off, cap, e1, hb2, hc1, hc2, hcell⟩
  · subst e2
    cases a0 with
    | none => exact ⟨v, w, run_append_nil base _ ty _ i0 1 Tryz.underlying22 hi0 v 0 [] hown k0, hown, Only.refl _ _⟩
    | some ad => exact some_ ad rfl (fun j u hu => by simp [irow] at hu)
  · obtain ⟨rfl, rfl⟩ : a0 = some ⟨b, off, none⟩ ∧ k0 = cap := by
      simp only [Value.slice.injEq] at e1
      exact ⟨e1.1, e1.2.2⟩
    refine some_ _ rfl (fun j u hu => ?_)
    have hj : j < L.length := by have := (List.getElem?_eq_some_iff.1 hu).1; rw [hll] at this; omega
    have e : (irow L)[j]? = some (.int .i64 (ptAt L j)) := by
      unfold irow
      rw [List.getElem?_map]
      simp [ptAt, List.getD, hj]
    rw [e] at hu
    have hadd : (⟨b, off, none⟩ : Addr).add j = ⟨b, off + j, none⟩ := by unfold Addr.add; split <;> simp_all
    rw [hadd, ← hu]
    exact hcell j hj
theorem step_append_ints {w : World} {ops : Array Oper} {o : Oper} {a : Act} {K : Act → World → Prop} {Q : Exit → Act → World → Prop} {E : Prop} (hgd : o.guard = none) (s x : Operand) {a0 : Option Addr} {k0 base : Nat} {L : List Int}
    (ho : o.op = .call { callee := .builtin .append, args := #[s, x], argTypes := #[22, 22] }) {v : Value} (hs : a.eval s = v) (hx : a.eval x = .slice a0 L.length k0)
    (hL : PtsAt w.heap.size w (.slice a0 L.length k0) L) (hm5 : L.length ≤ 1000000) (hown : w.ownsRow base 3 1 v 0 []) (hb : base ≤ w.heap.size)
    (h : ∀ v' w', w'.ownsRow base 3 1 v' L.length (irow L) → Only (fun i => v.ownBlock = some i) w w' → K (a.put o.dst v') w') :
    if Region.wanted o (yielded ops a.tmps) = true then Oper.wp Tryz.prog o a w K Q else E := by
  have hw : Region.wanted o (yielded ops a.tmps) = true := by simp [Region.wanted, hgd]
  rw [if_pos hw]
  obtain ⟨v', w', hr, h2, h3⟩ := run_append_ints o.type hL hm5 hown hb
  unfold Oper.wp execOp
  simp only [ho, resolve, invoke, builtin, Sem.run_bind, Sem.run_pure, Result.andThen_ok, List.map_toArray, List.map_cons, List.map_nil, hs, hx, hr]
  exact h v' w' h2 h3
/-- append of all of a slice to an empty one that is owned. -/
theorem run_append_strs {w : World} {a0 : Option Addr} {k0 base : Nat} {L : List ByteArray} (ty : TypeId) (hL : StrsAt w (.slice a0 L.length k0) L) (hm5 : L.length ≤ 1000000) {v : Value} (hown : w.ownsRow base 9 1 v 0 []) (hb : base ≤ w.heap.size) :
    ∃ v' w', (Builtin.append_ #[23, 23] ty #[v, .slice a0 L.length k0]).run Tryz.prog w = .ok v' w' ∧ w'.ownsRow base 9 1 v' L.length (srowS L) ∧ Only (fun i => v.ownBlock = some i) w w' := by
  obtain ⟨i0, hi0, hz0, hz1, hz2⟩ := info_parts Tryz.infoS1
  have hll : (srowS L).length = L.length * 1 := by unfold srowS; rw [List.length_map, Nat.mul_one]
  have h1 : ∀ u ∈ srowS L, u.oneCell' = true := fun u hu => by unfold srowS at hu; rw [List.mem_map] at hu; obtain ⟨z, _, rfl⟩ := hu; rfl
  have some_ : ∀ ad, a0 = some ad → (∀ j u, (srowS L)[j]? = some u → w.cell? (ad.add j) = some u) → ∃ v' w', (Builtin.append_ #[23, 23] ty #[v, .slice a0 L.length k0]).run Tryz.prog w = .ok v' w' ∧ w'.ownsRow base 9 1 v' L.length (srowS L) ∧ Only (fun i => v.ownBlock = some i) w w' := by
    intro ad e hc
    subst e
    obtain ⟨v', w', hr, ho, hg, _⟩ := run_append_own (P := Tryz.prog) (w := w) base 23 ty 9 i0 _ 1 16 Tryz.underlying23 hi0 hz0 hz1 hz2 rfl (by decide) v 0 [] hown ad L.length k0 _ hll hc h1 (by unfold maxLen; omega) (by omega) hb
    rw [Nat.zero_add, List.nil_append] at ho
    exact ⟨v', w', hr, ho, (Only.refl _ _).grown hg (fun i e _ => e)⟩
  rcases hL with ⟨a, c, e1, e2⟩ | ⟨b, off, cap, e1, hb2, hc1, hc2, hcell⟩
  · subst e2
    cases a0 with
    | none => exact ⟨v, w, run_append_nil base _ ty _ i0 1 Tryz.underlying23 hi0 v 0 [] hown k0, hown, Only.refl _ _⟩
    | some ad => exact some_ ad rfl (fun j u hu => by simp [srowS] at hu)
  · obtain ⟨rfl, rfl⟩ : a0 = some ⟨b, off, none⟩ ∧ k0 = cap := by
      simp only [Value.slice.injEq] at e1
      exact ⟨e1.1, e1.2.2⟩
    refine some_ _ rfl (fun j u hu => ?_)
    have hj : j < L.length := by have := (List.getElem?_eq_some_iff.1 hu).1; rw [hll] at this; omega
    have e : (srowS L)[j]? = some (.string (sAt L j)) := by
      unfold srowS
      rw [List.getElem?_map]
      simp [sAt, List.getD, hj]
    rw [e] at hu
    have hadd : (⟨b, off, none⟩ : Addr).add j = ⟨b, off + j, none⟩ := by unfold Addr.add; split <;> simp_all
    rw [hadd, ← hu]
    exact hcell j hj
theorem step_append_strs {w : World} {ops : Array Oper} {o : Oper} {a : Act} {K : Act → World → Prop} {Q : Exit → Act → World → Prop} {E : Prop} (hgd : o.guard = none) (s x : Operand) {a0 : Option Addr} {k0 base : Nat} {L : List ByteArray}
    (ho : o.op = .call { callee := .builtin .append, args := #[s, x], argTypes := #[23, 23] }) {v : Value} (hs : a.eval s = v) (hx : a.eval x = .slice a0 L.length k0)
    (hL : StrsAt w (.slice a0 L.length k0) L) (hm5 : L.length ≤ 1000000) (hown : w.ownsRow base 9 1 v 0 []) (hb : base ≤ w.heap.size)
    (h : ∀ v' w', w'.ownsRow base 9 1 v' L.length (srowS L) → Only (fun i => v.ownBlock = some i) w w' → K (a.put o.dst v') w') :
    if Region.wanted o (yielded ops a.tmps) = true then Oper.wp Tryz.prog o a w K Q else E := by
  have hw : Region.wanted o (yielded ops a.tmps) = true := by simp [Region.wanted, hgd]
  rw [if_pos hw]
  obtain ⟨v', w', hr, h2, h3⟩ := run_append_strs o.type hL hm5 hown hb
  unfold Oper.wp execOp
  simp only [ho, resolve, invoke, builtin, Sem.run_bind, Sem.run_pure, Result.andThen_ok, List.map_toArray, List.map_cons, List.map_nil, hs, hx, hr]
  exact h v' w' h2 h3
theorem Only.setRowOwn {w : World} (_ : Only (fun _ => False) w w) {base g : Nat} {e : TypeId} {v : Value} {n : Nat} {xs : List Value} (h : w.ownsRow base e 1 v n xs) (hg : g < base) (cs : Array Value) : (w.setRow g cs).ownsRow base e 1 v n xs :=
  (show Only (fun k => k = g) w (w.setRow g cs) from ⟨rfl, rfl, rfl, by simp, fun k _ hk => heap_setRow_other _ _ _ _ hk⟩).owns h (fun i hi e => by have := own_low' h hi; omega)
theorem bundle {w W : World} {base : Nat} {e : TypeId} {v : Value} {n : Nat} {xs : List Value} (h : w.ownsRow base e 1 v n xs) (hO : Only (fun _ => False) w W) : W.ownsRow base e 1 v n xs := hO.owns h (fun _ _ h => h)
/-- Two owned slices with different kinds of elements have different blocks. -/
theorem own_apart2 {w : World} {b1 b2 e1 e2 n1 n2 : Nat} {u v : Value} {xs ys : List Value} (h1 : w.ownsRow b1 e1 1 u n1 xs) (h2 : w.ownsRow b2 e2 1 v n2 ys) (hne : e1 ≠ e2) : ∀ g, u.ownBlock = some g → v.ownBlock ≠ some g := by
  intro g hu hv
  rcases h1.2 with ⟨rfl, _⟩ | ⟨g1, c1, r1, rfl, _, hg1, _⟩
  · simp [Value.ownBlock] at hu
  · rcases h2.2 with ⟨rfl, _⟩ | ⟨g2, c2, r2, rfl, _, hg2, _⟩
    · simp [Value.ownBlock] at hv
    · simp [Value.ownBlock] at hu hv
      subst hu hv
      rw [hg1] at hg2
      simp at hg2
      exact hne hg2.2
set_option maxRecDepth 100000 in
set_option maxHeartbeats 4000000 in
theorem rcopy_any (a0 a2 : Option Addr) (k0 k2 : Nat) (d : Dl) (w : World) (hD : DlAt w (.slice a0 d.cm.length k0) (.int .i64 d.pt) (.slice a2 d.bx.length k2) d) (hcm : d.cm.length ≤ 1000000) (hbx : d.bx.length ≤ 1000000) :
    Calls Tryz.prog 15 #[.agg #[.slice a0 d.cm.length k0, .int .i64 d.pt, .slice a2 d.bx.length k2]] w fun e w' => (∃ c0 c2, e = .returned (.agg #[c0, .int .i64 d.pt, c2]) ∧ DlOwn w.heap.size w' c0 c2 d) ∧ Only (fun _ => False) w w' := by
  have hA := ((Only.refl (fun _ => False) w).alloc (.cells #[.slice a0 d.cm.length k0, .int .i64 d.pt, .slice a2 d.bx.length k2] 25)).alloc (.cells #[.slice none 0 0, .int .i64 0, .slice none 0 0] 25)
  have hz0 := row_still ((Only.refl (fun _ => False) (w.alloc (.cells #[.slice a0 d.cm.length k0, .int .i64 d.pt, .slice a2 d.bx.length k2] 25))).alloc (.cells #[.slice none 0 0, .int .i64 0, .slice none 0 0] 25)) (heap_alloc_last w (.cells #[.slice a0 d.cm.length k0, .int .i64 d.pt, .slice a2 d.bx.length k2] 25))
  have hz1 := heap_alloc_last (w.alloc (.cells #[.slice a0 d.cm.length k0, .int .i64 d.pt, .slice a2 d.bx.length k2] 25)) (.cells #[.slice none 0 0, .int .i64 0, .slice none 0 0] 25)
  rw [World.size_alloc] at hz1
  have hsz1 : ((w.alloc (.cells #[.slice a0 d.cm.length k0, .int .i64 d.pt, .slice a2 d.bx.length k2] 25)).alloc (.cells #[.slice none 0 0, .int .i64 0, .slice none 0 0] 25)).heap.size = w.heap.size + 2 := by simp
  have HD := Lib.hid (fun W (hO : Only (fun _ => False) w W) => hD.only hO)
  have HA := Lib.hid hA
  have HZ0 := Lib.hid hz0
  have HZ1 := Lib.hid hz1
  clear hA hz0 hz1 hD
  go_enter Tryz.func15, Tryz.ntmps15
  go_wp2_with fail
  generalize hW : World.alloc (World.alloc w _) _ = w1 at *
  clear hW
  have HS1 := Lib.hid hsz1
  clear hsz1
  have e0 : w1.cell? ⟨w.heap.size, 0, none⟩ = some (.slice a0 d.cm.length k0) := cell_of_row _ _ 0 _ _ _ HZ0.out
  have e1 : w1.cell? ⟨w.heap.size, 1, none⟩ = some (.int .i64 d.pt) := cell_of_row _ _ 1 _ _ _ HZ0.out
  have e2 : w1.cell? ⟨w.heap.size, 2, none⟩ = some (.slice a2 d.bx.length k2) := cell_of_row _ _ 2 _ _ _ HZ0.out
  have HKS := Lib.hid (show ∀ W, Only (fun _ => False) w1 W → W.cell? ⟨w.heap.size, 0, none⟩ = some (.slice a0 d.cm.length k0) ∧ W.cell? ⟨w.heap.size, 1, none⟩ = some (.int .i64 d.pt) ∧ W.cell? ⟨w.heap.size, 2, none⟩ = some (.slice a2 d.bx.length k2) from fun W hW => ⟨hW.cell e0 id, hW.cell e1 id, hW.cell e2 id⟩)
  refine wp_region_split 11 (by kernel_rfl) (by kernel_rfl) (wpAny_of_held (S := fun W => W.cell? ⟨w.heap.size, 0, none⟩ = some (.slice a0 d.cm.length k0) ∧ W.cell? ⟨w.heap.size, 1, none⟩ = some (.int .i64 d.pt) ∧ W.cell? ⟨w.heap.size, 2, none⟩ = some (.slice a2 d.bx.length k2)) _ _ _ _ ?_)
  simp only [List.take_succ_cons, List.take_zero]
  change wpAnyH _ _ _ _ _ _ _ _ w1.drew
  have hHeld : w1.drew.cell? ⟨w.heap.size, 0, none⟩ = some (.slice a0 d.cm.length k0) ∧ w1.drew.cell? ⟨w.heap.size, 1, none⟩ = some (.int .i64 d.pt) ∧ w1.drew.cell? ⟨w.heap.size, 2, none⟩ = some (.slice a2 d.bx.length k2) := ⟨e0, e1, e2⟩
  refine' wpAnyH_take (i := 1) (v := _) rfl (by kernel_rfl) (by kernel_rfl) (by kernel_rfl) (fun _ _ _ h => h) (Or.inl ⟨by rfl, ?hya1⟩) hHeld ?ra1
  case hya1 => (intro w hSw; obtain ⟨s0, s1, s2⟩ := hSw; go_simp; with_reducible rfl)
  simp only [Act.put, List.getElem_toArray, List.getElem_cons_zero, List.getElem_cons_succ, List.setIfInBounds_toArray, List.set_cons_zero, List.set_cons_succ]
  refine' wpAnyH_take (i := 2) (v := _) rfl (by kernel_rfl) (by kernel_rfl) (by kernel_rfl) (fun _ _ _ h => h) (Or.inl ⟨by rfl, ?hya2⟩) hHeld ?ra2
  case hya2 => (intro w hSw; obtain ⟨s0, s1, s2⟩ := hSw; go_simp; with_reducible rfl)
  simp only [Act.put, List.getElem_toArray, List.getElem_cons_zero, List.getElem_cons_succ, List.setIfInBounds_toArray, List.set_cons_zero, List.set_cons_succ]
  refine' wpAnyH_take (i := 4) (v := _) rfl (by kernel_rfl) (by kernel_rfl) (by kernel_rfl) (fun _ _ _ h => h) (Or.inl ⟨by rfl, ?hya4⟩) hHeld ?ra4
  case hya4 => (intro w hSw; obtain ⟨s0, s1, s2⟩ := hSw; go_simp; with_reducible rfl)
  simp only [Act.put, List.getElem_toArray, List.getElem_cons_zero, List.getElem_cons_succ, List.setIfInBounds_toArray, List.set_cons_zero, List.set_cons_succ]
  refine' wpAnyH_take (i := 5) (v := _) rfl (by kernel_rfl) (by kernel_rfl) (by kernel_rfl) (fun _ _ _ h => h) (Or.inl ⟨by rfl, ?hya5⟩) hHeld ?ra5
  case hya5 => (intro w hSw; obtain ⟨s0, s1, s2⟩ := hSw; go_simp; with_reducible rfl)
  simp only [Act.put, List.getElem_toArray, List.getElem_cons_zero, List.getElem_cons_succ, List.setIfInBounds_toArray, List.set_cons_zero, List.set_cons_succ]
  refine' wpAnyH_take (i := 7) (v := _) rfl (by kernel_rfl) (by kernel_rfl) (by kernel_rfl) (fun _ _ _ h => h) (Or.inl ⟨by rfl, ?hya7⟩) hHeld ?ra7
  case hya7 => (intro w hSw; obtain ⟨s0, s1, s2⟩ := hSw; go_simp; with_reducible rfl)
  simp only [Act.put, List.getElem_toArray, List.getElem_cons_zero, List.getElem_cons_succ, List.setIfInBounds_toArray, List.set_cons_zero, List.set_cons_succ]
  refine' wpAnyH_take (i := 8) (v := _) rfl (by kernel_rfl) (by kernel_rfl) (by kernel_rfl) (fun _ _ _ h => h) (Or.inl ⟨by rfl, ?hya8⟩) hHeld ?ra8
  case hya8 => (intro w hSw; obtain ⟨s0, s1, s2⟩ := hSw; go_simp; with_reducible rfl)
  simp only [Act.put, List.getElem_toArray, List.getElem_cons_zero, List.getElem_cons_succ, List.setIfInBounds_toArray, List.set_cons_zero, List.set_cons_succ]
  refine wpAnyH_ready (rs := [0, 6]) (by kernel_rfl) (by simp) ?_
  refine AllReadyH.cons rfl (fun K hK => ?_) (AllReadyH.cons rfl (fun K hK => ?_) AllReadyH.nil)
  · go_simp
    have HOX := Lib.hid (show Only (fun _ => False) w1 (w1.alloc (.cells #[] 3)).drew from ((Only.refl _ w1).alloc _).drew)
    have HE1 := Lib.hid (show World.ownsRow (w1.alloc (.cells #[] 3)).drew w1.heap.size 3 1 (.slice (some ⟨w1.heap.size, 0, none⟩) 0 0) 0 [] from bundle (own_emptyD w1 w1.heap.size 3 1 (Nat.le_refl _)) ((Only.refl (fun _ => False) _).drew))
    have HE1L := Lib.hid (show w1.heap.size ≤ w1.heap.size from Nat.le_refl _)
    refine hK.out _ _ (HKS.out _ HOX.out) (fun hHeld => ?_)
    clear hK K
    try simp only [Act.put, List.getElem_toArray, List.getElem_cons_zero, List.getElem_cons_succ, List.setIfInBounds_toArray, List.set_cons_zero, List.set_cons_succ]
    generalize (w1.alloc (.cells #[] 3)).drew = v1 at *
    have HOY := Lib.hid HOX.out.size
    refine wpAnyH_ready (rs := [3, 6]) (by kernel_rfl) (by simp) ?_
    refine AllReadyH.cons rfl (fun K hK => ?_) (AllReadyH.cons rfl (fun K hK => ?_) AllReadyH.nil)
    · refine step_append_ints rfl _ _ rfl (v := .slice (some ⟨w1.heap.size, 0, none⟩) 0 0) (by rfl) (by rfl) (HD.out _ (HA.out.trans HOX.out)).cm hcm HE1.out HOY.out ?_
      intro va v2 hva hvo
      obtain ⟨aa, ca, rfl⟩ := slice_of_own hva
      have HV1 := Lib.hid hva
      have hgE : ∀ i, (Value.slice (some ⟨w1.heap.size, 0, none⟩) 0 0).ownBlock = some i → i = w1.heap.size := fun i e => by simpa [Value.ownBlock] using e.symm
      have HOX2 := Lib.hid (HOX.out.trans' hvo (fun i e hi => by have := hgE i hi; have := HE1L.out; omega))
      clear HOX
      have HOX := Lib.hid HOX2.out
      refine hK.out _ _ (HKS.out _ HOX.out) (fun hHeld => ?_)
      clear hK K hva hvo HOX2 hgE HE1
      try simp only [Act.put, List.getElem_toArray, List.getElem_cons_zero, List.getElem_cons_succ, List.setIfInBounds_toArray, List.set_cons_zero, List.set_cons_succ]
      have HOY := Lib.hid HOX.out.size
      refine wpAnyH_ready (rs := [6]) (by kernel_rfl) (by simp) ?_
      refine AllReadyH.cons rfl (fun K hK => ?_) AllReadyH.nil
      go_simp
      have HOX := Lib.hid (show Only (fun _ => False) w1 (v2.alloc (.cells #[] 9)) from HOX.out.alloc _)
      have HV1 := Lib.hid (bundle HV1.out ((Only.refl (fun _ => False) v2).alloc (.cells #[] 9)))
      have HE2 := Lib.hid (show World.ownsRow (v2.alloc (.cells #[] 9)) w1.heap.size 9 1 (.slice (some ⟨v2.heap.size, 0, none⟩) 0 0) 0 [] from (own_emptyD v2 w1.heap.size 9 1 (HOY.out)))
      have HE2L := Lib.hid (show w1.heap.size ≤ v2.heap.size from HOY.out)
      refine hK.out _ _ (HKS.out _ HOX.out) (fun hHeld => ?_)
      clear hK K
      try simp only [Act.put, List.getElem_toArray, List.getElem_cons_zero, List.getElem_cons_succ, List.setIfInBounds_toArray, List.set_cons_zero, List.set_cons_succ]
      generalize (v2.alloc (.cells #[] 9)) = v3 at *
      have HOY := Lib.hid HOX.out.size
      refine wpAnyH_ready (rs := [9]) (by kernel_rfl) (by simp) ?_
      refine AllReadyH.cons rfl (fun K hK => ?_) AllReadyH.nil
      refine step_append_strs rfl _ _ rfl (v := .slice (some ⟨v2.heap.size, 0, none⟩) 0 0) (by rfl) (by rfl) (HD.out _ (HA.out.trans HOX.out)).bx hbx HE2.out HOY.out ?_
      intro va v4 hva hvo
      obtain ⟨ab, cb, rfl⟩ := slice_of_own hva
      have HV2 := Lib.hid hva
      have hgE : ∀ i, (Value.slice (some ⟨v2.heap.size, 0, none⟩) 0 0).ownBlock = some i → i = v2.heap.size := fun i e => by simpa [Value.ownBlock] using e.symm
      have HOX2 := Lib.hid (HOX.out.trans' hvo (fun i e hi => by have := hgE i hi; have := HE2L.out; omega))
      have HV1 := Lib.hid (hvo.owns HV1.out (fun i hi e => by exact own_apart2 HV1.out HE2.out (by decide) i hi (e ▸ rfl)))
      clear HOX
      have HOX := Lib.hid HOX2.out
      refine hK.out _ _ (HKS.out _ HOX.out) (fun hHeld => ?_)
      clear hK K hva hvo HOX2 hgE HE2
      try simp only [Act.put, List.getElem_toArray, List.getElem_cons_zero, List.getElem_cons_succ, List.setIfInBounds_toArray, List.set_cons_zero, List.set_cons_succ]
      have HOY := Lib.hid HOX.out.size
      refine' wpAnyH_take (i := 10) (v := _) rfl (by kernel_rfl) (by kernel_rfl) (by kernel_rfl) (fun _ _ _ h => h) (Or.inl ⟨by rfl, ?hyz5x10⟩) hHeld ?rz5x10
      case hyz5x10 => (intro w hSw; obtain ⟨s0, s1, s2⟩ := hSw; go_simp; with_reducible rfl)
      simp only [Act.put, List.getElem_toArray, List.getElem_cons_zero, List.getElem_cons_succ, List.setIfInBounds_toArray, List.set_cons_zero, List.set_cons_succ]
      refine wpAnyH_done (by kernel_rfl) ?_ _
      simp only [headPost, List.drop_succ_cons, List.drop_zero]
      clear hHeld e0 e1 e2
      have HZ2 := Lib.hid (row_still HOX.out HZ1.out)
      go_wp2_with (first | (refine wpList_store_row rfl 25 _ _ rfl (w.heap.size + 1) #[.slice aa d.cm.length ca, .int .i64 d.pt, .slice ab d.bx.length cb] rfl rfl 25 _ HZ2.out Tryz.infoD rfl (dl_one _ _ _ _ _ _ _) ?_))
      exact bodyPost_ret (v := .agg #[.slice aa d.cm.length ca, .int .i64 d.pt, .slice ab d.bx.length cb]) (results_cell_row rfl _ _ (w.heap.size + 1) 25 #[.slice aa d.cm.length ca, .int .i64 d.pt, .slice ab d.bx.length cb] (0, 0) _ rfl (setRow_heap _ _ _ _ _ _ HZ2.out) Tryz.underlying25 rfl Tryz.infoD) rfl ⟨⟨_, _, rfl, own_base ((Only.refl (fun _ => False) _).setRowOwn HV1.out (by have := HS1.out; omega) _) (by have := HS1.out; omega), own_base ((Only.refl (fun _ => False) _).setRowOwn HV2.out (by have := HS1.out; omega) _) (by have := HS1.out; omega)⟩, (HA.out.trans HOX.out).setRow (by omega) _⟩
    · go_simp
      have HOX := Lib.hid (show Only (fun _ => False) w1 (v1.alloc (.cells #[] 9)) from HOX.out.alloc _)
      have HE1 := Lib.hid (bundle HE1.out ((Only.refl (fun _ => False) v1).alloc (.cells #[] 9)))
      have HE2 := Lib.hid (show World.ownsRow (v1.alloc (.cells #[] 9)) w1.heap.size 9 1 (.slice (some ⟨v1.heap.size, 0, none⟩) 0 0) 0 [] from (own_emptyD v1 w1.heap.size 9 1 (HOY.out)))
      have HE2L := Lib.hid (show w1.heap.size ≤ v1.heap.size from HOY.out)
      refine hK.out _ _ (HKS.out _ HOX.out) (fun hHeld => ?_)
      clear hK K
      try simp only [Act.put, List.getElem_toArray, List.getElem_cons_zero, List.getElem_cons_succ, List.setIfInBounds_toArray, List.set_cons_zero, List.set_cons_succ]
      generalize (v1.alloc (.cells #[] 9)) = v6 at *
      have HOY := Lib.hid HOX.out.size
      refine wpAnyH_ready (rs := [3]) (by kernel_rfl) (by simp) ?_
      refine AllReadyH.cons rfl (fun K hK => ?_) AllReadyH.nil
      refine step_append_ints rfl _ _ rfl (v := .slice (some ⟨w1.heap.size, 0, none⟩) 0 0) (by rfl) (by rfl) (HD.out _ (HA.out.trans HOX.out)).cm hcm HE1.out HOY.out ?_
      intro va v7 hva hvo
      obtain ⟨aa, ca, rfl⟩ := slice_of_own hva
      have HV1 := Lib.hid hva
      have hgE : ∀ i, (Value.slice (some ⟨w1.heap.size, 0, none⟩) 0 0).ownBlock = some i → i = w1.heap.size := fun i e => by simpa [Value.ownBlock] using e.symm
      have HOX2 := Lib.hid (HOX.out.trans' hvo (fun i e hi => by have := hgE i hi; have := HE1L.out; omega))
      have HE2 := Lib.hid (hvo.owns HE2.out (fun i hi e => by exact own_apart2 HE2.out HE1.out (by decide) i hi (e ▸ rfl)))
      clear HOX
      have HOX := Lib.hid HOX2.out
      refine hK.out _ _ (HKS.out _ HOX.out) (fun hHeld => ?_)
      clear hK K hva hvo HOX2 hgE HE1
      try simp only [Act.put, List.getElem_toArray, List.getElem_cons_zero, List.getElem_cons_succ, List.setIfInBounds_toArray, List.set_cons_zero, List.set_cons_succ]
      have HOY := Lib.hid HOX.out.size
      refine wpAnyH_ready (rs := [9]) (by kernel_rfl) (by simp) ?_
      refine AllReadyH.cons rfl (fun K hK => ?_) AllReadyH.nil
      refine step_append_strs rfl _ _ rfl (v := .slice (some ⟨v1.heap.size, 0, none⟩) 0 0) (by rfl) (by rfl) (HD.out _ (HA.out.trans HOX.out)).bx hbx HE2.out HOY.out ?_
      intro va v8 hva hvo
      obtain ⟨ab, cb, rfl⟩ := slice_of_own hva
      have HV2 := Lib.hid hva
      have hgE : ∀ i, (Value.slice (some ⟨v1.heap.size, 0, none⟩) 0 0).ownBlock = some i → i = v1.heap.size := fun i e => by simpa [Value.ownBlock] using e.symm
      have HOX2 := Lib.hid (HOX.out.trans' hvo (fun i e hi => by have := hgE i hi; have := HE2L.out; omega))
      have HV1 := Lib.hid (hvo.owns HV1.out (fun i hi e => by exact own_apart2 HV1.out HE2.out (by decide) i hi (e ▸ rfl)))
      clear HOX
      have HOX := Lib.hid HOX2.out
      refine hK.out _ _ (HKS.out _ HOX.out) (fun hHeld => ?_)
      clear hK K hva hvo HOX2 hgE HE2
      try simp only [Act.put, List.getElem_toArray, List.getElem_cons_zero, List.getElem_cons_succ, List.setIfInBounds_toArray, List.set_cons_zero, List.set_cons_succ]
      have HOY := Lib.hid HOX.out.size
      refine' wpAnyH_take (i := 10) (v := _) rfl (by kernel_rfl) (by kernel_rfl) (by kernel_rfl) (fun _ _ _ h => h) (Or.inl ⟨by rfl, ?hyz9x10⟩) hHeld ?rz9x10
      case hyz9x10 => (intro w hSw; obtain ⟨s0, s1, s2⟩ := hSw; go_simp; with_reducible rfl)
      simp only [Act.put, List.getElem_toArray, List.getElem_cons_zero, List.getElem_cons_succ, List.setIfInBounds_toArray, List.set_cons_zero, List.set_cons_succ]
      refine wpAnyH_done (by kernel_rfl) ?_ _
      simp only [headPost, List.drop_succ_cons, List.drop_zero]
      clear hHeld e0 e1 e2
      have HZ2 := Lib.hid (row_still HOX.out HZ1.out)
      go_wp2_with (first | (refine wpList_store_row rfl 25 _ _ rfl (w.heap.size + 1) #[.slice aa d.cm.length ca, .int .i64 d.pt, .slice ab d.bx.length cb] rfl rfl 25 _ HZ2.out Tryz.infoD rfl (dl_one _ _ _ _ _ _ _) ?_))
      exact bodyPost_ret (v := .agg #[.slice aa d.cm.length ca, .int .i64 d.pt, .slice ab d.bx.length cb]) (results_cell_row rfl _ _ (w.heap.size + 1) 25 #[.slice aa d.cm.length ca, .int .i64 d.pt, .slice ab d.bx.length cb] (0, 0) _ rfl (setRow_heap _ _ _ _ _ _ HZ2.out) Tryz.underlying25 rfl Tryz.infoD) rfl ⟨⟨_, _, rfl, own_base ((Only.refl (fun _ => False) _).setRowOwn HV1.out (by have := HS1.out; omega) _) (by have := HS1.out; omega), own_base ((Only.refl (fun _ => False) _).setRowOwn HV2.out (by have := HS1.out; omega) _) (by have := HS1.out; omega)⟩, (HA.out.trans HOX.out).setRow (by omega) _⟩
  · go_simp
    have HOX := Lib.hid (show Only (fun _ => False) w1 (w1.alloc (.cells #[] 9)).drew from ((Only.refl _ w1).alloc _).drew)
    have HE2 := Lib.hid (show World.ownsRow (w1.alloc (.cells #[] 9)).drew w1.heap.size 9 1 (.slice (some ⟨w1.heap.size, 0, none⟩) 0 0) 0 [] from bundle (own_emptyD w1 w1.heap.size 9 1 (Nat.le_refl _)) ((Only.refl (fun _ => False) _).drew))
    have HE2L := Lib.hid (show w1.heap.size ≤ w1.heap.size from Nat.le_refl _)
    refine hK.out _ _ (HKS.out _ HOX.out) (fun hHeld => ?_)
    clear hK K
    try simp only [Act.put, List.getElem_toArray, List.getElem_cons_zero, List.getElem_cons_succ, List.setIfInBounds_toArray, List.set_cons_zero, List.set_cons_succ]
    generalize (w1.alloc (.cells #[] 9)).drew = v10 at *
    have HOY := Lib.hid HOX.out.size
    refine wpAnyH_ready (rs := [0]) (by kernel_rfl) (by simp) ?_
    refine AllReadyH.cons rfl (fun K hK => ?_) AllReadyH.nil
    go_simp
    have HOX := Lib.hid (show Only (fun _ => False) w1 (v10.alloc (.cells #[] 3)) from HOX.out.alloc _)
    have HE2 := Lib.hid (bundle HE2.out ((Only.refl (fun _ => False) v10).alloc (.cells #[] 3)))
    have HE1 := Lib.hid (show World.ownsRow (v10.alloc (.cells #[] 3)) w1.heap.size 3 1 (.slice (some ⟨v10.heap.size, 0, none⟩) 0 0) 0 [] from (own_emptyD v10 w1.heap.size 3 1 (HOY.out)))
    have HE1L := Lib.hid (show w1.heap.size ≤ v10.heap.size from HOY.out)
    refine hK.out _ _ (HKS.out _ HOX.out) (fun hHeld => ?_)
    clear hK K
    try simp only [Act.put, List.getElem_toArray, List.getElem_cons_zero, List.getElem_cons_succ, List.setIfInBounds_toArray, List.set_cons_zero, List.set_cons_succ]
    generalize (v10.alloc (.cells #[] 3)) = v11 at *
    have HOY := Lib.hid HOX.out.size
    refine wpAnyH_ready (rs := [3]) (by kernel_rfl) (by simp) ?_
    refine AllReadyH.cons rfl (fun K hK => ?_) AllReadyH.nil
    refine step_append_ints rfl _ _ rfl (v := .slice (some ⟨v10.heap.size, 0, none⟩) 0 0) (by rfl) (by rfl) (HD.out _ (HA.out.trans HOX.out)).cm hcm HE1.out HOY.out ?_
    intro va v12 hva hvo
    obtain ⟨aa, ca, rfl⟩ := slice_of_own hva
    have HV1 := Lib.hid hva
    have hgE : ∀ i, (Value.slice (some ⟨v10.heap.size, 0, none⟩) 0 0).ownBlock = some i → i = v10.heap.size := fun i e => by simpa [Value.ownBlock] using e.symm
    have HOX2 := Lib.hid (HOX.out.trans' hvo (fun i e hi => by have := hgE i hi; have := HE1L.out; omega))
    have HE2 := Lib.hid (hvo.owns HE2.out (fun i hi e => by exact own_apart2 HE2.out HE1.out (by decide) i hi (e ▸ rfl)))
    clear HOX
    have HOX := Lib.hid HOX2.out
    refine hK.out _ _ (HKS.out _ HOX.out) (fun hHeld => ?_)
    clear hK K hva hvo HOX2 hgE HE1
    try simp only [Act.put, List.getElem_toArray, List.getElem_cons_zero, List.getElem_cons_succ, List.setIfInBounds_toArray, List.set_cons_zero, List.set_cons_succ]
    have HOY := Lib.hid HOX.out.size
    refine wpAnyH_ready (rs := [9]) (by kernel_rfl) (by simp) ?_
    refine AllReadyH.cons rfl (fun K hK => ?_) AllReadyH.nil
    refine step_append_strs rfl _ _ rfl (v := .slice (some ⟨w1.heap.size, 0, none⟩) 0 0) (by rfl) (by rfl) (HD.out _ (HA.out.trans HOX.out)).bx hbx HE2.out HOY.out ?_
    intro va v13 hva hvo
    obtain ⟨ab, cb, rfl⟩ := slice_of_own hva
    have HV2 := Lib.hid hva
    have hgE : ∀ i, (Value.slice (some ⟨w1.heap.size, 0, none⟩) 0 0).ownBlock = some i → i = w1.heap.size := fun i e => by simpa [Value.ownBlock] using e.symm
    have HOX2 := Lib.hid (HOX.out.trans' hvo (fun i e hi => by have := hgE i hi; have := HE2L.out; omega))
    have HV1 := Lib.hid (hvo.owns HV1.out (fun i hi e => by exact own_apart2 HV1.out HE2.out (by decide) i hi (e ▸ rfl)))
    clear HOX
    have HOX := Lib.hid HOX2.out
    refine hK.out _ _ (HKS.out _ HOX.out) (fun hHeld => ?_)
    clear hK K hva hvo HOX2 hgE HE2
    try simp only [Act.put, List.getElem_toArray, List.getElem_cons_zero, List.getElem_cons_succ, List.setIfInBounds_toArray, List.set_cons_zero, List.set_cons_succ]
    have HOY := Lib.hid HOX.out.size
    refine' wpAnyH_take (i := 10) (v := _) rfl (by kernel_rfl) (by kernel_rfl) (by kernel_rfl) (fun _ _ _ h => h) (Or.inl ⟨by rfl, ?hyz14x10⟩) hHeld ?rz14x10
    case hyz14x10 => (intro w hSw; obtain ⟨s0, s1, s2⟩ := hSw; go_simp; with_reducible rfl)
    simp only [Act.put, List.getElem_toArray, List.getElem_cons_zero, List.getElem_cons_succ, List.setIfInBounds_toArray, List.set_cons_zero, List.set_cons_succ]
    refine wpAnyH_done (by kernel_rfl) ?_ _
    simp only [headPost, List.drop_succ_cons, List.drop_zero]
    clear hHeld e0 e1 e2
    have HZ2 := Lib.hid (row_still HOX.out HZ1.out)
    go_wp2_with (first | (refine wpList_store_row rfl 25 _ _ rfl (w.heap.size + 1) #[.slice aa d.cm.length ca, .int .i64 d.pt, .slice ab d.bx.length cb] rfl rfl 25 _ HZ2.out Tryz.infoD rfl (dl_one _ _ _ _ _ _ _) ?_))
    exact bodyPost_ret (v := .agg #[.slice aa d.cm.length ca, .int .i64 d.pt, .slice ab d.bx.length cb]) (results_cell_row rfl _ _ (w.heap.size + 1) 25 #[.slice aa d.cm.length ca, .int .i64 d.pt, .slice ab d.bx.length cb] (0, 0) _ rfl (setRow_heap _ _ _ _ _ _ HZ2.out) Tryz.underlying25 rfl Tryz.infoD) rfl ⟨⟨_, _, rfl, own_base ((Only.refl (fun _ => False) _).setRowOwn HV1.out (by have := HS1.out; omega) _) (by have := HS1.out; omega), own_base ((Only.refl (fun _ => False) _).setRowOwn HV2.out (by have := HS1.out; omega) _) (by have := HS1.out; omega)⟩, (HA.out.trans HOX.out).setRow (by omega) _⟩
end Go.Proofs.YtkpfachmakfncaaGreatDoor
