/-
  The walk of the law NetNone.
-/
import Derived.Test.YteblaedfjifdhaaTwo
namespace Go.Proofs.Yteblaedfjifdhaa
open Go.RowKit

theorem one_ints (w : World) : IntsAt (w.alloc (.cells #[.int .i64 1] 3)) (.slice (some ⟨w.heap.size, 0, none⟩) 1 1) [1] := by
  refine .inr ⟨w.heap.size, 0, 1, rfl, by simp, fun j hj => ?_⟩
  have : j = 0 := by simp at hj; omega
  rw [cell_of_row _ _ _ _ _ _ (heap_alloc_new w _)]
  subst this; rfl
theorem one_wf : IntsWf [1] := by
  intro j hj
  have : j = 0 := by simp at hj; omega
  subst this; decide
theorem drop_nonodes {N : NS} (h : N.nodes ≤ 0) (fr to : Int) : dropB N fr to = true := by
  have : nodeB N.nodes to = false := by
    unfold nodeB
    simp only [Bool.and_eq_false_iff, decide_eq_false_iff_not]
    omega
  simp [dropB, this]
theorem sendN_drop {N : NS} {now fr to : Int} {tx : ByteArray} (h : dropB N fr to = true) : sendN N now fr to tx = { N with sent := N.sent + 1 } := by
  unfold sendN; rw [if_pos h]

set_option maxHeartbeats 1000000 in
set_option maxRecDepth 100000 in
theorem none_walk (fr to now : Int) (tx : ByteArray) (lv : Value) (l : List Tr) (w : World) (wf1 : (Lit.int .i64 fr).wf = true) (wf2 : (Lit.int .i64 to).wf = true) (h : TrsAt w lv l) (hwf : TrsWf l) :
    Calls Try.prog 9 #[.agg #[.int .i64 fr, .int .i64 to, .string tx], .int .i64 now, lv] w fun e w' => e = .returned (.bool true) ∧ Below w.heap.size w w' := by
  go_enter Try.func9, Try.ntmps9
  go_wp2_with fail
  refine (sanity_any _).mono ?_
  rintro e w1 ⟨rfl, hO1⟩
  have hbx := hO1.block w.heap.size (by simp) (fun h => h)
  rw [heap_alloc_new] at hbx
  have hO1' := ((Only.refl (fun _ => False) w).alloc _).trans hO1
  have hbl := (Array.getElem?_eq_some_iff.1 hbx).1
  clear hO1
  have HOW := Lib.hid hO1'
  obtain ⟨Fz, nz, nz2⟩ := netAt_new (nodes := 0) (s := []) (World.ownsRow_nil w1 _ _ _) (Only.refl _ w1)
  have hz := (Own.of_new nz (good_new _ _) nz2 ((Only.refl _ w1).alloc _)).keep w.heap.size _ hbx
  have HZ := Lib.hid hz
  have HT := Lib.hid h
  have HF := Lib.hid hwf
  clear nz nz2 hz hbx h hwf hO1'
  go_wp2_with fail
  refine (script_any _ lv l (HT.out.frame (HOW.out.alloc _)) HF.out).mono ?_
  rintro e w2 ⟨a, c, rfl, hrow, hO2⟩
  have hz2 := HZ.out.quiet hO2
  have HZ2 := Lib.hid hz2
  have HR := Lib.hid hrow
  clear hz2 hrow HZ HT HF hO2
  go_wp2_with fail
  refine (new_any _ (-3) _ (scriptOf l) (SrcAt.of_own HR.out) (Nat.le_trans (scriptOf_length l) (by decide))).mono ?_
  rintro e w3 ⟨p, G, rfl, n1, n2, n3⟩
  have h2 := HZ2.out.two n1 (good_new _ _) n2 n3
  have H2 := Lib.hid h2
  clear HZ2 HR n1 n2 n3 h2
  have hb3 := (H2.out.one.apart w.heap.size _ List.mem_cons_self).2
  have x0 := cell_of_row w3 w.heap.size 0 _ 31 (0, 0) hb3
  have x1 := cell_of_row w3 w.heap.size 1 _ 31 (0, 0) hb3
  have x2 := cell_of_row w3 w.heap.size 2 _ 31 (0, 0) hb3
  simp at x0 x1 x2
  clear hb3
  go_wp2_with fail
  refine (send_nilptr now ⟨fr, to, tx, 0, 0⟩ w3).mono ?_
  rintro e w4 ⟨rfl, hO4⟩
  have h4 := H2.out.quiet hO4
  have H4 := Lib.hid h4
  clear H2 hO4 h4 x0 x1 x2
  go_wp2_with fail
  refine (part_nilptr _ _).mono ?_
  rintro e w' ⟨rfl, rfl⟩
  have h5 := H4.out.quiet ((Only.refl _ w4).alloc (.cells #[.int .i64 1] 3))
  have H5 := Lib.hid h5
  clear H4 h5
  go_wp2_with fail
  have h6 := H5.out.quiet ((Only.refl _ _).alloc (.cells #[.int .i64 1] 3))
  have hns : ∀ k, Value.ownBlock (.slice (some ⟨(w4.alloc (.cells #[.int .i64 1] 3)).heap.size, 0, none⟩) 1 1) = some k → ¬ Fz k := fun k e hf => by
    have := H5.out.one.net.lt k hf
    simp [Value.ownBlock] at e this
    omega
  have hpi := one_ints (w4.alloc (.cells #[.int .i64 1] 3))
  rw [World.size_alloc] at hpi hns
  refine (part_any Fz _ _ _ [1] _ h6.one.net hpi one_wf hns (by decide)).mono ?_
  rintro e w6 ⟨rfl, hNL⟩
  obtain ⟨F6, h7⟩ := h6.left hNL (good_part h6.one.good _)
  have H7 := Lib.hid h7
  clear H5 h6 hNL hns hpi h7
  have hb3 := (H7.out.one.apart w.heap.size _ List.mem_cons_self).2
  have x0 := cell_of_row w6 w.heap.size 0 _ 31 (0, 0) hb3
  have x1 := cell_of_row w6 w.heap.size 1 _ 31 (0, 0) hb3
  have x2 := cell_of_row w6 w.heap.size 2 _ 31 (0, 0) hb3
  simp at x0 x1 x2
  clear hb3
  go_wp2_with fail
  refine (send_any F6 _ _ now fr to tx _ H7.out.one.net H7.out.one.good (by show 0 < 100000; decide) (.inl (drop_nonodes (by show (0 : Int) ≤ 0; decide) _ _)) wf1 wf2).mono ?_
  rintro e w7 ⟨rfl, hNL⟩
  obtain ⟨F7, h8⟩ := H7.out.left hNL (good_send H7.out.one.good _ _ _ _)
  have H8 := Lib.hid h8
  clear H7 hNL h8 x0 x1 x2
  have hb3 := (H8.out.one.apart w.heap.size _ List.mem_cons_self).2
  have x0 := cell_of_row w7 w.heap.size 0 _ 31 (0, 0) hb3
  have x1 := cell_of_row w7 w.heap.size 1 _ 31 (0, 0) hb3
  have x2 := cell_of_row w7 w.heap.size 2 _ 31 (0, 0) hb3
  simp at x0 x1 x2
  clear hb3
  go_wp2_with fail
  refine (send_any G p _ now fr to tx _ H8.out.two.net H8.out.two.good (by show 0 < 100000; decide) (.inl (drop_nonodes (by show (-3 : Int) ≤ 0; decide) _ _)) wf1 wf2).mono ?_
  rintro e w8 ⟨rfl, hNL⟩
  obtain ⟨G8, h9⟩ := H8.out.right hNL (good_send H8.out.two.good _ _ _ _)
  rw [sendN_drop (drop_nonodes (by show (0 : Int) ≤ 0; decide) _ _), sendN_drop (drop_nonodes (by show (-3 : Int) ≤ 0; decide) _ _)] at h9
  have H9 := Lib.hid h9
  clear H8 hNL h9 x0 x1 x2
  go_wp2_with fail
  refine (next_nilptr w8).mono ?_
  rintro e w9 ⟨rfl, hO9⟩
  have h10 := (H9.out.quiet hO9).quiet ((Only.refl _ w9).alloc (.cells #[.int .i64 0, .int .i64 0, .string ByteArray.empty] 31))
  have H10 := Lib.hid h10
  clear H9 hO9 h10
  unfold zeroMsg
  go_wp2_with fail
  refine (next_nil F7 _ _ _ H10.out.one.net rfl).mono ?_
  rintro e w10 ⟨rfl, hNL⟩
  obtain ⟨F11, h11⟩ := H10.out.left hNL H10.out.one.good
  have h12 := h11.quiet ((Only.refl _ w10).alloc (.cells #[.int .i64 0, .int .i64 0, .string ByteArray.empty] 31))
  have H12 := Lib.hid h12
  clear H10 hNL h11 h12
  go_wp2_with fail
  refine (next_nil G8 _ _ _ H12.out.two.net rfl).mono ?_
  rintro e w11 ⟨rfl, hNL⟩
  obtain ⟨G13, h13⟩ := H12.out.right hNL H12.out.two.good
  have h14 := h13.quiet ((Only.refl _ w11).alloc (.cells #[.int .i64 0, .int .i64 0, .string ByteArray.empty] 31))
  have H14 := Lib.hid h14
  clear H12 hNL h13 h14
  go_wp2_with fail
  refine (waiting_nil _).mono ?_
  rintro e w' ⟨rfl, rfl⟩
  go_wp2_with fail
  refine (waiting_is F11 _ _ _ 0 H14.out.one.net rfl).mono ?_
  rintro e w' ⟨rfl, rfl⟩
  go_wp2_with fail
  refine (waiting_is G13 _ _ _ 0 H14.out.two.net rfl).mono ?_
  rintro e w' ⟨rfl, rfl⟩
  go_wp2
  go_ret
  refine ⟨rfl, ?_⟩
  exact (HOW.out.trans H14.out.one.only).below (Nat.le_refl _) (fun _ _ h => h)
end Go.Proofs.Yteblaedfjifdhaa
