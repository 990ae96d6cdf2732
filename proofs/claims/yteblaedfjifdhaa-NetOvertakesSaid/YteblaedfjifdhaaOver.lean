/-
  The walk of the law NetOvertakes.
-/
import Derived.Test.YteblaedfjifdhaaScript
namespace Go.Proofs.Yteblaedfjifdhaa
open Go.RowKit

def ovS (d0 d1 : Int) : List Tr := [⟨false, 0, d0⟩, ⟨false, 0, d1⟩]
def ovN (a b d0 d1 : Int) : NS := sendN (sendN (newNS 1 (ovS d0 d1)) a 1 0 ByteArray.empty) b 2 0 ByteArray.empty
theorem ov_one (a d0 d1 : Int) (h0 : 0 ≤ d0) : sendN (newNS 1 (ovS d0 d1)) a 1 0 ByteArray.empty = ⟨1, ovS d0 d1, fun _ => 0, 1, [⟨1, 0, ByteArray.empty, a + d0 + (0 : Nat), 0⟩]⟩ := by
  have e : max d0 0 = d0 := by omega
  have e1 : (min (max (0 : Int) 1) 8).toNat = 1 := by decide
  simp [sendN, dropB, newNS, nodeB, trOf, ovS, tel, copiesOf, e1, copiesTo, insAll, ins, mkCopy, e]
theorem ov_L (a b d0 d1 : Int) (h0 : 0 ≤ d0) (h1 : 0 ≤ d1) : (ovN a b d0 d1).L = if b + d1 < a + d0 then [⟨2, 0, ByteArray.empty, b + d1, 1⟩, ⟨1, 0, ByteArray.empty, a + d0, 0⟩] else [⟨1, 0, ByteArray.empty, a + d0, 0⟩, ⟨2, 0, ByteArray.empty, b + d1, 1⟩] := by
  have e : max d1 0 = d1 := by omega
  have e1 : (min (max (0 : Int) 1) 8).toNat = 1 := by decide
  rw [ovN, ov_one a d0 d1 h0]
  simp [sendN, dropB, nodeB, trOf, ovS, tel, copiesOf, e1, copiesTo, insAll, ins, mkCopy, e, ltB]
  split <;> split <;> first | rfl | (exfalso; omega)

theorem ovSrc (w : World) (d0 d1 : Int) (T : TypeId) : SrcAt (w.alloc (.cells #[.bool false, .int .i64 0, .int .i64 d0, .bool false, .int .i64 0, .int .i64 d1] T)) (.slice (some ⟨w.heap.size, 0, none⟩) 2 2) (ovS d0 d1) :=
  .inr ⟨⟨w.heap.size, 0, none⟩, 2, rfl, fun j u hu => World.news_of_block (heap_alloc_new w _) j u hu⟩

set_option maxHeartbeats 1000000 in
set_option maxRecDepth 100000 in
theorem over_walk (a b d0 d1 : Int) (w : World) (ha : 0 ≤ a ∧ a ≤ 65535) (hb : 0 ≤ b ∧ b ≤ 65535) (h0 : 0 ≤ d0 ∧ d0 ≤ 65535) (h1 : 0 ≤ d1 ∧ d1 ≤ 65535) :
    Calls Try.prog 7 #[.int .u16 a, .int .u16 b, .agg #[.int .u16 d0, .int .u16 d1]] w fun e w' => e = .returned (.bool true) ∧ Below w.heap.size w w' := by
  obtain ⟨a1, a2⟩ := ha
  obtain ⟨b1, b2⟩ := hb
  obtain ⟨c1, c2⟩ := h0
  obtain ⟨g1, g2⟩ := h1
  go_enter Try.func7, Try.ntmps7
  go_wp2_with fail
  refine (sanity_any _).mono ?_
  rintro e w1 ⟨rfl, hO1⟩
  have hbx := hO1.block w.heap.size (by simp) (fun h => h)
  rw [heap_alloc_new] at hbx
  have x0 := cell_of_row w1 w.heap.size 0 _ 49 (0, 0) hbx
  have x1 := cell_of_row w1 w.heap.size 1 _ 49 (0, 0) hbx
  simp at x0 x1
  go_wp2_with fail
  refine (new_any _ 1 _ (ovS d0 d1) (ovSrc w1 d0 d1 44) (by show 2 ≤ 1000000; decide)).mono ?_
  rintro e w2 ⟨p, F, rfl, n1, n2, n3⟩
  have hOw := (Own.of_new n1 (good_new _ _) n2 n3).keep w.heap.size _ ((Below.heap_alloc w1 _ _ (Array.getElem?_eq_some_iff.1 hbx).1).trans hbx)
  have HO1 := Lib.hid hO1
  clear n1 n2 n3 hbx x0 x1 hO1
  go_wp2_with fail
  have hm1 : MaySend (newNS 1 (ovS d0 d1)) a 1 0 := .inr ⟨by omega, by omega, by show max d0 0 ≤ _; omega⟩
  refine (send_any F p _ a 1 0 ByteArray.empty _ hOw.net hOw.good (by show 0 < 100000; decide) hm1 (by decide) (by decide)).mono ?_
  rintro e w3 ⟨rfl, hNL⟩
  obtain ⟨F1, hO2⟩ := hOw.step hNL (good_send hOw.good _ _ _ _)
  clear hOw hNL hm1
  go_wp2_with fail
  have hm2 : MaySend (sendN (newNS 1 (ovS d0 d1)) a 1 0 ByteArray.empty) b 2 0 := by
    rw [ov_one a d0 d1 c1]; exact .inr ⟨by omega, by omega, by show max d1 0 ≤ _; omega⟩
  refine (send_any F1 p _ b 2 0 ByteArray.empty _ hO2.net hO2.good (by rw [ov_one a d0 d1 c1]; show 1 < 100000; decide) hm2 (by decide) (by decide)).mono ?_
  rintro e w4 ⟨rfl, hNL⟩
  obtain ⟨F2, hO3⟩ := hO2.step hNL (good_send hO2.good _ _ _ _)
  clear hO2 hNL hm2
  have hL := ov_L a b d0 d1 c1 g1
  have HO2 := Lib.hid hO3
  have fin : ∀ w5 F N, Own (w1.alloc (.cells #[.bool false, .int .i64 0, .int .i64 d0, .bool false, .int .i64 0, .int .i64 d1] 44)) w5 F p N [(w.heap.size, .cells #[.int .u16 d0, .int .u16 d1] 49 (0, 0))] → Below w.heap.size w w5 := fun w5 F N h =>
    (((((Only.refl _ w).alloc _).trans HO1.out).alloc _).trans h.only).below (Nat.le_refl _) (fun _ _ h => h)
  have FIN := Lib.hid fin
  clear fin
  by_cases hlt : b + d1 < a + d0
  · rw [if_pos hlt] at hL
    have HL := Lib.hid hL
    clear hL
    go_wp2_with fail
    refine (next_cons F2 p _ _ hO3.net hO3.good _ _ HL.out).mono ?_
    rintro e w5 ⟨rfl, hNL⟩
    obtain ⟨F3, hO4⟩ := hO3.step hNL (good_next hO3.good)
    clear hO3 hNL
    have hbx := (hO4.apart w.heap.size _ List.mem_cons_self).2
    have x0 := cell_of_row w5 w.heap.size 0 _ 49 (0, 0) hbx
    have x1 := cell_of_row w5 w.heap.size 1 _ 49 (0, 0) hbx
    have hsz := (Array.getElem?_eq_some_iff.1 hbx).1
    simp at x0 x1
    clear hbx
    go_wp2_with fail
    go_quiet (fail)
    go_wp2
    go_ret
    exact ⟨rfl, FIN.out _ _ _ (hO4.quiet (((Only.refl _ w5).alloc _).drewN _))⟩
  · rw [if_neg hlt] at hL
    have HL := Lib.hid hL
    clear hL
    go_wp2_with fail
    refine (next_cons F2 p _ _ hO3.net hO3.good _ _ HL.out).mono ?_
    rintro e w5 ⟨rfl, hNL⟩
    obtain ⟨F3, hO4⟩ := hO3.step hNL (good_next hO3.good)
    clear hO3 hNL
    have hbx := (hO4.apart w.heap.size _ List.mem_cons_self).2
    have x0 := cell_of_row w5 w.heap.size 0 _ 49 (0, 0) hbx
    have x1 := cell_of_row w5 w.heap.size 1 _ 49 (0, 0) hbx
    have hsz := (Array.getElem?_eq_some_iff.1 hbx).1
    simp at x0 x1
    clear hbx
    go_wp2_with fail
    go_quiet (fail)
    go_wp2
    go_ret
    exact ⟨rfl, FIN.out _ _ _ (hO4.quiet (((Only.refl _ w5).alloc _).drewN _))⟩
end Go.Proofs.Yteblaedfjifdhaa
