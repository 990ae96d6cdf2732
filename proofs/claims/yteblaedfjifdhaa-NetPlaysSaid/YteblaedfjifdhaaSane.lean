/-
  The walk of sanity: it returns true, and turns nothing that was there.
-/
import Derived.Test.YteblaedfjifdhaaModel
namespace Go.Proofs.Yteblaedfjifdhaa
open Go.RowKit

def sanS : List Tr := [⟨false, 0, 5⟩, ⟨true, 0, 0⟩, ⟨false, 2, 0⟩]
def sanT : Nat → Int | 0 => 10 | 1 => 11 | 2 => 12 | _ => 12
def sanN : Nat → NS
  | 0 => newNS 2 sanS
  | k + 1 => sendN (sanN k) (sanT k) k 1 ByteArray.empty
def sanL : List Wt := [⟨2, 1, ByteArray.empty, 12, 2⟩, ⟨2, 1, ByteArray.empty, 13, 2⟩, ⟨0, 1, ByteArray.empty, 15, 0⟩, ⟨3, 1, ByteArray.empty, 17, 3⟩]
def sanM : Nat → NS
  | 0 => sanN 4
  | k + 1 => nextN (sanM k)
theorem sanN_good (k : Nat) : Good (sanN k) := by
  induction k with
  | zero => exact good_new _ _
  | succ k ih => exact good_send ih _ _ _ _
theorem sanM_good (k : Nat) : Good (sanM k) := by
  induction k with
  | zero => exact sanN_good 4
  | succ k ih => exact good_next ih
theorem sanN_may (k : Nat) (h : k < 4) : (sanN k).sent = k ∧ MaySend (sanN k) (sanT k) k 1 := by
  have : k = 0 ∨ k = 1 ∨ k = 2 ∨ k = 3 := by omega
  rcases this with rfl | rfl | rfl | rfl <;> exact ⟨by decide, .inr (by decide)⟩
theorem sanN4 : (sanN 4).L = sanL := by kernel_rfl
theorem sanM_L (k : Nat) : (sanM k).L = sanL.drop k := by
  induction k with
  | zero => exact sanN4
  | succ k ih => show ((sanM k).L).tail = _; rw [ih, List.tail_drop]
theorem sanM_cons (k : Nat) (h : k < 4) : (sanM k).L = el sanL k :: sanL.drop (k + 1) := by
  rw [sanM_L, List.drop_eq_getElem_cons (show k < sanL.length from h)]; simp [el, show k < sanL.length from h]
theorem sanM_sent (k : Nat) : (sanM k).sent = 4 := by
  induction k with
  | zero => decide
  | succ k ih => exact ih
theorem sanM_nodes (k : Nat) : (sanM k).nodes = 2 := by
  induction k with
  | zero => decide
  | succ k ih => exact ih

def sanA : NS := sendN (sanM 4) 0 0 2 ByteArray.empty
def sanB : NS := { sanA with gr := grTo sanA.nodes [1, 2] 2 }
def sanC : NS := sendN sanB 0 0 1 ByteArray.empty
def sanD : NS := sendN sanC 0 7 1 ByteArray.empty
theorem sanA_good : Good sanA := good_send (sanM_good 4) _ _ _ _
theorem sanB_good : Good sanB := good_part sanA_good _
theorem sanC_good : Good sanC := good_send sanB_good _ _ _ _
theorem sanA_is : (sanM 4).sent < 100000 ∧ MaySend (sanM 4) 0 0 2 ∧ (sanA.L.length : Int) = 0 := ⟨by decide, .inl (by kernel_rfl), by kernel_rfl⟩
theorem sanC_is : sanB.sent < 100000 ∧ MaySend sanB 0 0 1 ∧ (sanC.L.length : Int) = 0 := ⟨by decide, .inl (by kernel_rfl), by kernel_rfl⟩
theorem sanD_is : sanC.sent < 100000 ∧ MaySend sanC 0 7 1 ∧ (sanD.L.length : Int) = 1 := ⟨by decide, .inr (by decide), by kernel_rfl⟩
theorem san_ints (w : World) : IntsAt (w.alloc (.cells #[.int .i64 1, .int .i64 2] 3)) (.slice (some ⟨w.heap.size, 0, none⟩) 2 2) [1, 2] := by
  refine .inr ⟨w.heap.size, 0, 2, rfl, by simp, fun j hj => ?_⟩
  have : j = 0 ∨ j = 1 := by simp at hj; omega
  rw [cell_of_row _ _ _ _ _ _ (heap_alloc_new w _)]
  rcases this with rfl | rfl <;> rfl
theorem san_wf : IntsWf [1, 2] := by
  intro j hj
  have : j = 0 ∨ j = 1 := by simp at hj; omega
  rcases this with rfl | rfl <;> decide

/-- The times, in memory. -/
def timesO : Obj := .cells #[.int .i64 10, .int .i64 11, .int .i64 12, .int .i64 12] 3 (0, 0)
def wantO : Obj := .cells #[.int .i64 2, .int .i64 12, .int .i64 2, .int .i64 13, .int .i64 0, .int .i64 15, .int .i64 3, .int .i64 17] 63 (0, 0)
theorem times_cell {w : World} {t : Nat} (h : w.heap[t]? = some timesO) (k : Nat) (hk : k < 4) : w.cell? ⟨t, k, none⟩ = some (.int .i64 (sanT k)) := by
  rw [cell_of_row w t k _ _ _ h]
  have : k = 0 ∨ k = 1 ∨ k = 2 ∨ k = 3 := by omega
  rcases this with rfl | rfl | rfl | rfl <;> rfl
theorem want_cell {w : World} {t : Nat} (h : w.heap[t]? = some wantO) (k : Nat) (hk : k < 4) : w.cell? ⟨t, k * 2, none⟩ = some (.int .i64 (el sanL k).fr) ∧ w.cell? ⟨t, k * 2 + 1, none⟩ = some (.int .i64 (el sanL k).tm) := by
  rw [cell_of_row w t _ _ _ _ h, cell_of_row w t _ _ _ _ h]
  have : k = 0 ∨ k = 1 ∨ k = 2 ∨ k = 3 := by omega
  rcases this with rfl | rfl | rfl | rfl <;> exact ⟨rfl, rfl⟩

theorem sanSrc (w : World) (T : TypeId) : SrcAt (w.alloc (.cells #[.bool false, .int .i64 0, .int .i64 5, .bool true, .int .i64 0, .int .i64 0, .bool false, .int .i64 2, .int .i64 0] T)) (.slice (some ⟨w.heap.size, 0, none⟩) 3 3) sanS :=
  .inr ⟨⟨w.heap.size, 0, none⟩, 3, rfl, fun j u hu => World.news_of_block (heap_alloc_new w _) j u hu⟩

set_option maxHeartbeats 1000000 in
set_option maxRecDepth 100000 in
theorem sanity_any (w : World) : Calls Try.prog 11 #[] w fun e w' => e = .returned (.bool true) ∧ Only (fun _ => False) w w' := by
  go_enter Try.func11, Try.ntmps11
  go_wp2_with fail
  refine (new_any _ 2 _ sanS (sanSrc w 44) (by decide)).mono ?_
  rintro e w1 ⟨b, F, rfl, h1, h2, h3⟩
  have hOwn := Own.of_new h1 (good_new _ _) h2 h3
  have HO := Lib.hid (hOwn.more timesO)
  unfold timesO at HO
  clear h1 h2 h3 hOwn
  go_wp2_with fail
  generalize hw2 : w1.alloc (Obj.cells #[Value.int IntKind.i64 10, Value.int IntKind.i64 11, Value.int IntKind.i64 12, Value.int IntKind.i64 12] 3) = w2 at HO
  generalize w1.heap.size = t at *
  generalize hw0 : w.alloc (.cells #[.bool false, .int .i64 0, .int .i64 5, .bool true, .int .i64 0, .int .i64 0, .bool false, .int .i64 2, .int .i64 0] 44) = w0 at HO
  have HW0 := Lib.hid hw0
  clear hw2 hw0
  go_loopw [3] (fun v wr => ∃ (k : Nat) (F : Nat → Prop), v = .int .i64 k ∧ k ≤ 4 ∧ Own w0 wr F b (sanN k) [(t, timesO)]) (fun v _ => 4 - (intOf v).toNat)
  case atStart => exact ⟨0, F, rfl, by omega, HO.out⟩
  case round =>
    clear HO F
    obtain ⟨k, F, rfl, hk, hO⟩ := hrel
    by_cases hlt : k < 4
    · have hc := times_cell (hO.apart t _ (by simp)).2 k hlt
      obtain ⟨hs, hm⟩ := sanN_may k hlt
      have HS := Lib.hid hs
      clear hs
      go_wp2_with fail
      refine (send_any F b (sanN k) (sanT k) k 1 ByteArray.empty _ hO.net hO.good (by rw [HS.out]; omega) hm (WalkArith.wf_i64 (by omega)) (by decide)).mono ?_
      rintro e w3 ⟨rfl, hL⟩
      obtain ⟨F', hO'⟩ := hO.step hL (good_send hO.good _ _ _ _)
      clear hc
      go_wp2
      go_roundw
      case rel => exact ⟨k + 1, F', by go_num, by omega, hO'⟩
      case measure => simp [intOf]; omega
    · have hk4 : k = 4 := by omega
      subst hk4
      have HO := Lib.hid (hO.more wantO)
      unfold wantO at HO
      clear hO
      go_wp2_with fail
      refine (waiting_is F b (sanN 4) _ 4 HO.out.net (by rw [sanN4]; rfl)).mono ?_
      rintro e w' ⟨rfl, rfl⟩
      generalize hw2 : wr.alloc (Obj.cells #[Value.int IntKind.i64 2, Value.int IntKind.i64 12, Value.int IntKind.i64 2, Value.int IntKind.i64 13, Value.int IntKind.i64 0, Value.int IntKind.i64 15, Value.int IntKind.i64 3, Value.int IntKind.i64 17] 63) = w5 at HO
      generalize wr.heap.size = t2 at *
      clear hw2
      go_wp2_with fail
      go_loopw [5, 6] (fun vo v wr => ∃ (k : Nat) (F : Nat → Prop), vo = .bool true ∧ v = .int .i64 k ∧ k ≤ 4 ∧ Own w0 wr F b (sanM k) [(t2, wantO)]) (fun _ v _ => 4 - (intOf v).toNat)
      case atStart => exact ⟨0, F, rfl, rfl, by omega, HO.out.net, HO.out.good, HO.out.new, HO.out.only, fun u o hu => HO.out.apart u o (by rw [List.mem_singleton] at hu; rw [hu]; exact List.mem_cons_self)⟩
      case round =>
        clear HO F
        obtain ⟨k, F, rfl, rfl, hk, hO⟩ := hrel
        by_cases hlt : k < 4
        · obtain ⟨wc0, wc1⟩ := want_cell (hO.apart t2 wantO (by simp)).2 k hlt
          have hL := sanM_cons k hlt
          have HL := Lib.hid hL
          clear hL
          go_wp2_with fail
          refine (next_cons F b (sanM k) _ hO.net hO.good _ _ HL.out).mono ?_
          rintro e w3 ⟨rfl, hNL⟩
          obtain ⟨F', hO'⟩ := hO.step hNL (good_next hO.good)
          clear wc0 wc1
          obtain ⟨wc0, wc1⟩ := want_cell (hO'.apart t2 wantO (by simp)).2 k hlt
          have ht2 : t2 < w3.heap.size := (Array.getElem?_eq_some_iff.1 (hO'.apart t2 wantO (by simp)).2).1
          clear hNL
          go_wp2_with fail
          go_quiet (fail)
          go_wp2
          go_roundw
          case rel => exact ⟨k + 1, F', rfl, by go_num, by omega, hO'.quiet (((Only.refl _ w3).alloc _).drewN _)⟩
          case measure => simp [intOf]; omega
        · have hk4 : k = 4 := by omega
          subst hk4
          go_wp2_with fail
          refine (next_nil F b (sanM 4) _ hO.net (by rw [sanM_L]; rfl)).mono ?_
          rintro e w3 ⟨rfl, hNL⟩
          obtain ⟨F1, hO1⟩ := hO.step hNL hO.good
          clear hO hNL
          go_wp2_with fail
          have hO2 := hO1.quiet ((Only.refl _ w3).alloc (.cells #[.int .i64 0, .int .i64 0, .string ByteArray.empty] 31))
          refine (send_any F1 b (sanM 4) 0 0 2 ByteArray.empty _ hO2.net hO2.good sanA_is.1 sanA_is.2.1 (by decide) (by decide)).mono ?_
          rintro e w4 ⟨rfl, hNL⟩
          obtain ⟨F2, hO3⟩ := hO2.step hNL sanA_good
          clear hO1 hO2 hNL
          go_wp2_with fail
          refine (waiting_is F2 b _ w4 0 hO3.net sanA_is.2.2).mono ?_
          rintro e w' ⟨rfl, rfl⟩
          go_wp2_with fail
          have hO4 := hO3.quiet ((Only.refl _ w4).alloc (.cells #[.int .i64 1, .int .i64 2] 3))
          refine (part_any F2 b sanA _ [1, 2] _ hO4.net (san_ints w4) san_wf (fun k e => by simp [Value.ownBlock] at e; intro hf; have := hO3.net.lt k hf; omega) (by simp)).mono ?_
          rintro e w5 ⟨rfl, hNL⟩
          obtain ⟨F3, hO5⟩ := hO4.step hNL sanB_good
          clear hO3 hO4 hNL
          go_wp2_with fail
          refine (send_any F3 b _ 0 0 1 ByteArray.empty _ hO5.net hO5.good sanC_is.1 sanC_is.2.1 (by decide) (by decide)).mono ?_
          rintro e w6 ⟨rfl, hNL⟩
          obtain ⟨F4, hO6⟩ := hO5.step hNL sanC_good
          clear hO5 hNL
          go_wp2_with fail
          refine (waiting_is F4 b _ w6 0 hO6.net sanC_is.2.2).mono ?_
          rintro e w' ⟨rfl, rfl⟩
          go_wp2_with fail
          refine (send_any F4 b _ 0 7 1 ByteArray.empty _ hO6.net hO6.good sanD_is.1 sanD_is.2.1 (by decide) (by decide)).mono ?_
          rintro e w7 ⟨rfl, hNL⟩
          obtain ⟨F5, hO7⟩ := hO6.step hNL (good_send sanC_good _ _ _ _)
          clear hO6 hNL
          go_wp2_with fail
          refine (waiting_is F5 b _ w7 1 hO7.net sanD_is.2.2).mono ?_
          rintro e w' ⟨rfl, rfl⟩
          go_wp2
          go_ret
          refine ⟨rfl, ?_⟩
          have := hO7.only
          rw [← HW0.out] at this
          exact ((Only.refl _ w).alloc _).trans this
end Go.Proofs.Yteblaedfjifdhaa
