/-
  The walk of Part where the groups may be empty and lie anywhere.
-/
import Derived.Test.YteblaedfjifdhaaPart
namespace Go.Proofs.Yteblaedfjifdhaa
open Go.RowKit

set_option maxHeartbeats 1000000 in
theorem part_any2 (F : Nat → Prop) (b : Nat) (N : NS) (gv : Value) (zs : List Int) (w : World) (h : NetAt w F b N) (hg : IntsAt w gv zs) (hwf : IntsWf zs) (hgF : 0 < zs.length → ∀ k, gv.ownBlock = some k → ¬ F k) (hlen : zs.length ≤ 9223372036854775806) :
    Calls Try.prog 17 #[.pointer (some ⟨b, 0, none⟩), gv] w fun e w' => e = .returned (.tuple #[]) ∧ NLeft w F b { N with gr := grTo N.nodes zs zs.length } w' := by
  obtain ⟨sv, gm, v, q, hP⟩ := h.parts
  have hbl := hP.h5 b hP.h1
  obtain ⟨c0, -, c2, -, -⟩ := hP.cells
  have f2 := frozen_of_row w b 2 _ 56 hP.hq.blk
  have hmm := @run_makeMap Try.prog
  have hgs : ∃ a c, gv = .slice a zs.length c := by
    rcases hg with ⟨a, c, rfl, rfl⟩ | ⟨gb, off, c, rfl, _⟩
    · exact ⟨a, c, rfl⟩
    · exact ⟨_, _, rfl⟩
  obtain ⟨a, c, rfl⟩ := hgs
  go_enter Try.func17, Try.ntmps17
  go_wp2
  generalize hw2 : (w.setCell ⟨b, 2, none⟩ (.map (some w.heap.size))).alloc (.map #[] 0) = w2
  have hO2 : Only (fun k => k = b) w w2 := by rw [← hw2]; exact ((Only.refl (fun k => k = b) w).setCell (.inl rfl) _).alloc _
  have hb2 : w2.heap[w.heap.size]? = some (.map #[] 0) := by
    rw [← hw2]; have := heap_alloc_new (w.setCell ⟨b, 2, none⟩ (.map (some w.heap.size))) (.map #[] 0); simpa using this
  have c02 : w2.cell? ⟨b, 0, none⟩ = some (.int .i64 N.nodes) := by
    have : w2.heap[b]? = some (.cells #[.int .i64 N.nodes, sv, .map (some w.heap.size), .int .i64 N.sent, v] 56 (0, 0)) := by
      rw [← hw2, Below.heap_alloc _ _ _ (by simpa using hbl), heap_setCell_same w b 2 _ 56 _ hP.hq.blk]; rfl
    rw [cell_of_row w2 b 0 _ 56 (0, 0) this]; rfl
  have c22 : w2.cell? ⟨b, 2, none⟩ = some (.map (some w.heap.size)) := by
    have : w2.heap[b]? = some (.cells #[.int .i64 N.nodes, sv, .map (some w.heap.size), .int .i64 N.sent, v] 56 (0, 0)) := by
      rw [← hw2, Below.heap_alloc _ _ _ (by simpa using hbl), heap_setCell_same w b 2 _ 56 _ hP.hq.blk]; rfl
    rw [cell_of_row w2 b 2 _ 56 (0, 0) this]; rfl
  have HW2 := Lib.hid hw2
  have HB2 := Lib.hid hb2
  clear hw2 hb2 c0 c2 f2 hmm
  go_loopw [14] (fun vi wr => ∃ (k : Nat) (D : DataW Unit), vi = .int .i64 k ∧ k ≤ zs.length ∧ Parting w2 wr w.heap.size N.nodes zs k D) (fun vi _ => zs.length - (intOf vi).toNat)
  case atStart => exact ⟨0, _, rfl, Nat.zero_le _, part_zero w2 _ _ _ HB2.out⟩
  case round =>
    obtain ⟨k, D, rfl, hk, hp⟩ := hrel
    by_cases hlt : k < zs.length
    · rcases hg with ⟨_, _, _, rfl⟩ | ⟨gb, off, c', hgv, hgl, hcs⟩
      · simp at hlt
      · simp only [Value.slice.injEq, true_and] at hgv
        obtain ⟨rfl, rfl⟩ := hgv
        have hgb : ¬ F gb := hgF (by omega) gb rfl
        have hne1 : gb ≠ b := fun e => hgb (by rw [e]; exact hP.h1)
        have hc1 := hp.only.cell (hO2.cell (hcs k hlt) (by simpa using hne1)) (by simp; omega)
        have c0r := hp.only.cell c02 (by simp; omega)
        have c2r := hp.only.cell c22 (by simp; omega)
        have hwk := hwf k hlt
        generalize hz : zs.getD k 0 = z at *
        have HZ := Lib.hid hz
        have HP := Lib.hid hp
        clear hz hp hcs hwf
        have hkey := Maps.keyOf_int_mk (k := 3) Try.underlying3 (show (Lit.int .i64 (k : Int)).wf = true from WalkArith.wf_i64 (by omega))
        cases hn : nodeB N.nodes k
        · go_wp2_with (go_at_call 25; refine (isNode_is b N.nodes k false _ c0r hn).mono ?_; rintro e w' ⟨rfl, rfl⟩)
          go_roundw
          case rel => exact ⟨k + 1, D, by go_num, by omega, HP.out.no hn⟩
          case measure => simp [intOf]; omega
        · go_wp2_with (first | (go_at_call 25; refine (isNode_is b N.nodes k true _ c0r hn).mono ?_; rintro e w' ⟨rfl, rfl⟩) | (at_mapUpdate; go_must (refine wpList_mapUpdate_own _ rfl _ _ _ 52 rfl 3 3 Try.law3 Try.underlying52 _ w.heap.size k _ rfl HP.out.own (Nat.lt_of_lt_of_le hlt (by unfold maxLen; omega)) _ _ _ rfl rfl hkey _ [] (plainElem_int Try.underlying3 hwk) ?_); intro w1 hown1 hgrow1))
          go_roundw
          case rel => exact ⟨k + 1, _, by go_num, by omega, HP.out.yes hn (by rw [HZ.out]; exact hown1) hgrow1⟩
          case measure => simp [intOf]; omega
    · have hke : k = zs.length := by omega
      subst hke
      go_wp2
      go_end0
      exact ⟨rfl, hP.grouped HW2.out.symm hp⟩
end Go.Proofs.Yteblaedfjifdhaa
