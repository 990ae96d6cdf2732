/-
  The walk of Part.
-/
import Derived.Test.YteblaedfjifdhaaNew
import Derived.Maps.Views
namespace Go.Proofs.Yteblaedfjifdhaa
open Go.RowKit

/-- A slice that reads as the integers zs. -/
def IntsAt (w : World) (gv : Value) (zs : List Int) : Prop :=
  (∃ a c, gv = .slice a 0 c ∧ zs = []) ∨ ∃ gb off c, gv = .slice (some ⟨gb, off, none⟩) zs.length c ∧ gb < w.heap.size ∧ ∀ j, j < zs.length → w.cell? ⟨gb, off + j, none⟩ = some (.int .i64 (zs.getD j 0))
def IntsWf (zs : List Int) : Prop := ∀ j, j < zs.length → (Lit.int .i64 (zs.getD j 0)).wf = true

/-- The group of node z after k of the groups were read. -/
def grTo (nodes : Int) (zs : List Int) (k : Nat) (z : Int) : Int := if 0 ≤ z ∧ z < nodes ∧ z < k then zs.getD z.toNat 0 else 0

theorem grTo_succ_no {nodes : Int} {zs : List Int} {k : Nat} (h : nodeB nodes k = false) (z : Int) : grTo nodes zs (k + 1) z = grTo nodes zs k z := by
  unfold grTo nodeB at *
  simp only [Bool.and_eq_false_iff, decide_eq_false_iff_not] at h
  split <;> split <;> first | rfl | omega
theorem grTo_succ_same {nodes : Int} {zs : List Int} {k : Nat} (h : nodeB nodes k = true) : grTo nodes zs (k + 1) k = zs.getD k 0 := by
  unfold grTo nodeB at *
  simp only [Bool.and_eq_true, decide_eq_true_eq] at h
  rw [if_pos (by omega)]; simp
theorem grTo_succ_other {nodes : Int} {zs : List Int} {k : Nat} {z : Int} (h : z ≠ k) : grTo nodes zs (k + 1) z = grTo nodes zs k z := by
  unfold grTo
  split <;> split <;> first | rfl | omega

theorem part_nilptr (gv : Value) (w : World) :
    Calls Try.prog 17 #[.pointer none, gv] w fun e w' => e = .returned (.tuple #[]) ∧ w = w' := by
  go_enter Try.func17, Try.ntmps17
  go_wp2
  exact bodyPost_ret (results_none rfl _ _ _) rfl ⟨rfl, rfl⟩

/-- The map at the head of a round. -/
structure Parting (w2 wr : World) (mb : Nat) (nodes : Int) (zs : List Int) (k : Nat) (D : DataW Unit) : Prop where
  own : wr.ownsMap (H := Unit) Try.prog 3 (plainElem Try.prog 3) mb k D
  isMap : Maps.IsMap D
  at_ : ∀ z, D.atKey (.int .i64 z) (.lit (.int .i64 0)) = .lit (.int .i64 (grTo nodes zs k z))
  only : Only (fun i => i = mb) w2 wr

theorem Parting.no {w2 wr : World} {mb : Nat} {nodes : Int} {zs : List Int} {k : Nat} {D : DataW Unit} (h : Parting w2 wr mb nodes zs k D) (hn : nodeB nodes k = false) : Parting w2 wr mb nodes zs (k + 1) D :=
  ⟨h.own.mono (by omega), h.isMap, fun z => by rw [grTo_succ_no hn]; exact h.at_ z, h.only⟩
theorem Parting.yes {w2 wr w3 : World} {mb : Nat} {nodes : Int} {zs : List Int} {k : Nat} {D : DataW Unit} (h : Parting w2 wr mb nodes zs k D) (hn : nodeB nodes k = true)
    (ho : w3.ownsMap (H := Unit) Try.prog 3 (plainElem Try.prog 3) mb (k + 1) (D.put (.int .i64 k) (.lit (.int .i64 (zs.getD k 0))))) (hg : wr.grownBy w3 (some mb)) :
    Parting w2 w3 mb nodes zs (k + 1) (D.put (.int .i64 k) (.lit (.int .i64 (zs.getD k 0)))) := by
  refine ⟨ho, h.isMap.put _ _, fun z => ?_, h.only.trans (Only.grown1 hg)⟩
  by_cases e : z = k
  · subst e
    rw [Maps.atKey_put_same h.isMap (show WideAt.IsKeyLit (.int .i64 (k : Int)) from trivial), grTo_succ_same hn]
  · rw [Maps.atKey_put_other (by simpa using e), grTo_succ_other e]; exact h.at_ z

theorem part_zero (w2 : World) (mb : Nat) (nodes : Int) (zs : List Int) (h : w2.heap[mb]? = some (.map #[] 0)) : Parting w2 w2 mb nodes zs 0 (.map []) :=
  ⟨⟨#[], 0, h, ⟨by simp, MapKept.stamped_empty 0, by simp⟩, Nat.le_refl _, rfl⟩, ⟨[], rfl⟩, fun z => by
    have : grTo nodes zs 0 z = 0 := by unfold grTo; split <;> first | rfl | (exfalso; omega)
    rw [this]; rfl, Only.refl _ _⟩

/-- n.groups = map[int]int{}: the net's block behind it, the new map's block. -/
theorem Parts.grouped {F : Nat → Prop} {w : World} {b : Nat} {N : NS} {sv : Value} {gm : Option Nat} {v : Value} {q : List Wt} (h : Parts w F b N sv gm v q) {wr w2 : World} {zs : List Int} {k : Nat} {D : DataW Unit}
    (hw2 : w2 = (w.setCell ⟨b, 2, none⟩ (.map (some w.heap.size))).alloc (.map #[] 0)) (hp : Parting w2 wr w.heap.size N.nodes zs k D) : NLeft w F b { N with gr := grTo N.nodes zs k } wr := by
  have hbl := h.h5 b h.h1
  have hO2 : Only (fun k => k = b) w w2 := by rw [hw2]; exact ((Only.refl (fun k => k = b) w).setCell (.inl rfl) _).alloc _
  have hO : Only (fun k => k = b) w wr := hO2.trans' hp.only (fun i hi e => by omega)
  have hsz : w.heap.size < wr.heap.size := hp.own.lt
  have hlt2 : b < w2.heap.size := Nat.lt_of_lt_of_le hbl hO2.size
  refine ⟨fun i => F i ∨ i = w.heap.size, ⟨sv, some w.heap.size, v, q, ⟨?_, rfl, hO.owns h.hq.own (fun k e e' => h.hq.ne (by rw [e, e'])), h.hq.ne, h.hq.heap, h.hq.len⟩, h.hp, hO.owns h.hs (fun k e => (h.h3 k e).2.1),
    .inr ⟨_, _, D, rfl, hp.own, hp.at_⟩, .inl h.h1, fun k e => .inl (h.h2 k e), fun k e => ?_, fun k e => ?_, ?_⟩, ?_, hO.mono (fun k _ e => by rw [e]; exact h.h1)⟩
  · rw [hp.only.block b hlt2 (by omega), hw2, Below.heap_alloc _ _ _ (by simpa using hbl)]
    rw [heap_setCell_same w b 2 _ 56 _ h.hq.blk]; rfl
  · obtain ⟨h1, h2, h3⟩ := h.h3 k e
    exact ⟨.inl h1, h2, h3⟩
  · cases e
    refine ⟨.inr rfl, by omega, fun e => ?_⟩
    have := h.h5 _ (h.h2 _ e); omega
  · rintro i (hi | hi)
    · exact Nat.lt_of_lt_of_le (h.h5 i hi) hO.size
    · omega
  · rintro i (hi | hi)
    · exact .inl hi
    · exact .inr (by omega)

set_option maxHeartbeats 1000000 in
theorem part_any (F : Nat → Prop) (b : Nat) (N : NS) (gv : Value) (zs : List Int) (w : World) (h : NetAt w F b N) (hg : IntsAt w gv zs) (hwf : IntsWf zs) (hgF : ∀ k, gv.ownBlock = some k → ¬ F k) (hlen : zs.length ≤ 9223372036854775806) :
    Calls Try.prog 17 #[.pointer (some ⟨b, 0, none⟩), gv] w fun e w' => e = .returned (.tuple #[]) ∧ NLeft w F b { N with gr := grTo N.nodes zs zs.length } w' := by
  obtain ⟨sv, gm, v, q, hP⟩ := h.parts
  have hbl := hP.h5 b hP.h1
  obtain ⟨c0, -, c2, -, -⟩ := hP.cells
  have f2 := frozen_of_row w b 2 _ 56 hP.hq.blk
  have hmm := @run_makeMap Try.prog
  have hgs : ∃ a c, gv = .slice a zs.length c := by
    rcases hg with ⟨a, c, rfl, rfl⟩ | ⟨gb, off, c, rfl, _⟩
    · exact ⟨a, c, rfl⟩
    · exact ⟨_, _, rfl⟩
  obtain ⟨a, c, rfl⟩ := hgs
  go_enter Try.func17, Try.ntmps17
  go_wp2
  generalize hw2 : (w.setCell ⟨b, 2, none⟩ (.map (some w.heap.size))).alloc (.map #[] 0) = w2
  have hO2 : Only (fun k => k = b) w w2 := by rw [← hw2]; exact ((Only.refl (fun k => k = b) w).setCell (.inl rfl) _).alloc _
  have hb2 : w2.heap[w.heap.size]? = some (.map #[] 0) := by
    rw [← hw2]; have := heap_alloc_new (w.setCell ⟨b, 2, none⟩ (.map (some w.heap.size))) (.map #[] 0); simpa using this
  have c02 : w2.cell? ⟨b, 0, none⟩ = some (.int .i64 N.nodes) := by
    have : w2.heap[b]? = some (.cells #[.int .i64 N.nodes, sv, .map (some w.heap.size), .int .i64 N.sent, v] 56 (0, 0)) := by
      rw [← hw2, Below.heap_alloc _ _ _ (by simpa using hbl), heap_setCell_same w b 2 _ 56 _ hP.hq.blk]; rfl
    rw [cell_of_row w2 b 0 _ 56 (0, 0) this]; rfl
  have c22 : w2.cell? ⟨b, 2, none⟩ = some (.map (some w.heap.size)) := by
    have : w2.heap[b]? = some (.cells #[.int .i64 N.nodes, sv, .map (some w.heap.size), .int .i64 N.sent, v] 56 (0, 0)) := by
      rw [← hw2, Below.heap_alloc _ _ _ (by simpa using hbl), heap_setCell_same w b 2 _ 56 _ hP.hq.blk]; rfl
    rw [cell_of_row w2 b 2 _ 56 (0, 0) this]; rfl
  have HW2 := Lib.hid hw2
  have HB2 := Lib.hid hb2
  clear hw2 hb2 c0 c2 f2 hmm
  go_loopw [14] (fun vi wr => ∃ (k : Nat) (D : DataW Unit), vi = .int .i64 k ∧ k ≤ zs.length ∧ Parting w2 wr w.heap.size N.nodes zs k D) (fun vi _ => zs.length - (intOf vi).toNat)
  case atStart => exact ⟨0, _, rfl, Nat.zero_le _, part_zero w2 _ _ _ HB2.out⟩
  case round =>
    obtain ⟨k, D, rfl, hk, hp⟩ := hrel
    by_cases hlt : k < zs.length
    · rcases hg with ⟨_, _, _, rfl⟩ | ⟨gb, off, c', hgv, hgl, hcs⟩
      · simp at hlt
      · simp only [Value.slice.injEq, true_and] at hgv
        obtain ⟨rfl, rfl⟩ := hgv
        have hgb : ¬ F gb := hgF gb rfl
        have hne1 : gb ≠ b := fun e => hgb (by rw [e]; exact hP.h1)
        have hc1 := hp.only.cell (hO2.cell (hcs k hlt) (by simpa using hne1)) (by simp; omega)
        have c0r := hp.only.cell c02 (by simp; omega)
        have c2r := hp.only.cell c22 (by simp; omega)
        have hwk := hwf k hlt
        generalize hz : zs.getD k 0 = z at *
        have HZ := Lib.hid hz
        have HP := Lib.hid hp
        clear hz hp hcs hwf
        have hkey := Maps.keyOf_int_mk (k := 3) Try.underlying3 (show (Lit.int .i64 (k : Int)).wf = true from WalkArith.wf_i64 (by omega))
        cases hn : nodeB N.nodes k
        · go_wp2_with (go_at_call 25; refine (isNode_is b N.nodes k false _ c0r hn).mono ?_; rintro e w' ⟨rfl, rfl⟩)
          go_roundw
          case rel => exact ⟨k + 1, D, by go_num, by omega, HP.out.no hn⟩
          case measure => simp [intOf]; omega
        · go_wp2_with (first | (go_at_call 25; refine (isNode_is b N.nodes k true _ c0r hn).mono ?_; rintro e w' ⟨rfl, rfl⟩) | (at_mapUpdate; go_must (refine wpList_mapUpdate_own _ rfl _ _ _ 52 rfl 3 3 Try.law3 Try.underlying52 _ w.heap.size k _ rfl HP.out.own (Nat.lt_of_lt_of_le hlt (by unfold maxLen; omega)) _ _ _ rfl rfl hkey _ [] (plainElem_int Try.underlying3 hwk) ?_); intro w1 hown1 hgrow1))
          go_roundw
          case rel => exact ⟨k + 1, _, by go_num, by omega, HP.out.yes hn (by rw [HZ.out]; exact hown1) hgrow1⟩
          case measure => simp [intOf]; omega
    · have hke : k = zs.length := by omega
      subst hke
      go_wp2
      go_end0
      exact ⟨rfl, hP.grouped HW2.out.symm hp⟩
end Go.Proofs.Yteblaedfjifdhaa
