/-
  The arguments of the law BeaconTexts, opened.
-/
import Derived.Test.YtlhfgbkonmgahaaGreatDoorPt21
import Derived.Test.YtlhfgbkonmgahaaGreatDoorPt19
namespace Go.Proofs.YtlhfgbkonmgahaaGreatDoor
open Go.RowKit Go.ChangeShapes Go.WideShapes

theorem Tryz.cellsPt : Tryz.prog.cellsOf 30 = 4 := by kernel_rfl
theorem Tryz.cellsPf : Tryz.prog.cellsOf 28 = 2 := by kernel_rfl
theorem Tryz.cellsH : Tryz.prog.cellsOf 63 = 1 := by kernel_rfl
theorem Tryz.cells2H : Tryz.prog.cellsOf 64 = 2 := by kernel_rfl
theorem four_vals {cs : List Value} (h : cs.length = 4) : ∃ a b c d, cs = [a, b, c, d] := by
  match cs, h with
  | [a, b, c, d], _ => exact ⟨a, b, c, d, rfl⟩
theorem bounds_u16 {k : Int} (h : (Lit.int .u16 k).wf = true) : 0 ≤ k ∧ k ≤ 65535 := by
  simpa [Lit.wf, IntKind.min, IntKind.max, IntKind.signed, IntKind.bits] using h
set_option maxRecDepth 100000 in
theorem open_partial_val {w : World} {r : Reach} {base : Nat} {v : Value} (ok : Value.okWide Tryz.prog w r base 30 v) (h : Rd w 30 v.cells.toList) : ∃ a b c d : Int, v = .agg #[.int .i64 a, .int .i64 b, .int .i64 c, .int .i64 d] ∧ P4ok (a, b, c, d) := by
  obtain ⟨cs, rfl⟩ := agg_struct Tryz.underlying30 ok
  obtain ⟨hl, hi⟩ := h.struct Tryz.underlying30
  have h0 : Rd w 3 ((_ : List Value).take (Tryz.prog.cellsOf 3)) := hi 0 _ rfl
  have h1 : Rd w 3 ((_ : List Value).take (Tryz.prog.cellsOf 3)) := hi 1 _ rfl
  have h2 : Rd w 28 ((_ : List Value).take (Tryz.prog.cellsOf 28)) := hi 2 _ rfl
  obtain ⟨hl2, hj⟩ := h2.struct Tryz.underlying28
  have h3 : Rd w 3 ((_ : List Value).take (Tryz.prog.cellsOf 3)) := hj 0 _ rfl
  have h4 : Rd w 3 ((_ : List Value).take (Tryz.prog.cellsOf 3)) := hj 1 _ rfl
  rw [Tryz.cellsI] at h0 h1 h3 h4
  rw [Tryz.cellsPf] at h3 h4
  obtain ⟨a, b, c, d, hcs⟩ := four_vals (hl.trans Tryz.cellsPt)
  simp only [hcs] at h0 h1 h3 h4
  obtain ⟨x0, g0, w0⟩ := h0.int Tryz.underlying3
  obtain ⟨x1, g1, w1⟩ := h1.int Tryz.underlying3
  obtain ⟨x2, g2, w2⟩ := h3.int Tryz.underlying3
  obtain ⟨x3, g3, w3⟩ := h4.int Tryz.underlying3
  simp at g0 g1 g2 g3
  subst g0 g1 g2 g3
  refine ⟨x0, x1, x2, x3, ?_, bounds_i64 w0, bounds_i64 w1, bounds_i64 w2, bounds_i64 w3⟩
  simp only [Value.cells] at hcs
  congr 1
  apply Array.ext'
  exact hcs
set_option maxRecDepth 100000 in
theorem open_halves {w : World} {r : Reach} {base : Nat} {v : Value} (ok : Value.okWide Tryz.prog w r base 64 v) (h : Rd w 64 v.cells.toList) : ∃ a b : Int, v = .agg #[.int .u16 a, .int .u16 b] ∧ (0 ≤ a ∧ a ≤ 65535) ∧ (0 ≤ b ∧ b ≤ 65535) := by
  obtain ⟨cs, rfl, _⟩ := okWide_array Tryz.underlying64 ok
  obtain ⟨hl, hi⟩ := h.array Tryz.underlying64
  have h0 := hi 0 (by decide)
  have h1 := hi 1 (by decide)
  rw [Tryz.cellsH] at h0 h1
  obtain ⟨a, b, hcs⟩ := two_of (hl.trans Tryz.cells2H)
  rw [hcs] at h0 h1
  obtain ⟨x0, g0, w0⟩ := h0.int Tryz.underlying63
  obtain ⟨x1, g1, w1⟩ := h1.int Tryz.underlying63
  simp at g0 g1
  subst g0 g1
  refine ⟨x0, x1, ?_, bounds_u16 w0, bounds_u16 w1⟩
  simp only [Value.cells] at hcs
  congr 1
  apply Array.ext'
  exact hcs
end Go.Proofs.YtlhfgbkonmgahaaGreatDoor
