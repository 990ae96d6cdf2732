/-
  Arguments that are arrays, opened.
-/
import Derived.Test.YtalclldccnichaaGreatOpen
namespace Go.Proofs.YtalclldccnichaaGreat
open Go.RowKit Go.ChangeShapes Go.WideShapes

theorem okWide_array {P : Program} {w : World} {r : Reach} {base : Nat} {t e : TypeId} {n : Nat} {v : Value} (ht : P.underlying t = some (.array n e)) (h : Value.okWide P w r base t v) : ∃ cs, v = .agg cs ∧ cs.size = P.cellsOf t := by
  simp only [Value.okWide, ht] at h
  obtain ⟨cs, h1, h2, _⟩ := h
  exact ⟨cs, h1, h2⟩
theorem Tryz.cells3 : Tryz.prog.cellsOf 23 = 3 := by kernel_rfl
theorem Tryz.cells1 : Tryz.prog.cellsOf 3 = 1 := by kernel_rfl
set_option maxRecDepth 100000 in
theorem open_tri {w : World} {cs : List Value} (h : Rd w 23 cs) : ∃ a b c : Int, cs = [.int .i64 a, .int .i64 b, .int .i64 c] := by
  obtain ⟨hl, hi⟩ := h.array Tryz.underlying23
  rw [Tryz.cells3] at hl
  rw [Tryz.cells1] at hi
  match cs, hl with
  | [x, y, z], _ =>
    obtain ⟨a, ha, _⟩ := (hi 0 (by decide)).int Tryz.underlying3
    obtain ⟨b, hb, _⟩ := (hi 1 (by decide)).int Tryz.underlying3
    obtain ⟨c, hc, _⟩ := (hi 2 (by decide)).int Tryz.underlying3
    simp at ha hb hc
    subst ha hb hc
    exact ⟨a, b, c, rfl⟩
set_option maxRecDepth 100000 in
theorem open_tri_val {w : World} {r : Reach} {base : Nat} {v : Value} (ok : Value.okWide Tryz.prog w r base 23 v) (h : Rd w 23 v.cells.toList) : ∃ a b c : Int, v = .agg #[.int .i64 a, .int .i64 b, .int .i64 c] := by
  obtain ⟨cs, rfl, _⟩ := okWide_array Tryz.underlying23 ok
  obtain ⟨a, b, c, hc⟩ := open_tri h
  refine ⟨a, b, c, ?_⟩
  simp only [Value.cells] at hc
  congr 1
  apply Array.ext'
  exact hc
end Go.Proofs.YtalclldccnichaaGreat
