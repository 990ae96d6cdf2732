/-
  The arguments of the laws of layer 9, opened.
-/
import Derived.Test.YtlhfgbkonmgahaaGreatDoorPt16
import Derived.Test.YtlhfgbkonmgahaaGreatDoorPt18
namespace Go.Proofs.YtlhfgbkonmgahaaGreatDoor
open Go.RowKit Go.ChangeShapes Go.WideShapes

theorem Tryz.cellsU8 : Tryz.prog.cellsOf 5 = 1 := by kernel_rfl
theorem Tryz.cellsPk : Tryz.prog.cellsOf 81 = 2 := by kernel_rfl
theorem Tryz.cellsPo : Tryz.prog.cellsOf 36 = 2 := by kernel_rfl
theorem Tryz.cells6 : Tryz.prog.cellsOf 38 = 6 := by kernel_rfl
theorem Tryz.cellsLu : Tryz.prog.cellsOf 33 = 1 := by kernel_rfl
theorem Tryz.cellsLi : Tryz.prog.cellsOf 34 = 1 := by kernel_rfl
theorem open_byts {w : World} {lv : Value} (h : Rd w 33 [lv]) : ∃ l, BytsAt w lv l ∧ ∃ a c, lv = .slice a l.length c ∧ l.length ≤ c ∧ c ≤ 9223372036854775807 := by
  rcases h.slice Tryz.underlying33 (by rw [Tryz.cellsU8]; decide) with ⟨a, c, hs, hcm⟩ | ⟨b, off, len, cap, hs, h0, hl, hm, hb, hi⟩
  · unfold maxLen at hcm
    exact ⟨[], .inl ⟨a, c, by simpa using hs, rfl⟩, a, c, by simpa using hs, Nat.zero_le _, by omega⟩
  · rw [Tryz.cellsU8] at hi
    obtain ⟨l, hll, hP⟩ := pick_list (0 : Int) (P := fun j t => w.cell? ⟨b, off + j, none⟩ = some (.int .u8 t) ∧ 0 ≤ t ∧ t ≤ 255) len (fun j hj => by
        obtain ⟨cs', hl', hat, hr⟩ := hi j hj
        obtain ⟨t, rfl, wt⟩ := hr.int Tryz.underlying5
        have := hat 0 (by omega)
        rw [Nat.mul_one] at this
        exact ⟨t, this, bounds_u8 wt⟩)
    unfold maxLen at hm
    exact ⟨l, .inr ⟨b, off, cap, by rw [hll]; simpa using hs, hb, by omega, by omega, fun j hj => hP j (by omega)⟩, _, cap, by rw [hll]; simpa using hs, by omega, by omega⟩
theorem open_pk {w : World} {cs : List Value} (h : Rd w 81 cs) : ∃ t : Int × Int, cs = [.int .u8 t.1, .int .u8 t.2] ∧ (0 ≤ t.1 ∧ t.1 ≤ 255) ∧ (0 ≤ t.2 ∧ t.2 ≤ 255) := by
  obtain ⟨hl, hi⟩ := h.struct Tryz.underlying81
  have h0 : Rd w 5 ((cs.drop 0).take (Tryz.prog.cellsOf 5)) := hi 0 _ rfl
  have h1 : Rd w 5 ((cs.drop 1).take (Tryz.prog.cellsOf 5)) := hi 1 _ rfl
  rw [Tryz.cellsU8] at h0 h1
  obtain ⟨a, b, rfl⟩ := two_of (hl.trans Tryz.cellsPk)
  obtain ⟨x, hx, wx⟩ := h0.int Tryz.underlying5
  obtain ⟨y, hy, wy⟩ := h1.int Tryz.underlying5
  simp at hx hy
  subst hx hy
  exact ⟨(x, y), rfl, bounds_u8 wx, bounds_u8 wy⟩
theorem open_pks {w : World} {lv : Value} (h : Rd w 37 [lv]) : ∃ l, PksAt w lv l ∧ ∃ a c, lv = .slice a l.length c ∧ l.length ≤ c ∧ c ≤ 9223372036854775807 := by
  rcases h.slice Tryz.underlying37 (by rw [Tryz.cellsPk]; decide) with ⟨a, c, hs, hcm⟩ | ⟨b, off, len, cap, hs, h0, hl, hm, hb, hi⟩
  · unfold maxLen at hcm
    exact ⟨[], .inl ⟨a, c, by simpa using hs, rfl⟩, a, c, by simpa using hs, Nat.zero_le _, by omega⟩
  · rw [Tryz.cellsPk] at hi
    obtain ⟨l, hll, hP⟩ := pick_list ((0, 0) : Int × Int) (P := fun j t => (w.cell? ⟨b, off + j * 2, none⟩ = some (.int .u8 t.1) ∧ w.cell? ⟨b, off + j * 2 + 1, none⟩ = some (.int .u8 t.2)) ∧ (0 ≤ t.1 ∧ t.1 ≤ 255) ∧ (0 ≤ t.2 ∧ t.2 ≤ 255)) len (fun j hj => by
        obtain ⟨cs', hl', hat, hr⟩ := hi j hj
        obtain ⟨t, rfl, hx, hy⟩ := open_pk hr
        exact ⟨t, ⟨hat 0 (by omega), hat 1 (by omega)⟩, hx, hy⟩)
    unfold maxLen at hm
    exact ⟨l, .inr ⟨b, off, cap, by rw [hll]; simpa using hs, hb, by omega, by omega, fun j hj => hP j (by omega)⟩, _, cap, by rw [hll]; simpa using hs, by omega, by omega⟩
set_option maxRecDepth 100000 in
/-- sortesref09.Poll, by value. -/
theorem open_poll {w : World} {r : Reach} {base : Nat} {v : Value} (ok : Value.okWide Tryz.prog w r base 36 v) (h : Rd w 36 v.cells.toList) :
    ∃ (sv cv : Value) (ws cs : List Int), v = .agg #[sv, cv] ∧ BytsAt w sv ws ∧ PtsAt w.heap.size w cv cs ∧ IntsW cs ∧ ws.length ≤ 9223372036854775807 ∧ cs.length ≤ 9223372036854775807 := by
  obtain ⟨cs, rfl⟩ := agg_struct Tryz.underlying36 ok
  obtain ⟨hl, hf⟩ := h.struct Tryz.underlying36
  rw [Tryz.cellsPo] at hl
  have h0 : Rd w 33 ((_ : List Value).take (Tryz.prog.cellsOf 33)) := hf 0 _ rfl
  have h1 : Rd w 34 ((_ : List Value).take (Tryz.prog.cellsOf 34)) := hf 1 _ rfl
  rw [Tryz.cellsLu] at h0
  rw [Tryz.cellsLi] at h1
  obtain ⟨a, b, hcs⟩ := two_of hl
  simp only [hcs] at h0 h1
  obtain ⟨ws, hw, _, _, _, w1, w2⟩ := open_byts (show Rd w 33 [a] from h0)
  obtain ⟨l, hl2, hw2, _, _, _, l1, l2⟩ := open_ints (show Rd w 34 [b] from h1)
  refine ⟨a, b, ws, l, ?_, hw, hl2, hw2, by omega, by omega⟩
  simp only [Value.cells] at hcs
  congr 1
  apply Array.ext'
  exact hcs
set_option maxRecDepth 100000 in
theorem open_two_val {w : World} {r : Reach} {base : Nat} {v : Value} (ok : Value.okWide Tryz.prog w r base 24 v) (h : Rd w 24 v.cells.toList) : ∃ a b : Int, v = .agg #[.int .i64 a, .int .i64 b] ∧ (-9223372036854775808 ≤ a ∧ a ≤ 9223372036854775807) ∧ (-9223372036854775808 ≤ b ∧ b ≤ 9223372036854775807) := by
  obtain ⟨cs, rfl, _⟩ := okWide_array Tryz.underlying24 ok
  obtain ⟨t, hc, ha, hb⟩ := open_pair h
  refine ⟨t.1, t.2, ?_, ha, hb⟩
  simp only [Value.cells] at hc
  congr 1
  apply Array.ext'
  exact hc
set_option maxRecDepth 100000 in
theorem open_share_val {w : World} {r : Reach} {base : Nat} {v : Value} (ok : Value.okWide Tryz.prog w r base 23 v) (h : Rd w 23 v.cells.toList) : ∃ a b : Int, v = .agg #[.int .i64 a, .int .i64 b] := by
  obtain ⟨cs, rfl⟩ := agg_struct Tryz.underlying23 ok
  obtain ⟨t, hc, _⟩ := open_sh h
  refine ⟨t.1, t.2, ?_⟩
  simp only [Value.cells] at hc
  congr 1
  apply Array.ext'
  exact hc
theorem six_of {cs : List Value} (h : cs.length = 6) : ∃ a b c d e f, cs = [a, b, c, d, e, f] := by
  match cs, h with
  | [a, b, c, d, e, f], _ => exact ⟨a, b, c, d, e, f, rfl⟩
set_option maxRecDepth 100000 in
theorem open_six_val {w : World} {r : Reach} {base : Nat} {v : Value} (ok : Value.okWide Tryz.prog w r base 38 v) (h : Rd w 38 v.cells.toList) : ∃ a b c d e f : Int, v = .agg #[.int .i64 a, .int .i64 b, .int .i64 c, .int .i64 d, .int .i64 e, .int .i64 f] ∧ (-9223372036854775808 ≤ a ∧ a ≤ 9223372036854775807) := by
  obtain ⟨cs, rfl, _⟩ := okWide_array Tryz.underlying38 ok
  obtain ⟨hl, hi⟩ := h.array Tryz.underlying38
  have h0 := hi 0 (by decide)
  have h1 := hi 1 (by decide)
  have h2 := hi 2 (by decide)
  have h3 := hi 3 (by decide)
  have h4 := hi 4 (by decide)
  have h5 := hi 5 (by decide)
  rw [Tryz.cellsI] at h0 h1 h2 h3 h4 h5
  obtain ⟨a, b, c, d, e, f, hcs⟩ := six_of (hl.trans Tryz.cells6)
  rw [hcs] at h0 h1 h2 h3 h4 h5
  obtain ⟨x0, g0, w0⟩ := h0.int Tryz.underlying3
  obtain ⟨x1, g1, w1⟩ := h1.int Tryz.underlying3
  obtain ⟨x2, g2, w2⟩ := h2.int Tryz.underlying3
  obtain ⟨x3, g3, w3⟩ := h3.int Tryz.underlying3
  obtain ⟨x4, g4, w4⟩ := h4.int Tryz.underlying3
  obtain ⟨x5, g5, w5⟩ := h5.int Tryz.underlying3
  simp at g0 g1 g2 g3 g4 g5
  subst g0 g1 g2 g3 g4 g5
  refine ⟨x0, x1, x2, x3, x4, x5, ?_, bounds_i64 w0⟩
  simp only [Value.cells] at hcs
  congr 1
  apply Array.ext'
  exact hcs
end Go.Proofs.YtlhfgbkonmgahaaGreatDoor
