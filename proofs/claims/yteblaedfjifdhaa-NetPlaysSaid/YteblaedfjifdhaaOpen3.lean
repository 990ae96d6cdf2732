/-
  Slices of small numbers and of pairs that came in, opened.
-/
import Derived.Test.YteblaedfjifdhaaParts
namespace Go.Proofs.Yteblaedfjifdhaa
open Go.ChangeShapes Go.WideShapes Go.ChangeAt Go.RowKit

theorem Try.cells60 : Try.prog.cellsOf 60 = 1 := by kernel_rfl
theorem Try.cells61 : Try.prog.cellsOf 61 = 2 := by kernel_rfl
theorem Try.cells5 : Try.prog.cellsOf 5 = 1 := by kernel_rfl
/-- []int8. -/
theorem open_i8s {w : World} {lv : Value} (h : Rd w 58 [lv]) : ∃ l, I8sAt w lv l ∧ I8sWf l := by
  rcases h.slice Try.underlying58 (by rw [Try.cells60]; decide) with ⟨a, c, hs⟩ | ⟨b, off, len, cap, hs, h0, hl, hm, hb, hi⟩
  · exact ⟨[], .inl ⟨a, c, by simpa using hs, rfl⟩, fun j => by simp [tat]⟩
  · rw [Try.cells60] at hi
    obtain ⟨l, hll, hP⟩ := pick_list (0 : Int) (P := fun j t => w.cell? ⟨b, off + j, none⟩ = some (.int .i8 t) ∧ -128 ≤ t ∧ t ≤ 127) len (fun j hj => by
        obtain ⟨cs', hl', hat, hr⟩ := hi j hj
        obtain ⟨t, rfl, wt⟩ := hr.int Try.underlying60
        have := hat 0 (by omega)
        rw [Nat.mul_one] at this
        exact ⟨t, this, bounds_i8 wt⟩)
    refine ⟨l, .inr ⟨b, off, cap, ?_, hb, by omega, by omega, hm, fun j hj => (hP j (by omega)).1⟩, fun j => ?_⟩
    · rw [hll]; simpa using hs
    · by_cases hj : j < len
      · exact (hP j hj).2
      · have : tat l j = 0 := by simp [tat, List.getD, List.getElem?_eq_none (show l.length ≤ j by omega)]
        rw [this]; decide
/-- [2]uint8, by value. -/
theorem open_pair8 {w : World} {cs : List Value} (h : Rd w 61 cs) : ∃ a b, cs = [.int .u8 a, .int .u8 b] ∧ (0 ≤ a ∧ a ≤ 255) ∧ (0 ≤ b ∧ b ≤ 255) := by
  obtain ⟨hl, hi⟩ := h.array Try.underlying61
  have h0 := hi 0 (by decide)
  have h1 := hi 1 (by decide)
  rw [Try.cells5] at h0 h1
  obtain ⟨a, b, rfl⟩ := two_of (hl.trans Try.cells61)
  obtain ⟨x, hx, wx⟩ := h0.int Try.underlying5
  obtain ⟨y, hy, wy⟩ := h1.int Try.underlying5
  simp at hx hy
  subst hx hy
  exact ⟨x, y, rfl, bounds_u8 wx, bounds_u8 wy⟩
/-- [][2]uint8. -/
theorem open_pairs {w : World} {lv : Value} (h : Rd w 59 [lv]) : ∃ l, PairsAt w lv l ∧ PairsWf l := by
  rcases h.slice Try.underlying59 (by rw [Try.cells61]; decide) with ⟨a, c, hs⟩ | ⟨b, off, len, cap, hs, h0, hl, hm, hb, hi⟩
  · exact ⟨[], .inl ⟨a, c, by simpa using hs, rfl⟩, fun j => by simp [pat]⟩
  · rw [Try.cells61] at hi
    obtain ⟨l, hll, hP⟩ := pick_list ((0, 0) : Int × Int) (P := fun j t => (w.cell? ⟨b, off + j * 2, none⟩ = some (.int .u8 t.1) ∧ w.cell? ⟨b, off + j * 2 + 1, none⟩ = some (.int .u8 t.2)) ∧ (0 ≤ t.1 ∧ t.1 ≤ 255) ∧ (0 ≤ t.2 ∧ t.2 ≤ 255)) len (fun j hj => by
        obtain ⟨cs', hl', hat, hr⟩ := hi j hj
        obtain ⟨x, y, rfl, hx, hy⟩ := open_pair8 hr
        exact ⟨(x, y), ⟨hat 0 (by omega), hat 1 (by omega)⟩, hx, hy⟩)
    refine ⟨l, .inr ⟨b, off, cap, ?_, hb, by omega, by omega, hm, fun j hj => (hP j (by omega)).1⟩, fun j => ?_⟩
    · rw [hll]; simpa using hs
    · by_cases hj : j < len
      · exact (hP j hj).2
      · have : pat l j = (0, 0) := by simp [pat, List.getD, List.getElem?_eq_none (show l.length ≤ j by omega)]
        rw [this]; decide
end Go.Proofs.Yteblaedfjifdhaa
