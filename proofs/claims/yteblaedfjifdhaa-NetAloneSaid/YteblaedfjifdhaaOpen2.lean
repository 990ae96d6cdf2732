/-
  Slices of numbers that came in, opened.
-/
import Derived.Test.YteblaedfjifdhaaDrains
namespace Go.Proofs.Yteblaedfjifdhaa
open Go.ChangeShapes Go.WideShapes Go.ChangeAt Go.RowKit

/-- []uint16. -/
theorem open_u16s {w : World} {lv : Value} (h : Rd w 41 [lv]) : ∃ l, U16sAt w lv l ∧ U16sWf l := by
  rcases h.slice Try.underlying41 (by rw [Try.cells42]; decide) with ⟨a, c, hs⟩ | ⟨b, off, len, cap, hs, h0, hl, hm, hb, hi⟩
  · exact ⟨[], .inl ⟨a, c, by simpa using hs, rfl⟩, fun j => by simp [tat]⟩
  · rw [Try.cells42] at hi
    obtain ⟨l, hll, hP⟩ := pick_list (0 : Int) (P := fun j t => w.cell? ⟨b, off + j, none⟩ = some (.int .u16 t) ∧ 0 ≤ t ∧ t ≤ 65535) len (fun j hj => by
        obtain ⟨cs', hl', hat, hr⟩ := hi j hj
        obtain ⟨t, rfl, wt⟩ := hr.int Try.underlying42
        have := hat 0 (by omega)
        rw [Nat.mul_one] at this
        exact ⟨t, this, bounds_u16 wt⟩)
    refine ⟨l, .inr ⟨b, off, cap, ?_, hb, by omega, by omega, hm, fun j hj => (hP j (by omega)).1⟩, fun j => ?_⟩
    · rw [hll]; simpa using hs
    · by_cases hj : j < len
      · exact (hP j hj).2
      · have : tat l j = 0 := by simp [tat, List.getD, List.getElem?_eq_none (show l.length ≤ j by omega)]
        rw [this]; decide
end Go.Proofs.Yteblaedfjifdhaa
