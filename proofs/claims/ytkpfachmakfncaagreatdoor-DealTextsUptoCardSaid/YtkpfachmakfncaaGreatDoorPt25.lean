/-
  A dealing as an argument, opened.
-/
import Derived.Test.YtkpfachmakfncaaGreatDoorPt16
import Derived.Test.YtkpfachmakfncaaGreatDoorPt23
namespace Go.Proofs.YtkpfachmakfncaaGreatDoor
open Go.RowKit Go.ChangeShapes Go.WideShapes

theorem Tryz.cellsStr : Tryz.prog.cellsOf 9 = 1 := by kernel_rfl
theorem Tryz.cellsDl : Tryz.prog.cellsOf 25 = 3 := by kernel_rfl
theorem Tryz.cellsIs : Tryz.prog.cellsOf 22 = 1 := by kernel_rfl
theorem Tryz.cellsSs : Tryz.prog.cellsOf 23 = 1 := by kernel_rfl
theorem rd_string {w : World} {cs : List Value} (h : Rd w 9 cs) : ∃ s, cs = [.string s] := by
  obtain ⟨H, enc, base, spare, held, fuel, x, hx⟩ := h
  obtain ⟨s, h1, _, _⟩ := DataW.trod_string Tryz.underlying9 hx
  exact ⟨s, h1⟩
/-- []string. -/
theorem open_strs {w : World} {lv : Value} (h : Rd w 23 [lv]) : ∃ l, StrsAt w lv l ∧ ∃ a c, lv = .slice a l.length c ∧ l.length ≤ c ∧ c ≤ 9223372036854775807 := by
  rcases h.slice Tryz.underlying23 (by rw [Tryz.cellsStr]; decide) with ⟨a, c, hs, hcm⟩ | ⟨b, off, len, cap, hs, h0, hl, hm, hb, hi⟩
  · unfold maxLen at hcm
    exact ⟨[], .inl ⟨a, c, by simpa using hs, rfl⟩, a, c, by simpa using hs, Nat.zero_le _, by omega⟩
  · rw [Tryz.cellsStr] at hi
    obtain ⟨l, hll, hP⟩ := pick_list ByteArray.empty (P := fun j t => w.cell? ⟨b, off + j, none⟩ = some (.string t)) len (fun j hj => by
        obtain ⟨cs', hl', hat, hr⟩ := hi j hj
        obtain ⟨t, rfl⟩ := rd_string hr
        have := hat 0 (by omega)
        rw [Nat.mul_one] at this
        exact ⟨t, this⟩)
    unfold maxLen at hm
    refine ⟨l, .inr ⟨b, off, cap, ?_, hb, by omega, by omega, fun j hj => hP j (by omega)⟩, _, cap, by rw [hll]; simpa using hs, by omega, by omega⟩
    rw [hll]; simpa using hs
set_option maxRecDepth 100000 in
theorem open_dealing_val {w : World} {r : Reach} {base : Nat} {v : Value} (ok : Value.okWide Tryz.prog w r base 25 v) (h : Rd w 25 v.cells.toList) :
    ∃ (a0 a2 : Option Addr) (k0 k2 : Nat) (d : Dl), v = .agg #[.slice a0 d.cm.length k0, .int .i64 d.pt, .slice a2 d.bx.length k2] ∧ DlAt w (.slice a0 d.cm.length k0) (.int .i64 d.pt) (.slice a2 d.bx.length k2) d ∧
      (IntsW d.cm ∧ -9223372036854775808 ≤ d.pt ∧ d.pt ≤ 9223372036854775807) ∧ (d.cm.length ≤ k0 ∧ k0 ≤ 9223372036854775807) ∧ (d.bx.length ≤ k2 ∧ k2 ≤ 9223372036854775807) := by
  obtain ⟨cs, rfl⟩ := agg_struct Tryz.underlying25 ok
  obtain ⟨hl, hi⟩ := h.struct Tryz.underlying25
  have h0 : Rd w 22 ((_ : List Value).take (Tryz.prog.cellsOf 22)) := hi 0 _ rfl
  have h1 : Rd w 3 ((_ : List Value).take (Tryz.prog.cellsOf 3)) := hi 1 _ rfl
  have h2 : Rd w 23 ((_ : List Value).take (Tryz.prog.cellsOf 23)) := hi 2 _ rfl
  rw [Tryz.cellsIs] at h0
  rw [Tryz.cellsI] at h1
  rw [Tryz.cellsSs] at h2
  obtain ⟨a, b, c, hcs⟩ := three_of (hl.trans Tryz.cellsDl)
  simp only [hcs] at h0 h1 h2
  obtain ⟨x, g0, w0⟩ := h1.int Tryz.underlying3
  obtain ⟨cm, hC, hcw, a0, k0, e0, c1, c2⟩ := open_ints h0
  obtain ⟨bx, hB, a2, k2, e2, b1, b2⟩ := open_strs h2
  simp at g0
  subst g0 e0 e2
  refine ⟨a0, a2, k0, k2, ⟨cm, x, bx⟩, ?_, ⟨hC, rfl, hB⟩, ⟨hcw, bounds_i64 w0⟩, ⟨c1, c2⟩, ⟨b1, b2⟩⟩
  simp only [Value.cells] at hcs
  congr 1
  apply Array.ext'
  exact hcs
end Go.Proofs.YtkpfachmakfncaaGreatDoor
