/-
  Rules: arguments opened: a plan, a person, two changes.
-/
import Derived.Test.YteikkpiginfbkaaGreatDoorPf19
import Derived.SizedLaws
import Derived.ProofKit
import Derived.OpenShut
import Derived.Deep.Slices
namespace Go.Proofs.YteikkpiginfbkaaGreatDoor
open Go.RowKit Go.ChangeShapes Go.WideShapes Go.ChangeAt Go.Deep

/-- Cells that can be read at type t. -/
def Rd (w : World) (t : TypeId) (cs : List Value) : Prop :=
  ∃ (H : Type) (enc : TypeId × Value → H) (base : Nat) (spare : Nat → Bool) (held : Bool) (fuel : Nat) (x : DataW H × List MemPlace), DataW.trod enc Tryz.prog w base spare held fuel t cs = some x

section
variable {w : World} {t e : TypeId} {cs : List Value}
theorem Rd.of {H : Type} {enc : TypeId × Value → H} {base : Nat} {spare : Nat → Bool} {held : Bool} {v : Value} {d : DataW H} {p : List MemPlace} (h : DataW.Trod enc Tryz.prog w base spare held t v d p) : Rd w t v.cells.toList := by
  obtain ⟨fuel, hf⟩ := h
  exact ⟨H, enc, base, spare, held, fuel, _, hf⟩
theorem Rd.int {k : IntKind} (h : Rd w t cs) (ht : Tryz.prog.underlying t = some (.int k)) : ∃ n, cs = [.int k n] ∧ (Lit.int k n).wf = true := by
  obtain ⟨H, enc, base, spare, held, fuel, x, hx⟩ := h
  obtain ⟨n, h1, _, h2⟩ := DataW.trod_int ht hx
  exact ⟨n, h1, h2⟩
theorem Rd.bool (h : Rd w t cs) (ht : Tryz.prog.underlying t = some .bool) : ∃ b, cs = [.bool b] := by
  obtain ⟨H, enc, base, spare, held, fuel, x, hx⟩ := h
  obtain ⟨n, h1, _⟩ := DataW.trod_bool ht hx
  exact ⟨n, h1⟩
theorem Rd.string (h : Rd w t cs) (ht : Tryz.prog.underlying t = some .string) : ∃ s : ByteArray, cs = [.string s] ∧ s.size ≤ maxLen := by
  obtain ⟨H, enc, base, spare, held, fuel, x, hx⟩ := h
  obtain ⟨n, h1, _, h2⟩ := DataW.trod_string ht hx
  exact ⟨n, h1, h2⟩
theorem Rd.array {n : Nat} (h : Rd w t cs) (ht : Tryz.prog.underlying t = some (.array n e)) :
    cs.length = Tryz.prog.cellsOf t ∧ ∀ i, i < n → Rd w e ((cs.drop (i * Tryz.prog.cellsOf e)).take (Tryz.prog.cellsOf e)) := by
  obtain ⟨H, enc, base, spare, held, fuel, x, hx⟩ := h
  obtain ⟨xs, m, _, _, hl, hxl, hf⟩ := DataW.trod_array ht hx
  refine ⟨hl, fun i hi => ?_⟩
  have h1 := hf i hi
  rw [List.getElem?_eq_getElem (by omega)] at h1
  exact ⟨H, enc, base, spare, held, m, _, h1⟩
/-- A slice: empty, or so many elements in a row. -/
theorem Rd.slice (h : Rd w t cs) (ht : Tryz.prog.underlying t = some (.slice e)) (hE : 0 < Tryz.prog.cellsOf e) :
    (∃ a c, cs = [.slice a 0 c] ∧ c ≤ maxLen) ∨ ∃ b off len cap, cs = [.slice (some ⟨b, off, none⟩) len cap] ∧ 0 < len ∧ len ≤ cap ∧ cap ≤ maxLen ∧ b < w.heap.size ∧
      ∀ i, i < len → ∃ cs', cs'.length = Tryz.prog.cellsOf e ∧ (∀ j, j < Tryz.prog.cellsOf e → w.cell? ⟨b, off + i * Tryz.prog.cellsOf e + j, none⟩ = cs'[j]?) ∧ Rd w e cs' := by
  obtain ⟨H, enc, base, spare, held, fuel, x, hx⟩ := h
  rcases open_slice ht hx with ⟨h0, _⟩ | ⟨a, len, cap, m, n, D, Pl, hcs, hb, hl, hm, hmm, _, hi⟩
  · exact .inl ⟨_, _, h0, Nat.zero_le _⟩
  · by_cases h0 : len = 0
    · subst h0; exact .inl ⟨_, _, hcs, hm⟩
    · right
      obtain ⟨b, off, spot⟩ := a
      have hlm : len ≤ m := by rw [hmm]; split <;> omega
      have hspot : spot = none := by
        obtain ⟨cs', hc, _⟩ := hi 0 (by omega)
        obtain ⟨_, hcl, hat⟩ := World.cells?_some hc
        have h1 := hat 0 hE
        have : cs'[0]? = some (cs'[0]'(by omega)) := List.getElem?_eq_getElem (by omega)
        rw [this] at h1
        have := World.cell?_spot h1
        unfold Addr.add at this
        split at this <;> simp_all
      subst hspot
      have hadd : ∀ o i : Nat, (⟨b, o, none⟩ : Addr).add i = ⟨b, o + i, none⟩ := fun o i => by unfold Addr.add; split <;> simp_all
      have hel : ∀ i, i < len → ∃ cs', cs'.length = Tryz.prog.cellsOf e ∧ (∀ j, j < Tryz.prog.cellsOf e → w.cell? ⟨b, off + i * Tryz.prog.cellsOf e + j, none⟩ = cs'[j]?) ∧ Rd w e cs' := by
        intro i hil
        obtain ⟨cs', hc, ht'⟩ := hi i (by omega)
        obtain ⟨_, hcl, hat⟩ := World.cells?_some hc
        refine ⟨cs', hcl, fun j hj => ?_, H, enc, base, spare, held, n, _, ht'⟩
        have := hat j hj
        rw [hadd, hadd] at this
        exact this
      refine ⟨b, off, len, cap, hcs, by omega, hl, hm, ?_, hel⟩
      obtain ⟨cs', hcl, hat, _⟩ := hel 0 (by omega)
      have h1 := hat 0 hE
      rw [List.getElem?_eq_getElem (by omega)] at h1
      exact World.block_lt_of_cell? w _ h1
end

theorem Tryz.own : ownKnob Tryz.prog.godebug = none := by kernel_rfl
theorem Tryz.laidOut : laidOutB Tryz.prog = true := by kernel_rfl
end Go.Proofs.YteikkpiginfbkaaGreatDoor
