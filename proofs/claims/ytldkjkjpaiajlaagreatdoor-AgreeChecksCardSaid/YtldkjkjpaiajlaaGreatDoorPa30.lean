/-
  Agree: arguments opened: bytes, two bytes, a list of bytes.
-/
import Derived.Test.YtldkjkjpaiajlaaGreatDoorPa28
import Derived.SizedLaws
import Derived.ProofKit
import Derived.OpenShut
import Derived.Deep.Slices
namespace Go.Proofs.YtldkjkjpaiajlaaGreatDoor
open Go.RowKit Go.ChangeShapes Go.WideShapes Go.ChangeAt Go.Deep

/-- Cells that can be read at type t. -/
def Rd (w : World) (t : TypeId) (cs : List Value) : Prop :=
  ∃ (H : Type) (enc : TypeId × Value → H) (base : Nat) (spare : Nat → Bool) (held : Bool) (fuel : Nat) (x : DataW H × List MemPlace), DataW.trod enc Tryz.prog w base spare held fuel t cs = some x

section
variable {w : World} {t e : TypeId} {cs : List Value}
theorem Rd.of {H : Type} {enc : TypeId × Value → H} {base : Nat} {spare : Nat → Bool} {held : Bool} {v : Value} {d : DataW H} {p : List MemPlace} (h : DataW.Trod enc Tryz.prog w base spare held t v d p) : Rd w t v.cells.toList := by
  obtain ⟨fuel, hf⟩ := h
  exact ⟨H, enc, base, spare, held, fuel, _, hf⟩
theorem Rd.int {k : IntKind} (h : Rd w t cs) (ht : Tryz.prog.underlying t = some (.int k)) : ∃ n, cs = [.int k n] ∧ (Lit.int k n).wf = true := by
  obtain ⟨H, enc, base, spare, held, fuel, x, hx⟩ := h
  obtain ⟨n, h1, _, h2⟩ := DataW.trod_int ht hx
  exact ⟨n, h1, h2⟩
theorem Rd.bool (h : Rd w t cs) (ht : Tryz.prog.underlying t = some .bool) : ∃ b, cs = [.bool b] := by
  obtain ⟨H, enc, base, spare, held, fuel, x, hx⟩ := h
  obtain ⟨n, h1, _⟩ := DataW.trod_bool ht hx
  exact ⟨n, h1⟩
theorem Rd.string (h : Rd w t cs) (ht : Tryz.prog.underlying t = some .string) : ∃ s : ByteArray, cs = [.string s] ∧ s.size ≤ maxLen := by
  obtain ⟨H, enc, base, spare, held, fuel, x, hx⟩ := h
  obtain ⟨n, h1, _, h2⟩ := DataW.trod_string ht hx
  exact ⟨n, h1, h2⟩
theorem Rd.struct {fs : Array Field} (h : Rd w t cs) (ht : Tryz.prog.underlying t = some (.struct fs)) :
    cs.length = Tryz.prog.cellsOf t ∧ ∀ (i : Nat) (f : Field), fs[i]? = some f → Rd w f.type ((cs.drop f.offset).take (Tryz.prog.cellsOf f.type)) := by
  obtain ⟨H, enc, base, spare, held, fuel, x, hx⟩ := h
  obtain ⟨xs, n, _, _, hl, hxl, hf⟩ := DataW.trod_struct ht hx
  refine ⟨hl, fun i f hi => ?_⟩
  have h1 := hf i f hi
  have hlt : i < xs.length := by rw [hxl]; exact (Array.getElem?_eq_some_iff.1 hi).1
  rw [List.getElem?_eq_getElem hlt] at h1
  exact ⟨H, enc, base, spare, held, n, _, h1⟩
theorem Rd.array {n : Nat} (h : Rd w t cs) (ht : Tryz.prog.underlying t = some (.array n e)) :
    cs.length = Tryz.prog.cellsOf t ∧ ∀ i, i < n → Rd w e ((cs.drop (i * Tryz.prog.cellsOf e)).take (Tryz.prog.cellsOf e)) := by
  obtain ⟨H, enc, base, spare, held, fuel, x, hx⟩ := h
  obtain ⟨xs, m, _, _, hl, hxl, hf⟩ := DataW.trod_array ht hx
  refine ⟨hl, fun i hi => ?_⟩
  have h1 := hf i hi
  rw [List.getElem?_eq_getElem (by omega)] at h1
  exact ⟨H, enc, base, spare, held, m, _, h1⟩
/-- A slice: empty, or so many elements in a row. -/
theorem Rd.slice (h : Rd w t cs) (ht : Tryz.prog.underlying t = some (.slice e)) (hE : 0 < Tryz.prog.cellsOf e) :
    (∃ a c, cs = [.slice a 0 c] ∧ c ≤ maxLen) ∨ ∃ b off len cap, cs = [.slice (some ⟨b, off, none⟩) len cap] ∧ 0 < len ∧ len ≤ cap ∧ cap ≤ maxLen ∧ b < w.heap.size ∧
      ∀ i, i < len → ∃ cs', cs'.length = Tryz.prog.cellsOf e ∧ (∀ j, j < Tryz.prog.cellsOf e → w.cell? ⟨b, off + i * Tryz.prog.cellsOf e + j, none⟩ = cs'[j]?) ∧ Rd w e cs' := by
  obtain ⟨H, enc, base, spare, held, fuel, x, hx⟩ := h
  rcases open_slice ht hx with ⟨h0, _⟩ | ⟨a, len, cap, m, n, D, Pl, hcs, hb, hl, hm, hmm, _, hi⟩
  · exact .inl ⟨_, _, h0, Nat.zero_le _⟩
  · by_cases h0 : len = 0
    · subst h0; exact .inl ⟨_, _, hcs, hm⟩
    · right
      obtain ⟨b, off, spot⟩ := a
      have hlm : len ≤ m := by rw [hmm]; split <;> omega
      have hspot : spot = none := by
        obtain ⟨cs', hc, _⟩ := hi 0 (by omega)
        obtain ⟨_, hcl, hat⟩ := World.cells?_some hc
        have h1 := hat 0 hE
        have : cs'[0]? = some (cs'[0]'(by omega)) := List.getElem?_eq_getElem (by omega)
        rw [this] at h1
        have := World.cell?_spot h1
        unfold Addr.add at this
        split at this <;> simp_all
      subst hspot
      have hadd : ∀ o i : Nat, (⟨b, o, none⟩ : Addr).add i = ⟨b, o + i, none⟩ := fun o i => by unfold Addr.add; split <;> simp_all
      have hel : ∀ i, i < len → ∃ cs', cs'.length = Tryz.prog.cellsOf e ∧ (∀ j, j < Tryz.prog.cellsOf e → w.cell? ⟨b, off + i * Tryz.prog.cellsOf e + j, none⟩ = cs'[j]?) ∧ Rd w e cs' := by
        intro i hil
        obtain ⟨cs', hc, ht'⟩ := hi i (by omega)
        obtain ⟨_, hcl, hat⟩ := World.cells?_some hc
        refine ⟨cs', hcl, fun j hj => ?_, H, enc, base, spare, held, n, _, ht'⟩
        have := hat j hj
        rw [hadd, hadd] at this
        exact this
      refine ⟨b, off, len, cap, hcs, by omega, hl, hm, ?_, hel⟩
      obtain ⟨cs', hcl, hat, _⟩ := hel 0 (by omega)
      have h1 := hat 0 hE
      rw [List.getElem?_eq_getElem (by omega)] at h1
      exact World.block_lt_of_cell? w _ h1
end

theorem Tryz.own : ownKnob Tryz.prog.godebug = none := by kernel_rfl
theorem Tryz.laidOut : laidOutB Tryz.prog = true := by kernel_rfl
set_option maxRecDepth 100000 in
theorem agg_arr {w : World} {r : Reach} {b t e n : Nat} {v : Value} (ht : Tryz.prog.underlying t = some (.array n e)) (h : Value.okWide Tryz.prog w r b t v) : ∃ cs, v = .agg cs := by
  simp only [Value.okWide, ht] at h
  obtain ⟨cs, h, _⟩ := h
  exact ⟨cs, h⟩
set_option maxRecDepth 100000 in
theorem agg_struct {w : World} {r : Reach} {b t : Nat} {fs : Array Field} {v : Value} (ht : Tryz.prog.underlying t = some (.struct fs)) (h : Value.okWide Tryz.prog w r b t v) : ∃ cs, v = .agg cs := by
  simp only [Value.okWide, ht] at h
  obtain ⟨cs, h, _⟩ := h
  exact ⟨cs, h⟩
theorem agg_of {v : Value} {l : List Value} (h : ∃ cs, v = .agg cs) (hl : v.cells.toList = l) : v = .agg l.toArray := by
  obtain ⟨cs, rfl⟩ := h
  subst hl
  simp [Value.cells]

theorem two_of {cs : List Value} (h : cs.length = 2) : ∃ a b, cs = [a, b] := by
  match cs, h with
  | [a, b], _ => exact ⟨a, b, rfl⟩
theorem three_of {cs : List Value} (h : cs.length = 3) : ∃ a b c, cs = [a, b, c] := by
  match cs, h with
  | [a, b, c], _ => exact ⟨a, b, c, rfl⟩

theorem pick_list {α : Type} (d : α) {P : Nat → α → Prop} (n : Nat) (h : ∀ i, i < n → ∃ x, P i x) : ∃ l : List α, l.length = n ∧ ∀ i, i < n → P i (l.getD i d) := by
  induction n with
  | zero => exact ⟨[], rfl, fun i hi => by omega⟩
  | succ n ih =>
    obtain ⟨l, hl, hP⟩ := ih (fun i hi => h i (by omega))
    obtain ⟨x, hx⟩ := h n (by omega)
    refine ⟨l ++ [x], by simp [hl], fun i hi => ?_⟩
    by_cases e : i = n
    · subst e; simp [List.getD, ← hl]; rw [hl]; exact hx
    · have := hP i (by omega)
      simpa [List.getD, List.getElem?_append_left (show i < l.length by omega)] using this


theorem okWide_array {P : Program} {w : World} {r : Reach} {base : Nat} {t e : TypeId} {n : Nat} {v : Value} (ht : P.underlying t = some (.array n e)) (h : Value.okWide P w r base t v) : ∃ cs, v = .agg cs ∧ cs.size = P.cellsOf t := by
  simp only [Value.okWide, ht] at h
  obtain ⟨cs, h1, h2, _⟩ := h
  exact ⟨cs, h1, h2⟩
theorem Tryz.cellsU8 : Tryz.prog.cellsOf 5 = 1 := by kernel_rfl
theorem Tryz.cells2u : Tryz.prog.cellsOf 23 = 2 := by kernel_rfl
theorem u8_bd {z : Int} (h : (Lit.int .u8 z).wf = true) : ∃ n : Nat, z = n ∧ n < 256 := by
  have h' := bounds_u8 h
  exact ⟨z.toNat, by omega, by omega⟩
theorem open_u8s {w : World} {lv : Value} (h : Rd w 22 [lv]) : ∃ l, U8sAt w lv l ∧ l.length ≤ 9223372036854775807 := by
  rcases h.slice Tryz.underlying22 (by rw [Tryz.cellsU8]; decide) with ⟨a, c, hs, hcm⟩ | ⟨b, off, len, cap, hs, h0, hl, hm, hb, hi⟩
  · exact ⟨[], .inl ⟨a, c, by simpa using hs, rfl⟩, by decide⟩
  · rw [Tryz.cellsU8] at hi
    obtain ⟨l, hll, hP⟩ := pick_list (0 : Nat) (P := fun j t => w.cell? ⟨b, off + j, none⟩ = some (.int .u8 (t : Nat)) ∧ t < 256) len (fun j hj => by
        obtain ⟨cs', hl', hat, hr⟩ := hi j hj
        obtain ⟨t, rfl, wt⟩ := hr.int Tryz.underlying5
        have := hat 0 (by omega)
        rw [Nat.mul_one] at this
        obtain ⟨n, rfl, hn⟩ := u8_bd wt
        exact ⟨n, this, hn⟩)
    unfold maxLen at hm
    exact ⟨l, .inr ⟨b, off, cap, by rw [hll]; simpa using hs, hb, by omega, by omega, fun j hj => hP j (by omega)⟩, by omega⟩
set_option maxRecDepth 100000 in
theorem open_2u8 {w : World} {v : Value} {r : Reach} {base : Nat} (ok : Value.okWide Tryz.prog w r base 23 v) (h : Rd w 23 v.cells.toList) : ∃ a b : Nat, v = .agg #[.int .u8 a, .int .u8 b] ∧ a < 256 ∧ b < 256 := by
  obtain ⟨hl, hi⟩ := h.array Tryz.underlying23
  have h0 : Rd w 5 ((_ : List Value).take (Tryz.prog.cellsOf 5)) := hi 0 (by decide)
  have h1 : Rd w 5 ((_ : List Value).take (Tryz.prog.cellsOf 5)) := hi 1 (by decide)
  rw [Tryz.cellsU8] at h0 h1
  obtain ⟨x, y, hxy⟩ := two_of (hl.trans Tryz.cells2u)
  rw [hxy] at h0 h1
  obtain ⟨a, ha, wa⟩ := h0.int Tryz.underlying5
  obtain ⟨b, hb, wb⟩ := h1.int Tryz.underlying5
  simp at ha hb
  subst ha hb
  obtain ⟨a, rfl, ha⟩ := u8_bd wa
  obtain ⟨b, rfl, hb⟩ := u8_bd wb
  exact ⟨a, b, agg_of (agg_arr Tryz.underlying23 ok) hxy, ha, hb⟩
end Go.Proofs.YtldkjkjpaiajlaaGreatDoor
