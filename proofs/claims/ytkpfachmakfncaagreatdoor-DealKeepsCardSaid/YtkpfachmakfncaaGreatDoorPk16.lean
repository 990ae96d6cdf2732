/-
  An argument that can be read: what its cells are, by its type. Only that they are there and of which form; what they read as is not looked at. Arguments that are arrays, opened. Arguments that are arrays of two lists, opened.
  Arguments that are dealings by numbers, opened.
-/
import Derived.Test.YtkpfachmakfncaaGreatDoorPk13
import Derived.ProofKit
import Derived.OpenShut
import Derived.Deep.Slices
import Derived.SizedLaws
namespace Go.Proofs.YtkpfachmakfncaaGreatDoor
open Go.ChangeShapes Go.WideShapes Go.ChangeAt Go.RowKit Go.Deep

/-- Cells that can be read at type t. -/
def Rd (w : World) (t : TypeId) (cs : List Value) : Prop :=
  ∃ (H : Type) (enc : TypeId × Value → H) (base : Nat) (spare : Nat → Bool) (held : Bool) (fuel : Nat) (x : DataW H × List MemPlace), DataW.trod enc Tryz.prog w base spare held fuel t cs = some x

section
variable {w : World} {t e : TypeId} {cs : List Value}
theorem Rd.of {H : Type} {enc : TypeId × Value → H} {base : Nat} {spare : Nat → Bool} {held : Bool} {v : Value} {d : DataW H} {p : List MemPlace} (h : DataW.Trod enc Tryz.prog w base spare held t v d p) : Rd w t v.cells.toList := by
  obtain ⟨fuel, hf⟩ := h
  exact ⟨H, enc, base, spare, held, fuel, _, hf⟩
theorem Rd.int {k : IntKind} (h : Rd w t cs) (ht : Tryz.prog.underlying t = some (.int k)) : ∃ n, cs = [.int k n] ∧ (Lit.int k n).wf = true := by
  obtain ⟨H, enc, base, spare, held, fuel, x, hx⟩ := h
  obtain ⟨n, h1, _, h2⟩ := DataW.trod_int ht hx
  exact ⟨n, h1, h2⟩
theorem Rd.bool (h : Rd w t cs) (ht : Tryz.prog.underlying t = some .bool) : ∃ b, cs = [.bool b] := by
  obtain ⟨H, enc, base, spare, held, fuel, x, hx⟩ := h
  obtain ⟨n, h1, _⟩ := DataW.trod_bool ht hx
  exact ⟨n, h1⟩
theorem Rd.string (h : Rd w t cs) (ht : Tryz.prog.underlying t = some .string) : ∃ s : ByteArray, cs = [.string s] ∧ s.size ≤ maxLen := by
  obtain ⟨H, enc, base, spare, held, fuel, x, hx⟩ := h
  obtain ⟨n, h1, _, h2⟩ := DataW.trod_string ht hx
  exact ⟨n, h1, h2⟩
theorem Rd.struct {fs : Array Field} (h : Rd w t cs) (ht : Tryz.prog.underlying t = some (.struct fs)) :
    cs.length = Tryz.prog.cellsOf t ∧ ∀ (i : Nat) (f : Field), fs[i]? = some f → Rd w f.type ((cs.drop f.offset).take (Tryz.prog.cellsOf f.type)) := by
  obtain ⟨H, enc, base, spare, held, fuel, x, hx⟩ := h
  obtain ⟨xs, n, _, _, hl, hxl, hf⟩ := DataW.trod_struct ht hx
  refine ⟨hl, fun i f hi => ?_⟩
  have h1 := hf i f hi
  have hlt : i < xs.length := by rw [hxl]; exact (Array.getElem?_eq_some_iff.1 hi).1
  rw [List.getElem?_eq_getElem hlt] at h1
  exact ⟨H, enc, base, spare, held, n, _, h1⟩
theorem Rd.array {n : Nat} (h : Rd w t cs) (ht : Tryz.prog.underlying t = some (.array n e)) :
    cs.length = Tryz.prog.cellsOf t ∧ ∀ i, i < n → Rd w e ((cs.drop (i * Tryz.prog.cellsOf e)).take (Tryz.prog.cellsOf e)) := by
  obtain ⟨H, enc, base, spare, held, fuel, x, hx⟩ := h
  obtain ⟨xs, m, _, _, hl, hxl, hf⟩ := DataW.trod_array ht hx
  refine ⟨hl, fun i hi => ?_⟩
  have h1 := hf i hi
  rw [List.getElem?_eq_getElem (by omega)] at h1
  exact ⟨H, enc, base, spare, held, m, _, h1⟩
/-- A slice: empty, or so many elements in a row. -/
theorem Rd.slice (h : Rd w t cs) (ht : Tryz.prog.underlying t = some (.slice e)) (hE : 0 < Tryz.prog.cellsOf e) :
    (∃ a c, cs = [.slice a 0 c] ∧ c ≤ maxLen) ∨ ∃ b off len cap, cs = [.slice (some ⟨b, off, none⟩) len cap] ∧ 0 < len ∧ len ≤ cap ∧ cap ≤ maxLen ∧ b < w.heap.size ∧
      ∀ i, i < len → ∃ cs', cs'.length = Tryz.prog.cellsOf e ∧ (∀ j, j < Tryz.prog.cellsOf e → w.cell? ⟨b, off + i * Tryz.prog.cellsOf e + j, none⟩ = cs'[j]?) ∧ Rd w e cs' := by
  obtain ⟨H, enc, base, spare, held, fuel, x, hx⟩ := h
  rcases open_slice ht hx with ⟨h0, _⟩ | ⟨a, len, cap, m, n, D, Pl, hcs, hb, hl, hm, hmm, _, hi⟩
  · exact .inl ⟨_, _, h0, Nat.zero_le _⟩
  · by_cases h0 : len = 0
    · subst h0; exact .inl ⟨_, _, hcs, hm⟩
    · right
      obtain ⟨b, off, spot⟩ := a
      have hlm : len ≤ m := by rw [hmm]; split <;> omega
      have hspot : spot = none := by
        obtain ⟨cs', hc, _⟩ := hi 0 (by omega)
        obtain ⟨_, hcl, hat⟩ := World.cells?_some hc
        have h1 := hat 0 hE
        have : cs'[0]? = some (cs'[0]'(by omega)) := List.getElem?_eq_getElem (by omega)
        rw [this] at h1
        have := World.cell?_spot h1
        unfold Addr.add at this
        split at this <;> simp_all
      subst hspot
      have hadd : ∀ o i : Nat, (⟨b, o, none⟩ : Addr).add i = ⟨b, o + i, none⟩ := fun o i => by unfold Addr.add; split <;> simp_all
      have hel : ∀ i, i < len → ∃ cs', cs'.length = Tryz.prog.cellsOf e ∧ (∀ j, j < Tryz.prog.cellsOf e → w.cell? ⟨b, off + i * Tryz.prog.cellsOf e + j, none⟩ = cs'[j]?) ∧ Rd w e cs' := by
        intro i hil
        obtain ⟨cs', hc, ht'⟩ := hi i (by omega)
        obtain ⟨_, hcl, hat⟩ := World.cells?_some hc
        refine ⟨cs', hcl, fun j hj => ?_, H, enc, base, spare, held, n, _, ht'⟩
        have := hat j hj
        rw [hadd, hadd] at this
        exact this
      refine ⟨b, off, len, cap, hcs, by omega, hl, hm, ?_, hel⟩
      obtain ⟨cs', hcl, hat, _⟩ := hel 0 (by omega)
      have h1 := hat 0 hE
      rw [List.getElem?_eq_getElem (by omega)] at h1
      exact World.block_lt_of_cell? w _ h1
end

theorem Tryz.own : ownKnob Tryz.prog.godebug = none := by kernel_rfl
theorem Tryz.laidOut : laidOutB Tryz.prog = true := by kernel_rfl
set_option maxRecDepth 100000 in
theorem agg_arr {w : World} {r : Reach} {b t e n : Nat} {v : Value} (ht : Tryz.prog.underlying t = some (.array n e)) (h : Value.okWide Tryz.prog w r b t v) : ∃ cs, v = .agg cs := by
  simp only [Value.okWide, ht] at h
  obtain ⟨cs, h, _⟩ := h
  exact ⟨cs, h⟩
set_option maxRecDepth 100000 in
theorem agg_struct {w : World} {r : Reach} {b t : Nat} {fs : Array Field} {v : Value} (ht : Tryz.prog.underlying t = some (.struct fs)) (h : Value.okWide Tryz.prog w r b t v) : ∃ cs, v = .agg cs := by
  simp only [Value.okWide, ht] at h
  obtain ⟨cs, h, _⟩ := h
  exact ⟨cs, h⟩
theorem agg_of {v : Value} {l : List Value} (h : ∃ cs, v = .agg cs) (hl : v.cells.toList = l) : v = .agg l.toArray := by
  obtain ⟨cs, rfl⟩ := h
  subst hl
  simp [Value.cells]

theorem two_of {cs : List Value} (h : cs.length = 2) : ∃ a b, cs = [a, b] := by
  match cs, h with
  | [a, b], _ => exact ⟨a, b, rfl⟩
theorem three_of {cs : List Value} (h : cs.length = 3) : ∃ a b c, cs = [a, b, c] := by
  match cs, h with
  | [a, b, c], _ => exact ⟨a, b, c, rfl⟩

theorem pick_list {α : Type} (d : α) {P : Nat → α → Prop} (n : Nat) (h : ∀ i, i < n → ∃ x, P i x) : ∃ l : List α, l.length = n ∧ ∀ i, i < n → P i (l.getD i d) := by
  induction n with
  | zero => exact ⟨[], rfl, fun i hi => by omega⟩
  | succ n ih =>
    obtain ⟨l, hl, hP⟩ := ih (fun i hi => h i (by omega))
    obtain ⟨x, hx⟩ := h n (by omega)
    refine ⟨l ++ [x], by simp [hl], fun i hi => ?_⟩
    by_cases e : i = n
    · subst e; simp [List.getD, ← hl]; rw [hl]; exact hx
    · have := hP i (by omega)
      simpa [List.getD, List.getElem?_append_left (show i < l.length by omega)] using this


theorem Tryz.cellsI : Tryz.prog.cellsOf 3 = 1 := by kernel_rfl
theorem Tryz.cellsS : Tryz.prog.cellsOf 48 = 2 := by kernel_rfl
/-- api.Share, by value. -/
theorem open_sh {w : World} {cs : List Value} (h : Rd w 48 cs) : ∃ t : Int × Int, cs = [.int .i64 t.1, .int .i64 t.2] ∧ (-9223372036854775808 ≤ t.1 ∧ t.1 ≤ 9223372036854775807) ∧ (-9223372036854775808 ≤ t.2 ∧ t.2 ≤ 9223372036854775807) := by
  obtain ⟨hl, hi⟩ := h.struct Tryz.underlying48
  have h0 : Rd w 3 ((cs.drop 0).take (Tryz.prog.cellsOf 3)) := hi 0 _ rfl
  have h1 : Rd w 3 ((cs.drop 1).take (Tryz.prog.cellsOf 3)) := hi 1 _ rfl
  rw [Tryz.cellsI] at h0 h1
  obtain ⟨a, b, rfl⟩ := two_of (hl.trans Tryz.cellsS)
  obtain ⟨x, hx, wx⟩ := h0.int Tryz.underlying3
  obtain ⟨y, hy, wy⟩ := h1.int Tryz.underlying3
  simp at hx hy
  subst hx hy
  exact ⟨(x, y), rfl, bounds_i64 wx, bounds_i64 wy⟩
/-- []int. -/
theorem open_ints {w : World} {lv : Value} (h : Rd w 22 [lv]) : ∃ l, PtsAt w.heap.size w lv l ∧ IntsW l ∧ ∃ a c, lv = .slice a l.length c ∧ l.length ≤ c ∧ c ≤ 9223372036854775807 := by
  rcases h.slice Tryz.underlying22 (by rw [Tryz.cellsI]; decide) with ⟨a, c, hs, hcm⟩ | ⟨b, off, len, cap, hs, h0, hl, hm, hb, hi⟩
  · unfold maxLen at hcm
    exact ⟨[], .inl ⟨a, c, by simpa using hs, rfl⟩, ⟨fun j => by simp [ptAt]⟩, a, c, by simpa using hs, Nat.zero_le _, by omega⟩
  · rw [Tryz.cellsI] at hi
    obtain ⟨l, hll, hP⟩ := pick_list (0 : Int) (P := fun j t => w.cell? ⟨b, off + j, none⟩ = some (.int .i64 t) ∧ -9223372036854775808 ≤ t ∧ t ≤ 9223372036854775807) len (fun j hj => by
        obtain ⟨cs', hl', hat, hr⟩ := hi j hj
        obtain ⟨t, rfl, wt⟩ := hr.int Tryz.underlying3
        have := hat 0 (by omega)
        rw [Nat.mul_one] at this
        exact ⟨t, this, bounds_i64 wt⟩)
    unfold maxLen at hm
    refine ⟨l, .inr ⟨b, off, cap, ?_, hb, by omega, by omega, fun j hj => (hP j (by omega)).1⟩, ⟨fun j => ?_⟩, _, cap, by rw [hll]; simpa using hs, by omega, by omega⟩
    · rw [hll]; simpa using hs
    · by_cases hj : j < len
      · exact (hP j hj).2
      · have : ptAt l j = 0 := by simp [ptAt, List.getD, List.getElem?_eq_none (show l.length ≤ j by omega)]
        rw [this]; decide
end Go.Proofs.YtkpfachmakfncaaGreatDoor

namespace Go.Proofs.YtkpfachmakfncaaGreatDoor
open Go.RowKit Go.ChangeShapes Go.WideShapes

theorem okWide_array {P : Program} {w : World} {r : Reach} {base : Nat} {t e : TypeId} {n : Nat} {v : Value} (ht : P.underlying t = some (.array n e)) (h : Value.okWide P w r base t v) : ∃ cs, v = .agg cs ∧ cs.size = P.cellsOf t := by
  simp only [Value.okWide, ht] at h
  obtain ⟨cs, h1, h2, _⟩ := h
  exact ⟨cs, h1, h2⟩
theorem Tryz.cells3 : Tryz.prog.cellsOf 26 = 3 := by kernel_rfl
theorem Tryz.cells1 : Tryz.prog.cellsOf 3 = 1 := by kernel_rfl
set_option maxRecDepth 100000 in
theorem open_tri {w : World} {cs : List Value} (h : Rd w 26 cs) : ∃ a b c : Int, cs = [.int .i64 a, .int .i64 b, .int .i64 c] := by
  obtain ⟨hl, hi⟩ := h.array Tryz.underlying26
  rw [Tryz.cells3] at hl
  rw [Tryz.cells1] at hi
  match cs, hl with
  | [x, y, z], _ =>
    obtain ⟨a, ha, _⟩ := (hi 0 (by decide)).int Tryz.underlying3
    obtain ⟨b, hb, _⟩ := (hi 1 (by decide)).int Tryz.underlying3
    obtain ⟨c, hc, _⟩ := (hi 2 (by decide)).int Tryz.underlying3
    simp at ha hb hc
    subst ha hb hc
    exact ⟨a, b, c, rfl⟩
set_option maxRecDepth 100000 in
theorem open_tri_val {w : World} {r : Reach} {base : Nat} {v : Value} (ok : Value.okWide Tryz.prog w r base 26 v) (h : Rd w 26 v.cells.toList) : ∃ a b c : Int, v = .agg #[.int .i64 a, .int .i64 b, .int .i64 c] := by
  obtain ⟨cs, rfl, _⟩ := okWide_array Tryz.underlying26 ok
  obtain ⟨a, b, c, hc⟩ := open_tri h
  refine ⟨a, b, c, ?_⟩
  simp only [Value.cells] at hc
  congr 1
  apply Array.ext'
  exact hc
end Go.Proofs.YtkpfachmakfncaaGreatDoor

namespace Go.Proofs.YtkpfachmakfncaaGreatDoor
open Go.RowKit Go.ChangeShapes Go.WideShapes

theorem Tryz.cellsL : Tryz.prog.cellsOf 22 = 1 := by kernel_rfl
end Go.Proofs.YtkpfachmakfncaaGreatDoor

namespace Go.Proofs.YtkpfachmakfncaaGreatDoor
open Go.RowKit Go.ChangeShapes Go.WideShapes

theorem Tryz.cellsPl : Tryz.prog.cellsOf 36 = 3 := by kernel_rfl
set_option maxRecDepth 100000 in
/-- sortesref07.Plan, by value. -/
theorem open_plan {H : Type} {enc : TypeId × Value → H} {w : World} {r : Reach} {base b0 : Nat} {spare : Nat → Bool} {held : Bool} {v : Value} {d : DataW H} {p : List MemPlace} (ok : Value.okWide Tryz.prog w r base 36 v) (h : DataW.Trod enc Tryz.prog w b0 spare held 36 v d p)
    (ws : ∀ n ∈ d.weights Tryz.prog 36, n ≤ reachBytes) :
    ∃ (sv cv : Value) (S C : List Int) (seed : ByteArray), v = .agg #[sv, cv, .string seed] ∧ PtsAt w.heap.size w sv S ∧ PtsAt w.heap.size w cv C ∧ S.length ≤ 9223372036854775807 ∧ C.length ≤ 9223372036854775807 ∧ seed.size ≤ 148000000000000 := by
  obtain ⟨cs, rfl⟩ := agg_struct Tryz.underlying36 ok
  obtain ⟨fuel, hf⟩ := h
  obtain ⟨xs, n, hd, hp, hl, hxl, hfs⟩ := DataW.trod_struct Tryz.underlying36 hf
  rw [Tryz.cellsPl] at hl
  simp only [Value.cells] at hl hfs
  obtain ⟨a, b, c, hcs⟩ := three_of hl
  have h0 := hfs 0 _ rfl
  have h1 := hfs 1 _ rfl
  have h2 := hfs 2 _ rfl
  simp only [hcs] at h0 h1 h2
  match xs, hxl with
  | [x0, x1, x2], _ =>
    have r0 : Rd w 22 [a] := ⟨H, enc, b0, spare, held, n, x0, h0⟩
    have r1 : Rd w 22 [b] := ⟨H, enc, b0, spare, held, n, x1, h1⟩
    have t2 : DataW.trod enc Tryz.prog w b0 spare held n 9 [c] = some x2 := h2
    obtain ⟨s, hs, hx2, hm⟩ := DataW.trod_string Tryz.underlying9 t2
    obtain ⟨S, hS, _, _, _, _, hS1, hS2⟩ := open_ints r0
    obtain ⟨C, hC, _, _, _, _, hC1, hC2⟩ := open_ints r1
    simp only [List.cons.injEq, and_true] at hs
    subst hs
    refine ⟨a, b, S, C, s, ?_, hS, hC, by omega, by omega, ?_⟩
    · congr 1
      apply Array.ext'
      exact hcs
    · have := ws s.size (by
        obtain rfl : d = .agg [x0.1, x1.1, x2.1] := congrArg Prod.fst hp
        have hu : DataW.weights Tryz.prog 36 (.agg [x0.1, x1.1, x2.1]) = DataW.weightsEach Tryz.prog [22, 22, 9] [x0.1, x1.1, x2.1] := by
          rw [DataW.weights, Tryz.underlying36]; rfl
        rw [hu]
        refine DataW.weights_mem_each (j := 2) (t := 9) (d := x2.1) rfl rfl _ ?_
        rw [hx2]
        show s.size ∈ DataW.weights Tryz.prog 9 (DataW.lit (Lit.string s.data.toList))
        rw [DataW.weights]
        exact List.mem_singleton.2 (by rw [Array.length_toList]; rfl))
      unfold reachBytes at this
      omega
end Go.Proofs.YtkpfachmakfncaaGreatDoor
