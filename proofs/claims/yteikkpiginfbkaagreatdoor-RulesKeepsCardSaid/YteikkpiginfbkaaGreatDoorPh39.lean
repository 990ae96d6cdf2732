/-
  Rules: arguments opened: a plan, a person, two changes.
  Rules: the argument that is a person, opened.
-/
import Derived.Test.YteikkpiginfbkaaGreatDoorPh33
import Derived.SizedLaws
import Derived.ProofKit
import Derived.OpenShut
import Derived.Deep.Slices
import Derived.Test.YteikkpiginfbkaaGreatDoorPh35
namespace Go.Proofs.YteikkpiginfbkaaGreatDoor
open Go.RowKit Go.ChangeShapes Go.WideShapes Go.ChangeAt Go.Deep

/-- Cells that can be read at type t. -/
def Rd (w : World) (t : TypeId) (cs : List Value) : Prop :=
  ∃ (H : Type) (enc : TypeId × Value → H) (base : Nat) (spare : Nat → Bool) (held : Bool) (fuel : Nat) (x : DataW H × List MemPlace), DataW.trod enc Tryz.prog w base spare held fuel t cs = some x

section
variable {w : World} {t e : TypeId} {cs : List Value}
theorem Rd.of {H : Type} {enc : TypeId × Value → H} {base : Nat} {spare : Nat → Bool} {held : Bool} {v : Value} {d : DataW H} {p : List MemPlace} (h : DataW.Trod enc Tryz.prog w base spare held t v d p) : Rd w t v.cells.toList := by
  obtain ⟨fuel, hf⟩ := h
  exact ⟨H, enc, base, spare, held, fuel, _, hf⟩
theorem Rd.int {k : IntKind} (h : Rd w t cs) (ht : Tryz.prog.underlying t = some (.int k)) : ∃ n, cs = [.int k n] ∧ (Lit.int k n).wf = true := by
  obtain ⟨H, enc, base, spare, held, fuel, x, hx⟩ := h
  obtain ⟨n, h1, _, h2⟩ := DataW.trod_int ht hx
  exact ⟨n, h1, h2⟩
theorem Rd.bool (h : Rd w t cs) (ht : Tryz.prog.underlying t = some .bool) : ∃ b, cs = [.bool b] := by
  obtain ⟨H, enc, base, spare, held, fuel, x, hx⟩ := h
  obtain ⟨n, h1, _⟩ := DataW.trod_bool ht hx
  exact ⟨n, h1⟩
theorem Rd.string (h : Rd w t cs) (ht : Tryz.prog.underlying t = some .string) : ∃ s : ByteArray, cs = [.string s] ∧ s.size ≤ maxLen := by
  obtain ⟨H, enc, base, spare, held, fuel, x, hx⟩ := h
  obtain ⟨n, h1, _, h2⟩ := DataW.trod_string ht hx
  exact ⟨n, h1, h2⟩
theorem Rd.struct {fs : Array Field} (h : Rd w t cs) (ht : Tryz.prog.underlying t = some (.struct fs)) :
    cs.length = Tryz.prog.cellsOf t ∧ ∀ (i : Nat) (f : Field), fs[i]? = some f → Rd w f.type ((cs.drop f.offset).take (Tryz.prog.cellsOf f.type)) := by
  obtain ⟨H, enc, base, spare, held, fuel, x, hx⟩ := h
  obtain ⟨xs, n, _, _, hl, hxl, hf⟩ := DataW.trod_struct ht hx
  refine ⟨hl, fun i f hi => ?_⟩
  have h1 := hf i f hi
  have hlt : i < xs.length := by rw [hxl]; exact (Array.getElem?_eq_some_iff.1 hi).1
  rw [List.getElem?_eq_getElem hlt] at h1
  exact ⟨H, enc, base, spare, held, n, _, h1⟩
theorem Rd.array {n : Nat} (h : Rd w t cs) (ht : Tryz.prog.underlying t = some (.array n e)) :
    cs.length = Tryz.prog.cellsOf t ∧ ∀ i, i < n → Rd w e ((cs.drop (i * Tryz.prog.cellsOf e)).take (Tryz.prog.cellsOf e)) := by
  obtain ⟨H, enc, base, spare, held, fuel, x, hx⟩ := h
  obtain ⟨xs, m, _, _, hl, hxl, hf⟩ := DataW.trod_array ht hx
  refine ⟨hl, fun i hi => ?_⟩
  have h1 := hf i hi
  rw [List.getElem?_eq_getElem (by omega)] at h1
  exact ⟨H, enc, base, spare, held, m, _, h1⟩
/-- A slice: empty, or so many elements in a row. -/
theorem Rd.slice (h : Rd w t cs) (ht : Tryz.prog.underlying t = some (.slice e)) (hE : 0 < Tryz.prog.cellsOf e) :
    (∃ a c, cs = [.slice a 0 c] ∧ c ≤ maxLen) ∨ ∃ b off len cap, cs = [.slice (some ⟨b, off, none⟩) len cap] ∧ 0 < len ∧ len ≤ cap ∧ cap ≤ maxLen ∧ b < w.heap.size ∧
      ∀ i, i < len → ∃ cs', cs'.length = Tryz.prog.cellsOf e ∧ (∀ j, j < Tryz.prog.cellsOf e → w.cell? ⟨b, off + i * Tryz.prog.cellsOf e + j, none⟩ = cs'[j]?) ∧ Rd w e cs' := by
  obtain ⟨H, enc, base, spare, held, fuel, x, hx⟩ := h
  rcases open_slice ht hx with ⟨h0, _⟩ | ⟨a, len, cap, m, n, D, Pl, hcs, hb, hl, hm, hmm, _, hi⟩
  · exact .inl ⟨_, _, h0, Nat.zero_le _⟩
  · by_cases h0 : len = 0
    · subst h0; exact .inl ⟨_, _, hcs, hm⟩
    · right
      obtain ⟨b, off, spot⟩ := a
      have hlm : len ≤ m := by rw [hmm]; split <;> omega
      have hspot : spot = none := by
        obtain ⟨cs', hc, _⟩ := hi 0 (by omega)
        obtain ⟨_, hcl, hat⟩ := World.cells?_some hc
        have h1 := hat 0 hE
        have : cs'[0]? = some (cs'[0]'(by omega)) := List.getElem?_eq_getElem (by omega)
        rw [this] at h1
        have := World.cell?_spot h1
        unfold Addr.add at this
        split at this <;> simp_all
      subst hspot
      have hadd : ∀ o i : Nat, (⟨b, o, none⟩ : Addr).add i = ⟨b, o + i, none⟩ := fun o i => by unfold Addr.add; split <;> simp_all
      have hel : ∀ i, i < len → ∃ cs', cs'.length = Tryz.prog.cellsOf e ∧ (∀ j, j < Tryz.prog.cellsOf e → w.cell? ⟨b, off + i * Tryz.prog.cellsOf e + j, none⟩ = cs'[j]?) ∧ Rd w e cs' := by
        intro i hil
        obtain ⟨cs', hc, ht'⟩ := hi i (by omega)
        obtain ⟨_, hcl, hat⟩ := World.cells?_some hc
        refine ⟨cs', hcl, fun j hj => ?_, H, enc, base, spare, held, n, _, ht'⟩
        have := hat j hj
        rw [hadd, hadd] at this
        exact this
      refine ⟨b, off, len, cap, hcs, by omega, hl, hm, ?_, hel⟩
      obtain ⟨cs', hcl, hat, _⟩ := hel 0 (by omega)
      have h1 := hat 0 hE
      rw [List.getElem?_eq_getElem (by omega)] at h1
      exact World.block_lt_of_cell? w _ h1
end

theorem Tryz.own : ownKnob Tryz.prog.godebug = none := by kernel_rfl
theorem Tryz.laidOut : laidOutB Tryz.prog = true := by kernel_rfl
set_option maxRecDepth 100000 in
theorem agg_struct {w : World} {r : Reach} {b t : Nat} {fs : Array Field} {v : Value} (ht : Tryz.prog.underlying t = some (.struct fs)) (h : Value.okWide Tryz.prog w r b t v) : ∃ cs, v = .agg cs := by
  simp only [Value.okWide, ht] at h
  obtain ⟨cs, h, _⟩ := h
  exact ⟨cs, h⟩
theorem pick_list {α : Type} (d : α) {P : Nat → α → Prop} (n : Nat) (h : ∀ i, i < n → ∃ x, P i x) : ∃ l : List α, l.length = n ∧ ∀ i, i < n → P i (l.getD i d) := by
  induction n with
  | zero => exact ⟨[], rfl, fun i hi => by omega⟩
  | succ n ih =>
    obtain ⟨l, hl, hP⟩ := ih (fun i hi => h i (by omega))
    obtain ⟨x, hx⟩ := h n (by omega)
    refine ⟨l ++ [x], by simp [hl], fun i hi => ?_⟩
    by_cases e : i = n
    · subst e; simp [List.getD, ← hl]; rw [hl]; exact hx
    · have := hP i (by omega)
      simpa [List.getD, List.getElem?_append_left (show i < l.length by omega)] using this


theorem Tryz.cells3 : Tryz.prog.cellsOf 39 = 3 := by kernel_rfl
theorem Tryz.cells1 : Tryz.prog.cellsOf 3 = 1 := by kernel_rfl
theorem open_intsR {w : World} {lv : Value} (h : Rd w 24 [lv]) : ∃ l, PtsAt w.heap.size w lv l ∧ (∀ x ∈ l, R64 x) ∧ ∃ a c, lv = .slice a l.length c ∧ l.length ≤ c ∧ c ≤ 9223372036854775807 := by
  rcases h.slice Tryz.underlying24 (by rw [Tryz.cells1]; decide) with ⟨a, c, hs, hcm⟩ | ⟨b, off, len, cap, hs, h0, hl, hm, hb, hi⟩
  · unfold maxLen at hcm
    refine ⟨[], .inl ⟨a, c, by simpa using hs, rfl⟩, ?_, a, c, by simpa using hs, Nat.zero_le _, by omega⟩
    intro x hx; cases hx
  · rw [Tryz.cells1] at hi
    obtain ⟨l, hll, hP⟩ := pick_list (0 : Int) (P := fun j t => w.cell? ⟨b, off + j, none⟩ = some (.int .i64 t) ∧ R64 t) len (fun j hj => by
        obtain ⟨cs', hl', hat, hr⟩ := hi j hj
        obtain ⟨t, rfl, wt⟩ := hr.int Tryz.underlying3
        have := hat 0 (by omega)
        rw [Nat.mul_one] at this
        exact ⟨t, this, bounds_i64 wt⟩)
    unfold maxLen at hm
    refine ⟨l, .inr ⟨b, off, cap, ?_, hb, by omega, by omega, fun j hj => (hP j (by omega)).1⟩, fun x hx => ?_, _, cap, by rw [hll]; simpa using hs, by omega, by omega⟩
    · rw [hll]; simpa using hs
    · obtain ⟨k, hk, rfl⟩ := List.getElem_of_mem hx
      have := (hP k (by omega)).2
      rw [show l.getD k 0 = l[k] by simp [List.getD, hk]] at this
      exact this

theorem Tryz.cellsPn : Tryz.prog.cellsOf 26 = 11 := by kernel_rfl
theorem Tryz.cells6R : Tryz.prog.cellsOf 22 = 6 := by kernel_rfl
theorem Tryz.cellsL3 : Tryz.prog.cellsOf 23 = 1 := by kernel_rfl
theorem Tryz.cellsLR : Tryz.prog.cellsOf 24 = 1 := by kernel_rfl
theorem Tryz.cellsBo : Tryz.prog.cellsOf 4 = 1 := by kernel_rfl
theorem sixR_of {cs : List Value} (h : cs.length = 6) : ∃ a b c d e f, cs = [a, b, c, d, e, f] := by
  match cs, h with
  | [a, b, c, d, e, f], _ => exact ⟨a, b, c, d, e, f, rfl⟩
theorem eleven_of {cs : List Value} (h : cs.length = 11) : ∃ a b c d e f g i j k l, cs = [a, b, c, d, e, f, g, i, j, k, l] := by
  match cs, h with
  | [a, b, c, d, e, f, g, i, j, k, l], _ => exact ⟨a, b, c, d, e, f, g, i, j, k, l, rfl⟩
set_option maxRecDepth 100000 in
theorem open_triR {w : World} {cs : List Value} (h : Rd w 39 cs) : ∃ t : Int × Int × Int, cs = [.int .i64 t.1, .int .i64 t.2.1, .int .i64 t.2.2] ∧ R64 t.1 ∧ R64 t.2.1 ∧ R64 t.2.2 := by
  obtain ⟨hl, hi⟩ := h.array Tryz.underlying39
  rw [Tryz.cells3] at hl
  rw [Tryz.cells1] at hi
  match cs, hl with
  | [x, y, z], _ =>
    obtain ⟨a, ha, w1⟩ := (hi 0 (by decide)).int Tryz.underlying3
    obtain ⟨b, hb, w2⟩ := (hi 1 (by decide)).int Tryz.underlying3
    obtain ⟨c, hc, w3⟩ := (hi 2 (by decide)).int Tryz.underlying3
    simp at ha hb hc
    subst ha hb hc
    exact ⟨(a, b, c), rfl, bounds_i64 w1, bounds_i64 w2, bounds_i64 w3⟩
set_option maxRecDepth 100000 in
theorem open_sixR {w : World} {cs : List Value} (h : Rd w 22 cs) : ∃ a b c d e f : Int, cs = [.int .i64 a, .int .i64 b, .int .i64 c, .int .i64 d, .int .i64 e, .int .i64 f] ∧ R64 a ∧ R64 b ∧ R64 c ∧ R64 d ∧ R64 e ∧ R64 f := by
  obtain ⟨hl, hi⟩ := h.array Tryz.underlying22
  have h0 := hi 0 (by decide)
  have h1 := hi 1 (by decide)
  have h2 := hi 2 (by decide)
  have h3 := hi 3 (by decide)
  have h4 := hi 4 (by decide)
  have h5 := hi 5 (by decide)
  rw [Tryz.cells1] at h0 h1 h2 h3 h4 h5
  obtain ⟨a, b, c, d, e, f, hcs⟩ := sixR_of (hl.trans Tryz.cells6R)
  rw [hcs] at h0 h1 h2 h3 h4 h5
  obtain ⟨x0, g0, w0⟩ := h0.int Tryz.underlying3
  obtain ⟨x1, g1, w1⟩ := h1.int Tryz.underlying3
  obtain ⟨x2, g2, w2⟩ := h2.int Tryz.underlying3
  obtain ⟨x3, g3, w3⟩ := h3.int Tryz.underlying3
  obtain ⟨x4, g4, w4⟩ := h4.int Tryz.underlying3
  obtain ⟨x5, g5, w5⟩ := h5.int Tryz.underlying3
  simp at g0 g1 g2 g3 g4 g5
  subst g0 g1 g2 g3 g4 g5
  exact ⟨x0, x1, x2, x3, x4, x5, hcs, bounds_i64 w0, bounds_i64 w1, bounds_i64 w2, bounds_i64 w3, bounds_i64 w4, bounds_i64 w5⟩
theorem open_lnsR {w : World} {lv : Value} (h : Rd w 23 [lv]) : ∃ l : List (Int × Int × Int), (∃ a c, lv = .slice a l.length c ∧ l.length ≤ c ∧ c ≤ 9223372036854775807 ∧ ∀ k (_ : k < l.length), ∃ b off, a = some ⟨b, off, none⟩ ∧ b < w.heap.size ∧ w.cell? ⟨b, off + k * 3, none⟩ = some (.int .i64 l[k].1) ∧ w.cell? ⟨b, off + k * 3 + 1, none⟩ = some (.int .i64 l[k].2.1) ∧ w.cell? ⟨b, off + k * 3 + 2, none⟩ = some (.int .i64 l[k].2.2)) ∧ ∀ x ∈ l, R64 x.2.1 ∧ R64 x.2.2 := by
  rcases h.slice Tryz.underlying23 (by rw [Tryz.cells3]; decide) with ⟨a, c, hs, hcm⟩ | ⟨b, off, len, cap, hs, h0, hl, hm, hb, hi⟩
  · unfold maxLen at hcm
    refine ⟨[], ⟨a, c, by simpa using hs, Nat.zero_le _, by omega, ?_⟩, ?_⟩
    · intro k hk; exact absurd hk (Nat.not_lt_zero _)
    · intro x hx; cases hx
  · rw [Tryz.cells3] at hi
    obtain ⟨l, hll, hP⟩ := pick_list ((0, 0, 0) : Int × Int × Int) (P := fun j t => (w.cell? ⟨b, off + j * 3, none⟩ = some (.int .i64 t.1) ∧ w.cell? ⟨b, off + j * 3 + 1, none⟩ = some (.int .i64 t.2.1) ∧ w.cell? ⟨b, off + j * 3 + 2, none⟩ = some (.int .i64 t.2.2)) ∧ R64 t.1 ∧ R64 t.2.1 ∧ R64 t.2.2) len (fun j hj => by
        obtain ⟨cs', hl', hat, hr⟩ := hi j hj
        obtain ⟨t, rfl, hx, hy, hz⟩ := open_triR hr
        exact ⟨t, ⟨hat 0 (by omega), hat 1 (by omega), hat 2 (by omega)⟩, hx, hy, hz⟩)
    unfold maxLen at hm
    have hg : ∀ k (hk : k < l.length), l.getD k (0, 0, 0) = l[k] := fun k hk => by simp [List.getD, hk]
    refine ⟨l, ⟨some ⟨b, off, none⟩, cap, by rw [hll]; simpa using hs, by omega, by omega, fun k hk => ⟨b, off, rfl, hb, ?_⟩⟩, fun x hx => ?_⟩
    · have := (hP k (by omega)).1
      rw [hg k hk] at this
      exact this
    · obtain ⟨k, hk, rfl⟩ := List.getElem_of_mem hx
      have := (hP k (by omega)).2
      rw [hg k hk] at this
      exact ⟨this.2.1, this.2.2⟩
set_option maxRecDepth 100000 in
theorem open_plan13 {w : World} {r : Reach} {base : Nat} {v : Value} (ok : Value.okWide Tryz.prog w r base 26 v) (h : Rd w 26 v.cells.toList) :
    ∃ (p : Plan13) (vl vb : Value), v = .agg (plCells p vl vb) ∧ PlAt13 w p vl vb ∧ Pl64 p := by
  obtain ⟨cs, rfl⟩ := agg_struct Tryz.underlying26 ok
  obtain ⟨hl, hf⟩ := h.struct Tryz.underlying26
  rw [Tryz.cellsPn] at hl
  have h0 : Rd w 3 ((_ : List Value).take (Tryz.prog.cellsOf 3)) := hf 0 _ rfl
  have h1 : Rd w 22 ((_ : List Value).take (Tryz.prog.cellsOf 22)) := hf 1 _ rfl
  have h2 : Rd w 23 ((_ : List Value).take (Tryz.prog.cellsOf 23)) := hf 2 _ rfl
  have h3 : Rd w 4 ((_ : List Value).take (Tryz.prog.cellsOf 4)) := hf 3 _ rfl
  have h4 : Rd w 24 ((_ : List Value).take (Tryz.prog.cellsOf 24)) := hf 4 _ rfl
  have h5 : Rd w 4 ((_ : List Value).take (Tryz.prog.cellsOf 4)) := hf 5 _ rfl
  rw [Tryz.cells1] at h0
  rw [Tryz.cells6R] at h1
  rw [Tryz.cellsL3] at h2
  rw [Tryz.cellsBo] at h3 h5
  rw [Tryz.cellsLR] at h4
  obtain ⟨a, b, c, d, e, f, g, i, j, k, l, hcs⟩ := eleven_of hl
  simp only [hcs] at h0 h1 h2 h3 h4 h5
  obtain ⟨z0, g0, w0⟩ := (show Rd w 3 [a] from h0).int Tryz.underlying3
  obtain ⟨y0, y1, y2, y3, y4, y5, gy, r0, r1, r2, r3, r4, r5⟩ := open_sixR (show Rd w 22 [b, c, d, e, f, g] from h1)
  obtain ⟨L, hL, hLR⟩ := open_lnsR (show Rd w 23 [i] from h2)
  obtain ⟨b1, gb1⟩ := (show Rd w 4 [j] from h3).bool Tryz.underlying4
  obtain ⟨B, hB, hBW, _⟩ := open_intsR (show Rd w 24 [k] from h4)
  obtain ⟨b2, gb2⟩ := (show Rd w 4 [l] from h5).bool Tryz.underlying4
  simp only [List.cons.injEq, and_true] at g0 gy gb1 gb2
  obtain ⟨rfl, rfl, rfl, rfl, rfl, rfl⟩ := gy
  subst g0 gb1 gb2
  refine ⟨⟨z0, y0, y1, y2, y3, y4, y5, L, b1, B, b2⟩, i, k, ?_, ⟨hL, hB⟩, ⟨r1, r2, r3, r4, hLR, hBW⟩⟩
  · simp only [Value.cells] at hcs
    congr 1
    apply Array.ext'
    exact hcs
end Go.Proofs.YteikkpiginfbkaaGreatDoor

namespace Go.Proofs.YteikkpiginfbkaaGreatDoor
open Go.RowKit Go.ChangeShapes Go.WideShapes Go.ChangeAt Go.Deep

theorem Tryz.cellsPe : Tryz.prog.cellsOf 41 = 7 := by kernel_rfl
theorem seven_of {cs : List Value} (h : cs.length = 7) : ∃ a b c d e f g, cs = [a, b, c, d, e, f, g] := by
  match cs, h with
  | [a, b, c, d, e, f, g], _ => exact ⟨a, b, c, d, e, f, g, rfl⟩
set_option maxRecDepth 100000 in
theorem open_pers {w : World} {r : Reach} {base : Nat} {v : Value} (ok : Value.okWide Tryz.prog w r base 41 v) (h : Rd w 41 v.cells.toList) :
    ∃ (q : Pers) (vp vw vg : Value), v = .agg (peCells q vp vw vg) ∧ PeAt w q vp vw vg := by
  obtain ⟨cs, rfl⟩ := agg_struct Tryz.underlying41 ok
  obtain ⟨hl, hf⟩ := h.struct Tryz.underlying41
  rw [Tryz.cellsPe] at hl
  have h0 : Rd w 39 ((_ : List Value).take (Tryz.prog.cellsOf 39)) := hf 0 _ rfl
  have h1 : Rd w 24 ((_ : List Value).take (Tryz.prog.cellsOf 24)) := hf 1 _ rfl
  have h2 : Rd w 24 ((_ : List Value).take (Tryz.prog.cellsOf 24)) := hf 2 _ rfl
  have h3 : Rd w 24 ((_ : List Value).take (Tryz.prog.cellsOf 24)) := hf 3 _ rfl
  have h4 : Rd w 4 ((_ : List Value).take (Tryz.prog.cellsOf 4)) := hf 4 _ rfl
  rw [Tryz.cells3] at h0
  rw [Tryz.cellsLR] at h1 h2 h3
  rw [Tryz.cellsBo] at h4
  obtain ⟨a, b, c, d, e, f, g, hcs⟩ := seven_of hl
  simp only [hcs] at h0 h1 h2 h3 h4
  obtain ⟨x, gx, _⟩ := open_triR (show Rd w 39 [a, b, c] from h0)
  obtain ⟨P, hP, _⟩ := open_intsR (show Rd w 24 [d] from h1)
  obtain ⟨W, hW, _⟩ := open_intsR (show Rd w 24 [e] from h2)
  obtain ⟨G, hG, _⟩ := open_intsR (show Rd w 24 [f] from h3)
  obtain ⟨b1, gb1⟩ := (show Rd w 4 [g] from h4).bool Tryz.underlying4
  simp only [List.cons.injEq, and_true] at gx gb1
  obtain ⟨rfl, rfl, rfl⟩ := gx
  subst gb1
  refine ⟨⟨x.1, x.2.1, x.2.2, P, W, G, b1⟩, d, e, f, ?_, ⟨hP, hW, hG⟩⟩
  simp only [Value.cells] at hcs
  congr 1
  apply Array.ext'
  exact hcs
end Go.Proofs.YteikkpiginfbkaaGreatDoor
