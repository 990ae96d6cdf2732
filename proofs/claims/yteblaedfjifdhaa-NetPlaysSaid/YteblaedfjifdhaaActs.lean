/-
  The law NetPlays' slice of calls, opened, with the reach of each slice of groups.
-/
import Derived.Test.YteblaedfjifdhaaOpen3
import Derived.SizedLaws
namespace Go.Proofs.Yteblaedfjifdhaa
open Go.ChangeShapes Go.WideShapes Go.ChangeAt Go.RowKit Go.Deep

/-- Cells that can be read at type t, each slice and string within the form's reach. -/
def RdS (w : World) (t : TypeId) (cs : List Value) : Prop :=
  ∃ (H : Type) (enc : TypeId × Value → H) (base : Nat) (spare : Nat → Bool) (held : Bool) (fuel : Nat) (x : DataW H × List MemPlace), DataW.trod enc Try.prog w base spare held fuel t cs = some x ∧ ∀ n ∈ x.1.weights Try.prog t, n ≤ reachBytes

theorem weightsAll_mem {H : Type} {P : Program} {e : TypeId} : ∀ {l : List (DataW H)} {d : DataW H}, d ∈ l → ∀ n ∈ d.weights P e, n ∈ DataW.weightsAll P e l
  | d0 :: l, d, hd, n, hn => by
    simp only [DataW.weightsAll, List.mem_append]
    rcases List.mem_cons.1 hd with rfl | hd
    · exact .inl hn
    · exact .inr (weightsAll_mem hd n hn)
  | [], _, hd, _, _ => by cases hd

section
variable {w : World} {t e : TypeId} {cs : List Value}
theorem RdS.of {H : Type} {enc : TypeId × Value → H} {base : Nat} {spare : Nat → Bool} {held : Bool} {v : Value} {d : DataW H} {p : List MemPlace} (h : DataW.Trod enc Try.prog w base spare held t v d p) (hw : ∀ n ∈ d.weights Try.prog t, n ≤ reachBytes) : RdS w t v.cells.toList := by
  obtain ⟨fuel, hf⟩ := h
  exact ⟨H, enc, base, spare, held, fuel, _, hf, hw⟩
theorem RdS.rd (h : RdS w t cs) : Rd w t cs := by
  obtain ⟨H, enc, base, spare, held, fuel, x, hx, _⟩ := h
  exact ⟨H, enc, base, spare, held, fuel, x, hx⟩
theorem RdS.struct {fs : Array Field} (h : RdS w t cs) (ht : Try.prog.underlying t = some (.struct fs)) :
    cs.length = Try.prog.cellsOf t ∧ ∀ (i : Nat) (f : Field), fs[i]? = some f → RdS w f.type ((cs.drop f.offset).take (Try.prog.cellsOf f.type)) := by
  obtain ⟨H, enc, base, spare, held, fuel, x, hx, hw⟩ := h
  obtain ⟨xs, n, _, he, hl, hxl, hf⟩ := DataW.trod_struct ht hx
  refine ⟨hl, fun i f hi => ?_⟩
  have h1 := hf i f hi
  have hlt : i < xs.length := by rw [hxl]; exact (Array.getElem?_eq_some_iff.1 hi).1
  rw [List.getElem?_eq_getElem hlt] at h1
  refine ⟨H, enc, base, spare, held, n, _, h1, fun m hm => hw m ?_⟩
  rw [he]
  simp only [DataW.weights, ht]
  exact DataW.weights_mem_each (j := i) (t := f.type) (d := xs[i].1) (by simp [hi]) (by simp [hlt]) m hm
/-- A slice: nil, or so many elements in a row, which take no more than the reach. -/
theorem RdS.slice (h : RdS w t cs) (ht : Try.prog.underlying t = some (.slice e)) (hE : 0 < Try.prog.cellsOf e) :
    cs = [.slice none 0 0] ∨ ∃ a len cap, cs = [.slice (some a) len cap] ∧ len ≤ cap ∧ cap ≤ maxLen ∧ len * Try.prog.bytesOf e ≤ reachBytes ∧
      (0 < len → ∃ b off, a = ⟨b, off, none⟩ ∧ b < w.heap.size ∧
      ∀ i, i < len → ∃ cs', cs'.length = Try.prog.cellsOf e ∧ (∀ j, j < Try.prog.cellsOf e → w.cell? ⟨b, off + i * Try.prog.cellsOf e + j, none⟩ = cs'[j]?) ∧ RdS w e cs') := by
  obtain ⟨H, enc, base, spare, held, fuel, x, hx, hw⟩ := h
  rcases open_slice ht hx with ⟨h0, _⟩ | ⟨a, len, cap, m, n, D, Pl, hcs, hb, hl, hm, hmm, he, hi⟩
  · exact .inl h0
  · right
    have hlm : len ≤ m := by rw [hmm]; split <;> omega
    have hww : ∀ k ∈ (DataW.slice ((List.range len).map D) ((List.range (m - len)).map fun j => D (len + j))).weights Try.prog t, k ≤ reachBytes := by
      rw [he] at hw; exact hw
    have hlen : len * Try.prog.bytesOf e ≤ reachBytes := by
      have := hww ((((List.range len).map D).length + ((List.range (m - len)).map fun j => D (len + j)).length) * Try.prog.bytesOf e) (by simp only [DataW.weights, ht]; exact List.mem_cons_self)
      simp only [List.length_map, List.length_range] at this
      refine Nat.le_trans (Nat.mul_le_mul_right _ ?_) this
      omega
    refine ⟨a, len, cap, hcs, hl, hm, hlen, fun hpos => ?_⟩
    obtain ⟨b, off, spot⟩ := a
    have hspot : spot = none := by
      obtain ⟨cs', hc, _⟩ := hi 0 (by omega)
      obtain ⟨_, hcl, hat⟩ := World.cells?_some hc
      have h1 := hat 0 hE
      have : cs'[0]? = some (cs'[0]'(by omega)) := List.getElem?_eq_getElem (by omega)
      rw [this] at h1
      have := World.cell?_spot h1
      unfold Addr.add at this
      split at this <;> simp_all
    subst hspot
    have hadd : ∀ o i : Nat, (⟨b, o, none⟩ : Addr).add i = ⟨b, o + i, none⟩ := fun o i => by unfold Addr.add; split <;> simp_all
    have hel : ∀ i, i < len → ∃ cs', cs'.length = Try.prog.cellsOf e ∧ (∀ j, j < Try.prog.cellsOf e → w.cell? ⟨b, off + i * Try.prog.cellsOf e + j, none⟩ = cs'[j]?) ∧ RdS w e cs' := by
      intro i hil
      obtain ⟨cs', hc, ht'⟩ := hi i (by omega)
      obtain ⟨_, hcl, hat⟩ := World.cells?_some hc
      refine ⟨cs', hcl, fun j hj => ?_, H, enc, base, spare, held, n, _, ht', fun k hk => hww k ?_⟩
      · have := hat j hj
        rw [hadd, hadd] at this
        exact this
      · simp only [DataW.weights, ht]
        refine List.mem_cons_of_mem _ (List.mem_append.2 (.inl (weightsAll_mem (d := D i) ?_ k hk)))
        exact List.mem_map.2 ⟨i, List.mem_range.2 hil, rfl⟩
    refine ⟨b, off, rfl, ?_, hel⟩
    obtain ⟨cs', hcl, hat, _⟩ := hel 0 hpos
    have h1 := hat 0 hE
    rw [List.getElem?_eq_getElem (by omega)] at h1
    exact World.block_lt_of_cell? w _ h1
end

/-- Groups that came in. -/
structure GrsAt (w : World) (gv : Value) (zs : List Int) : Prop where
  form : (gv = .slice none 0 0 ∧ zs = []) ∨ ∃ a c, gv = .slice (some a) zs.length c ∧ (0 < zs.length → ∃ b off, a = ⟨b, off, none⟩ ∧ b < w.heap.size ∧ ∀ j, j < zs.length → w.cell? ⟨b, off + j, none⟩ = some (.int .i64 (zs.getD j 0)))
  wf : IntsWf zs
  size : zs.length * 8 ≤ 140737488351232
theorem Try.bytes3 : Try.prog.bytesOf 3 = 8 := by kernel_rfl
theorem open_ints {w : World} {gv : Value} (h : RdS w 32 [gv]) : ∃ zs, GrsAt w gv zs := by
  rcases h.slice Try.underlying32 (by rw [Try.cells3]; decide) with hs | ⟨a, len, cap, hs, hl, hm, hz, hi⟩
  · exact ⟨[], ⟨.inl ⟨by simpa using hs, rfl⟩, fun j hj => by simp at hj, by simp⟩⟩
  · rw [Try.bytes3] at hz
    rw [Try.cells3] at hi
    simp only [reachBytes] at hz
    have hs' : gv = .slice (some a) len cap := by simpa using hs
    by_cases h0 : 0 < len
    · obtain ⟨b, off, rfl, hb, hel⟩ := hi h0
      obtain ⟨l, hll, hP⟩ := pick_list (0 : Int) (P := fun j t => w.cell? ⟨b, off + j, none⟩ = some (.int .i64 t) ∧ (Lit.int .i64 t).wf = true) len (fun j hj => by
          obtain ⟨cs', hl', hat, hr⟩ := hel j hj
          obtain ⟨t, rfl, wt⟩ := hr.rd.int Try.underlying3
          have := hat 0 (by omega)
          rw [Nat.mul_one] at this
          exact ⟨t, this, wt⟩)
      refine ⟨l, ⟨.inr ⟨_, cap, by rw [hll]; exact hs', fun _ => ⟨b, off, rfl, hb, fun j hj => (hP j (by omega)).1⟩⟩, fun j hj => (hP j (by omega)).2, by rw [hll]; exact hz⟩⟩
    · have h00 : len = 0 := by omega
      subst h00
      exact ⟨[], ⟨.inr ⟨a, cap, hs', fun h => by simp at h⟩, fun j hj => by simp at hj, by simp⟩⟩

/-- A call of the law. -/
structure Ac where
  kind : Int
  now : Int
  fr : Int
  tt : Int
  tx : ByteArray
  gv : Value
  zs : List Int
def Ac.cells (x : Ac) : List Value := [.int .i64 x.kind, .int .i64 x.now, .int .i64 x.fr, .int .i64 x.tt, .string x.tx, x.gv]
structure AcWf (w : World) (x : Ac) : Prop where
  now : -9223372036854775808 ≤ x.now ∧ x.now ≤ 9223372036854775807
  fr : (Lit.int .i64 x.fr).wf = true
  tt : (Lit.int .i64 x.tt).wf = true
  grs : GrsAt w x.gv x.zs
def acEl (l : List Ac) (i : Nat) : Ac := l.getD i ⟨0, 0, 0, 0, ByteArray.empty, .slice none 0 0, []⟩
def ActsAt (w : World) (av : Value) (l : List Ac) : Prop :=
  (∃ a c, av = .slice a 0 c ∧ l = []) ∨ ∃ gb off c, av = .slice (some ⟨gb, off, none⟩) l.length c ∧ gb < w.heap.size ∧ 0 < l.length ∧ l.length ≤ c ∧ c ≤ maxLen ∧
    ∀ j, j < l.length → (∀ i, i < 6 → w.cell? ⟨gb, off + j * 6 + i, none⟩ = (acEl l j).cells[i]?) ∧ AcWf w (acEl l j)
theorem Try.cells34 : Try.prog.cellsOf 34 = 6 := by kernel_rfl
theorem Try.cells32 : Try.prog.cellsOf 32 = 1 := by kernel_rfl
theorem six_of {cs : List Value} (h : cs.length = 6) : ∃ a b c d e f, cs = [a, b, c, d, e, f] := by
  match cs, h with
  | [a, b, c, d, e, f], _ => exact ⟨a, b, c, d, e, f, rfl⟩
theorem open_act {w : World} {cs : List Value} (h : RdS w 34 cs) : ∃ x : Ac, cs = x.cells ∧ AcWf w x := by
  obtain ⟨hl, hi⟩ := h.struct Try.underlying34
  have h0 : RdS w 3 ((cs.drop 0).take (Try.prog.cellsOf 3)) := hi 0 _ rfl
  have h1 : RdS w 3 ((cs.drop 1).take (Try.prog.cellsOf 3)) := hi 1 _ rfl
  have h2 : RdS w 31 ((cs.drop 2).take (Try.prog.cellsOf 31)) := hi 2 _ rfl
  have h3 : RdS w 32 ((cs.drop 5).take (Try.prog.cellsOf 32)) := hi 3 _ rfl
  rw [Try.cells3] at h0 h1
  rw [Try.cells31] at h2
  rw [Try.cells32] at h3
  obtain ⟨a, b, c, d, e, f, rfl⟩ := six_of (hl.trans Try.cells34)
  obtain ⟨x, hx, wx⟩ := h0.rd.int Try.underlying3
  obtain ⟨y, hy, wy⟩ := h1.rd.int Try.underlying3
  obtain ⟨p, q, r, hz, wp, wq⟩ := open_msg h2.rd
  simp at hx hy hz
  obtain ⟨rfl, rfl, rfl⟩ := hz
  subst hx hy
  obtain ⟨zs, hzs⟩ := open_ints (gv := f) (by simpa using h3)
  exact ⟨⟨x, y, p, q, r, f, zs⟩, rfl, ⟨bounds_i64 wy, wp, wq, hzs⟩⟩
/-- []Act. -/
theorem open_acts {w : World} {av : Value} (h : RdS w 23 [av]) : ∃ l, ActsAt w av l := by
  rcases h.slice Try.underlying23 (by rw [Try.cells34]; decide) with hs | ⟨a, len, cap, hs, hl, hm, hz, hi⟩
  · exact ⟨[], .inl ⟨none, 0, by simpa using hs, rfl⟩⟩
  · have hs' : av = .slice (some a) len cap := by simpa using hs
    by_cases h0 : 0 < len
    · rw [Try.cells34] at hi
      obtain ⟨b, off, rfl, hb, hel⟩ := hi h0
      obtain ⟨l, hll, hP⟩ := pick_list (⟨0, 0, 0, 0, ByteArray.empty, .slice none 0 0, []⟩ : Ac) (P := fun j x => (∀ i, i < 6 → w.cell? ⟨b, off + j * 6 + i, none⟩ = x.cells[i]?) ∧ AcWf w x) len (fun j hj => by
          obtain ⟨cs', hl', hat, hr⟩ := hel j hj
          obtain ⟨x, rfl, hx⟩ := open_act hr
          exact ⟨x, hat, hx⟩)
      exact ⟨l, .inr ⟨b, off, cap, by rw [hll]; exact hs', hb, by omega, by omega, hm, fun j hj => hP j (by omega)⟩⟩
    · have h00 : len = 0 := by omega
      subst h00
      exact ⟨[], .inl ⟨_, _, hs', rfl⟩⟩
end Go.Proofs.Yteblaedfjifdhaa
