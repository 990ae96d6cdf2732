/-
  Rules: the program's Parse.
  Rules: the program's Parse.
  Rules: which draws are right (plain); the program's inRange and owns.
  Rules: the program's owns.
  Rules, plain: a text cut at a byte; numerals and their numbers; the lines of a draw.
-/
import Derived.Test.YteikkpiginfbkaaGreatDoorPh19
import Derived.Defers
import Derived.Deep.RegionHeld
import Derived.Recover
import Derived.Deep.DeepCutAuto
import Derived.Deep.CutBlock
namespace Go.Proofs.YteikkpiginfbkaaGreatDoor
open Go.RowKit

theorem ta_fault (v : Value) (w : World) : (Instr.typeAssert (.iface 80 v) 20 80 true).run Tryz.prog w = .ok (.tuple #[v, .bool true]) w := by kernel_rfl
theorem ta_nofault (w : World) : (Instr.typeAssert .nilIface 20 80 true).run Tryz.prog w = .ok (.tuple #[.agg #[.int .i64 0, .int .i64 0], .bool false]) w := by kernel_rfl
/-- A region whose first operation asks for the panic: the rest is walked as any region. -/
theorem wpS_rec {P : Program} {id : Nat} {o : Oper} {l : List Oper} {Q : Exit → Act → List Frame → World → Prop} {a : Act} {cs cs' : List Frame} {w : World} {v : Value} (hw : Region.wanted o (yielded (o :: l).toArray a.tmps) = true)
    (hx : (execOp a.eval o).run P w = .ok .recover w) (hr : recoverD cs = some (v, cs') ∨ (recoverD cs = none ∧ v = .nilIface ∧ cs' = cs))
    (h : wpList P (o :: l).toArray (fun e a w => Q e a cs' w) l (a.put o.dst v) w) : (Code.region id (o :: l).toArray false).wpS P Q a cs w := by
  intro b k hb _
  have h1 := wpOps_eq_wpList (P := P) (ops := (o :: l).toArray) (Q := fun e a w => Q e a cs' w) l 1 (fun j => by simp [Nat.add_comm 1 j])
  rw [← h1] at h
  obtain ⟨e, a', w', hq, harr⟩ := wp_ops _ _ _ h b k cs'
  have ho : (o :: l).toArray[0]? = some o := by simp
  have hrg : List.range (o :: l).toArray.size = 0 :: List.range' 1 l.length := by rw [List.range_eq_range']; simp [List.range'_succ]
  have hg := stepG_op (P := P) (b := b) (k := k) (cs := cs) (w := w) (rest := List.range' 1 l.length) ho hw
  have hfin : (b.at a (.inRegion (o :: l).toArray (0 :: List.range' 1 l.length) :: k)).finish v = b.at (a.put o.dst v) (.inRegion (o :: l).toArray (List.range' 1 l.length) :: k) := by
    rw [Frame.finish_at, ho]; rfl
  have hk : (b.at a (.inRegion (o :: l).toArray (0 :: List.range' 1 l.length) :: k)).kind = .deferred := hb
  have htr := tryRecover_deferred hk cs
  have hs : step P (lone (b.at a (.inRegion (o :: l).toArray (0 :: List.range' 1 l.length) :: k)) cs w) = .next (lone (b.at (a.put o.dst v) (.inRegion (o :: l).toArray (List.range' 1 l.length) :: k)) cs' w) := by
    refine step_lone_go ?_
    rw [hg, ← hfin]
    simp only [Frame.at] at htr ⊢
    rcases hr with hr | ⟨hr, rfl, rfl⟩
    · simp [stepG.apply, hx, htr, hr]
    · simp [stepG.apply, hx, htr, hr]
  have h0 := step_region (P := P) (b := b) (a := a) (k := k) (cs := cs) (w := w) (ops := (o :: l).toArray) (id := id)
  rw [hrg] at h0
  exact ⟨e, a', cs', w', hq, .of_steps (.head h0 (.one hs)) harr⟩
set_option maxHeartbeats 1000000 in
theorem catch_idle (a b c : Addr) (w : World) :
    CallsD Tryz.prog 33 #[.pointer (some a), .pointer (some b), .pointer (some c)] .returning w fun e u' w' => e = .returned (.tuple #[]) ∧ u' = .returning ∧ Only (fun _ => False) w w' := by
  have ta := ta_nofault
  refine callsD_of_wpS Tryz.func33 rfl fun c₀ cs hu => ?_
  simp only [Tryz.ntmps33, List.size_toArray, List.length_cons, List.length_nil, Nat.reduceAdd, Nat.reduceSub, Array.replicate_succ, Array.replicate_zero, List.push_toArray, List.append_toArray, List.nil_append, List.cons_append]
  apply wpS_seq
  refine wpS_rec rfl rfl (.inr ⟨by simp [recoverD, hu], rfl, rfl⟩) ?_
  go_wp2_with fail
  refine wpS_of_wp ?_
  go_wp2_with fail
  refine ⟨rfl, .returning, by cases c₀; simp_all, _, results_none rfl _ _ _, rfl, rfl, (Only.refl _ w).alloc _⟩
def zeroD : Array Value := #[.string ⟨#[]⟩, .int .i64 0, .int .i64 0, .int .i64 0, .int .i64 0, .int .i64 0, .slice none 0 0, .bool false, .slice none 0 0, .int .i64 0, .int .i64 0, .slice none 0 0, .slice none 0 0]
theorem stepR_store_row {P : Program} {w : World} {ops : Array Oper} {o : Oper} {a : Act} {K : Act → World → Prop} {Q : Exit → Act → World → Prop} {E : Prop} (hgd : o.guard = none) (ty : TypeId) (x y : Operand) (ho : o.op = .store ty x y)
    (g : Nat) (cells : Array Value) (hx : a.eval x = .pointer (some ⟨g, 0, none⟩)) (hy : a.eval y = .agg cells)
    (t : TypeId) (old : Array Value) (hg : w.heap[g]? = some (.cells old t (0, 0))) (hi : (P.info? ty).map (·.size) = some cells.size)
    (hold : old.size = cells.size) (h1 : cells.all (·.oneCell') = true)
    (h : K (a.put o.dst undef) (w.setRow g cells)) : if Region.wanted o (yielded ops a.tmps) = true then Oper.wp P o a w K Q else E := by
  have hw : Region.wanted o (yielded ops a.tmps) = true := by simp [Region.wanted, hgd]
  rw [if_pos hw]
  exact wp_store_row ty x y ho g cells hx hy t old hg hi hold h1 h
theorem onlyR_row {S : Nat → Prop} {a w : World} (h : Only S a w) {g : Nat} (hg : S g ∨ a.heap.size ≤ g) (cs : Array Value) : Only S a (w.setRow g cs) :=
  h.trans' (T := fun k => k = g) ⟨rfl, rfl, rfl, by simp, fun k _ hk => setRow_other w g k cs hk⟩
    (fun i hi e => by rcases hg with hg | hg
                      · rw [e]; exact hg
                      · omega)
theorem zeroD_one : zeroD.all (·.oneCell') = true := by kernel_rfl
theorem Tryz.infoDr : (Tryz.prog.info? 33).map (·.size) = some 13 := by kernel_rfl
/-- What the three results hold. -/
def ResAt (w : World) (P1 : Nat) (cs : Array Value) (pos err : Int) : Prop :=
  w.heap[P1]? = some (.cells cs 33 (0, 0)) ∧ w.heap[P1 + 1]? = some (.cells #[.int .i64 pos] 3 (0, 0)) ∧ w.heap[P1 + 2]? = some (.cells #[.int .i64 err] 35 (0, 0))
set_option maxRecDepth 100000 in
set_option maxHeartbeats 2000000 in
theorem catch_panicking (P1 : Nat) (cs0 : Array Value) (pos0 err0 pos err : Int) (older : List PanicEntry) (w : World) (hz : cs0.size = 13) (h : ResAt w P1 cs0 pos0 err0) :
    CallsD Tryz.prog 33 #[.pointer (some ⟨P1, 0, none⟩), .pointer (some ⟨P1 + 1, 0, none⟩), .pointer (some ⟨P1 + 2, 0, none⟩)] (.panicking ({ v := .iface 80 (.agg #[.int .i64 pos, .int .i64 err]), recovered := false } :: older)) w fun e u' w' =>
      e = .returned (.tuple #[]) ∧ u' = .panicking ({ v := .iface 80 (.agg #[.int .i64 pos, .int .i64 err]), recovered := true } :: older) ∧ ResAt w' P1 zeroD pos err ∧ Only (fun k => k = P1 ∨ k = P1 + 1 ∨ k = P1 + 2) w w' := by
  have ta := ta_fault
  obtain ⟨h1, h2, h3⟩ := h
  have l3 := (Array.getElem?_eq_some_iff.1 h3).1
  have H1 := Lib.hid h1
  have k2 : w.cell? ⟨P1 + 1, 0, none⟩ = some (.int .i64 pos0) := cell_of_row _ _ 0 _ _ _ h2
  have k3 : w.cell? ⟨P1 + 2, 0, none⟩ = some (.int .i64 err0) := cell_of_row _ _ 0 _ _ _ h3
  have z2 : w.frozen? ⟨P1 + 1, 0, none⟩ = false := frozen_of_row _ _ _ _ _ h2
  have z3 : w.frozen? ⟨P1 + 2, 0, none⟩ = false := frozen_of_row _ _ _ _ _ h3
  have H2 := Lib.hid h2
  have H3 := Lib.hid h3
  clear h1 h2 h3
  refine callsD_of_wpS Tryz.func33 rfl fun c₀ cs hu => ?_
  simp only [Tryz.ntmps33, List.size_toArray, List.length_cons, List.length_nil, Nat.reduceAdd, Nat.reduceSub, Array.replicate_succ, Array.replicate_zero, List.push_toArray, List.append_toArray, List.nil_append, List.cons_append]
  apply wpS_seq
  refine wpS_rec (v := .iface 80 (.agg #[.int .i64 pos, .int .i64 err])) (cs' := { c₀ with mode := .panicking ({ v := .iface 80 (.agg #[.int .i64 pos, .int .i64 err]), recovered := true } :: older) } :: cs) rfl rfl (.inl (by simp [recoverD, hu])) ?_
  go_wp2_with fail
  refine wpS_of_wp ?_
  go_wp2_with fail
  have HB := Lib.hid (heap_alloc_last w (.cells #[.int .i64 pos, .int .i64 err] 80))
  have HO := Lib.hid ((Only.refl (fun _ => False) w).alloc (.cells #[.int .i64 pos, .int .i64 err] 80))
  generalize World.alloc w _ = w1 at *
  have c0 : w1.cell? ⟨w.heap.size, 0, none⟩ = some (.int .i64 pos) := cell_of_row _ _ 0 _ _ _ HB.out
  have c1 : w1.cell? ⟨w.heap.size, 1, none⟩ = some (.int .i64 err) := cell_of_row _ _ 1 _ _ _ HB.out
  refine wp_region_held_drew (S := fun W => W.cell? ⟨w.heap.size, 0, none⟩ = some (.int .i64 pos) ∧ W.cell? ⟨w.heap.size, 1, none⟩ = some (.int .i64 err)) (by kernel_rfl) ⟨c0, c1⟩ fun hHeld => ?_
  refine' wpAnyH_take (i := 0) (v := _) rfl (by kernel_rfl) (by kernel_rfl) (by kernel_rfl) (fun _ _ _ h => h) (Or.inl ⟨by rfl, ?hy0⟩) hHeld ?r0
  case hy0 => (intro w hSw; obtain ⟨s0, s1⟩ := hSw; go_simp; with_reducible rfl)
  simp only [Act.put, List.getElem_toArray, List.getElem_cons_zero, List.setIfInBounds_toArray, List.set_cons_zero, List.set_cons_succ]
  refine' wpAnyH_take (i := 1) (v := _) rfl (by kernel_rfl) (by kernel_rfl) (by kernel_rfl) (fun _ _ _ h => h) (Or.inl ⟨by rfl, ?hy1⟩) hHeld ?r1
  case hy1 => (intro w hSw; obtain ⟨s0, s1⟩ := hSw; go_simp; with_reducible rfl)
  simp only [Act.put, List.getElem_toArray, List.getElem_cons_zero, List.getElem_cons_succ, List.setIfInBounds_toArray, List.set_cons_zero, List.set_cons_succ]
  refine' wpAnyH_take (i := 2) (v := _) rfl (by kernel_rfl) (by kernel_rfl) (by kernel_rfl) (fun _ _ _ h => h) (Or.inl ⟨by rfl, ?hy2⟩) hHeld ?r2
  case hy2 => (intro w hSw; obtain ⟨s0, s1⟩ := hSw; go_simp; with_reducible rfl)
  simp only [Act.put, List.getElem_toArray, List.getElem_cons_zero, List.getElem_cons_succ, List.setIfInBounds_toArray, List.set_cons_zero, List.set_cons_succ]
  refine' wpAnyH_take (i := 3) (v := _) rfl (by kernel_rfl) (by kernel_rfl) (by kernel_rfl) (fun _ _ _ h => h) (Or.inl ⟨by rfl, ?hy3⟩) hHeld ?r3
  case hy3 => (intro w hSw; obtain ⟨s0, s1⟩ := hSw; go_simp; with_reducible rfl)
  simp only [Act.put, List.getElem_toArray, List.getElem_cons_zero, List.getElem_cons_succ, List.setIfInBounds_toArray, List.set_cons_zero, List.set_cons_succ]
  refine' wpAnyH_take (i := 4) (v := _) rfl (by kernel_rfl) (by kernel_rfl) (by kernel_rfl) (fun _ _ _ h => h) (Or.inl ⟨by rfl, ?hy4⟩) hHeld ?r4
  case hy4 => (intro w hSw; obtain ⟨s0, s1⟩ := hSw; go_simp; with_reducible rfl)
  simp only [Act.put, List.getElem_toArray, List.getElem_cons_zero, List.getElem_cons_succ, List.setIfInBounds_toArray, List.set_cons_zero, List.set_cons_succ]
  have HW5 := Lib.hid (show Only (fun k => k = P1) w (w1.drew.setRow P1 zeroD) from onlyR_row (S := fun k => k = P1) ((HO.out.drew).mono (fun _ _ h => h.elim)) (.inl rfl) _)
  have B1 := Lib.hid (setRow_heap w1.drew P1 cs0 zeroD 33 (0, 0) ((HO.out.drew.block P1 (by omega) (fun h => h)).trans H1.out))
  have B2 := Lib.hid ((HW5.out.block (P1 + 1) (by omega) (by omega)).trans H2.out)
  have B3 := Lib.hid ((HW5.out.block (P1 + 2) (by omega) (by omega)).trans H3.out)
  have s0 := (cell_setRow_other w1.drew P1 zeroD ⟨w.heap.size, 0, none⟩ (by dsimp only; omega)).trans hHeld.1
  have s1 := (cell_setRow_other w1.drew P1 zeroD ⟨w.heap.size, 1, none⟩ (by dsimp only; omega)).trans hHeld.2
  refine wpAnyH_ready (rs := [5]) (by kernel_rfl) (by simp) ?_
  refine AllReadyH.cons rfl (fun K hK => ?_) AllReadyH.nil
  refine stepR_store_row rfl 33 (.tmp 0) (.tmp 11) rfl P1 zeroD rfl rfl 33 cs0 ((HO.out.drew.block P1 (by omega) (fun h => h)).trans H1.out) Tryz.infoDr hz zeroD_one ?_
  refine hK _ _ ⟨s0, s1⟩ (fun hHeld => ?_)
  clear hK K
  generalize w1.drew.setRow P1 zeroD = w5 at *
  simp only [Act.put, List.setIfInBounds_toArray]
  have k2 : w5.cell? ⟨P1 + 1, 0, none⟩ = some (.int .i64 pos0) := cell_of_row _ _ 0 _ _ _ B2.out
  have z2 : w5.frozen? ⟨P1 + 1, 0, none⟩ = false := frozen_of_row _ _ _ _ _ B2.out
  have k3 : w5.cell? ⟨P1 + 2, 0, none⟩ = some (.int .i64 err0) := cell_of_row _ _ 0 _ _ _ B3.out
  have z3 : w5.frozen? ⟨P1 + 2, 0, none⟩ = false := frozen_of_row _ _ _ _ _ B3.out
  refine wpAnyH_ready (rs := [6]) (by kernel_rfl) (by simp) ?_
  refine AllReadyH.cons rfl (fun K hK => ?_) AllReadyH.nil
  go_simp
  have HW6 := Lib.hid ((Only.refl (fun k => k = P1 + 1) w5).setCell (p := ⟨P1 + 1, 0, none⟩) (.inl rfl) (.int .i64 pos))
  refine hK _ _ ⟨HW6.out.cell s0 (by dsimp only; omega), HW6.out.cell s1 (by dsimp only; omega)⟩ (fun hHeld => ?_)
  clear hK K hHeld
  have D2 := Lib.hid (heap_setCell_same w5 (P1 + 1) 0 _ _ (.int .i64 pos) B2.out)
  have D1 := Lib.hid ((HW6.out.block P1 (by have := HW5.out.size; omega) (by omega)).trans B1.out)
  have D3 := Lib.hid ((HW6.out.block (P1 + 2) (by have := HW5.out.size; omega) (by omega)).trans B3.out)
  have HW7 := Lib.hid (HW5.out.mono (T := fun k => k = P1 ∨ k = P1 + 1 ∨ k = P1 + 2) (fun _ _ h => .inl h) |>.trans (HW6.out.mono (fun _ _ h => .inr (.inl h))))
  have t0 := HW6.out.cell s0 (by dsimp only; omega)
  have t1 := HW6.out.cell s1 (by dsimp only; omega)
  generalize w5.setCell ⟨P1 + 1, 0, none⟩ (.int .i64 pos) = w6 at *
  have m3 : w6.cell? ⟨P1 + 2, 0, none⟩ = some (.int .i64 err0) := cell_of_row _ _ 0 _ _ _ D3.out
  have y3 : w6.frozen? ⟨P1 + 2, 0, none⟩ = false := frozen_of_row _ _ _ _ _ D3.out
  refine wpAnyH_ready (rs := [7]) (by kernel_rfl) (by simp) ?_
  refine AllReadyH.cons rfl (fun K hK => ?_) AllReadyH.nil
  go_simp
  have HW8 := Lib.hid ((Only.refl (fun k => k = P1 + 2) w6).setCell (p := ⟨P1 + 2, 0, none⟩) (.inl rfl) (.int .i64 err))
  refine hK _ _ ⟨HW8.out.cell t0 (by dsimp only; omega), HW8.out.cell t1 (by dsimp only; omega)⟩ (fun hHeld => ?_)
  clear hK K hHeld
  refine wpAnyH_done (by kernel_rfl) ?_ _
  have hz6 : P1 + 2 < w6.heap.size := by have := HW7.out.size; omega
  exact ⟨rfl, _, rfl, _, results_none rfl _ _ _, rfl, rfl, ⟨(HW8.out.block P1 (by omega) (by omega)).trans D1.out, (HW8.out.block (P1 + 1) (by omega) (by omega)).trans D2.out, heap_setCell_same w6 (P1 + 2) 0 _ _ _ D3.out⟩, HW7.out.trans (HW8.out.mono (fun _ _ h => .inr (.inr h)))⟩
end Go.Proofs.YteikkpiginfbkaaGreatDoor

namespace Go.Proofs.YteikkpiginfbkaaGreatDoor
open Go.RowKit

def drCells (d : Dr) (vt vp vq vb : Value) : Array Value :=
  #[.string d.name, .int .i64 d.kind, .int .i64 d.round, .int .i64 d.price, .int .i64 d.pool, .int .i64 d.pick, vt, .bool d.roll, vp, .int .i64 d.cls, .int .i64 d.size, vq, vb]
/-- The lists of a draw, each in a block of its own from base on. -/
structure DrOwn (base : Nat) (W : World) (d : Dr) (vt vp vq vb : Value) : Prop where
  tiers : W.ownsRow base 50 2 vt d.tiers.length (trow d.tiers)
  places : W.ownsRow base 73 2 vp d.places.length (prow d.places)
  quotas : W.ownsRow base 75 3 vq d.quotas.length (qrow d.quotas)
  bars : W.ownsRow base 3 1 vb d.barred.length (irow d.barred)
theorem DrOwn.only {base : Nat} {w w' : World} {d : Dr} {vt vp vq vb : Value} {S : Nat → Prop} (h : DrOwn base w d vt vp vq vb) (hO : Only S w w') (hS : ∀ k, base ≤ k → ¬ S k) : DrOwn base w' d vt vp vq vb :=
  ⟨hO.owns h.tiers (fun g hg => hS g (ownR_ge h.tiers hg)), hO.owns h.places (fun g hg => hS g (ownR_ge h.places hg)), hO.owns h.quotas (fun g hg => hS g (ownR_ge h.quotas hg)), hO.owns h.bars (fun g hg => hS g (ownR_ge h.bars hg))⟩
theorem DrOwn.base {base base' : Nat} {w : World} {d : Dr} {vt vp vq vb : Value} (h : DrOwn base w d vt vp vq vb) (hb : base' ≤ base) : DrOwn base' w d vt vp vq vb :=
  ⟨ownR_base h.tiers hb, ownR_base h.places hb, ownR_base h.quotas hb, ownR_base h.bars hb⟩
theorem dr0_own (base : Nat) (W : World) : DrOwn base W dr0 (.slice none 0 0) (.slice none 0 0) (.slice none 0 0) (.slice none 0 0) :=
  ⟨World.ownsRow_nil _ _ _ _, World.ownsRow_nil _ _ _ _, World.ownsRow_nil _ _ _ _, World.ownsRow_nil _ _ _ _⟩
/-- What Parse leaves. -/
def ParseRu (q : Int × Nat × Dr) (w : World) (e : Ending) (w' : World) : Prop :=
  ∃ vt vp vq vb, e = .returned (.tuple #[.agg (drCells q.2.2 vt vp vq vb), .int .i64 q.2.1, .int .i64 q.1]) ∧ DrOwn w.heap.size w' q.2.2 vt vp vq vb ∧ Only (fun _ => False) w w'
theorem resAt_new (w : World) (cs : Array Value) (pos err : Int) : ResAt (((w.alloc (.cells cs 33)).alloc (.cells #[.int .i64 pos] 3)).alloc (.cells #[.int .i64 err] 35)) w.heap.size cs pos err := by
  have h1 := heap_alloc_last w (.cells cs 33)
  have h2 := heap_alloc_last (w.alloc (.cells cs 33)) (.cells #[.int .i64 pos] 3)
  have h3 := heap_alloc_last ((w.alloc (.cells cs 33)).alloc (.cells #[.int .i64 pos] 3)) (.cells #[.int .i64 err] 35)
  have o2 := (Only.refl (fun _ => False) (w.alloc (.cells cs 33))).alloc (.cells #[.int .i64 pos] 3)
  have o3 := (Only.refl (fun _ => False) ((w.alloc (.cells cs 33)).alloc (.cells #[.int .i64 pos] 3))).alloc (.cells #[.int .i64 err] 35)
  simp only [World.size_alloc] at h2 h3
  exact ⟨row_still (o2.trans o3) h1, row_still o3 h2, h3⟩
theorem results_parse {W : World} {tmps : Array Value} {P1 : Nat} {cs : Array Value} {pos err : Int} (h : ResAt W P1 cs pos err) (hz : cs.size = 13) (h2 : tmps.getD 2 undef = .pointer (some ⟨P1, 0, none⟩)) (h3 : tmps.getD 3 undef = .pointer (some ⟨P1 + 1, 0, none⟩)) (h4 : tmps.getD 4 undef = .pointer (some ⟨P1 + 2, 0, none⟩)) :
    (results Tryz.f13 tmps).run Tryz.prog W = .ok (.tuple #[.agg cs, .int .i64 pos, .int .i64 err]) W := by
  obtain ⟨r1, r2, r3⟩ := h
  have c2 : W.cell? ⟨P1 + 1, 0, none⟩ = some (.int .i64 pos) := cell_of_row _ _ 0 _ _ _ r2
  have c3 : W.cell? ⟨P1 + 2, 0, none⟩ = some (.int .i64 err) := cell_of_row _ _ 0 _ _ _ r3
  have h2' : tmps[2]?.getD undef = .pointer (some ⟨P1, 0, none⟩) := by simpa using h2
  have h3' : tmps[3]?.getD undef = .pointer (some ⟨P1 + 1, 0, none⟩) := by simpa using h3
  have h4' : tmps[4]?.getD undef = .pointer (some ⟨P1 + 2, 0, none⟩) := by simpa using h4
  have l1 := run_loadVar_row (P := Tryz.prog) W P1 33 33 cs (0, 0) _ r1 Tryz.underlying33 rfl (by rw [hz]; exact Tryz.infoDr)
  have l2 : (loadVar 3 ⟨P1 + 1, 0, none⟩).run Tryz.prog W = .ok (.int .i64 pos) W := by simp [go_sem, c2]
  have l3 : (loadVar 35 ⟨P1 + 2, 0, none⟩).run Tryz.prog W = .ok (.int .i64 err) W := by simp [go_sem, c3]
  simp [results, Tryz.results13, h2', h3', h4', asAddr, l1, l2, l3]
set_option maxRecDepth 100000 in
set_option maxHeartbeats 4000000 in
theorem parse_big (s : ByteArray) (w : World) (hs : ¬ s.size ≤ 4000) (hs2 : s.size ≤ 281474976710656) :
    Calls Tryz.prog 13 #[.string s] w fun e w' => ParseRu (parseZ s) w e w' := by
  have hq : parseZ s = (2, 4000, dr0) := by unfold parseZ; rw [if_neg hs]
  rw [hq]
  have i1 : (4000 : Int) < s.size := by omega
  clear hq hs
  have hmf : ∀ (fn : Fn) (first cap : Array Value) (w : World), (Instr.makeFunc fn first cap).run Tryz.prog w = .ok (.func fn first cap) w := fun _ _ _ _ => rfl
  go_enter_defers Tryz.func13, Tryz.ntmps13
  go_wp2_with fail
  exact ⟨_, results_parse (resAt_new w zeroD 4000 2) rfl rfl rfl rfl, _, _, _, _, rfl, dr0_own _ _, (((Only.refl _ w).alloc _).alloc _).alloc _⟩
theorem ResAt.still {w w' : World} {P1 : Nat} {cs : Array Value} {pos err : Int} (h : ResAt w P1 cs pos err) (hO : Only (fun _ => False) w w') : ResAt w' P1 cs pos err := ⟨row_still hO h.1, row_still hO h.2.1, row_still hO h.2.2⟩
theorem ResAt.put {w : World} {P1 : Nat} {cs : Array Value} {pos err : Int} (h : ResAt w P1 cs pos err) (p e : Int) : ResAt ((w.setCell ⟨P1 + 1, 0, none⟩ (.int .i64 p)).setCell ⟨P1 + 2, 0, none⟩ (.int .i64 e)) P1 cs p e := by
  obtain ⟨h1, h2, h3⟩ := h
  have a1 := (heap_setCell_other w ⟨P1 + 1, 0, none⟩ P1 (.int .i64 p) (by dsimp only; omega)).trans h1
  have a2 := heap_setCell_same w (P1 + 1) 0 _ _ (.int .i64 p) h2
  have a3 := (heap_setCell_other w ⟨P1 + 1, 0, none⟩ (P1 + 2) (.int .i64 p) (by dsimp only; omega)).trans h3
  refine ⟨?_, ?_, ?_⟩
  · exact (heap_setCell_other _ ⟨P1 + 2, 0, none⟩ P1 _ (by dsimp only; omega)).trans a1
  · exact (heap_setCell_other _ ⟨P1 + 2, 0, none⟩ (P1 + 1) _ (by dsimp only; omega)).trans a2
  · exact heap_setCell_same _ (P1 + 2) 0 _ _ _ a3
theorem rd_new (w : World) : RdAt (w.alloc (.cells (rdCells st0 0 (.slice none 0 0) (.slice none 0 0) (.slice none 0 0) (.slice none 0 0)) 84)).heap.size (w.alloc (.cells (rdCells st0 0 (.slice none 0 0) (.slice none 0 0) (.slice none 0 0) (.slice none 0 0)) 84)) w.heap.size st0 0 (.slice none 0 0) (.slice none 0 0) (.slice none 0 0) (.slice none 0 0) :=
  ⟨heap_alloc_last _ _, World.ownsRow_nil _ _ _ _, World.ownsRow_nil _ _ _ _, World.ownsRow_nil _ _ _ _, World.ownsRow_nil _ _ _ _⟩
set_option maxRecDepth 100000 in
set_option maxHeartbeats 4000000 in
theorem parse_small (s : ByteArray) (w : World) (hs : s.size ≤ 4000) (hm : LenR w) :
    Calls Tryz.prog 13 #[.string s] w fun e w' => ParseRu (parseZ s) w e w' := by
  have HQ := Lib.hid (show parseZ s = (let q := runL st0 0 [] s.data.toList; if q.1 = 0 then (0, 0, q.2.2.d) else (q.1, q.2.1, dr0)) by unfold parseZ; rw [if_pos hs])
  have i1 : ¬ (4000 : Int) < s.size := by omega
  have hmf : ∀ (fn : Fn) (first cap : Array Value) (w : World), (Instr.makeFunc fn first cap).run Tryz.prog w = .ok (.func fn first cap) w := fun _ _ _ _ => rfl
  have HR0 := Lib.hid (resAt_new w zeroD 0 0)
  have HO0 := Lib.hid ((((Only.refl (fun _ => False) w).alloc (.cells zeroD 33)).alloc (.cells #[.int .i64 0] 3)).alloc (.cells #[.int .i64 0] 35))
  have hsz : (((w.alloc (.cells zeroD 33)).alloc (.cells #[.int .i64 0] 3)).alloc (.cells #[.int .i64 0] 35)).heap.size = w.heap.size + 3 := by simp
  have HSZ := Lib.hid hsz
  have HRD := Lib.hid (rd_new (((w.alloc (.cells zeroD 33)).alloc (.cells #[.int .i64 0] 3)).alloc (.cells #[.int .i64 0] 35)))
  have HM := Lib.hid hm
  clear hsz hm
  go_enter_defers Tryz.func13, Tryz.ntmps13
  go_wp2_with fail
  have hRD := HRD.out
  rw [HSZ.out] at hRD
  have HO4 := Lib.hid (HO0.out.alloc (.cells (rdCells st0 0 (.slice none 0 0) (.slice none 0 0) (.slice none 0 0) (.slice none 0 0)) 84))
  have HR4 := Lib.hid (HR0.out.still ((Only.refl (fun _ => False) _).alloc (.cells (rdCells st0 0 (.slice none 0 0) (.slice none 0 0) (.slice none 0 0) (.slice none 0 0)) 84)))
  refine (read_any (w.heap.size + 3) s _ hRD hs (HM.out.only HO4.out (fun h => h)) (by obtain ⟨m, hm⟩ := HM.out; have := World.block_lt_of_cell? _ _ hm; dsimp only at this; omega)).mono ?_
  rintro e w5 ⟨hO5, hcase⟩
  have HO5 := Lib.hid (HO4.out.trans' hO5 (fun i hi e => by omega))
  have HR5 := Lib.hid (show ResAt w5 w.heap.size zeroD 0 0 from ⟨(hO5.block _ (Array.getElem?_eq_some_iff.1 HR4.out.1).1 (by omega)).trans HR4.out.1, (hO5.block _ (Array.getElem?_eq_some_iff.1 HR4.out.2.1).1 (by omega)).trans HR4.out.2.1, (hO5.block _ (Array.getElem?_eq_some_iff.1 HR4.out.2.2).1 (by omega)).trans HR4.out.2.2⟩)
  clear hO5 hRD HR4 HO4 HRD HR0 HO0
  generalize runL st0 0 [] s.data.toList = q at *
  rcases hcase with ⟨hz, rfl, p, vt, vp, vq, vb, hB5⟩ | ⟨hz, rfl⟩
  · obtain ⟨at1, ct, rfl⟩ := slice_of_own hB5.tiers
    obtain ⟨ap1, cp, rfl⟩ := slice_of_own hB5.places
    obtain ⟨aq1, cq, rfl⟩ := slice_of_own hB5.quotas
    obtain ⟨ab1, cb, rfl⟩ := slice_of_own hB5.bars
    obtain ⟨nt, hnt⟩ : ∃ n, q.2.2.d.tiers.length = n := ⟨_, rfl⟩
    obtain ⟨np, hnp⟩ : ∃ n, q.2.2.d.places.length = n := ⟨_, rfl⟩
    obtain ⟨nq, hnq⟩ : ∃ n, q.2.2.d.quotas.length = n := ⟨_, rfl⟩
    obtain ⟨nb, hnb⟩ : ∃ n, q.2.2.d.barred.length = n := ⟨_, rfl⟩
    rw [hnt, hnp, hnq, hnb] at hB5
    have HB5 := Lib.hid hB5
    have HQ0 := Lib.hid (show parseZ s = (0, 0, q.2.2.d) by rw [HQ.out]; exact if_pos hz)
    have HDR := Lib.hid (show DrOwn (w.heap.size + 3) w5 q.2.2.d (.slice at1 nt ct) (.slice ap1 np cp) (.slice aq1 nq cq) (.slice ab1 nb cb) from
      have e : w.heap.size + 3 ≤ (World.alloc (World.alloc (World.alloc (World.alloc w (.cells zeroD 33)) (.cells #[.int .i64 0] 3)) (.cells #[.int .i64 0] 35)) (.cells (rdCells st0 0 (.slice none 0 0) (.slice none 0 0) (.slice none 0 0) (.slice none 0 0)) 84)).heap.size := by simp
      ⟨ownR_base hB5.tiers e, ownR_base hB5.places e, ownR_base hB5.quotas e, ownR_base hB5.bars e⟩)
    clear hz hB5 hnt hnp hnq hnb
    have c0 : w5.cell? ⟨w.heap.size + 3, 0, none⟩ = some (Value.string q.2.2.d.name) := HB5.out.cell 0 rfl
    have c1 : w5.cell? ⟨w.heap.size + 3, 1, none⟩ = some (Value.int .i64 q.2.2.d.kind) := HB5.out.cell 1 rfl
    have c2 : w5.cell? ⟨w.heap.size + 3, 2, none⟩ = some (Value.int .i64 q.2.2.d.round) := HB5.out.cell 2 rfl
    have c3 : w5.cell? ⟨w.heap.size + 3, 3, none⟩ = some (Value.int .i64 q.2.2.d.price) := HB5.out.cell 3 rfl
    have c4 : w5.cell? ⟨w.heap.size + 3, 4, none⟩ = some (Value.int .i64 q.2.2.d.pool) := HB5.out.cell 4 rfl
    have c5 : w5.cell? ⟨w.heap.size + 3, 5, none⟩ = some (Value.int .i64 q.2.2.d.pick) := HB5.out.cell 5 rfl
    have c6 : w5.cell? ⟨w.heap.size + 3, 6, none⟩ = some (.slice at1 nt ct) := HB5.out.cell 6 rfl
    have c7 : w5.cell? ⟨w.heap.size + 3, 7, none⟩ = some (Value.bool q.2.2.d.roll) := HB5.out.cell 7 rfl
    have c8 : w5.cell? ⟨w.heap.size + 3, 8, none⟩ = some (.slice ap1 np cp) := HB5.out.cell 8 rfl
    have c9 : w5.cell? ⟨w.heap.size + 3, 9, none⟩ = some (Value.int .i64 q.2.2.d.cls) := HB5.out.cell 9 rfl
    have c10 : w5.cell? ⟨w.heap.size + 3, 10, none⟩ = some (Value.int .i64 q.2.2.d.size) := HB5.out.cell 10 rfl
    have c11 : w5.cell? ⟨w.heap.size + 3, 11, none⟩ = some (.slice aq1 nq cq) := HB5.out.cell 11 rfl
    have c12 : w5.cell? ⟨w.heap.size + 3, 12, none⟩ = some (.slice ab1 nb cb) := HB5.out.cell 12 rfl
    have HN5 := Lib.hid HR5.out.1
    have HON := Lib.hid (onlyR_row (S := fun k => k = w.heap.size) (Only.refl _ w5) (.inl rfl) #[.string q.2.2.d.name, .int .i64 q.2.2.d.kind, .int .i64 q.2.2.d.round, .int .i64 q.2.2.d.price, .int .i64 q.2.2.d.pool, .int .i64 q.2.2.d.pick, .slice at1 nt ct, .bool q.2.2.d.roll, .slice ap1 np cp, .int .i64 q.2.2.d.cls, .int .i64 q.2.2.d.size, .slice aq1 nq cq, .slice ab1 nb cb])
    obtain ⟨w6, hw6⟩ : ∃ w6, w5.setRow w.heap.size #[.string q.2.2.d.name, .int .i64 q.2.2.d.kind, .int .i64 q.2.2.d.round, .int .i64 q.2.2.d.price, .int .i64 q.2.2.d.pool, .int .i64 q.2.2.d.pick, .slice at1 nt ct, .bool q.2.2.d.roll, .slice ap1 np cp, .int .i64 q.2.2.d.cls, .int .i64 q.2.2.d.size, .slice aq1 nq cq, .slice ab1 nb cb] = w6 := ⟨_, rfl⟩
    rw [hw6] at HON
    have HR6 := Lib.hid (show ResAt w6 w.heap.size #[.string q.2.2.d.name, .int .i64 q.2.2.d.kind, .int .i64 q.2.2.d.round, .int .i64 q.2.2.d.price, .int .i64 q.2.2.d.pool, .int .i64 q.2.2.d.pick, .slice at1 nt ct, .bool q.2.2.d.roll, .slice ap1 np cp, .int .i64 q.2.2.d.cls, .int .i64 q.2.2.d.size, .slice aq1 nq cq, .slice ab1 nb cb] 0 0 from ⟨by rw [← hw6]; exact setRow_heap _ _ _ _ _ _ HR5.out.1, (HON.out.block _ (Array.getElem?_eq_some_iff.1 HR5.out.2.1).1 (by omega)).trans HR5.out.2.1, (HON.out.block _ (Array.getElem?_eq_some_iff.1 HR5.out.2.2).1 (by omega)).trans HR5.out.2.2⟩)
    have HW6 := Lib.hid hw6
    have k2 : w6.cell? ⟨w.heap.size + 1, 0, none⟩ = some (.int .i64 0) := cell_of_row _ _ 0 _ _ _ HR6.out.2.1
    have k3 : w6.cell? ⟨w.heap.size + 1 + 1, 0, none⟩ = some (.int .i64 0) := cell_of_row _ _ 0 _ _ _ HR6.out.2.2
    have z2 : w6.frozen? ⟨w.heap.size + 1, 0, none⟩ = false := frozen_of_row _ _ _ _ _ HR6.out.2.1
    have z3 : w6.frozen? ⟨w.heap.size + 1 + 1, 0, none⟩ = false := frozen_of_row _ _ _ _ _ HR6.out.2.2
    clear hw6
    go_wp2_with (first | (refine wpList_store_row rfl 33 _ _ rfl w.heap.size #[.string q.2.2.d.name, .int .i64 q.2.2.d.kind, .int .i64 q.2.2.d.round, .int .i64 q.2.2.d.price, .int .i64 q.2.2.d.pool, .int .i64 q.2.2.d.pick, .slice at1 nt ct, .bool q.2.2.d.roll, .slice ap1 np cp, .int .i64 q.2.2.d.cls, .int .i64 q.2.2.d.size, .slice aq1 nq cq, .slice ab1 nb cb] rfl rfl 33 _ HN5.out Tryz.infoDr rfl (by simp [Value.oneCell']) ?_; rw [HW6.out]))
    have HF := Lib.hid (HR6.out.put 0 0)
    have HO7 := Lib.hid (((Only.refl (fun k => k = w.heap.size + 1 ∨ k = w.heap.size + 2) w6).setCell (p := ⟨w.heap.size + 1, 0, none⟩) (.inl (.inl rfl)) (.int .i64 0)).setCell (p := ⟨w.heap.size + 2, 0, none⟩) (.inl (.inr rfl)) (.int .i64 0))
    generalize World.setCell (World.setCell w6 _ _) _ _ = w7 at *
    refine leaves_cons (f := 33) (args := #[.pointer (some ⟨w.heap.size, 0, none⟩), .pointer (some ⟨w.heap.size + 1, 0, none⟩), .pointer (some ⟨w.heap.size + 2, 0, none⟩)]) (by simp) (by simp [go_sem]) ?_
    refine (catch_idle _ _ _ _).mono ?_
    rintro e u' w8 ⟨rfl, rfl, hO8⟩
    refine ⟨_, results_parse (HF.out.still hO8) rfl rfl rfl rfl, ?_⟩
    rw [HQ0.out]
    have hd := ((HDR.out.only HON.out (fun k hk e => by omega)).only HO7.out (fun k hk e => by omega)).only hO8 (fun _ _ h => h)
    exact ⟨_, _, _, _, rfl, hd.base (by omega), ((HO5.out.trans' HON.out (fun i hi e => by omega)).trans' HO7.out (fun i hi e => by omega)).trans hO8⟩
  · have HQ0 := Lib.hid (show parseZ s = (q.1, q.2.1, dr0) by rw [HQ.out]; exact if_neg hz)
    clear hz
    go_wp2_with fail
    refine leaves_cons (f := 33) (args := #[.pointer (some ⟨w.heap.size, 0, none⟩), .pointer (some ⟨w.heap.size + 1, 0, none⟩), .pointer (some ⟨w.heap.size + 2, 0, none⟩)]) (by simp) (by simp [go_sem]) ?_
    refine (catch_panicking w.heap.size zeroD 0 0 q.2.1 q.1 [] w5 rfl HR5.out).mono ?_
    rintro e u' w8 ⟨rfl, rfl, hR8, hO8⟩
    refine ⟨_, results_parse hR8 rfl rfl rfl rfl, ?_⟩
    rw [HQ0.out]
    exact ⟨_, _, _, _, rfl, dr0_own _ _, HO5.out.trans' hO8 (fun i hi e => by omega)⟩
theorem parse_any (s : ByteArray) (w : World) (hs : s.size ≤ 281474976710656) (hm : LenR w) :
    Calls Tryz.prog 13 #[.string s] w fun e w' => ParseRu (parseZ s) w e w' := by
  by_cases h : s.size ≤ 4000
  · exact parse_small s w h hm
  · exact parse_big s w h hs
end Go.Proofs.YteikkpiginfbkaaGreatDoor

namespace Go.Proofs.YteikkpiginfbkaaGreatDoor
open Go.RowKit

def rgB (z : Int) : Bool := decide (0 ≤ z) && decide (z ≤ 1000000000)
def lotE (d : Dr) : Bool := d.pool == 0 && d.pick == 0 && decide (d.tiers.length = 0) && !d.roll
def balE (d : Dr) : Bool := d.cls == 0 && decide (d.places.length = 0)
def panE (d : Dr) : Bool := d.size == 0 && decide (d.quotas.length = 0)
def ownsZ (d : Dr) : Bool := if d.kind = 1 then balE d && panE d else if d.kind = 2 then lotE d && panE d else if d.kind = 3 then lotE d && balE d else false
def tierOk (l : List (Int × Int)) (i : Nat) : Bool := rgB (tAt l i).1 && rgB (tAt l i).2 && !hasTier (l.take i) (tAt l i).1
def placeOk (l : List (ByteArray × Int)) (i : Nat) : Bool := nameB (pAt l i).1 && rgB (pAt l i).2 && !hasPlace (l.take i) (pAt l i).1
def quotaOk (l : List (ByteArray × Int × Int)) (i : Nat) : Bool := nameB (qAt l i).1 && rgB (qAt l i).2.1 && rgB (qAt l i).2.2 && !hasQuota (l.take i) (qAt l i).1
def barOk (l : List Int) (i : Nat) : Bool := !hasBar (l.take i) (ptAt l i)
def listsZ (d : Dr) : Bool :=
  decide (d.tiers.length ≤ 12) && decide (d.places.length ≤ 12) && decide (d.quotas.length ≤ 12) && decide (d.barred.length ≤ 40) &&
  (List.range d.tiers.length).all (tierOk d.tiers) && (List.range d.places.length).all (placeOk d.places) && (List.range d.quotas.length).all (quotaOk d.quotas) && (List.range d.barred.length).all (barOk d.barred) && d.barred.all rgB
/-- Is a draw right? -/
def rightZ (d : Dr) : Bool := ownsZ d && nameB d.name && [d.round, d.price, d.pool, d.pick, d.cls, d.size].all rgB && listsZ d
set_option maxHeartbeats 2000000 in
theorem range_any (a : Option Addr) (c : Nat) (zs : List Int) (bb : Bool) (w : World) (hI : PtsAt w.heap.size w (.slice a zs.length c) zs) (hb : zs.all rgB = bb) (hl : zs.length ≤ 1000000) :
    Calls Tryz.prog 62 #[.slice a zs.length c] w fun e w' => e = .returned (.bool bb) ∧ w = w' := by
  have HI := Lib.hid hI
  have HB := Lib.hid hb
  clear hI hb
  go_enter Tryz.func62, Tryz.ntmps62
  go_wp2
  go_loop [7] (fun i => ∃ k : Nat, i = .int .i64 k ∧ k ≤ zs.length ∧ (zs.take k).all rgB = true) (fun i => zs.length - (intOf i).toNat)
  case atStart => exact ⟨0, rfl, Nat.zero_le _, rfl⟩
  case round =>
    obtain ⟨k, rfl, hk, hall⟩ := hrel
    have HA := Lib.hid hall
    clear hall
    by_cases hlt : k < zs.length
    · have j1 : (k : Int) < zs.length := by omega
      have j2 : 0 ≤ (k : Int) := by omega
      obtain ⟨b, off, rfl, hbl, hl0, hcp1, hcp2, hcell⟩ := HI.out.cellAt hlt
      have HN := Lib.hid (show (zs.take (k + 1)).all rgB = rgB (ptAt zs k) by
        rw [List.take_succ_eq_append_getElem hlt, List.all_append, HA.out]
        have e : zs[k] = ptAt zs k := by unfold ptAt; simp [List.getD, hlt]
        simp [e])
      have HF := Lib.hid (fun (h : rgB (ptAt zs k) = false) => show bb = false by
        rw [← HB.out, ← List.take_append_drop (k + 1) zs, List.all_append, HN.out, h]; rfl)
      generalize ptAt zs k = z at *
      have HD := Lib.hid (show rgB z = (decide (0 ≤ z) && decide (z ≤ 1000000000)) from rfl)
      clear hl0
      by_cases c1 : z < 0
      · obtain rfl := HF.out (by rw [HD.out]; simp; omega)
        go_wp2_with fail
        go_ret
        exact ⟨rfl, rfl⟩
      · by_cases c2 : 1000000000 < z
        · obtain rfl := HF.out (by rw [HD.out]; simp; omega)
          go_wp2_with fail
          go_ret
          exact ⟨rfl, rfl⟩
        · have HG := Lib.hid (show (zs.take (k + 1)).all rgB = true by rw [HN.out, HD.out]; simp; omega)
          go_wp2_with fail
          go_round
          case rel => exact ⟨k + 1, by go_num, hlt, HG.out⟩
          case measure => simp [intOf]; omega
    · obtain rfl : k = zs.length := by omega
      obtain rfl : true = bb := by rw [← HB.out]; have := HA.out; rwa [List.take_length, eq_comm] at this
      have j1 : ¬ (zs.length : Int) < zs.length := by omega
      go_wp2_with fail
      go_ret
      exact ⟨rfl, rfl⟩
end Go.Proofs.YteikkpiginfbkaaGreatDoor

namespace Go.Proofs.YteikkpiginfbkaaGreatDoor
open Go.RowKit

theorem len_z {n : Nat} {b : Bool} (h : decide (n = 0) = b) : ((n : Int) == 0) = b := by
  rw [← h]
  by_cases e : n = 0
  · subst e; rfl
  · rw [show decide (n = 0) = false by simpa using e]; simp; omega
set_option maxRecDepth 100000 in
set_option maxHeartbeats 4000000 in
theorem owns_any (d : Dr) (vt vp vq vb : Value) (bb : Bool) (base : Nat) (w : World) (hd : DrOwn base w d vt vp vq vb) (hb : ownsZ d = bb) :
    Calls Tryz.prog 61 #[.agg (drCells d vt vp vq vb)] w fun e w' => e = .returned (.bool bb) ∧ Only (fun _ => False) w w' := by
  obtain ⟨at1, ct, rfl⟩ := slice_of_own hd.tiers
  obtain ⟨ap1, cp, rfl⟩ := slice_of_own hd.places
  obtain ⟨aq1, cq, rfl⟩ := slice_of_own hd.quotas
  obtain ⟨ab1, cb, rfl⟩ := slice_of_own hd.bars
  have HB := Lib.hid hb
  have HZ := Lib.hid (heap_alloc_last w (.cells (drCells d (.slice at1 d.tiers.length ct) (.slice ap1 d.places.length cp) (.slice aq1 d.quotas.length cq) (.slice ab1 d.barred.length cb)) 33))
  have HO := Lib.hid ((Only.refl (fun _ => False) w).alloc (.cells (drCells d (.slice at1 d.tiers.length ct) (.slice ap1 d.places.length cp) (.slice aq1 d.quotas.length cq) (.slice ab1 d.barred.length cb)) 33))
  obtain ⟨lo, hlo⟩ : ∃ lo, lotE d = lo := ⟨_, rfl⟩
  obtain ⟨ba, hba⟩ : ∃ ba, balE d = ba := ⟨_, rfl⟩
  obtain ⟨pa, hpa⟩ : ∃ pa, panE d = pa := ⟨_, rfl⟩
  have HL := Lib.hid (show (d.pool == 0 && d.pick == 0 && decide (d.tiers.length = 0) && !d.roll) = lo from hlo)
  have HA := Lib.hid (show (d.cls == 0 && decide (d.places.length = 0)) = ba from hba)
  have HP := Lib.hid (show (d.size == 0 && decide (d.quotas.length = 0)) = pa from hpa)
  have HOW := Lib.hid (show bb = if d.kind = 1 then ba && pa else if d.kind = 2 then lo && pa else if d.kind = 3 then lo && ba else false by rw [← hb]; unfold ownsZ; rw [hlo, hba, hpa])
  clear hd hb hlo hba hpa
  unfold drCells at *
  go_enter Tryz.func61, Tryz.ntmps61
  go_upto_region 1 with (fail)
  generalize World.alloc w _ = w1 at *
  have c1 : w1.cell? ⟨w.heap.size, 1, none⟩ = some (.int .i64 d.kind) := cell_of_row _ _ 1 _ _ _ HZ.out
  have c4 : w1.cell? ⟨w.heap.size, 4, none⟩ = some (.int .i64 d.pool) := cell_of_row _ _ 4 _ _ _ HZ.out
  have c5 : w1.cell? ⟨w.heap.size, 5, none⟩ = some (.int .i64 d.pick) := cell_of_row _ _ 5 _ _ _ HZ.out
  have c6 : w1.cell? ⟨w.heap.size, 6, none⟩ = some (.slice at1 d.tiers.length ct) := cell_of_row _ _ 6 _ _ _ HZ.out
  have c7 : w1.cell? ⟨w.heap.size, 7, none⟩ = some (.bool d.roll) := cell_of_row _ _ 7 _ _ _ HZ.out
  have c8 : w1.cell? ⟨w.heap.size, 8, none⟩ = some (.slice ap1 d.places.length cp) := cell_of_row _ _ 8 _ _ _ HZ.out
  have c9 : w1.cell? ⟨w.heap.size, 9, none⟩ = some (.int .i64 d.cls) := cell_of_row _ _ 9 _ _ _ HZ.out
  have c10 : w1.cell? ⟨w.heap.size, 10, none⟩ = some (.int .i64 d.size) := cell_of_row _ _ 10 _ _ _ HZ.out
  have c11 : w1.cell? ⟨w.heap.size, 11, none⟩ = some (.slice aq1 d.quotas.length cq) := cell_of_row _ _ 11 _ _ _ HZ.out
  go_cut [3] (fun v wx => v = .bool lo ∧ wx = w1)
  case first =>
    cases h1 : (d.pool == 0)
    · have e : (false : Bool) = lo := by have := HL.out; rwa [h1] at this
      subst e
      go_wp2_with fail
      go_meet
      exact ⟨rfl, rfl⟩
    · cases h2 : (d.pick == 0)
      · have e : (false : Bool) = lo := by have := HL.out; rwa [h1, h2] at this
        subst e
        go_wp2_with fail
        go_meet
        exact ⟨rfl, rfl⟩
      · cases h3 : decide (d.tiers.length = 0)
        · have e : (false : Bool) = lo := by have := HL.out; rwa [h1, h2, h3] at this
          subst e
          have h3' := len_z h3
          clear h3
          go_wp2_with fail
          go_meet
          exact ⟨rfl, rfl⟩
        · have h3' := len_z h3
          have e : (!d.roll) = lo := by have := HL.out; rwa [h1, h2, h3] at this
          have HE := Lib.hid e
          clear h3 e
          go_wp2_with fail
          go_meet
          exact ⟨by rw [HE.out], rfl⟩
  case rest =>
    obtain ⟨rfl, hw⟩ := hcut
    obtain rfl := hw.symm
    clear hw
    go_upto_region 2 with (fail)
    go_cut [4] (fun v wx => v = .bool ba ∧ wx = w1)
    case first =>
      cases h1 : (d.cls == 0)
      · have e : (false : Bool) = ba := by have := HA.out; rwa [h1] at this
        subst e
        go_wp2_with fail
        go_meet
        exact ⟨rfl, rfl⟩
      · cases h3 : decide (d.places.length = 0)
        · have e : (false : Bool) = ba := by have := HA.out; rwa [h1, h3] at this
          subst e
          have h3' := len_z h3
          clear h3
          go_wp2_with fail
          go_meet
          exact ⟨rfl, rfl⟩
        · have e : (true : Bool) = ba := by have := HA.out; rwa [h1, h3] at this
          subst e
          have h3' := len_z h3
          clear h3
          go_wp2_with fail
          go_meet
          exact ⟨rfl, rfl⟩
    case rest =>
    obtain ⟨rfl, hw⟩ := hcut
    obtain rfl := hw.symm
    clear hw
    go_upto_region 3 with (fail)
    go_cut [5] (fun v wx => v = .bool pa ∧ wx = w1)
    case first =>
      cases h1 : (d.size == 0)
      · have e : (false : Bool) = pa := by have := HP.out; rwa [h1] at this
        subst e
        go_wp2_with fail
        go_meet
        exact ⟨rfl, rfl⟩
      · cases h3 : decide (d.quotas.length = 0)
        · have e : (false : Bool) = pa := by have := HP.out; rwa [h1, h3] at this
          subst e
          have h3' := len_z h3
          clear h3
          go_wp2_with fail
          go_meet
          exact ⟨rfl, rfl⟩
        · have e : (true : Bool) = pa := by have := HP.out; rwa [h1, h3] at this
          subst e
          have h3' := len_z h3
          clear h3
          go_wp2_with fail
          go_meet
          exact ⟨rfl, rfl⟩
    case rest =>
    obtain ⟨rfl, hw⟩ := hcut
    obtain rfl := hw.symm
    clear hw
    have HOW2 := HOW.out
    by_cases k1 : d.kind = 1
    · rw [if_pos k1] at HOW2
      rw [k1] at c1
      have HW := Lib.hid HOW2
      clear k1 HOW2 HOW HL HA HP
      cases ba <;> cases pa
      all_goals
        go_wp2_with fail
        go_ret
        exact ⟨by rw [HW.out]; rfl, HO.out⟩
    · rw [if_neg k1] at HOW2
      have n1 : (d.kind == 1) = false := by simpa using k1
      by_cases k2 : d.kind = 2
      · rw [if_pos k2] at HOW2
        rw [k2] at c1
        have HW := Lib.hid HOW2
        clear n1 k1 k2 HOW2 HOW HL HA HP
        cases lo <;> cases pa
        all_goals
          go_wp2_with fail
          go_ret
          exact ⟨by rw [HW.out]; rfl, HO.out⟩
      · rw [if_neg k2] at HOW2
        have n2 : (d.kind == 2) = false := by simpa using k2
        by_cases k3 : d.kind = 3
        · rw [if_pos k3] at HOW2
          rw [k3] at c1
          have HW := Lib.hid HOW2
          clear n1 n2 k1 k2 k3 HOW2 HOW HL HA HP
          cases lo <;> cases ba
          all_goals
            go_wp2_with fail
            go_ret
            exact ⟨by rw [HW.out]; rfl, HO.out⟩
        · rw [if_neg k3] at HOW2
          have n3 : (d.kind == 3) = false := by simpa using k3
          have HW := Lib.hid HOW2
          clear k1 k2 k3 HOW2 HOW HL HA HP
          go_wp2_with fail
          go_ret
          exact ⟨by rw [HW.out]; rfl, HO.out⟩
end Go.Proofs.YteikkpiginfbkaaGreatDoor

namespace Go.Proofs.YteikkpiginfbkaaGreatDoor
open Go.RowKit

/-- The pieces of a list between bytes c. -/
def cutC (c : UInt8) : List UInt8 → List (List UInt8)
  | [] => [[]]
  | x :: r => if x = c then [] :: cutC c r else (x :: (cutC c r).headD []) :: (cutC c r).tail
theorem cutC_ne (c : UInt8) : ∀ l, cutC c l ≠ []
  | [] => by simp [cutC]
  | x :: r => by unfold cutC; split <;> simp
theorem head_tail {α : Type} {d : α} : ∀ {l : List α}, l ≠ [] → l.headD d :: l.tail = l
  | [], h => absurd rfl h
  | _ :: _, _ => rfl
theorem cutC_eq {c : UInt8} {r : List UInt8} : cutC c (c :: r) = [] :: cutC c r := by
  show (if c = c then _ else _) = _
  rw [if_pos rfl]
theorem cutC_neq {c x : UInt8} {r : List UInt8} (h : x ≠ c) : cutC c (x :: r) = (x :: (cutC c r).headD []) :: (cutC c r).tail := by
  show (if x = c then _ else _) = _
  rw [if_neg h]
theorem cutC_free {c : UInt8} : ∀ {x : List UInt8}, noC c x → cutC c x = [x]
  | [], _ => rfl
  | a :: x, h => by
    rw [cutC_neq (h a List.mem_cons_self), cutC_free (fun b hb => h b (List.mem_cons_of_mem _ hb))]; rfl
theorem cutC_app {c : UInt8} {r : List UInt8} : ∀ {x : List UInt8}, noC c x → cutC c (x ++ c :: r) = x :: cutC c r
  | [], _ => cutC_eq
  | a :: x, h => by
    rw [List.cons_append, cutC_neq (h a List.mem_cons_self), cutC_app (fun b hb => h b (List.mem_cons_of_mem _ hb))]; rfl
theorem cutC_flat {c : UInt8} : ∀ {out : List (List UInt8)} {x : List UInt8}, (∀ l ∈ out, noC c l) → noC c x → cutC c (out.flatMap (· ++ [c]) ++ x) = out ++ [x]
  | [], x, _, hx => cutC_free hx
  | o :: out, x, h, hx => by
    rw [List.flatMap_cons, List.append_assoc, List.append_assoc, List.singleton_append, cutC_app (h o List.mem_cons_self), cutC_flat (fun l hl => h l (List.mem_cons_of_mem _ hl)) hx]; rfl
theorem cutC_noC (c : UInt8) : ∀ l, ∀ p ∈ cutC c l, noC c p
  | [], p, h => by rw [List.mem_singleton.1 h]; intro b hb; cases hb
  | x :: r, p, h => by
    have ih := cutC_noC c r
    by_cases hx : x = c
    · subst hx
      rw [cutC_eq] at h
      rcases List.mem_cons.1 h with rfl | h
      · intro b hb; cases hb
      · exact ih p h
    · rw [cutC_neq hx] at h
      have e := head_tail (d := []) (cutC_ne c r)
      rcases List.mem_cons.1 h with rfl | h
      · intro b hb
        rcases List.mem_cons.1 hb with rfl | hb
        · exact hx
        · exact ih _ (by rw [← e]; exact List.mem_cons_self) b hb
      · exact ih p (by rw [← e]; exact List.mem_cons_of_mem _ h)
theorem joinT_cons (c : UInt8) (x : List UInt8) (r : List (List UInt8)) : Lib.joinTail [c] (x :: r) = c :: (x ++ Lib.joinTail [c] r) := by simp [Lib.joinTail]
theorem cutC_join (c : UInt8) : ∀ l, Lib.join (cutC c l) [c] = l
  | [] => rfl
  | x :: r => by
    have ih := cutC_join c r
    have e := head_tail (d := []) (cutC_ne c r)
    by_cases hx : x = c
    · subst hx
      rw [cutC_eq, Lib.join_cons, List.nil_append, ← e, joinT_cons, ← Lib.join_cons, e, ih]
    · rw [cutC_neq hx, Lib.join_cons, List.cons_append, ← Lib.join_cons, e, ih]
theorem words_cut (s : ByteArray) : (wordsB s).map (·.data.toList) = cutC 32 s.data.toList := by
  have e := head_tail (d := []) (cutC_ne 32 s.data.toList)
  rw [← e]
  exact words_of s _ _ (fun l hl => cutC_noC 32 _ l (by rw [← e]; exact hl)) (by rw [e, cutC_join])
theorem arr_list (b : ByteArray) : (⟨b.data.toList.toArray⟩ : ByteArray) = b := by obtain ⟨⟨l⟩⟩ := b; rfl
theorem words_eq (s : ByteArray) : wordsB s = (cutC 32 s.data.toList).map (fun l => (⟨l.toArray⟩ : ByteArray)) := by
  rw [← words_cut, List.map_map]
  exact (List.map_id'' (fun b => arr_list b) _).symm
/-- A line of words. -/
def lineW (ws : List ByteArray) : List UInt8 := Lib.join (ws.map (·.data.toList)) [32]
theorem lineW_words (s : ByteArray) : lineW (wordsB s) = s.data.toList := by unfold lineW; rw [words_cut, cutC_join]
theorem lineW_one (a : ByteArray) : lineW [a] = a.data.toList := by unfold lineW; exact Lib.join_one _ _
theorem lineW_cons (a b : ByteArray) (r : List ByteArray) : lineW (a :: b :: r) = a.data.toList ++ 32 :: lineW (b :: r) := by
  unfold lineW
  rw [List.map_cons, List.map_cons, Lib.join_cons, joinT_cons, Lib.join_cons]
def clean (w : ByteArray) : Prop := noC 32 w.data.toList ∧ noC 10 w.data.toList
theorem words_lineW {ws : List ByteArray} (h0 : ws ≠ []) (h : ∀ w ∈ ws, clean w) : wordsB ⟨(lineW ws).toArray⟩ = ws := by
  cases ws with
  | nil => exact absurd rfl h0
  | cons a r =>
    have e := words_of ⟨(lineW (a :: r)).toArray⟩ a.data.toList (r.map (·.data.toList)) (fun l hl => by
      rw [← List.map_cons (f := fun b : ByteArray => b.data.toList)] at hl
      obtain ⟨w, hw, rfl⟩ := List.mem_map.1 hl
      exact (h w hw).1) rfl
    rw [← List.map_cons (f := fun b : ByteArray => b.data.toList)] at e
    have inj : ∀ a b : ByteArray, a.data.toList = b.data.toList → a = b := fun a b h => by rw [← arr_list a, h, arr_list]
    generalize wordsB ⟨(lineW (a :: r)).toArray⟩ = vs at e
    generalize a :: r = us at e
    clear h h0
    induction vs generalizing us with
    | nil => cases us with
      | nil => rfl
      | cons u us => cases e
    | cons v vs ih => cases us with
      | nil => cases e
      | cons u us =>
        simp only [List.map_cons, List.cons.injEq] at e
        rw [inj v u e.1, ih us e.2]
theorem lineW_nl {ws : List ByteArray} (h : ∀ w ∈ ws, clean w) : noC 10 (lineW ws) := by
  induction ws with
  | nil => intro b hb; cases hb
  | cons a r ih => cases r with
    | nil => rw [lineW_one]; exact (h a List.mem_cons_self).2
    | cons b r =>
      rw [lineW_cons]
      intro x hx
      rcases List.mem_append.1 hx with hx | hx
      · exact (h a List.mem_cons_self).2 x hx
      · rcases List.mem_cons.1 hx with rfl | hx
        · decide
        · exact ih (fun w hw => h w (List.mem_cons_of_mem _ hw)) x hx
theorem runL_ws {t : St} {p : Nat} {ws : List ByteArray} {r : List UInt8} (h0 : ws ≠ []) (h : ∀ w ∈ ws, clean w) : runL t p [] (lineW ws ++ 10 :: r) =
    if (lineZ t ws).1 = 0 then runL (lineZ t ws).2 (p + (lineW ws).length + 1) [] r else ((lineZ t ws).1, p, t) := by
  rw [runL_line (lineW_nl h), List.nil_append, words_lineW h0 h]
/-! Numerals. -/
def decW (n : Int) : ByteArray := decB n.toNat
theorem byte_at {s : ByteArray} {j : Nat} (h : j < s.data.toList.length) : byteZ s j = (s.data.toList[j].toNat : Int) := by
  unfold byteZ
  rw [List.getD_eq_getElem?_getD, List.getElem?_eq_getElem h]; rfl
theorem num_digs {s : ByteArray} (h : numB s = true) : ∀ b ∈ s.data.toList, 48 ≤ b.toNat ∧ b.toNat ≤ 57 := by
  intro b hb
  unfold numB at h
  rw [Bool.and_eq_true] at h
  obtain ⟨j, hj, rfl⟩ := List.getElem_of_mem hb
  have h1 := List.all_eq_true.1 h.2 j (List.mem_range.2 (by have e : s.data.toList.length = s.size := Array.length_toList; omega))
  unfold dgOk at h1
  rw [byte_at hj, Bool.and_eq_true, decide_eq_true_eq, decide_eq_true_eq] at h1
  omega
theorem decFold_snoc (l : List UInt8) (c : UInt8) (a : Nat) : decFold a (l ++ [c]) = decFold a l * 10 + (c.toNat - 48) := by
  unfold decFold; rw [List.foldl_append]; rfl
theorem cap_fold {s : ByteArray} (h : ∀ b ∈ s.data.toList, 48 ≤ b.toNat ∧ b.toNat ≤ 57) : ∀ k, k ≤ s.data.toList.length → capTo s k = min (decFold 0 (s.data.toList.take k) : Int) 1000000001
  | 0, _ => rfl
  | k + 1, hk => by
    have hlt : k < s.data.toList.length := by omega
    have ih := cap_fold h k (by omega)
    have hb := h _ (List.getElem_mem hlt)
    show min (10 * capTo s k + (byteZ s k - 48)) 1000000001 = _
    rw [ih, byte_at hlt, List.take_succ_eq_append_getElem hlt, decFold_snoc]
    omega
theorem amt_fold {s : ByteArray} (h : numB s = true) : amtV s = min (decFold 0 s.data.toList : Int) 1000000001 := by
  have e : s.data.toList.length = s.size := Array.length_toList
  unfold amtV
  rw [cap_fold (num_digs h) s.size (by omega), ← e, List.take_length]
theorem digs_fold : ∀ (n : Nat) (l : List UInt8), l.length = n → (∀ b ∈ l, 48 ≤ b.toNat ∧ b.toNat ≤ 57) → l ≠ [] → (l.length = 1 ∨ l.head? ≠ some 48) → Lib.decDigits (decFold 0 l) = l ∧ (l.head? ≠ some 48 → 0 < decFold 0 l)
  | 0, l, hl, _, h0, _ => absurd (List.length_eq_zero_iff.1 hl) h0
  | n + 1, l, hl, hd, h0, hz => by
    obtain ⟨r, c, rfl⟩ : ∃ r c, l = r ++ [c] := ⟨l.dropLast, l.getLast h0, (List.dropLast_concat_getLast h0).symm⟩
    have hc := hd c (List.mem_append_right _ List.mem_cons_self)
    have hcc : UInt8.ofNat (48 + (c.toNat - 48)) = c := by rw [show 48 + (c.toNat - 48) = c.toNat by omega]; exact UInt8.ofNat_toNat
    rw [decFold_snoc]
    cases r with
    | nil =>
      have e0 : decFold 0 ([] : List UInt8) = 0 := rfl
      rw [e0, Nat.zero_mul, Nat.zero_add, Lib.decDigits, dif_pos (by omega), hcc]
      refine ⟨rfl, fun hne => ?_⟩
      have : c ≠ 48 := fun e => hne (by rw [e]; rfl)
      have : c.toNat ≠ 48 := fun e => this (UInt8.toNat_inj.1 (by rw [e]; rfl))
      omega
    | cons a r =>
      have hne : (a :: r).head? ≠ some 48 := by
        rcases hz with hz | hz
        · simp at hz
        · exact hz
      have ih := digs_fold n (a :: r) (by simp at hl ⊢; omega) (fun b hb => hd b (List.mem_append_left _ hb)) (by simp) (.inr hne)
      have hp := ih.2 hne
      generalize decFold 0 (a :: r) = m at *
      refine ⟨?_, fun _ => by omega⟩
      rw [Lib.decDigits, dif_neg (by omega), show (m * 10 + (c.toNat - 48)) / 10 = m by omega, show (m * 10 + (c.toNat - 48)) % 10 = c.toNat - 48 by omega, hcc, ih.1]
theorem num_canon {s : ByteArray} (h : numB s = true) : s.data.toList ≠ [] ∧ (s.data.toList.length = 1 ∨ s.data.toList.head? ≠ some 48) := by
  have e : s.data.toList.length = s.size := Array.length_toList
  unfold numB at h
  rw [Bool.and_eq_true, Bool.and_eq_true, decide_eq_true_eq] at h
  obtain ⟨⟨h1, h2⟩, _⟩ := h
  refine ⟨fun hn => by rw [hn] at e; simp at e; omega, ?_⟩
  by_cases h3 : s.data.toList.length = 1
  · exact .inl h3
  · right
    intro h4
    rw [show decide (2 ≤ s.size) = true by simp; omega, Bool.true_and] at h2
    have : byteZ s 0 = 48 := by
      unfold byteZ
      cases hl : s.data.toList with
      | nil => rw [hl] at h4; cases h4
      | cons a r => rw [hl] at h4; simp only [List.head?_cons, Option.some.injEq] at h4; rw [h4]; rfl
    rw [this] at h2
    cases h2
theorem num_dec {s : ByteArray} (h : numB s = true) (hm : amtV s ≤ 1000000000) : s = decW (amtV s) := by
  have h1 := amt_fold h
  have h2 : amtV s = (decFold 0 s.data.toList : Int) := by omega
  have h3 := (digs_fold _ _ rfl (num_digs h) (num_canon h).1 (num_canon h).2).1
  unfold decW decB
  rw [h2, Int.toNat_natCast, h3, arr_list]
theorem amt_nonneg {s : ByteArray} (h : numB s = true) : 0 ≤ amtV s := by rw [amt_fold h]; omega
theorem digs_head (u : Nat) (h : 10 ≤ u) : (Lib.decDigits u).head? ≠ some 48 := by
  induction u using Nat.strongRecOn with
  | _ u ih =>
    rw [Lib.decDigits, dif_neg (by omega)]
    obtain ⟨c, r, hc, _⟩ := digs_cons (u / 10)
    by_cases h2 : 10 ≤ u / 10
    · have := ih (u / 10) (by omega) h2
      rw [hc] at this ⊢
      exact this
    · rw [Lib.decDigits, dif_pos (by omega)]
      show some _ ≠ _
      intro e
      have e := congrArg UInt8.toNat (Option.some.inj e)
      rw [dig_val (by omega)] at e
      have : (48 : UInt8).toNat = 48 := rfl
      omega
theorem dec_data (n : Int) : (decW n).data.toList = Lib.decDigits n.toNat := rfl
theorem dec_num (n : Int) : numB (decW n) = true := by
  have e : (decW n).data.toList.length = (decW n).size := Array.length_toList
  have hd := digs_range n.toNat
  obtain ⟨c, r, hc, c0, c1⟩ := digs_cons n.toNat
  rw [dec_data] at e
  have h1 : 1 ≤ (decW n).size := by rw [← e, hc]; simp
  rw [num_ofZ h1]
  · rw [List.all_eq_true]
    intro j hj
    have hj2 : j < (decW n).data.toList.length := by rw [dec_data, e]; exact List.mem_range.1 hj
    have h2 := hd _ (List.getElem_mem hj2)
    unfold dgOk
    rw [byte_at hj2, Bool.and_eq_true, decide_eq_true_eq, decide_eq_true_eq]
    omega
  · by_cases h2 : n.toNat < 10
    · left
      rw [← e, Lib.decDigits, dif_pos h2]; rfl
    · right
      intro h3
      apply digs_head n.toNat (by omega)
      unfold byteZ at h3
      rw [dec_data, hc] at h3
      rw [hc]
      simp only [List.getD_cons_zero] at h3
      rw [List.head?_cons]
      congr 1
      apply UInt8.toNat_inj.1
      show c.toNat = 48
      omega
theorem dec_amt {n : Int} (h0 : 0 ≤ n) (h1 : n ≤ 1000000000) : amtV (decW n) = n := by
  rw [amt_fold (dec_num n), dec_data, decFold_digs]
  omega
theorem dec_clean (n : Int) : clean (decW n) := by
  have hd := digs_range n.toNat
  refine ⟨fun b hb e => ?_, fun b hb e => ?_⟩
  · have := hd b hb; rw [e] at this; have : (32 : UInt8).toNat = 32 := rfl; omega
  · have := hd b hb; rw [e] at this; have : (10 : UInt8).toNat = 10 := rfl; omega
theorem name_bytes {s : ByteArray} (h : nameB s = true) : ∀ b ∈ s.data.toList, 45 ≤ b.toNat := by
  intro b hb
  unfold nameB at h
  rw [Bool.and_eq_true] at h
  obtain ⟨j, hj, rfl⟩ := List.getElem_of_mem hb
  have h1 := List.all_eq_true.1 h.2 j (List.mem_range.2 (by have e : s.data.toList.length = s.size := Array.length_toList; omega))
  unfold nmOk nmOkZ at h1
  rw [byte_at hj] at h1
  simp only [Bool.or_eq_true, Bool.and_eq_true, decide_eq_true_eq, beq_iff_eq] at h1
  omega
theorem name_clean {s : ByteArray} (h : nameB s = true) : clean s := by
  have hd := name_bytes h
  refine ⟨fun b hb e => ?_, fun b hb e => ?_⟩
  · have := hd b hb; rw [e] at this; have : (32 : UInt8).toNat = 32 := rfl; omega
  · have := hd b hb; rw [e] at this; have : (10 : UInt8).toNat = 10 := rfl; omega
theorem name_len {s : ByteArray} (h : nameB s = true) : s.data.toList.length ≤ 20 := by
  have e : s.data.toList.length = s.size := Array.length_toList
  unfold nameB at h
  rw [Bool.and_eq_true, Bool.and_eq_true, decide_eq_true_eq, decide_eq_true_eq] at h
  omega
theorem dec_len {n : Int} (h : n ≤ 1000000000) : (decW n).data.toList.length ≤ 10 := by
  rw [dec_data]
  exact (digs_len 9 n.toNat (by simp; omega)).1
/-! The lines of a draw. -/
def kindL (d : Dr) : List (List ByteArray) :=
  if d.kind = 1 then [[kLottery, decW d.pool, decW d.pick]] else if d.kind = 2 then [[kBallot, decW d.cls]] else if d.kind = 3 then [[kPanel, decW d.size]] else []
def tierL (x : Int × Int) : List ByteArray := [kTier, decW x.1, decW x.2]
def placeL (x : ByteArray × Int) : List ByteArray := [kPlace, x.1, decW x.2]
def quotaL (x : ByteArray × Int × Int) : List ByteArray := [kQuota, x.1, decW x.2.1, decW x.2.2]
def barL (x : Int) : List ByteArray := [kBar, decW x]
def rollL (b : Bool) : List (List ByteArray) := if b = true then [[kRoll]] else []
def headL (d : Dr) : List (List ByteArray) := [kDraw, d.name] :: (kindL d ++ [[kRound, decW d.round], [kPrice, decW d.price]])
def restL (d : Dr) : List (List ByteArray) := d.tiers.map tierL ++ (rollL d.roll ++ (d.places.map placeL ++ (d.quotas.map quotaL ++ d.barred.map barL)))
def lnsZ (d : Dr) : List (List ByteArray) := headL d ++ restL d
def flatL (ls : List (List ByteArray)) : List UInt8 := ls.flatMap fun ws => lineW ws ++ [10]
def writeL (d : Dr) : List UInt8 := flatL (lnsZ d)
/-- The text of a draw. -/
def writeB (d : Dr) : ByteArray := ⟨(writeL d).toArray⟩
theorem flatL_app (a b : List (List ByteArray)) : flatL (a ++ b) = flatL a ++ flatL b := List.flatMap_append
theorem flatL_cons (a : List ByteArray) (b : List (List ByteArray)) : flatL (a :: b) = lineW a ++ 10 :: flatL b := by
  unfold flatL; rw [List.flatMap_cons, List.append_assoc]; rfl
theorem flatL_one (a : List ByteArray) : flatL [a] = lineW a ++ [10] := by rw [flatL_cons]; rfl
/-- Lines, one after the other. -/
def goL (t : St) : List (List ByteArray) → Int × St
  | [] => (0, t)
  | ws :: r => if (lineZ t ws).1 = 0 then goL (lineZ t ws).2 r else lineZ t ws
def cleanL (ls : List (List ByteArray)) : Prop := ∀ ws ∈ ls, ws ≠ [] ∧ ∀ w ∈ ws, clean w
theorem runL_go {r : List UInt8} : ∀ {ls : List (List ByteArray)} {t : St} {p : Nat}, cleanL ls → (goL t ls).1 = 0 → runL t p [] (flatL ls ++ r) = runL (goL t ls).2 (p + (flatL ls).length) [] r
  | [], t, p, _, _ => rfl
  | ws :: ls, t, p, hc, h => by
    have h1 := hc ws List.mem_cons_self
    unfold goL at h ⊢
    by_cases h2 : (lineZ t ws).1 = 0
    · rw [if_pos h2] at h ⊢
      rw [flatL_cons, List.append_assoc, List.cons_append, runL_ws h1.1 h1.2, if_pos h2, runL_go (fun x hx => hc x (List.mem_cons_of_mem _ hx)) h, List.length_append, List.length_cons]
      congr 1
      omega
    · rw [if_neg h2] at h
      exact absurd h h2
theorem goL_yes {ws : List ByteArray} {r : List (List ByteArray)} {t : St} (h : (lineZ t ws).1 = 0) : goL t (ws :: r) = goL (lineZ t ws).2 r := by
  show (if _ then _ else _) = _
  rw [if_pos h]
theorem goL_no {ws : List ByteArray} {r : List (List ByteArray)} {t : St} (h : (lineZ t ws).1 ≠ 0) : goL t (ws :: r) = lineZ t ws := by
  show (if _ then _ else _) = _
  rw [if_neg h]
theorem goL_app : ∀ {a b : List (List ByteArray)} {t : St}, (goL t a).1 = 0 → goL t (a ++ b) = goL (goL t a).2 b
  | [], _, _, _ => rfl
  | ws :: a, b, t, h => by
    rw [List.cons_append]
    by_cases h2 : (lineZ t ws).1 = 0
    · rw [goL_yes h2] at h
      rw [goL_yes h2, goL_yes h2]
      exact goL_app h
    · rw [goL_no h2] at h
      exact absurd h h2
theorem goL_cons {ws : List ByteArray} {r : List (List ByteArray)} {t t' : St} (h : lineZ t ws = (0, t')) : goL t (ws :: r) = goL t' r := by
  rw [goL_yes (by rw [h]), h]
end Go.Proofs.YteikkpiginfbkaaGreatDoor
