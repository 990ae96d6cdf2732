/-
  Rules: the program's ParseEntrant on the text of an entrant with two picks and a wish.
  Rules: the laws' sanity.
  Rules: the walks of the laws RulesTexts and RulesRaw.
-/
import Derived.Test.YteikkpiginfbkaaGreatDoorPh34
import Derived.Laws.EntriesVeiled
import Derived.Test.YteikkpiginfbkaaGreatDoorPh20
import Derived.Test.YteikkpiginfbkaaGreatDoorPh33
namespace Go.Proofs.YteikkpiginfbkaaGreatDoor
open Go.RowKit

def sEnt : ByteArray := ⟨#[101, 110, 116, 114, 97, 110, 116, 32, 53, 32, 48, 32, 48, 32, 50, 32, 49, 32, 50, 32, 49, 32, 120, 32, 48]⟩
def en0 : En := ⟨5, 0, 0, [1, 2], [⟨#[120]⟩], []⟩
def wEnt : List ByteArray := [⟨#[101, 110, 116, 114, 97, 110, 116]⟩, ⟨#[53]⟩, ⟨#[48]⟩, ⟨#[48]⟩, ⟨#[50]⟩, ⟨#[49]⟩, ⟨#[50]⟩, ⟨#[49]⟩, ⟨#[120]⟩, ⟨#[48]⟩]
theorem ent_words : wordsB sEnt = wEnt := by decide
theorem ent_parts : wEnt.map partV = [.iface 9 (.string ⟨#[101, 110, 116, 114, 97, 110, 116]⟩), .iface 3 (.int .i64 5), .iface 3 (.int .i64 0), .iface 3 (.int .i64 0), .iface 3 (.int .i64 2), .iface 3 (.int .i64 1), .iface 3 (.int .i64 2), .iface 3 (.int .i64 1), .iface 9 (.string ⟨#[120]⟩), .iface 3 (.int .i64 0)] := by
  simp only [wEnt, List.map_cons, List.map_nil]
  rw [partV_str (w := ⟨#[101, 110, 116, 114, 97, 110, 116]⟩) (by decide), partV_num (w := ⟨#[53]⟩) (by decide), partV_num (w := ⟨#[48]⟩) (by decide), partV_num (w := ⟨#[50]⟩) (by decide), partV_num (w := ⟨#[49]⟩) (by decide), partV_str (w := ⟨#[120]⟩) (by decide)]
  simp only [show amtV ⟨#[53]⟩ = 5 by decide, show amtV ⟨#[48]⟩ = 0 by decide, show amtV ⟨#[50]⟩ = 2 by decide, show amtV ⟨#[49]⟩ = 1 by decide]
def zeroE : Array Value := #[.int .i64 0, .int .i64 0, .int .i64 0, .slice none 0 0, .slice none 0 0, .slice none 0 0]
def zeroRd : Array Value := #[.string ⟨#[]⟩, .int .i64 0, .int .i64 0, .int .i64 0, .int .i64 0, .int .i64 0, .slice none 0 0, .bool false, .slice none 0 0, .int .i64 0, .int .i64 0, .slice none 0 0, .slice none 0 0, .int .i64 0, .int .i64 0, .bool false, .bool false]
/-- What the results, the error, and the reader hold. -/
structure EntAt (w : World) (P1 : Nat) (cs : Array Value) (err : Int) : Prop where
  ent : w.heap[P1]? = some (.cells cs 44 (0, 0))
  err : w.heap[P1 + 1]? = some (.cells #[.int .i64 err] 35 (0, 0))
  rd : w.cell? ⟨P1 + 1 + 1 + 1, 0, none⟩ = some (.pointer (some ⟨P1 + 1 + 1, 0, none⟩))
theorem EntAt.still {w w' : World} {P1 : Nat} {cs : Array Value} {err : Int} (h : EntAt w P1 cs err) (hO : Only (fun _ => False) w w') : EntAt w' P1 cs err := ⟨row_still hO h.ent, row_still hO h.err, hO.cell h.rd id⟩
theorem entAt_new (w : World) : EntAt ((((w.alloc (.cells zeroE 44)).alloc (.cells #[.int .i64 0] 35)).alloc (.cells zeroRd 84)).alloc (.cells #[.pointer (some ⟨w.heap.size + 1 + 1, 0, none⟩)] 82)) w.heap.size zeroE 0 := by
  have o2 := fun W (o : Obj) => (Only.refl (fun _ => False) W).alloc o
  have h1 := heap_alloc_last w (.cells zeroE 44)
  have h2 := heap_alloc_last (w.alloc (.cells zeroE 44)) (.cells #[.int .i64 0] 35)
  have h4 := heap_alloc_last (((w.alloc (.cells zeroE 44)).alloc (.cells #[.int .i64 0] 35)).alloc (.cells zeroRd 84)) (.cells #[.pointer (some ⟨w.heap.size + 1 + 1, 0, none⟩)] 82)
  simp only [World.size_alloc] at h2 h4
  exact ⟨row_still (o2 _ _) (row_still (o2 _ _) (row_still (o2 _ _) h1)), row_still (o2 _ _) (row_still (o2 _ _) h2), cell_of_row _ _ 0 _ _ _ h4⟩
theorem cl_new (w : World) (R r g n c : Nat) (hR : w.cell? ⟨R, 0, none⟩ = some (.pointer (some ⟨r, 0, none⟩))) :
    ClAt (((w.alloc (.cells #[.slice (some ⟨g, 0, none⟩) n c] 114)).alloc (.cells #[.func (.func 56) #[] #[.pointer (some ⟨R, 0, none⟩), .pointer (some ⟨w.heap.size, 0, none⟩)]] 117)).alloc (.cells #[.func (.func 58) #[] #[.pointer (some ⟨w.heap.size + 1, 0, none⟩), .pointer (some ⟨R, 0, none⟩)]] 78)) w.heap.size R r (w.heap.size + 1) (w.heap.size + 1 + 1) ∧
    (((w.alloc (.cells #[.slice (some ⟨g, 0, none⟩) n c] 114)).alloc (.cells #[.func (.func 56) #[] #[.pointer (some ⟨R, 0, none⟩), .pointer (some ⟨w.heap.size, 0, none⟩)]] 117)).alloc (.cells #[.func (.func 58) #[] #[.pointer (some ⟨w.heap.size + 1, 0, none⟩), .pointer (some ⟨R, 0, none⟩)]] 78)).heap[w.heap.size]? = some (.cells #[.slice (some ⟨g, 0, none⟩) n c] 114 (0, 0)) := by
  have o2 := fun W (o : Obj) => (Only.refl (fun _ => False) W).alloc o
  have hlt := World.block_lt_of_cell? _ _ hR
  dsimp only at hlt
  have h1 := heap_alloc_last w (.cells #[.slice (some ⟨g, 0, none⟩) n c] 114)
  have h2 := heap_alloc_last (w.alloc (.cells #[.slice (some ⟨g, 0, none⟩) n c] 114)) (.cells #[.func (.func 56) #[] #[.pointer (some ⟨R, 0, none⟩), .pointer (some ⟨w.heap.size, 0, none⟩)]] 117)
  have h3 := heap_alloc_last ((w.alloc (.cells #[.slice (some ⟨g, 0, none⟩) n c] 114)).alloc (.cells #[.func (.func 56) #[] #[.pointer (some ⟨R, 0, none⟩), .pointer (some ⟨w.heap.size, 0, none⟩)]] 117)) (.cells #[.func (.func 58) #[] #[.pointer (some ⟨w.heap.size + 1, 0, none⟩), .pointer (some ⟨R, 0, none⟩)]] 78)
  simp only [World.size_alloc] at h2 h3
  exact ⟨⟨(((Only.refl (fun _ => False) w).alloc _).alloc _ |>.alloc _).cell hR id, (o2 _ _).cell (cell_of_row _ _ 0 _ _ _ h2) id, cell_of_row _ _ 0 _ _ _ h3, by omega, by omega, by omega⟩, row_still (o2 _ _) (row_still (o2 _ _) h1)⟩
/-- A post that a panic never meets: for the regions that draw in a function that defers. -/
def NoP (Q : Exit → Act → World → Prop) : Exit → Act → World → Prop
  | .panic _, _, _ => False
  | e, a, w => Q e a w
theorem noP_le {Q : Exit → Act → World → Prop} {e : Exit} {a : Act} {w : World} (h : NoP Q e a w) : Q e a w := by
  cases e <;> first | exact h | exact h.elim
theorem noP_ok {Q : Exit → Act → World → Prop} {a : Act} {w : World} (h : Q .normal a w) : NoP Q .normal a w := h
theorem eq_ent (w : World) : (binOp BinOp.eql 20 (.iface 9 (.string ⟨#[101, 110, 116, 114, 97, 110, 116]⟩)) (.iface 9 (.string ⟨#[101, 110, 116, 114, 97, 110, 116]⟩))).run Tryz.prog w = .ok (.bool true) w := by kernel_rfl
theorem own_capE {w : World} {base e size n g cap : Nat} {xs : List Value} (h : w.ownsRow base e size (.slice (some ⟨g, 0, none⟩) n cap) n xs) : n ≤ cap ∧ cap ≤ 9223372036854775807 := by
  rcases h.2 with ⟨hv, _⟩ | ⟨g', cap', cur, hv, _, _, h1, h2, _, _⟩
  · cases hv
  · simp only [Value.slice.injEq, true_and] at hv
    obtain ⟨_, rfl⟩ := hv
    exact ⟨h1, h2⟩
/-- How far the line is read, and what the entrant holds. -/
structure EsAt (Lb P1 g cap d : Nat) (cs : Array Value) (w W : World) : Prop where
  only : Only (fun i => i = Lb ∨ i = P1) w W
  line : ∃ a, (d < cap → a = some ⟨g, d, none⟩) ∧ W.heap[Lb]? = some (.cells #[.slice a (10 - d) (cap - d)] 114 (0, 0))
  ent : W.heap[P1]? = some (.cells cs 44 (0, 0))
theorem EsAt.step {Lb P1 g cap d k : Nat} {cs : Array Value} {w W W' : World} (h : EsAt Lb P1 g cap d cs w W) (hl : LnTo Lb g d (10 - d) (cap - d) k W W') (hp : P1 ≠ Lb) : EsAt Lb P1 g cap (d + k) cs w W' := by
  obtain ⟨a, ha, hb⟩ := hl.2
  exact ⟨h.only.trans (hl.1.mono (fun _ _ e => .inl e)), ⟨a, fun hc => ha (by omega), by rw [show 10 - (d + k) = 10 - d - k by omega, show cap - (d + k) = cap - d - k by omega]; exact hb⟩, (hl.1.block P1 (Array.getElem?_eq_some_iff.1 h.ent).1 hp).trans h.ent⟩
theorem EsAt.still {Lb P1 g cap d : Nat} {cs : Array Value} {w W W' : World} (h : EsAt Lb P1 g cap d cs w W) (hO : Only (fun _ => False) W W') : EsAt Lb P1 g cap d cs w W' := by
  obtain ⟨a, ha, hb⟩ := h.line
  exact ⟨h.only.trans (hO.mono (fun _ _ e => e.elim)), ⟨a, ha, row_still hO hb⟩, row_still hO h.ent⟩
theorem EsAt.set {Lb P1 g cap d : Nat} {cs : Array Value} {w W : World} (h : EsAt Lb P1 g cap d cs w W) (j : Nat) (v : Value) (hp : P1 ≠ Lb) : EsAt Lb P1 g cap d (cs.setIfInBounds j v) w (W.setCell ⟨P1, j, none⟩ v) := by
  obtain ⟨a, ha, hb⟩ := h.line
  exact ⟨h.only.setCell (p := ⟨P1, j, none⟩) (.inl (.inr rfl)) v, ⟨a, ha, (heap_setCell_other W ⟨P1, j, none⟩ Lb v (fun e => hp e.symm)).trans hb⟩, heap_setCell_same W P1 j _ _ _ h.ent⟩
theorem EsAt.grown {Lb P1 g cap d : Nat} {cs : Array Value} {w W W' : World} {r : Option Nat} (h : EsAt Lb P1 g cap d cs w W) (hg : W.grownBy W' r) (hr : ∀ k, r = some k → w.heap.size ≤ k) (hl : Lb < w.heap.size) (hp : P1 < w.heap.size) : EsAt Lb P1 g cap d cs w W' := by
  obtain ⟨a, ha, hb⟩ := h.line
  exact ⟨h.only.grown hg (fun k e hk => by have := hr k e; omega), ⟨a, ha, (hg.block Lb (Array.getElem?_eq_some_iff.1 hb).1 (fun e => by have := hr _ e.symm; omega)).trans hb⟩, (hg.block P1 (Array.getElem?_eq_some_iff.1 h.ent).1 (fun e => by have := hr _ e.symm; omega)).trans h.ent⟩
/-- What is asked of the places. -/
structure EsOk (Lb P1 g cap : Nat) (w : World) : Prop where
  cl : ClAt w Lb (P1 + 1 + 1 + 1) (P1 + 1 + 1) (Lb + 1) (Lb + 1 + 1)
  p1 : P1 + 1 + 1 + 1 < Lb
  gl : g < Lb ∧ P1 + 1 + 1 + 1 < g
  capo : 10 ≤ cap ∧ cap ≤ 9223372036854775807
theorem EsAt.cl {Lb P1 g cap d : Nat} {cs : Array Value} {w W : World} (h : EsAt Lb P1 g cap d cs w W) (ho : EsOk Lb P1 g cap w) : ClAt W Lb (P1 + 1 + 1 + 1) (P1 + 1 + 1) (Lb + 1) (Lb + 1 + 1) :=
  ho.cl.only h.only (by have := ho.p1; omega)
theorem amount_at {Lb P1 g cap d : Nat} {cs : Array Value} {w W : World} (h : EsAt Lb P1 g cap d cs w W) (ho : EsOk Lb P1 g cap w) (hd : d < 10) (z most : Int) (hv : w.cell? ⟨g, d, none⟩ = some (.iface 3 (.int .i64 z))) (hz : z ≤ most) :
    Calls Tryz.prog 58 #[.int .i64 most, .pointer (some ⟨Lb + 1, 0, none⟩), .pointer (some ⟨P1 + 1 + 1 + 1, 0, none⟩)] W fun e w' => e = .returned (.int .i64 z) ∧ Only (fun i => i = Lb) W w' ∧ EsAt Lb P1 g cap (d + 1) cs w w' := by
  obtain ⟨a, ha, hrow⟩ := h.line
  obtain rfl := ha (by have := ho.capo; omega)
  refine (amount_is Lb (P1 + 1 + 1 + 1) (P1 + 1 + 1) (Lb + 1) (Lb + 1 + 1) g d (10 - d) (cap - d) z most W (h.cl ho) hrow (by omega) (by have := ho.capo; omega) (by have := ho.capo; omega) (h.only.cell hv (by have := ho.gl; dsimp only; omega)) hz).mono ?_
  rintro e w' ⟨rfl, hl⟩
  exact ⟨rfl, hl.1, h.step hl (by have := ho.p1; omega)⟩
theorem namesE_at {Lb P1 g cap d : Nat} {cs : Array Value} {w W : World} (h : EsAt Lb P1 g cap d cs w W) (ho : EsOk Lb P1 g cap w) (l : List ByteArray) (hd : d + 1 + l.length ≤ 10) (h12 : l.length ≤ 12) (hv : w.cell? ⟨g, d, none⟩ = some (.iface 3 (.int .i64 l.length)))
    (hvs : ∀ j, j < l.length → w.cell? ⟨g, d + (1 + j), none⟩ = some (.iface 9 (.string (naAt l j))) ∧ nameB (naAt l j) = true) :
    Calls Tryz.prog 59 #[.pointer (some ⟨Lb + 1 + 1, 0, none⟩), .pointer (some ⟨Lb + 1, 0, none⟩), .pointer (some ⟨P1 + 1 + 1 + 1, 0, none⟩)] W fun e w' => ∃ v, e = .returned v ∧ w'.ownsRow w.heap.size 9 1 v l.length (nrow l) ∧ Only (fun i => i = Lb) W w' ∧ EsAt Lb P1 g cap (d + (1 + l.length)) cs w w' := by
  obtain ⟨a, ha, hrow⟩ := h.line
  obtain rfl := ha (by have := ho.capo; omega)
  have hne : ¬ (g = Lb ∨ g = P1) := by have := ho.gl; omega
  refine (names_is Lb (P1 + 1 + 1 + 1) (P1 + 1 + 1) (Lb + 1) (Lb + 1 + 1) g d (10 - d) (cap - d) l W (h.cl ho) hrow (by omega) (by have := ho.capo; omega) (by have := ho.capo; omega) (h.only.cell hv hne) h12 (by have := ho.gl; omega) (fun j hj => ⟨h.only.cell (hvs j hj).1 hne, (hvs j hj).2⟩)).mono ?_
  rintro e w' ⟨v, rfl, hown, hl⟩
  exact ⟨v, rfl, ownR_base hown h.only.size, hl.1, h.step hl (by have := ho.p1; omega)⟩
theorem results_ent {W : World} {tmps : Array Value} {P1 : Nat} {cs : Array Value} {err : Int} (h : EntAt W P1 cs err) (hz : cs.size = 6) (h2 : tmps.getD 2 undef = .pointer (some ⟨P1, 0, none⟩)) (h3 : tmps.getD 3 undef = .pointer (some ⟨P1 + 1, 0, none⟩)) :
    (results Tryz.f26 tmps).run Tryz.prog W = .ok (.tuple #[.agg cs, .int .i64 err]) W := by
  have c3 : W.cell? ⟨P1 + 1, 0, none⟩ = some (.int .i64 err) := cell_of_row _ _ 0 _ _ _ h.err
  have h2' : tmps[2]?.getD undef = .pointer (some ⟨P1, 0, none⟩) := by simpa using h2
  have h3' : tmps[3]?.getD undef = .pointer (some ⟨P1 + 1, 0, none⟩) := by simpa using h3
  have l1 := run_loadVar_row (P := Tryz.prog) W P1 44 44 cs (0, 0) _ h.ent Tryz.underlying44 rfl (by rw [hz]; exact Tryz.infoEn)
  have l3 : (loadVar 35 ⟨P1 + 1, 0, none⟩).run Tryz.prog W = .ok (.int .i64 err) W := by simp [go_sem, c3]
  simp [results, Tryz.results26, h2', h3', asAddr, l1, l3]
set_option maxHeartbeats 1000000 in
theorem idleE (a b : Addr) (w : World) :
    CallsD Tryz.prog 54 #[.pointer (some a), .pointer (some b)] .returning w fun e u' w' => e = .returned (.tuple #[]) ∧ u' = .returning ∧ Only (fun _ => False) w w' := by
  have ta := ta_nofault
  refine callsD_of_wpS Tryz.func54 rfl fun c₀ cs hu => ?_
  simp only [Tryz.ntmps54, List.size_toArray, List.length_cons, List.length_nil, Nat.reduceAdd, Nat.reduceSub, Array.replicate_succ, Array.replicate_zero, List.push_toArray, List.append_toArray, List.nil_append, List.cons_append]
  apply wpS_seq
  refine wpS_rec rfl rfl (.inr ⟨by simp [recoverD, hu], rfl, rfl⟩) ?_
  go_wp2_with fail
  refine wpS_of_wp ?_
  go_wp2_with fail
  refine ⟨rfl, .returning, by cases c₀; simp_all, _, results_none rfl _ _ _, rfl, rfl, (Only.refl _ w).alloc _⟩
set_option maxRecDepth 100000 in
set_option maxHeartbeats 8000000 in
theorem parsent_one (w : World) (hG : LenR w) :
    Calls Tryz.prog 26 #[.string sEnt] w fun e w' => ∃ vp vw vg, e = .returned (.tuple #[.agg (enCells en0 vp vw vg), .int .i64 0]) ∧ EnOwn w.heap.size w' en0 vp vw vg ∧ Only (fun _ => False) w w' := by
  have hmf : ∀ (fn : Fn) (first cap : Array Value) (w : World), (Instr.makeFunc fn first cap).run Tryz.prog w = .ok (.func fn first cap) w := fun _ _ _ _ => rfl
  have HPT := Lib.hid (fun W hW => parts_any sEnt W (by decide) hW)
  have HG := Lib.hid hG
  clear hG
  obtain ⟨sv, hsv⟩ : ∃ s, sEnt = s := ⟨_, rfl⟩
  have HSV := Lib.hid hsv
  rw [hsv] at HPT ⊢
  clear hsv
  go_enter_defers Tryz.func26, Tryz.ntmps26
  go_wp2_with fail
  have HE0 := Lib.hid (heap_alloc_last w (.cells zeroE 44))
  have HO0 := Lib.hid ((((Only.refl (fun _ => False) w).alloc (.cells zeroE 44)).alloc (.cells #[.int .i64 0] 35)).alloc (.cells zeroRd 84) |>.alloc (.cells #[.pointer (some ⟨w.heap.size + 1 + 1, 0, none⟩)] 82))
  have HR0 := Lib.hid (entAt_new w)
  unfold zeroE zeroRd at HO0 HR0
  generalize World.alloc (World.alloc (World.alloc (World.alloc w _) _) _) _ = w4 at *
  refine (HPT.out w4 (HG.out.only HO0.out (fun h => h))).mono ?_
  rintro e w5 ⟨v, rfl, hown, hO5⟩
  rw [← HSV.out, ent_words, ent_parts] at hown
  have hp := hown
  obtain ⟨g, cap, rfl, hg4, hg5⟩ := hown.form (by decide)
  have HOW := Lib.hid hp
  have HO5 := Lib.hid (HO0.out.trans hO5)
  have HR5 := Lib.hid (HR0.out.still hO5)
  have HRW4 := Lib.hid HR0.out.rd
  clear hown hp hO5 HPT HR0 HO0
  go_upto_region 7 with (fail)
  have HO6 := Lib.hid (show Only (fun _ => False) w5 (((w5.alloc (.cells #[.slice (some ⟨g, 0, none⟩) wEnt.length cap] 114)).alloc (.cells #[.func (.func 56) #[] #[.pointer (some ⟨w.heap.size + 1 + 1 + 1, 0, none⟩), .pointer (some ⟨w5.heap.size, 0, none⟩)]] 117)).alloc (.cells #[.func (.func 58) #[] #[.pointer (some ⟨w5.heap.size + 1, 0, none⟩), .pointer (some ⟨w.heap.size + 1 + 1 + 1, 0, none⟩)]] 78)) from (((Only.refl (fun _ => False) w5).alloc _).alloc _).alloc _)
  have HQ := Lib.hid (cl_new w5 (w.heap.size + 1 + 1 + 1) (w.heap.size + 1 + 1) g wEnt.length cap HR5.out.rd)
  generalize (((w5.alloc (.cells #[.slice (some ⟨g, 0, none⟩) wEnt.length cap] 114)).alloc (.cells #[.func (.func 56) #[] #[.pointer (some ⟨w.heap.size + 1 + 1 + 1, 0, none⟩), .pointer (some ⟨w5.heap.size, 0, none⟩)]] 117)).alloc (.cells #[.func (.func 58) #[] #[.pointer (some ⟨w5.heap.size + 1, 0, none⟩), .pointer (some ⟨w.heap.size + 1 + 1 + 1, 0, none⟩)]] 78)) = w6 at *
  have hP5 := (Array.getElem?_eq_some_iff.1 HR5.out.err).1
  have hR5 := World.block_lt_of_cell? _ _ HR5.out.rd
  dsimp only at hR5
  obtain ⟨Lb, hLb⟩ : ∃ n, w5.heap.size = n := ⟨_, rfl⟩
  have HR6 := Lib.hid (HR5.out.still HO6.out)
  have HOW6 := Lib.hid (HO6.out.owns HOW.out (fun _ _ h => h))
  have hcap : 10 ≤ cap ∧ cap ≤ 9223372036854775807 := own_capE HOW.out
  have HCAP := Lib.hid hcap
  have HGL := Lib.hid (show g < Lb by omega)
  have HGP := Lib.hid (show w.heap.size + 1 + 1 + 1 < g by have := World.block_lt_of_cell? _ _ HRW4.out; dsimp only at this; omega)
  have hw4 := HO5.out.size
  rw [hLb] at HQ hP5 hR5 hw4 ⊢
  have HLB := Lib.hid (show w.heap.size + 1 + 1 + 1 < Lb from hR5)
  have HLW := Lib.hid hLb
  have HO6 := Lib.hid (HO5.out.trans HO6.out)
  clear hLb hP5 hcap hg4 hg5
  have HCE := Lib.hid (show ∀ j, j < 10 → w6.cell? ⟨g, j, none⟩ = (([.iface 9 (.string ⟨#[101, 110, 116, 114, 97, 110, 116]⟩), .iface 3 (.int .i64 5), .iface 3 (.int .i64 0), .iface 3 (.int .i64 0), .iface 3 (.int .i64 2), .iface 3 (.int .i64 1), .iface 3 (.int .i64 2), .iface 3 (.int .i64 1), .iface 9 (.string ⟨#[120]⟩), .iface 3 (.int .i64 0)] : List Value)[j]?) from fun j hj => by
    have h := HOW6.out.cells (g := g) rfl j
    have hlt : j < ([.iface 9 (.string ⟨#[101, 110, 116, 114, 97, 110, 116]⟩), .iface 3 (.int .i64 5), .iface 3 (.int .i64 0), .iface 3 (.int .i64 0), .iface 3 (.int .i64 2), .iface 3 (.int .i64 1), .iface 3 (.int .i64 2), .iface 3 (.int .i64 1), .iface 9 (.string ⟨#[120]⟩), .iface 3 (.int .i64 0)] : List Value).length := hj
    have h2 := h _ (List.getElem?_eq_getElem hlt)
    rw [Addr.add_lit, Nat.zero_add] at h2
    rw [h2, List.getElem?_eq_getElem hlt])
  have HLT := Lib.hid (LnTo.zero HQ.out.2)
  have hn10 : wEnt.length = 10 := rfl
  rw [hn10] at HLT ⊢
  have HNE := Lib.hid (show g ≠ Lb by have := HGL.out; omega)
  clear hn10
  have r0 := HQ.out.1.rd
  have n0 := HQ.out.1.next
  have HKS := Lib.hid (show ∀ W, Only (fun i => i = Lb) w6.drew W → W.cell? ⟨w.heap.size + 1 + 1 + 1, 0, none⟩ = some (.pointer (some ⟨w.heap.size + 1 + 1, 0, none⟩)) ∧ W.cell? ⟨Lb + 1, 0, none⟩ = some (.func (.func 56) #[] #[.pointer (some ⟨w.heap.size + 1 + 1 + 1, 0, none⟩), .pointer (some ⟨Lb, 0, none⟩)]) from fun W hW => ⟨hW.cell r0 HQ.out.1.apart.1, hW.cell n0 HQ.out.1.apart.2.1⟩)
  refine Code.wp_mono (Q := NoP _) (fun _ _ _ => noP_le) ?_
  refine wp_region_held_drew (S := fun W => Only (fun i => i = Lb) w6.drew W) (by kernel_rfl) (Only.refl _ _) fun hHeld => ?_
  refine' wpAnyH_take (i := 0) (v := _) rfl (by kernel_rfl) (by kernel_rfl) (by kernel_rfl) (fun _ _ _ h => h) (Or.inl ⟨by rfl, ?hys0⟩) hHeld ?rs0
  case hys0 => (intro w hSw; obtain ⟨r0, n0⟩ := HKS.out _ hSw; go_simp; with_reducible rfl)
  try simp only [Act.put, List.getElem_toArray, List.getElem_cons_zero, List.setIfInBounds_toArray, List.set_cons_zero, List.set_cons_succ]
  refine' wpAnyH_take (i := 1) (v := _) rfl (by kernel_rfl) (by kernel_rfl) (by kernel_rfl) (fun _ _ _ h => h) (Or.inl ⟨by rfl, ?hys1⟩) hHeld ?rs1
  case hys1 => (intro w hSw; obtain ⟨r0, n0⟩ := HKS.out _ hSw; go_simp; with_reducible rfl)
  try simp only [Act.put, List.getElem_toArray, List.getElem_cons_zero, List.getElem_cons_succ, List.setIfInBounds_toArray, List.set_cons_zero, List.set_cons_succ]
  refine' wpAnyH_take (i := 3) (v := _) rfl (by kernel_rfl) (by kernel_rfl) (by kernel_rfl) (fun _ _ _ h => h) (Or.inl ⟨by rfl, ?hys3⟩) hHeld ?rs3
  case hys3 => (intro w hSw; skip; go_simp; with_reducible rfl)
  try simp only [Act.put, List.getElem_toArray, List.getElem_cons_zero, List.getElem_cons_succ, List.setIfInBounds_toArray, List.set_cons_zero, List.set_cons_succ]
  refine wpAnyH_ready (rs := [2]) (by kernel_rfl) (by simp) ?_
  refine AllReadyH.cons rfl (fun K hK => ?_) AllReadyH.nil
  obtain ⟨ax, hax, hrow⟩ := HLT.out.2
  obtain rfl := hax (by have := HCAP.out; omega)
  go_simp
  refine (next_is Lb (w.heap.size + 1 + 1 + 1) (w.heap.size + 1 + 1) g (0 + 0) (10 - 0) (cap - 0) (.iface 9 (.string ⟨#[101, 110, 116, 114, 97, 110, 116]⟩)) w6.drew r0 hrow (by decide) (by have := HCAP.out; omega) (by have := HCAP.out; omega) (HCE.out 0 (by decide))).mono ?_
  rintro e w7 ⟨rfl, hl⟩
  have HLT := Lib.hid ((show LnTo Lb g 0 10 cap 0 w6 w6.drew from ⟨(Only.refl _ w6).drew, HLT.out.2⟩).next hl)
  refine hK.out _ _ hl.1 (fun hHeld => ?_)
  clear hK K hl hrow hax
  try simp only [Act.put, List.getElem_toArray, List.getElem_cons_zero, List.getElem_cons_succ, List.setIfInBounds_toArray, List.set_cons_zero, List.set_cons_succ]
  refine' wpAnyH_take (i := 4) (v := _) rfl (by kernel_rfl) (by kernel_rfl) (by kernel_rfl) (fun _ _ _ h => h) (Or.inl ⟨by rfl, ?hys4⟩) hHeld ?rs4
  case hys4 => (intro w hSw; have hee := eq_ent w; go_simp; with_reducible rfl)
  try simp only [Act.put, List.getElem_toArray, List.getElem_cons_zero, List.getElem_cons_succ, List.setIfInBounds_toArray, List.set_cons_zero, List.set_cons_succ]
  refine wpAnyH_ready (rs := [5]) (by kernel_rfl) (by simp) ?_
  refine AllReadyH.cons rfl (fun K hK => ?_) AllReadyH.nil
  go_simp
  refine (need_ok (w.heap.size + 1 + 1) 11 w7).mono ?_
  rintro e w8 ⟨rfl, rfl⟩
  refine hK.out _ _ hHeld (fun hHeld => ?_)
  clear hK K
  try simp only [Act.put, List.getElem_toArray, List.getElem_cons_zero, List.getElem_cons_succ, List.setIfInBounds_toArray, List.set_cons_zero, List.set_cons_succ]
  refine wpAnyH_done (by kernel_rfl) (noP_ok ?_) _
  clear hHeld HKS r0 n0
  have HES := Lib.hid (show EsAt Lb w.heap.size g cap 1 zeroE w6 w7 from ⟨HLT.out.1.mono (fun _ _ e => .inl e), (by obtain ⟨a, h1, h2⟩ := HLT.out.2; exact ⟨a, fun hc => by rw [h1 hc, Nat.zero_add], h2⟩), (HLT.out.1.block w.heap.size (Array.getElem?_eq_some_iff.1 HR6.out.ent).1 (by have := HLB.out; omega)).trans HR6.out.ent⟩)
  have HEO := Lib.hid (show EsOk Lb w.heap.size g cap w6 from ⟨HQ.out.1, HLB.out, ⟨HGL.out, HGP.out⟩, HCAP.out⟩)
  clear HLT
  unfold zeroE at HES
  go_upto_region 8 with (fail)
  have HES := Lib.hid (HES.out.still ((Only.refl _ w7).drew))
  have HKS := Lib.hid (show ∀ W, Only (fun i => i = Lb ∨ i = w.heap.size) w6 W → W.cell? ⟨Lb + 1 + 1, 0, none⟩ = some (.func (.func 58) #[] #[.pointer (some ⟨Lb + 1, 0, none⟩), .pointer (some ⟨w.heap.size + 1 + 1 + 1, 0, none⟩)]) from fun W hW => hW.cell HQ.out.1.amount (by have := HLB.out; dsimp only; omega))
  refine Code.wp_mono (Q := NoP _) (fun _ _ _ => noP_le) ?_
  refine wp_region_held_drew (S := fun W => Only (fun i => i = Lb ∨ i = w.heap.size) w6 W) (by kernel_rfl) HES.out.only fun hHeld => ?_
  generalize w7.drew = v7 at *
  refine' wpAnyH_take (i := 0) (v := _) rfl (by kernel_rfl) (by kernel_rfl) (by kernel_rfl) (fun _ _ _ h => h) (Or.inl ⟨by rfl, ?hyt0⟩) hHeld ?rt0
  case hyt0 => (intro w hSw; obtain a0 := HKS.out _ hSw; go_simp; with_reducible rfl)
  try simp only [Act.put, List.getElem_toArray, List.getElem_cons_zero, List.setIfInBounds_toArray, List.set_cons_zero, List.set_cons_succ]
  refine' wpAnyH_take (i := 2) (v := _) rfl (by kernel_rfl) (by kernel_rfl) (by kernel_rfl) (fun _ _ _ h => h) (Or.inl ⟨by rfl, ?hyt2⟩) hHeld ?rt2
  case hyt2 => (intro w hSw; obtain a0 := HKS.out _ hSw; go_simp; with_reducible rfl)
  try simp only [Act.put, List.getElem_toArray, List.getElem_cons_zero, List.getElem_cons_succ, List.setIfInBounds_toArray, List.set_cons_zero, List.set_cons_succ]
  refine' wpAnyH_take (i := 4) (v := _) rfl (by kernel_rfl) (by kernel_rfl) (by kernel_rfl) (fun _ _ _ h => h) (Or.inl ⟨by rfl, ?hyt4⟩) hHeld ?rt4
  case hyt4 => (intro w hSw; obtain a0 := HKS.out _ hSw; go_simp; with_reducible rfl)
  try simp only [Act.put, List.getElem_toArray, List.getElem_cons_zero, List.getElem_cons_succ, List.setIfInBounds_toArray, List.set_cons_zero, List.set_cons_succ]
  refine wpAnyH_ready (rs := [1]) (by kernel_rfl) (by simp) ?_
  refine AllReadyH.cons rfl (fun K hK => ?_) AllReadyH.nil
  go_simp
  refine (amount_at HES.out HEO.out (by decide) 5 1000000000 (HCE.out 1 (by decide)) (by decide)).mono ?_
  rintro e v8 ⟨rfl, hl, hes⟩
  have HES := Lib.hid hes
  refine hK.out _ _ HES.out.only (fun hHeld => ?_)
  clear hK K hl hes
  try simp only [Act.put, List.getElem_toArray, List.getElem_cons_zero, List.getElem_cons_succ, List.setIfInBounds_toArray, List.set_cons_zero, List.set_cons_succ]
  refine' wpAnyH_take (i := 6) (v := _) rfl (by kernel_rfl) (by kernel_rfl) (by kernel_rfl) (fun _ _ _ h => h) (Or.inl ⟨by rfl, ?hyt6⟩) hHeld ?rt6
  case hyt6 => (intro w hSw; skip; go_simp; with_reducible rfl)
  try simp only [Act.put, List.getElem_toArray, List.getElem_cons_zero, List.getElem_cons_succ, List.setIfInBounds_toArray, List.set_cons_zero, List.set_cons_succ]
  refine wpAnyH_ready (rs := [3]) (by kernel_rfl) (by simp) ?_
  refine AllReadyH.cons rfl (fun K hK => ?_) AllReadyH.nil
  go_simp
  refine (amount_at HES.out HEO.out (by decide) 0 1000000000 (HCE.out 2 (by decide)) (by decide)).mono ?_
  rintro e v9 ⟨rfl, hl, hes⟩
  have HES := Lib.hid hes
  refine hK.out _ _ HES.out.only (fun hHeld => ?_)
  clear hK K hl hes
  try simp only [Act.put, List.getElem_toArray, List.getElem_cons_zero, List.getElem_cons_succ, List.setIfInBounds_toArray, List.set_cons_zero, List.set_cons_succ]
  refine wpAnyH_ready (rs := [5]) (by kernel_rfl) (by simp) ?_
  refine AllReadyH.cons rfl (fun K hK => ?_) AllReadyH.nil
  go_simp
  refine (amount_at HES.out HEO.out (by decide) 0 1000000000 (HCE.out 3 (by decide)) (by decide)).mono ?_
  rintro e v10 ⟨rfl, hl, hes⟩
  have HES := Lib.hid hes
  refine hK.out _ _ HES.out.only (fun hHeld => ?_)
  clear hK K hl hes
  try simp only [Act.put, List.getElem_toArray, List.getElem_cons_zero, List.getElem_cons_succ, List.setIfInBounds_toArray, List.set_cons_zero, List.set_cons_succ]
  refine wpAnyH_ready (rs := [7]) (by kernel_rfl) (by simp) ?_
  refine AllReadyH.cons rfl (fun K hK => ?_) AllReadyH.nil
  have z0 : v10.frozen? ⟨w.heap.size, 0, none⟩ = false := frozen_of_row _ _ _ _ _ HES.out.ent
  have k0 : v10.cell? ⟨w.heap.size, 0, none⟩ = some (.int .i64 0) := cell_of_row _ _ 0 _ _ _ HES.out.ent
  go_simp
  have HES := Lib.hid (HES.out.set 0 (.int .i64 5) (by have := HLB.out; omega))
  refine hK.out _ _ HES.out.only (fun hHeld => ?_)
  clear hK K z0 k0
  try simp only [Act.put, List.getElem_toArray, List.getElem_cons_zero, List.getElem_cons_succ, List.setIfInBounds_toArray, List.set_cons_zero, List.set_cons_succ]
  generalize v10.setCell _ _ = v11 at *
  refine' wpAnyH_take (i := 8) (v := _) rfl (by kernel_rfl) (by kernel_rfl) (by kernel_rfl) (fun _ _ _ h => h) (Or.inl ⟨by rfl, ?hyt8⟩) hHeld ?rt8
  case hyt8 => (intro w hSw; skip; go_simp; with_reducible rfl)
  try simp only [Act.put, List.getElem_toArray, List.getElem_cons_zero, List.getElem_cons_succ, List.setIfInBounds_toArray, List.set_cons_zero, List.set_cons_succ]
  refine wpAnyH_ready (rs := [9]) (by kernel_rfl) (by simp) ?_
  refine AllReadyH.cons rfl (fun K hK => ?_) AllReadyH.nil
  have z1 : v11.frozen? ⟨w.heap.size, 1, none⟩ = false := frozen_of_row _ _ _ _ _ HES.out.ent
  have k1 : v11.cell? ⟨w.heap.size, 1, none⟩ = some (.int .i64 0) := cell_of_row _ _ 1 _ _ _ HES.out.ent
  go_simp
  have HES := Lib.hid (HES.out.set 1 (.int .i64 0) (by have := HLB.out; omega))
  refine hK.out _ _ HES.out.only (fun hHeld => ?_)
  clear hK K z1 k1
  try simp only [Act.put, List.getElem_toArray, List.getElem_cons_zero, List.getElem_cons_succ, List.setIfInBounds_toArray, List.set_cons_zero, List.set_cons_succ]
  generalize v11.setCell _ _ = v12 at *
  refine' wpAnyH_take (i := 10) (v := _) rfl (by kernel_rfl) (by kernel_rfl) (by kernel_rfl) (fun _ _ _ h => h) (Or.inl ⟨by rfl, ?hyt10⟩) hHeld ?rt10
  case hyt10 => (intro w hSw; skip; go_simp; with_reducible rfl)
  try simp only [Act.put, List.getElem_toArray, List.getElem_cons_zero, List.getElem_cons_succ, List.setIfInBounds_toArray, List.set_cons_zero, List.set_cons_succ]
  refine wpAnyH_ready (rs := [11]) (by kernel_rfl) (by simp) ?_
  refine AllReadyH.cons rfl (fun K hK => ?_) AllReadyH.nil
  have z2 : v12.frozen? ⟨w.heap.size, 2, none⟩ = false := frozen_of_row _ _ _ _ _ HES.out.ent
  have k2 : v12.cell? ⟨w.heap.size, 2, none⟩ = some (.int .i64 0) := cell_of_row _ _ 2 _ _ _ HES.out.ent
  go_simp
  have HES := Lib.hid (HES.out.set 2 (.int .i64 0) (by have := HLB.out; omega))
  refine hK.out _ _ HES.out.only (fun hHeld => ?_)
  clear hK K z2 k2
  try simp only [Act.put, List.getElem_toArray, List.getElem_cons_zero, List.getElem_cons_succ, List.setIfInBounds_toArray, List.set_cons_zero, List.set_cons_succ]
  generalize v12.setCell _ _ = v13 at *
  refine wpAnyH_done (by kernel_rfl) (noP_ok ?_) _
  clear hHeld HKS
  have a0 := (HES.out.cl HEO.out).amount
  go_wp2_with fail
  refine (amount_at HES.out HEO.out (by decide) 2 60 (HCE.out 4 (by decide)) (by decide)).mono ?_
  rintro e v14 ⟨rfl, hl, hes⟩
  have HES := Lib.hid hes
  clear hl hes a0
  have HP0 := Lib.hid (show v14.ownsRow w6.heap.size 3 1 (.slice none 0 0) 0 (irow ([1, 2].take 0)) from World.ownsRow_nil _ _ _ _)
  obtain ⟨i0, hi, hz0, hz1, hz2⟩ := info_parts Tryz.infoI
  have HI := Lib.hid hi
  have HI0 := Lib.hid hz0
  have HI1 := Lib.hid hz1
  have HI2 := Lib.hid hz2
  clear hi hz0 hz1 hz2
  go_upto_block 0 with (fail)
  go_wp2_with fail
  go_loopw [34] (fun iv wr => ∃ (k : Nat) (vp : Value), iv = .int .i64 k ∧ k ≤ 2 ∧ EsAt Lb w.heap.size g cap (5 + k) #[.int .i64 5, .int .i64 0, .int .i64 0, vp, .slice none 0 0, .slice none 0 0] w6 wr ∧ wr.ownsRow w6.heap.size 3 1 vp k (irow ([1, 2].take k))) (fun iv _ => 2 - (intOf iv).toNat)
  case atStart => exact ⟨0, _, rfl, by decide, HES.out, HP0.out⟩
  case round =>
    clear HP0 HES
    obtain ⟨k, vp, rfl, hk, hes, hown⟩ := hrel
    obtain ⟨ap, cp, rfl⟩ := slice_of_own hown
    have HES := Lib.hid hes
    have HOV := Lib.hid hown
    clear hes hown
    by_cases hlt : k < 2
    · have j1 : (k : Int) < 2 := by omega
      have j2 : 0 ≤ (k : Int) := by omega
      obtain ⟨z, hz⟩ : ∃ z, ptAt [1, 2] k = z := ⟨_, rfl⟩
      have HTK := Lib.hid (show ([1, 2] : List Int).take (k + 1) = ([1, 2] : List Int).take k ++ [z] by
        rw [← hz]
        rcases (show k = 0 ∨ k = 1 by omega) with rfl | rfl <;> rfl)
      have HCZ := Lib.hid (show w6.cell? ⟨g, 5 + k, none⟩ = some (.iface 3 (.int .i64 z)) by
        rw [← hz]
        rcases (show k = 0 ∨ k = 1 by omega) with rfl | rfl
        · exact HCE.out 5 (by decide)
        · exact HCE.out 6 (by decide))
      have HZM := Lib.hid (show z ≤ 1000000000 by
        rw [← hz]
        rcases (show k = 0 ∨ k = 1 by omega) with rfl | rfl <;> decide)
      have HLT := Lib.hid hlt
      clear hz hlt
      have a0 := (HES.out.cl HEO.out).amount
      have p3 : wr.cell? ⟨w.heap.size, 3, none⟩ = some (.slice ap k cp) := cell_of_row _ _ 3 _ _ _ HES.out.ent
      have HKS := Lib.hid (show ∀ W, Only (fun i => i = Lb) wr.drew W → W.cell? ⟨Lb + 1 + 1, 0, none⟩ = some (.func (.func 58) #[] #[.pointer (some ⟨Lb + 1, 0, none⟩), .pointer (some ⟨w.heap.size + 1 + 1 + 1, 0, none⟩)]) ∧ W.cell? ⟨w.heap.size, 3, none⟩ = some (.slice ap k cp) from fun W hW => ⟨hW.cell (p := ⟨Lb + 1 + 1, 0, none⟩) a0 (by dsimp only; omega), hW.cell (p := ⟨w.heap.size, 3, none⟩) p3 (by have := HLB.out; dsimp only; omega)⟩)
      have HES := Lib.hid (HES.out.still ((Only.refl _ wr).drew))
      have HOV := Lib.hid (owns_drew HOV.out)
      go_upto_region 11 with (fail)
      clear a0 p3
      refine Code.wp_mono (Q := NoP _) (fun _ _ _ => noP_le) ?_
      refine wp_region_split2 6 (by kernel_rfl) (by kernel_rfl) (wpAny_of_held (S := fun W => W.cell? ⟨Lb + 1 + 1, 0, none⟩ = some (.func (.func 58) #[] #[.pointer (some ⟨Lb + 1, 0, none⟩), .pointer (some ⟨w.heap.size + 1 + 1 + 1, 0, none⟩)]) ∧ W.cell? ⟨w.heap.size, 3, none⟩ = some (.slice ap k cp)) _ _ _ _ ?_)
      simp only [List.take_succ_cons, List.take_zero]
      change wpAnyH _ _ _ _ _ _ _ _ wr.drew
      have hHeld := HKS.out wr.drew (Only.refl _ _)
      have hlb6 := (Array.getElem?_eq_some_iff.1 HQ.out.2).1
      generalize wr.drew = v0 at *
      refine' wpAnyH_take (i := 0) (v := _) rfl (by kernel_rfl) (by kernel_rfl) (by kernel_rfl) (fun _ _ _ h => h) (Or.inl ⟨by rfl, ?hyu0⟩) hHeld ?ru0
      case hyu0 => (intro w hSw; obtain ⟨a0, p3⟩ := hSw; go_simp; with_reducible rfl)
      try simp only [Act.put, List.getElem_toArray, List.getElem_cons_zero, List.setIfInBounds_toArray, List.set_cons_zero, List.set_cons_succ]
      refine' wpAnyH_take (i := 1) (v := _) rfl (by kernel_rfl) (by kernel_rfl) (by kernel_rfl) (fun _ _ _ h => h) (Or.inl ⟨by rfl, ?hyu1⟩) hHeld ?ru1
      case hyu1 => (intro w hSw; obtain ⟨a0, p3⟩ := hSw; go_simp; with_reducible rfl)
      try simp only [Act.put, List.getElem_toArray, List.getElem_cons_zero, List.getElem_cons_succ, List.setIfInBounds_toArray, List.set_cons_zero, List.set_cons_succ]
      refine' wpAnyH_take (i := 2) (v := _) rfl (by kernel_rfl) (by kernel_rfl) (by kernel_rfl) (fun _ _ _ h => h) (Or.inl ⟨by rfl, ?hyu2⟩) hHeld ?ru2
      case hyu2 => (intro w hSw; obtain ⟨a0, p3⟩ := hSw; go_simp; with_reducible rfl)
      try simp only [Act.put, List.getElem_toArray, List.getElem_cons_zero, List.getElem_cons_succ, List.setIfInBounds_toArray, List.set_cons_zero, List.set_cons_succ]
      refine wpAnyH_ready (rs := [3]) (by kernel_rfl) (by simp) ?_
      refine AllReadyH.cons rfl (fun K hK => ?_) AllReadyH.nil
      go_simp
      refine (amount_at HES.out HEO.out (by have := HLT.out; omega) z 1000000000 HCZ.out HZM.out).mono ?_
      rintro e v1 ⟨rfl, hl, hes⟩
      have HES := Lib.hid hes
      have HOV := Lib.hid (hl.owns HOV.out (fun g' hg' e => by have := ownR_ge HOV.out hg'; omega))
      refine hK.out _ _ (HKS.out _ hl) (fun hHeld => ?_)
      clear hK K hl hes HKS
      try simp only [Act.put, List.getElem_toArray, List.getElem_cons_zero, List.getElem_cons_succ, List.setIfInBounds_toArray, List.set_cons_zero, List.set_cons_succ]
      refine wpAnyH_ready (rs := [4]) (by kernel_rfl) (by simp) ?_
      refine AllReadyH.cons rfl (fun K hK => ?_) AllReadyH.nil
      go_simp
      have HAL := Lib.hid ((Only.refl (fun _ => False) v1).alloc (.cells #[.int .i64 z] 3))
      have HNW := Lib.hid (newsR' v1 [.int .i64 z] 3)
      have HES := Lib.hid (HES.out.still HAL.out)
      have HOV := Lib.hid (HAL.out.owns HOV.out (fun _ _ h => h))
      refine hK.out _ _ ⟨HAL.out.cell hHeld.1 id, HAL.out.cell hHeld.2 id⟩ (fun hHeld => ?_)
      clear hK K HAL
      try simp only [Act.put, List.getElem_toArray, List.getElem_cons_zero, List.getElem_cons_succ, List.setIfInBounds_toArray, List.set_cons_zero, List.set_cons_succ]
      refine wpAnyH_ready (rs := [5]) (by kernel_rfl) (by simp) ?_
      refine AllReadyH.cons rfl (fun K hK => ?_) AllReadyH.nil
      have hbs := HES.out.only.size
      refine step_append_lies _ rfl _ _ 24 rfl w6.heap.size 3 i0 _ 1 8 Tryz.underlying24 HI.out HI0.out HI1.out HI2.out rfl (by decide) _ _ _ (by rfl) HOV.out ⟨v1.heap.size, 0, none⟩ 1 1 [.int .i64 z] (by rfl) rfl HNW.out (one_oneR _ rfl) (by decide) (by have := HLT.out; unfold maxLen; omega) (by have := HLT.out; omega) hbs _ rfl ?_
      intro g5 cap5 v3 hown1 hgrow hat hlt2
      have hwlt : w.heap.size < w6.heap.size := by have := HLB.out; omega
      have HES := Lib.hid (HES.out.grown hgrow (fun k e => ownR_ge HOV.out e) hlb6 hwlt)
      have HOV2 := Lib.hid (show v3.ownsRow w6.heap.size 3 1 (.slice (some ⟨g5, 0, none⟩) (k + 1) cap5) (k + 1) (irow (([1, 2] : List Int).take (k + 1))) by rw [HTK.out, irow_app]; exact hown1)
      refine hK.out _ _ ⟨(HES.out.cl HEO.out).amount, cell_of_row _ _ 3 _ _ _ HES.out.ent⟩ (fun hHeld => ?_)
      clear hK K hgrow hat hlt2 hown1 HNW HOV
      try simp only [Act.put, List.getElem_toArray, List.getElem_cons_zero, List.getElem_cons_succ, List.setIfInBounds_toArray, List.set_cons_zero, List.set_cons_succ]
      refine wpAnyH_done (by kernel_rfl) ?_ _
      simp only [headPost, List.drop_succ_cons, List.drop_zero]
      have z3 : v3.frozen? ⟨w.heap.size, 3, none⟩ = false := frozen_of_row _ _ _ _ _ HES.out.ent
      have k3 : v3.cell? ⟨w.heap.size, 3, none⟩ = some (.slice ap k cp) := cell_of_row _ _ 3 _ _ _ HES.out.ent
      clear hHeld
      go_wp2_with fail
      refine noP_ok ?_
      have HES3 := Lib.hid (HES.out.set 3 (.slice (some ⟨g5, 0, none⟩) (k + 1) cap5) (by have := HLB.out; omega))
      have HOV3 := Lib.hid (((Only.refl (fun i => i = w.heap.size) v3).setCell (p := ⟨w.heap.size, 3, none⟩) (.inl rfl) (.slice (some ⟨g5, 0, none⟩) (k + 1) cap5)).owns HOV2.out (fun g' hg' e => by have := ownR_ge HOV2.out hg'; omega))
      go_wp2_with fail
      go_roundw
      case rel => exact ⟨k + 1, .slice (some ⟨g5, 0, none⟩) (k + 1) cap5, by go_num, HLT.out, by rw [show 5 + (k + 1) = 5 + k + 1 by omega]; exact HES3.out, HOV3.out⟩
      case measure => simp [intOf]; have := HLT.out; omega
    · obtain rfl : k = 2 := by omega
      have j1 : ¬ (2 : Int) < 2 := by omega
      clear hlt hk
      have HOV := Lib.hid (show wr.ownsRow w6.heap.size 3 1 (.slice ap 2 cp) 2 (irow [1, 2]) from HOV.out)
      have HWS := Lib.hid (show ∀ j, j < ([⟨#[120]⟩] : List ByteArray).length → w6.cell? ⟨g, 7 + (1 + j), none⟩ = some (.iface 9 (.string (naAt [⟨#[120]⟩] j))) ∧ nameB (naAt [⟨#[120]⟩] j) = true from fun j hj => by
        obtain rfl : j = 0 := by simp at hj; omega
        exact ⟨HCE.out 8 (by decide), by decide⟩)
      go_wp2_with fail
      refine (namesE_at HES.out HEO.out [⟨#[120]⟩] (by decide) (by decide) (HCE.out 7 (by decide)) HWS.out).mono ?_
      rintro e v1 ⟨vw, rfl, hw, hl, hes⟩
      obtain ⟨aw, cw, rfl⟩ := slice_of_own hw
      have HES := Lib.hid hes
      have HOV := Lib.hid (hl.owns HOV.out (fun g' hg' e => by have := ownR_ge HOV.out hg'; have h2 := (Array.getElem?_eq_some_iff.1 HQ.out.2).1; omega))
      have HOWW := Lib.hid hw
      clear hw hl hes HWS
      have z4 : v1.frozen? ⟨w.heap.size, 4, none⟩ = false := frozen_of_row _ _ _ _ _ HES.out.ent
      have k4 : v1.cell? ⟨w.heap.size, 4, none⟩ = some (.slice none 0 0) := cell_of_row _ _ 4 _ _ _ HES.out.ent
      go_upto_region 14 with (fail)
      have HES := Lib.hid (HES.out.set 4 (.slice aw 1 cw) (by have := HLB.out; omega))
      have hwlt : w.heap.size < w6.heap.size := by have := HLB.out; have h2 := (Array.getElem?_eq_some_iff.1 HQ.out.2).1; omega
      have HS1 := Lib.hid ((Only.refl (fun i => i = w.heap.size) v1).setCell (p := ⟨w.heap.size, 4, none⟩) (.inl rfl) (.slice aw 1 cw))
      have HOV := Lib.hid (HS1.out.owns HOV.out (fun g' hg' e => by have := ownR_ge HOV.out hg'; omega))
      have HOWW := Lib.hid (HS1.out.owns HOWW.out (fun g' hg' e => by have := ownR_ge HOWW.out hg'; omega))
      clear HS1 z4 k4
      generalize v1.setCell _ _ = v2 at *
      go_wp2_with fail
      refine (namesE_at HES.out HEO.out [] (by decide) (by decide) (HCE.out 9 (by decide)) (fun j hj => absurd hj (Nat.not_lt_zero _))).mono ?_
      rintro e v3 ⟨vg, rfl, hw, hl, hes⟩
      obtain ⟨ag, cg, rfl⟩ := slice_of_own hw
      have HES := Lib.hid hes
      have HOV := Lib.hid (hl.owns HOV.out (fun g' hg' e => by have := ownR_ge HOV.out hg'; have h2 := (Array.getElem?_eq_some_iff.1 HQ.out.2).1; omega))
      have HOWW := Lib.hid (hl.owns HOWW.out (fun g' hg' e => by have := ownR_ge HOWW.out hg'; have h2 := (Array.getElem?_eq_some_iff.1 HQ.out.2).1; omega))
      have HOG := Lib.hid hw
      clear hw hl hes
      have z5 : v3.frozen? ⟨w.heap.size, 5, none⟩ = false := frozen_of_row _ _ _ _ _ HES.out.ent
      have k5 : v3.cell? ⟨w.heap.size, 5, none⟩ = some (.slice none 0 0) := cell_of_row _ _ 5 _ _ _ HES.out.ent
      go_upto_region 15 with (fail)
      have HES := Lib.hid (HES.out.set 5 (.slice ag 0 cg) (by have := HLB.out; omega))
      have HS1 := Lib.hid ((Only.refl (fun i => i = w.heap.size) v3).setCell (p := ⟨w.heap.size, 5, none⟩) (.inl rfl) (.slice ag 0 cg))
      have HOV := Lib.hid (HS1.out.owns HOV.out (fun g' hg' e => by have := ownR_ge HOV.out hg'; omega))
      have HOWW := Lib.hid (HS1.out.owns HOWW.out (fun g' hg' e => by have := ownR_ge HOWW.out hg'; omega))
      have HOG := Lib.hid (HS1.out.owns HOG.out (fun g' hg' e => by have := ownR_ge HOG.out hg'; omega))
      clear HS1 z5 k5
      generalize v3.setCell _ _ = v4 at *
      obtain ⟨al, _, hln⟩ := HES.out.line
      have l0 : v4.cell? ⟨Lb, 0, none⟩ = some (.slice al 0 (cap - 10)) := cell_of_row _ _ 0 _ _ _ hln
      have r0 := (HES.out.cl HEO.out).rd
      clear hln
      go_wp2_with fail
      refine (need_ok (w.heap.size + 1 + 1) 11 v4).mono ?_
      rintro e v5 ⟨rfl, rfl⟩
      have HE4 := Lib.hid (show EntAt v4 w.heap.size #[.int .i64 5, .int .i64 0, .int .i64 0, .slice ap 2 cp, .slice aw 1 cw, .slice ag 0 cg] 0 from ⟨HES.out.ent, (HES.out.only.block (w.heap.size + 1) (Array.getElem?_eq_some_iff.1 HR6.out.err).1 (by have := HLB.out; omega)).trans HR6.out.err, r0⟩)
      obtain ⟨v6, hv6⟩ : ∃ v, v4.setRow w.heap.size #[.int .i64 5, .int .i64 0, .int .i64 0, .slice ap 2 cp, .slice aw 1 cw, .slice ag 0 cg] = v := ⟨_, rfl⟩
      have HS6 := Lib.hid (show Only (fun i => i = w.heap.size) v4 v6 from hv6 ▸ onlyR_row (S := fun i => i = w.heap.size) (Only.refl _ v4) (.inl rfl) _)
      have HE6 := Lib.hid (show EntAt v6 w.heap.size #[.int .i64 5, .int .i64 0, .int .i64 0, .slice ap 2 cp, .slice aw 1 cw, .slice ag 0 cg] 0 from ⟨hv6 ▸ setRow_heap _ _ _ _ _ _ HE4.out.ent, (HS6.out.block _ (Array.getElem?_eq_some_iff.1 HE4.out.err).1 (by omega)).trans HE4.out.err, HS6.out.cell r0 (by dsimp only; omega)⟩)
      have HV6 := Lib.hid hv6
      have HOV := Lib.hid (HS6.out.owns HOV.out (fun g' hg' e => by have := ownR_ge HOV.out hg'; omega))
      have HOWW := Lib.hid (HS6.out.owns HOWW.out (fun g' hg' e => by have := ownR_ge HOWW.out hg'; omega))
      have HOG := Lib.hid (HS6.out.owns HOG.out (fun g' hg' e => by have := ownR_ge HOG.out hg'; omega))
      have HO7 := Lib.hid (show Only (fun _ => False) w v6 from HO6.out.trans' (HES.out.only.trans (HS6.out.mono (T := fun i => i = Lb ∨ i = w.heap.size) (fun _ _ e => .inr e))) (fun i hi e => by have := HLB.out; omega))
      have k3 : v6.cell? ⟨w.heap.size + 1, 0, none⟩ = some (.int .i64 0) := cell_of_row _ _ 0 _ _ _ HE6.out.err
      have z3 : v6.frozen? ⟨w.heap.size + 1, 0, none⟩ = false := frozen_of_row _ _ _ _ _ HE6.out.err
      clear l0 r0 hv6
      go_wp2_with (first
        | (refine wpList_load_row rfl 44 _ rfl w.heap.size rfl 44 #[.int .i64 5, .int .i64 0, .int .i64 0, .slice ap 2 cp, .slice aw 1 cw, .slice ag 0 cg] (0, 0) _ HE4.out.ent Tryz.underlying44 rfl Tryz.infoEn ?_)
        | (refine wpList_store_row rfl 44 _ _ rfl w.heap.size #[.int .i64 5, .int .i64 0, .int .i64 0, .slice ap 2 cp, .slice aw 1 cw, .slice ag 0 cg] rfl rfl 44 _ HE4.out.ent Tryz.infoEn rfl (by simp [Value.oneCell']) ?_; rw [HV6.out]))
      have HS7 := Lib.hid ((Only.refl (fun i => i = w.heap.size + 1) v6).setCell (p := ⟨w.heap.size + 1, 0, none⟩) (.inl rfl) (.int .i64 0))
      have HE7 := Lib.hid (show EntAt (v6.setCell ⟨w.heap.size + 1, 0, none⟩ (.int .i64 0)) w.heap.size #[.int .i64 5, .int .i64 0, .int .i64 0, .slice ap 2 cp, .slice aw 1 cw, .slice ag 0 cg] 0 from ⟨(HS7.out.block _ (Array.getElem?_eq_some_iff.1 HE6.out.ent).1 (by omega)).trans HE6.out.ent, heap_setCell_same v6 (w.heap.size + 1) 0 _ _ _ HE6.out.err, HS7.out.cell HE6.out.rd (by dsimp only; omega)⟩)
      have HEN := Lib.hid (show EnOwn w6.heap.size (v6.setCell ⟨w.heap.size + 1, 0, none⟩ (.int .i64 0)) en0 (.slice ap 2 cp) (.slice aw 1 cw) (.slice ag 0 cg) from ⟨HS7.out.owns HOV.out (fun g' hg' e => by have := ownR_ge HOV.out hg'; have h2 := (Array.getElem?_eq_some_iff.1 HQ.out.2).1; have := HLB.out; omega), HS7.out.owns HOWW.out (fun g' hg' e => by have := ownR_ge HOWW.out hg'; have h2 := (Array.getElem?_eq_some_iff.1 HQ.out.2).1; have := HLB.out; omega), HS7.out.owns HOG.out (fun g' hg' e => by have := ownR_ge HOG.out hg'; have h2 := (Array.getElem?_eq_some_iff.1 HQ.out.2).1; have := HLB.out; omega)⟩)
      have HO8 := Lib.hid (HO7.out.trans' HS7.out (fun i hi e => by omega))
      generalize v6.setCell ⟨w.heap.size + 1, 0, none⟩ (.int .i64 0) = v7 at *
      refine leaves_cons (f := 54) (args := #[.pointer (some ⟨w.heap.size, 0, none⟩), .pointer (some ⟨w.heap.size + 1, 0, none⟩)]) (by simp) (by simp [go_sem]) ?_
      refine (idleE _ _ _).mono ?_
      rintro e u' v8 ⟨rfl, rfl, hO8⟩
      exact ⟨_, results_ent (HE7.out.still hO8) rfl rfl rfl, _, _, _, rfl, (HEN.out.only hO8).base (by have := HO6.out.size; omega), HO8.out.trans hO8⟩
end Go.Proofs.YteikkpiginfbkaaGreatDoor

namespace Go.Proofs.YteikkpiginfbkaaGreatDoor
open Go.RowKit

def tx1 : ByteArray := ⟨#[100, 114, 97, 119, 32, 77, 97, 121, 10, 108, 111, 116, 116, 101, 114, 121, 32, 52, 57, 32, 54, 10, 114, 111, 117, 110, 100, 32, 55, 10, 112, 114, 105, 99, 101, 32, 50, 10, 116, 105, 101, 114, 32, 54, 32, 53, 48, 10, 114, 111, 108, 108, 10, 98, 97, 114, 32, 53, 10]⟩
def tx2 : ByteArray := ⟨#[100, 114, 97, 119, 32, 77, 97, 121, 10, 108, 111, 116, 116, 101, 114, 121, 32, 52, 57, 32, 54, 10, 114, 111, 117, 110, 100, 32, 55, 10]⟩
def tx3 : ByteArray := ⟨#[100, 114, 97, 119, 32, 77, 97, 121, 10, 112, 97, 110, 101, 108, 32, 51, 10, 114, 111, 117, 110, 100, 32, 55, 10, 112, 114, 105, 99, 101, 32, 48, 50, 10]⟩
def txP : ByteArray := ⟨#[100, 114, 97, 119, 32, 77, 97, 121, 10, 112, 97, 110, 101, 108, 32, 51, 10, 114, 111, 117, 110, 100, 32, 55, 10, 112, 114, 105, 99, 101, 32, 50, 10]⟩
def txA : ByteArray := ⟨#[116, 105, 101, 114, 32, 54, 32, 53, 48, 10]⟩
def txB : ByteArray := ⟨#[113, 117, 111, 116, 97, 32, 97, 32, 49, 32, 50, 10, 113, 117, 111, 116, 97, 32, 97, 32, 48, 32, 51, 10]⟩
def d1s : Dr := { name := ⟨#[77, 97, 121]⟩, kind := 1, round := 7, price := 2, pool := 49, pick := 6, tiers := [(6, 50)], roll := true, places := [], cls := 0, size := 0, quotas := [], barred := [5] }
theorem parse_tx1 : parseZ tx1 = (0, 0, d1s) := by kernel_rfl
theorem parse_tx2 : (parseZ tx2).1 = 12 ∧ (parseZ tx2).2.1 = 30 := ⟨by kernel_rfl, by kernel_rfl⟩
theorem parse_tx3 : (parseZ tx3).1 = 12 ∧ (parseZ tx3).2.1 = 25 := ⟨by kernel_rfl, by kernel_rfl⟩
theorem parse_txA : (parseZ (txP ++ txA)).1 = 14 ∧ (parseZ (txP ++ txA)).2.1 = 33 := ⟨by kernel_rfl, by kernel_rfl⟩
theorem parse_txB : (parseZ (txP ++ txB)).1 = 13 ∧ (parseZ (txP ++ txB)).2.1 = 45 := ⟨by kernel_rfl, by kernel_rfl⟩
theorem print_tx1 : printZ d1s = tx1 := by
  have h0 : (parseZ tx1).1 = 0 := by rw [parse_tx1]
  have h1 := parse_right h0
  rw [parse_tx1] at h1
  unfold printZ
  rw [if_pos (right_iff.2 h1.1)]
  exact h1.2.1.symm
theorem print_en0 : printEZ en0 = sEnt := by kernel_rfl
theorem own_two (w : World) (e : TypeId) (a b : Value) : (w.alloc (.cells #[a, b] e)).ownsRow w.heap.size e 1 (.slice (some ⟨w.heap.size, 0, none⟩) 2 2) 2 [a, b] := own_newN w e 1 2 [a, b] rfl (by decide)
theorem own_single (w : World) (e : TypeId) (a : Value) : (w.alloc (.cells #[a] e)).ownsRow w.heap.size e 1 (.slice (some ⟨w.heap.size, 0, none⟩) 1 1) 1 [a] := own_newN w e 1 1 [a] rfl (by decide)
theorem ent_new (w : World) :
    (((w.alloc (.cells #[.int .i64 1, .int .i64 2] 3)).alloc (.cells #[.string ⟨#[120]⟩] 9)).alloc (.cells (enCells en0 (.slice (some ⟨w.heap.size, 0, none⟩) 2 2) (.slice (some ⟨w.heap.size + 1, 0, none⟩) 1 1) (.slice none 0 0)) 44)).heap[w.heap.size + 1 + 1]? = some (.cells (enCells en0 (.slice (some ⟨w.heap.size, 0, none⟩) 2 2) (.slice (some ⟨w.heap.size + 1, 0, none⟩) 1 1) (.slice none 0 0)) 44 (0, 0)) ∧
    EnOwn w.heap.size (((w.alloc (.cells #[.int .i64 1, .int .i64 2] 3)).alloc (.cells #[.string ⟨#[120]⟩] 9)).alloc (.cells (enCells en0 (.slice (some ⟨w.heap.size, 0, none⟩) 2 2) (.slice (some ⟨w.heap.size + 1, 0, none⟩) 1 1) (.slice none 0 0)) 44)) en0 (.slice (some ⟨w.heap.size, 0, none⟩) 2 2) (.slice (some ⟨w.heap.size + 1, 0, none⟩) 1 1) (.slice none 0 0) := by
  have h3 := heap_alloc_last ((w.alloc (.cells #[.int .i64 1, .int .i64 2] 3)).alloc (.cells #[.string ⟨#[120]⟩] 9)) (.cells (enCells en0 (.slice (some ⟨w.heap.size, 0, none⟩) 2 2) (.slice (some ⟨w.heap.size + 1, 0, none⟩) 1 1) (.slice none 0 0)) 44)
  simp only [World.size_alloc] at h3
  have h1 := own_two w 3 (.int .i64 1) (.int .i64 2)
  have h2 := own_single (w.alloc (.cells #[.int .i64 1, .int .i64 2] 3)) 9 (.string ⟨#[120]⟩)
  simp only [World.size_alloc] at h2
  exact ⟨h3, (h1.alloc _).alloc _, ownR_base (h2.alloc _) (Nat.le_succ _), World.ownsRow_nil _ _ _ _⟩
set_option maxRecDepth 100000 in
set_option maxHeartbeats 8000000 in
theorem sane13_any (w : World) (hG : GlobU w) :
    Calls Tryz.prog 10 #[] w fun e w' => e = .returned (.bool true) ∧ Only (fun _ => False) w w' := by
  have HG := Lib.hid hG
  obtain ⟨d, hd⟩ : ∃ d, d1s = d := ⟨_, rfl⟩
  have HDE := Lib.hid hd
  have HPR := Lib.hid (show printZ d = tx1 from hd ▸ print_tx1)
  have HPZ := Lib.hid (show parseZ tx1 = (0, 0, d) from hd ▸ parse_tx1)
  have HB := Lib.hid (show DrB d from by have := parse_DrB tx1; rw [parse_tx1] at this; exact hd ▸ this)
  have q1 : (d.kind != 1) = false := by rw [← hd]; rfl
  have q2 : (d.pool != 49) = false := by rw [← hd]; rfl
  have q3 : (d.pick != 6) = false := by rw [← hd]; rfl
  have q4 : (!d.roll) = false := by rw [← hd]; rfl
  clear hG hd
  go_enter Tryz.func10, Tryz.ntmps10
  go_upto_region 2 with (fail)
  obtain ⟨s1, hs1⟩ : ∃ s, tx1 = s := ⟨_, rfl⟩
  rw [hs1] at HPR HPZ
  have HSZ := Lib.hid (show s1.size ≤ 281474976710656 by rw [← hs1]; decide)
  unfold tx1 at hs1
  rw [hs1]
  clear hs1
  go_wp2_with fail
  refine (parse_any s1 w HSZ.out HG.out.len).mono ?_
  rw [HPZ.out]
  rintro e w3 ⟨vt, vp, vq, vb, rfl, hdx, hO3⟩
  have HO3 := Lib.hid hO3
  have hdx : DrOwn w.heap.size w3 d vt vp vq vb := hdx
  obtain ⟨at1, ct, rfl⟩ := slice_of_own hdx.tiers
  obtain ⟨ap1, cp, rfl⟩ := slice_of_own hdx.places
  obtain ⟨aq1, cq, rfl⟩ := slice_of_own hdx.quotas
  obtain ⟨ab1, cb, rfl⟩ := slice_of_own hdx.bars
  have HD3 := Lib.hid hdx
  clear hdx hO3
  go_upto_region 3 with (first | (refine wpList_store_row rfl 33 _ _ rfl w3.heap.size (drCells d (.slice at1 d.tiers.length ct) (.slice ap1 d.places.length cp) (.slice aq1 d.quotas.length cq) (.slice ab1 d.barred.length cb)) rfl rfl 33 _ (heap_alloc_last w3 _) Tryz.infoDr rfl (cells_one _ _ _ _ _ _ _ _ _ _ _ _ _) ?_; rw [World.setRow_alloc_new]))
  have HZ4 := Lib.hid (heap_alloc_last w3 (.cells (drCells d (.slice at1 d.tiers.length ct) (.slice ap1 d.places.length cp) (.slice aq1 d.quotas.length cq) (.slice ab1 d.barred.length cb)) 33))
  have HA4 := Lib.hid ((Only.refl (fun _ => False) w3).alloc (.cells (drCells d (.slice at1 d.tiers.length ct) (.slice ap1 d.places.length cp) (.slice aq1 d.quotas.length cq) (.slice ab1 d.barred.length cb)) 33))
  generalize World.alloc w3 _ = w4 at *
  obtain ⟨n3, hn3⟩ : ∃ n, w3.heap.size = n := ⟨_, rfl⟩
  rw [hn3] at HZ4 ⊢
  clear hn3
  have HO4 := Lib.hid (HO3.out.trans HA4.out)
  have HD4 := Lib.hid (HD3.out.only HA4.out (fun _ _ h => h))
  clear HO3 HD3 HA4
  have hlt4 : n3 < w4.heap.size := (Array.getElem?_eq_some_iff.1 HZ4.out).1
  have c0 : w4.cell? ⟨n3, 0, none⟩ = some (Value.string d.name) := cell_of_row _ _ 0 _ _ _ HZ4.out
  have c1 : w4.cell? ⟨n3, 1, none⟩ = some (Value.int .i64 d.kind) := cell_of_row _ _ 1 _ _ _ HZ4.out
  have c2 : w4.cell? ⟨n3, 2, none⟩ = some (Value.int .i64 d.round) := cell_of_row _ _ 2 _ _ _ HZ4.out
  have c3 : w4.cell? ⟨n3, 3, none⟩ = some (Value.int .i64 d.price) := cell_of_row _ _ 3 _ _ _ HZ4.out
  have c4 : w4.cell? ⟨n3, 4, none⟩ = some (Value.int .i64 d.pool) := cell_of_row _ _ 4 _ _ _ HZ4.out
  have c5 : w4.cell? ⟨n3, 5, none⟩ = some (Value.int .i64 d.pick) := cell_of_row _ _ 5 _ _ _ HZ4.out
  have c6 : w4.cell? ⟨n3, 6, none⟩ = some (Value.slice at1 d.tiers.length ct) := cell_of_row _ _ 6 _ _ _ HZ4.out
  have c7 : w4.cell? ⟨n3, 7, none⟩ = some (Value.bool d.roll) := cell_of_row _ _ 7 _ _ _ HZ4.out
  have c8 : w4.cell? ⟨n3, 8, none⟩ = some (Value.slice ap1 d.places.length cp) := cell_of_row _ _ 8 _ _ _ HZ4.out
  have c9 : w4.cell? ⟨n3, 9, none⟩ = some (Value.int .i64 d.cls) := cell_of_row _ _ 9 _ _ _ HZ4.out
  have c10 : w4.cell? ⟨n3, 10, none⟩ = some (Value.int .i64 d.size) := cell_of_row _ _ 10 _ _ _ HZ4.out
  have c11 : w4.cell? ⟨n3, 11, none⟩ = some (Value.slice aq1 d.quotas.length cq) := cell_of_row _ _ 11 _ _ _ HZ4.out
  have c12 : w4.cell? ⟨n3, 12, none⟩ = some (Value.slice ab1 d.barred.length cb) := cell_of_row _ _ 12 _ _ _ HZ4.out
  have p1 : (s1.toList == s1.toList) = true := by simp
  go_wp2_with fail
  refine (print_any d _ _ _ _ w.heap.size w4 HD4.out (HG.out.only HO4.out) HB.out).mono ?_
  rintro e w5 ⟨rfl, hO5⟩
  have HO5 := Lib.hid (HO4.out.trans hO5)
  rw [HPR.out]
  clear hO5 HZ4 HD4 HO4 hlt4 c0 c1 c2 c3 c4 c5 c6 c7 c8 c9 c10 c11 c12
  go_upto_region 6 with (fail)
  have HN6 := Lib.hid (ent_new w5)
  have HA6 := Lib.hid ((((Only.refl (fun _ => False) w5).alloc (.cells #[.int .i64 1, .int .i64 2] 3)).alloc (.cells #[.string ⟨#[120]⟩] 9)).alloc (.cells (enCells en0 (.slice (some ⟨w5.heap.size, 0, none⟩) 2 2) (.slice (some ⟨w5.heap.size + 1, 0, none⟩) 1 1) (.slice none 0 0)) 44))
  unfold enCells en0 at HA6 HN6
  generalize World.alloc (World.alloc (World.alloc w5 _) _) _ = w6 at *
  have HO6 := Lib.hid (HO5.out.trans HA6.out)
  obtain ⟨n5, hn5⟩ : ∃ n, w5.heap.size = n := ⟨_, rfl⟩
  rw [hn5] at HN6 ⊢
  have HN6 := Lib.hid (show w6.heap[n5 + 1 + 1]? = some (.cells (enCells en0 (.slice (some ⟨n5, 0, none⟩) 2 2) (.slice (some ⟨n5 + 1, 0, none⟩) 1 1) (.slice none 0 0)) 44 (0, 0)) ∧ EnOwn n5 w6 en0 (.slice (some ⟨n5, 0, none⟩) 2 2) (.slice (some ⟨n5 + 1, 0, none⟩) 1 1) (.slice none 0 0) from HN6.out)
  clear hn5 HA6
  go_wp2_with fail
  refine (parsent_one w6 (HG.out.only HO6.out).len).mono ?_
  rintro e w7 ⟨vp, vw, vg, rfl, hen, hO7⟩
  obtain ⟨ap, cp, rfl⟩ := slice_of_own hen.picks
  obtain ⟨aw, cw, rfl⟩ := slice_of_own hen.wishes
  obtain ⟨ag, cg, rfl⟩ := slice_of_own hen.groups
  have HE7 := Lib.hid hen
  have HX7 := Lib.hid (row_still hO7 HN6.out.1)
  have HW7 := Lib.hid (HN6.out.2.only hO7)
  have HO7 := Lib.hid (HO6.out.trans hO7)
  clear hen hO7 HN6
  go_upto_region 7 with (first | (refine wpList_store_row rfl 44 _ _ rfl w7.heap.size (enCells en0 (.slice ap en0.picks.length cp) (.slice aw en0.wishes.length cw) (.slice ag en0.groups.length cg)) rfl rfl 44 _ (heap_alloc_last w7 _) Tryz.infoEn rfl (by simp [enCells, Value.oneCell']) ?_; rw [World.setRow_alloc_new]))
  have HZ8 := Lib.hid (heap_alloc_last w7 (.cells (enCells en0 (.slice ap en0.picks.length cp) (.slice aw en0.wishes.length cw) (.slice ag en0.groups.length cg)) 44))
  have HA8 := Lib.hid ((Only.refl (fun _ => False) w7).alloc (.cells (enCells en0 (.slice ap en0.picks.length cp) (.slice aw en0.wishes.length cw) (.slice ag en0.groups.length cg)) 44))
  generalize World.alloc w7 _ = w8 at *
  obtain ⟨n7, hn7⟩ : ∃ n, w7.heap.size = n := ⟨_, rfl⟩
  rw [hn7] at HZ8 ⊢
  clear hn7
  have HX8 := Lib.hid (row_still HA8.out HX7.out)
  have HW8 := Lib.hid (HW7.out.only HA8.out)
  have HE8 := Lib.hid (HE7.out.only HA8.out)
  have HO8 := Lib.hid (HO7.out.trans HA8.out)
  have hlt8 : n7 < w8.heap.size := (Array.getElem?_eq_some_iff.1 HZ8.out).1
  have hlt9 : n5 + 1 + 1 < w8.heap.size := (Array.getElem?_eq_some_iff.1 HX8.out).1
  clear HX7 HW7 HE7 HO7 HA8 HO6 HO5 q1 q2 q3 q4 HPR HPZ HB HDE
  have k0 : w8.cell? ⟨n5 + 1 + 1, 0, none⟩ = some (Value.int .i64 5) := cell_of_row _ _ 0 _ _ _ HX8.out
  have k1 : w8.cell? ⟨n5 + 1 + 1, 1, none⟩ = some (Value.int .i64 0) := cell_of_row _ _ 1 _ _ _ HX8.out
  have k2 : w8.cell? ⟨n5 + 1 + 1, 2, none⟩ = some (Value.int .i64 0) := cell_of_row _ _ 2 _ _ _ HX8.out
  have k3 : w8.cell? ⟨n5 + 1 + 1, 3, none⟩ = some (Value.slice (some ⟨n5, 0, none⟩) 2 2) := cell_of_row _ _ 3 _ _ _ HX8.out
  have k4 : w8.cell? ⟨n5 + 1 + 1, 4, none⟩ = some (Value.slice (some ⟨n5 + 1, 0, none⟩) 1 1) := cell_of_row _ _ 4 _ _ _ HX8.out
  have k5 : w8.cell? ⟨n5 + 1 + 1, 5, none⟩ = some (Value.slice none 0 0) := cell_of_row _ _ 5 _ _ _ HX8.out
  go_wp2_with fail
  refine (printent_any en0 _ _ _ n5 w8 HW8.out (by decide) (HG.out.only HO8.out)).mono ?_
  rintro e w9 ⟨rfl, hO9⟩
  have HX9 := Lib.hid (row_still hO9 HX8.out)
  have HZ9 := Lib.hid (row_still hO9 HZ8.out)
  have HW9 := Lib.hid (HW8.out.only hO9)
  have HE9 := Lib.hid (HE8.out.only hO9)
  have HO9 := Lib.hid (HO8.out.trans hO9)
  rw [print_en0]
  obtain ⟨se, hse⟩ : ∃ s, sEnt = s := ⟨_, rfl⟩
  have pse : (se.toList == [101, 110, 116, 114, 97, 110, 116, 32, 53, 32, 48, 32, 48, 32, 50, 32, 49, 32, 50, 32, 49, 32, 120, 32, 48]) = true := lit_eq _ _ _ (decide_eq_true (by rw [← hse]; rfl))
  rw [hse]
  clear hse hO9 HX8 HZ8 HW8 HE8 HO8 hlt8 hlt9 k0 k1 k2 k3 k4 k5
  have hlt8 : n7 < w9.heap.size := (Array.getElem?_eq_some_iff.1 HZ9.out).1
  have hlt9 : n5 + 1 + 1 < w9.heap.size := (Array.getElem?_eq_some_iff.1 HX9.out).1
  have k0 : w9.cell? ⟨n5 + 1 + 1, 0, none⟩ = some (Value.int .i64 5) := cell_of_row _ _ 0 _ _ _ HX9.out
  have k1 : w9.cell? ⟨n5 + 1 + 1, 1, none⟩ = some (Value.int .i64 0) := cell_of_row _ _ 1 _ _ _ HX9.out
  have k2 : w9.cell? ⟨n5 + 1 + 1, 2, none⟩ = some (Value.int .i64 0) := cell_of_row _ _ 2 _ _ _ HX9.out
  have k3 : w9.cell? ⟨n5 + 1 + 1, 3, none⟩ = some (Value.slice (some ⟨n5, 0, none⟩) 2 2) := cell_of_row _ _ 3 _ _ _ HX9.out
  have k4 : w9.cell? ⟨n5 + 1 + 1, 4, none⟩ = some (Value.slice (some ⟨n5 + 1, 0, none⟩) 1 1) := cell_of_row _ _ 4 _ _ _ HX9.out
  have k5 : w9.cell? ⟨n5 + 1 + 1, 5, none⟩ = some (Value.slice none 0 0) := cell_of_row _ _ 5 _ _ _ HX9.out
  have l0 : w9.cell? ⟨n7, 0, none⟩ = some (Value.int .i64 5) := cell_of_row _ _ 0 _ _ _ HZ9.out
  have l1 : w9.cell? ⟨n7, 1, none⟩ = some (Value.int .i64 0) := cell_of_row _ _ 1 _ _ _ HZ9.out
  have l2 : w9.cell? ⟨n7, 2, none⟩ = some (Value.int .i64 0) := cell_of_row _ _ 2 _ _ _ HZ9.out
  have l3 : w9.cell? ⟨n7, 3, none⟩ = some (Value.slice ap 2 cp) := cell_of_row _ _ 3 _ _ _ HZ9.out
  have l4 : w9.cell? ⟨n7, 4, none⟩ = some (Value.slice aw 1 cw) := cell_of_row _ _ 4 _ _ _ HZ9.out
  have l5 : w9.cell? ⟨n7, 5, none⟩ = some (Value.slice ag 0 cg) := cell_of_row _ _ 5 _ _ _ HZ9.out
  go_wp2_with fail
  refine (rsame_any en0 (.slice (some ⟨n5, 0, none⟩) 2 2) (.slice (some ⟨n5 + 1, 0, none⟩) 1 1) (.slice none 0 0) (.slice ap 2 cp) (.slice aw 1 cw) (.slice ag 0 cg) n5 w6.heap.size w9 HW9.out HE9.out (by decide)).mono ?_
  rintro e w10 ⟨rfl, hO10⟩
  have HO10 := Lib.hid (HO9.out.trans hO10)
  clear hO10 HX9 HZ9 HW9 HE9 HO9 hlt8 hlt9 pse k0 k1 k2 k3 k4 k5 l0 l1 l2 l3 l4 l5
  go_upto_region 10 with (fail)
  obtain ⟨px, hpx⟩ : ∃ s, txP = s := ⟨_, rfl⟩
  have HPA := Lib.hid (hpx ▸ parse_txA)
  have HPB := Lib.hid (hpx ▸ parse_txB)
  have hps : px.size = 33 := by rw [← hpx]; rfl
  have HPS := Lib.hid hps
  have i1 : ¬ (9223372036854775807 < px.size + 10) := by omega
  have i2 : ¬ (9223372036854775807 < px.size + 24) := by omega
  unfold txP at hpx
  rw [hpx]
  clear hpx hps
  go_wp2_with fail
  refine (fails_any tx2 30 12 w10 (by decide) parse_tx2.1 parse_tx2.2 (by decide) (HG.out.only HO10.out)).mono ?_
  rintro e w11 ⟨rfl, hO11⟩
  have HO11 := Lib.hid (HO10.out.trans hO11)
  clear hO11
  go_wp2_with fail
  refine (fails_any (px ++ txA) 33 14 w11 (by rw [ByteArray.size_append, HPS.out]; decide) HPA.out.1 HPA.out.2 (by decide) (HG.out.only HO11.out)).mono ?_
  rintro e w12 ⟨rfl, hO12⟩
  have HO12 := Lib.hid (HO11.out.trans hO12)
  clear hO12
  go_wp2_with fail
  refine (fails_any tx3 25 12 w12 (by decide) parse_tx3.1 parse_tx3.2 (by decide) (HG.out.only HO12.out)).mono ?_
  rintro e w13 ⟨rfl, hO13⟩
  have HO13 := Lib.hid (HO12.out.trans hO13)
  clear hO13
  go_wp2_with fail
  refine (fails_any (px ++ txB) 45 13 w13 (by rw [ByteArray.size_append, HPS.out]; decide) HPB.out.1 HPB.out.2 (by decide) (HG.out.only HO13.out)).mono ?_
  rintro e w14 ⟨rfl, hO14⟩
  have HO14 := Lib.hid (HO13.out.trans hO14)
  clear hO14
  go_wp2_with fail
  go_ret
  exact ⟨rfl, HO14.out⟩
end Go.Proofs.YteikkpiginfbkaaGreatDoor

namespace Go.Proofs.YteikkpiginfbkaaGreatDoor
open Go.RowKit

theorem PlAt13.still {w w' : World} {p : Plan13} {vl vb : Value} (h : PlAt13 w p vl vb) (hO : Only (fun _ => False) w w') : PlAt13 w' p vl vb := by
  obtain ⟨a, c, h1, h2, h3, h4⟩ := h.lines
  refine ⟨⟨a, c, h1, h2, h3, fun k hk => ?_⟩, PtsAt.only hO h.bars⟩
  obtain ⟨b, off, e, hb, x0, x1, x2⟩ := h4 k hk
  exact ⟨b, off, e, Nat.lt_of_lt_of_le hb hO.size, hO.cell x0 id, hO.cell x1 id, hO.cell x2 id⟩
theorem make_DrB {p : Plan13} (h : Pl64 p) : DrB (makeZ p) := by
  have h1 := (make_ok p h).len
  have h2 := (make_ok p h).bar
  exact ⟨by omega, by omega, by omega, by omega⟩
end Go.Proofs.YteikkpiginfbkaaGreatDoor
