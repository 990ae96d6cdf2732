/-
  Rules: what a reader holds in memory.
  Rules: the first four lines, and roll.
  Rules: the lines tier, place, quota.
-/
import Derived.Test.YteikkpiginfbkaaGreatDoorPh16
import Derived.Deep.AppendLies
import Derived.Deep.RegionLaw
namespace Go.Proofs.YteikkpiginfbkaaGreatDoor
open Go.RowKit

theorem ownR_ty {w : World} {b e s n g : Nat} {v : Value} {xs : List Value} (h : w.ownsRow b e s v n xs) (hg : v.ownBlock = some g) : ∃ cur, w.heap[g]? = some (.cells cur e (0, 0)) := by
  rcases h.2 with ⟨rfl, _⟩ | ⟨g', cap, cur, rfl, _, hgg, _⟩
  · simp [Value.ownBlock] at hg
  · obtain rfl : g' = g := by simpa [Value.ownBlock] using hg
    exact ⟨cur, hgg⟩
theorem ownR_ge {w : World} {b e s n g : Nat} {v : Value} {xs : List Value} (h : w.ownsRow b e s v n xs) (hg : v.ownBlock = some g) : b ≤ g := by
  rcases h.2 with ⟨rfl, _⟩ | ⟨g', cap, cur, rfl, hb, hgg, _⟩
  · simp [Value.ownBlock] at hg
  · obtain rfl : g' = g := by simpa [Value.ownBlock] using hg
    exact hb
theorem ownR_base {w : World} {b b' e size n : Nat} {v : Value} {xs : List Value} (h : w.ownsRow b e size v n xs) (hb : b' ≤ b) : w.ownsRow b' e size v n xs := by
  refine ⟨h.1, ?_⟩
  rcases h.2 with hn | ⟨g, cap, cur, hv, hbb, rest⟩
  · exact .inl hn
  · exact .inr ⟨g, cap, cur, hv, Nat.le_trans hb hbb, rest⟩
theorem ownR_ne {w : World} {b e s n b' e' s' n' : Nat} {v v' : Value} {xs xs' : List Value} (h : w.ownsRow b e s v n xs) (h' : w.ownsRow b' e' s' v' n' xs') (hne : e ≠ e') (k : Nat) (hk : v.ownBlock = some k) : v'.ownBlock ≠ some k := by
  intro hk'
  obtain ⟨c, hc⟩ := ownR_ty h hk
  obtain ⟨c', hc'⟩ := ownR_ty h' hk'
  rw [hc] at hc'
  simp only [Option.some.injEq, Obj.cells.injEq] at hc'
  exact hne hc'.2.1
theorem ownR_blk {w : World} {b e s n g t : Nat} {v : Value} {xs : List Value} {cs : Array Value} {fr : Nat × Nat} (h : w.ownsRow b e s v n xs) (hb : w.heap[g]? = some (.cells cs t fr)) (hne : e ≠ t) : v.ownBlock ≠ some g := by
  intro hk
  obtain ⟨c, hc⟩ := ownR_ty h hk
  rw [hc] at hb
  simp only [Option.some.injEq, Obj.cells.injEq] at hb
  exact hne hb.2.1
def trow (l : List (Int × Int)) : List Value := l.flatMap fun x => [.int .i64 x.1, .int .i64 x.2]
def prow (l : List (ByteArray × Int)) : List Value := l.flatMap fun x => [.string x.1, .int .i64 x.2]
def qrow (l : List (ByteArray × Int × Int)) : List Value := l.flatMap fun x => [.string x.1, .int .i64 x.2.1, .int .i64 x.2.2]
def tAt (l : List (Int × Int)) (j : Nat) : Int × Int := l.getD j (0, 0)
def pAt (l : List (ByteArray × Int)) (j : Nat) : ByteArray × Int := l.getD j (ByteArray.empty, 0)
def qAt (l : List (ByteArray × Int × Int)) (j : Nat) : ByteArray × Int × Int := l.getD j (ByteArray.empty, 0, 0)
theorem trow_app (l : List (Int × Int)) (x : Int × Int) : trow (l ++ [x]) = trow l ++ [.int .i64 x.1, .int .i64 x.2] := by simp [trow]
theorem prow_app (l : List (ByteArray × Int)) (x : ByteArray × Int) : prow (l ++ [x]) = prow l ++ [.string x.1, .int .i64 x.2] := by simp [prow]
theorem qrow_app (l : List (ByteArray × Int × Int)) (x : ByteArray × Int × Int) : qrow (l ++ [x]) = qrow l ++ [.string x.1, .int .i64 x.2.1, .int .i64 x.2.2] := by simp [qrow]
theorem irow_app (l : List Int) (x : Int) : irow (l ++ [x]) = irow l ++ [.int .i64 x] := by simp [irow]
theorem flat_at {α : Type} (f : α → List Value) (c : Nat) (hf : ∀ x, (f x).length = c) : ∀ (l : List α) (j i : Nat) (h : j < l.length), i < c → (l.flatMap f)[j * c + i]? = (f l[j])[i]?
  | x :: l, 0, i, h, hi => by
    rw [List.flatMap_cons, Nat.zero_mul, Nat.zero_add, List.getElem?_append_left (by rw [hf]; exact hi)]; rfl
  | x :: l, j + 1, i, h, hi => by
    rw [List.flatMap_cons, List.getElem?_append_right (by rw [hf, Nat.add_mul]; omega), hf, show (j + 1) * c + i - c = j * c + i by rw [Nat.add_mul]; omega]
    exact flat_at f c hf l j i (by simpa using h) hi
theorem own_cell {w : World} {base e size n : Nat} {v : Value} {xs : List Value} (h : w.ownsRow base e size v n xs) {j : Nat} {u : Value} (hu : xs[j]? = some u) :
    ∃ g cap, v = .slice (some ⟨g, 0, none⟩) n cap ∧ g < w.heap.size ∧ n ≤ cap ∧ cap ≤ 9223372036854775807 ∧ w.cell? ⟨g, j, none⟩ = some u := by
  rcases h.2 with ⟨_, h0⟩ | ⟨g, cap, cur, hv, _, hg, h1, h2, h3, h4⟩
  · have : xs.length = 0 := by rw [h.1, h0, Nat.zero_mul]
    rw [List.length_eq_zero_iff.1 this] at hu
    cases hu
  · refine ⟨g, cap, hv, (Array.getElem?_eq_some_iff.1 hg).1, h1, by unfold maxLen at h2; omega, ?_⟩
    rw [cell_of_row w g j cur e _ hg, ← Array.getElem?_toList]
    rw [← h4, List.getElem?_take] at hu
    split at hu
    · exact hu
    · cases hu
/-- The cells of a reader. -/
def rdCells (t : St) (pos : Int) (vt vp vq vb : Value) : Array Value :=
  #[.string t.d.name, .int .i64 t.d.kind, .int .i64 t.d.round, .int .i64 t.d.price, .int .i64 t.d.pool, .int .i64 t.d.pick, vt, .bool t.d.roll, vp, .int .i64 t.d.cls, .int .i64 t.d.size, vq, vb, .int .i64 pos, .int .i64 t.lines, .bool t.rolled, .bool t.barred]
structure RdAt (base : Nat) (W : World) (B : Nat) (t : St) (pos : Int) (vt vp vq vb : Value) : Prop where
  blk : W.heap[B]? = some (.cells (rdCells t pos vt vp vq vb) 84 (0, 0))
  tiers : W.ownsRow base 50 2 vt t.d.tiers.length (trow t.d.tiers)
  places : W.ownsRow base 73 2 vp t.d.places.length (prow t.d.places)
  quotas : W.ownsRow base 75 3 vq t.d.quotas.length (qrow t.d.quotas)
  bars : W.ownsRow base 3 1 vb t.d.barred.length (irow t.d.barred)
/-- The blocks that reading turns. -/
def RdS (B : Nat) (vt vp vq vb : Value) (k : Nat) : Prop := k = B ∨ vt.ownBlock = some k ∨ vp.ownBlock = some k ∨ vq.ownBlock = some k ∨ vb.ownBlock = some k
theorem RdAt.still {base B : Nat} {w w' : World} {t : St} {pos : Int} {vt vp vq vb : Value} (h : RdAt base w B t pos vt vp vq vb) (hO : Only (fun _ => False) w w') : RdAt base w' B t pos vt vp vq vb :=
  ⟨row_still hO h.blk, hO.owns h.tiers (fun _ _ h => h), hO.owns h.places (fun _ _ h => h), hO.owns h.quotas (fun _ _ h => h), hO.owns h.bars (fun _ _ h => h)⟩
theorem RdAt.lt {base B : Nat} {w : World} {t : St} {pos : Int} {vt vp vq vb : Value} (h : RdAt base w B t pos vt vp vq vb) : B < w.heap.size := (Array.getElem?_eq_some_iff.1 h.blk).1
theorem RdAt.cell {base B : Nat} {w : World} {t : St} {pos : Int} {vt vp vq vb : Value} (h : RdAt base w B t pos vt vp vq vb) (j : Nat) {v : Value} (hv : (rdCells t pos vt vp vq vb)[j]? = some v) : w.cell? ⟨B, j, none⟩ = some v := (cell_of_row _ _ j _ _ _ h.blk).trans hv
theorem RdAt.frz {base B : Nat} {w : World} {t : St} {pos : Int} {vt vp vq vb : Value} (h : RdAt base w B t pos vt vp vq vb) (j : Nat) : w.frozen? ⟨B, j, none⟩ = false := frozen_of_row _ _ _ _ _ h.blk
theorem set_own {base B e s n : Nat} {w : World} {v u : Value} {xs : List Value} {j : Nat} (h : w.ownsRow base e s v n xs) (hne : v.ownBlock ≠ some B) : (w.setCell ⟨B, j, none⟩ u).ownsRow base e s v n xs :=
  ((Only.refl (fun k => k = B) w).setCell (.inl rfl) u).owns h (fun k hk he => hne (by rw [hk, he]))
theorem RdAt.set {base B : Nat} {w : World} {t : St} {pos : Int} {vt vp vq vb : Value} (h : RdAt base w B t pos vt vp vq vb) {t' : St} {pos' : Int} (j : Nat) (v : Value)
    (he : (rdCells t pos vt vp vq vb).setIfInBounds j v = rdCells t' pos' vt vp vq vb) (e1 : t'.d.tiers = t.d.tiers) (e2 : t'.d.places = t.d.places) (e3 : t'.d.quotas = t.d.quotas) (e4 : t'.d.barred = t.d.barred) :
    RdAt base (w.setCell ⟨B, j, none⟩ v) B t' pos' vt vp vq vb := by
  refine ⟨?_, ?_, ?_, ?_, ?_⟩
  · rw [← he]; exact heap_setCell_same w B j _ _ _ h.blk
  · rw [e1]; exact set_own h.tiers (ownR_blk h.tiers h.blk (by decide))
  · rw [e2]; exact set_own h.places (ownR_blk h.places h.blk (by decide))
  · rw [e3]; exact set_own h.quotas (ownR_blk h.quotas h.blk (by decide))
  · rw [e4]; exact set_own h.bars (ownR_blk h.bars h.blk (by decide))
theorem RdS.set {B : Nat} {w w1 : World} {vt vp vq vb : Value} (h : Only (RdS B vt vp vq vb) w w1) (j : Nat) (v : Value) : Only (RdS B vt vp vq vb) w (w1.setCell ⟨B, j, none⟩ v) := h.setCell (.inl (.inl rfl)) v
/-- What a line's reader leaves: r is what the line does. -/
def LineR (base B : Nat) (pos : Int) (vt vp vq vb : Value) (r : Int × St) (w : World) (e : Ending) (w' : World) : Prop :=
  Only (RdS B vt vp vq vb) w w' ∧ ((r.1 = 0 ∧ e = .returned (.tuple #[]) ∧ ∃ vt' vp' vq' vb', RdAt base w' B r.2 pos vt' vp' vq' vb') ∨ (r.1 ≠ 0 ∧ e = .panicked (faultC pos r.1)))
theorem lineR_no {base B : Nat} {pos err : Int} {vt vp vq vb : Value} {r : Int × St} {w w' : World} {e : Ending} (he : err ≠ 0) (hr : r.1 = err) (h1 : e = .panicked (faultC pos err)) (hO : Only (RdS B vt vp vq vb) w w') : LineR base B pos vt vp vq vb r w e w' := by
  subst hr; exact ⟨hO, .inr ⟨he, h1⟩⟩
theorem lineR_yes {base B : Nat} {pos : Int} {vt vp vq vb : Value} {r : Int × St} {t' : St} {w w' : World} {e : Ending} (hr : r = (0, t')) (h1 : e = .returned (.tuple #[])) (hO : Only (RdS B vt vp vq vb) w w') {vt' vp' vq' vb' : Value} (hR : RdAt base w' B t' pos vt' vp' vq' vb') : LineR base B pos vt vp vq vb r w e w' := by
  subst hr; exact ⟨hO, .inl ⟨rfl, h1, _, _, _, _, hR⟩⟩
theorem headTo_z {e : Int} {t t' : St} (h : e = 0) : headTo e t t' = (0, t') := if_pos h
theorem headTo_n {e : Int} {t t' : St} (h : e ≠ 0) : headTo e t t' = (e, t) := if_neg h
theorem head_zero {t : St} {line : Int} {f : List Bool} {ws : List ByteArray} (h : headZ t line f ws = 0) : fitB f ws = true := by
  unfold headZ at h
  split at h
  · next h2 => exact h2.2
  · cases h
theorem spec_zero {t : St} {kind : Int} {f : List Bool} {ws : List ByteArray} (h : specZ t kind f ws = 0) : fitB f ws = true := by
  unfold specZ at h
  split at h
  · next h2 => exact h2.2.1
  · cases h
theorem fit_at {f : List Bool} {ws : List ByteArray} (h : fitB f ws = true) : f.length = ws.length ∧ ∀ k, k < f.length → (f.getD k true = true → nameB (wAt ws k) = true ∧ nameV ws k = wAt ws k) ∧ (f.getD k true = false → numB (wAt ws k) = true ∧ numV ws k = aAt ws k) := by
  have hl : f.length = ws.length := by
    by_cases e : f.length = ws.length
    · exact e
    · rw [fit_len e] at h; cases h
  refine ⟨hl, fun k hk => ?_⟩
  rw [fit_all hl, List.all_eq_true] at h
  have h1 := h k (List.mem_range.2 (by omega))
  unfold ftOk at h1
  refine ⟨fun e => ?_, fun e => ?_⟩
  · rw [if_pos e] at h1
    refine ⟨h1, ?_⟩
    unfold nameV
    rw [if_neg]
    intro e2
    rw [num_not_name e2] at h1
    cases h1
  · rw [if_neg (by rw [e]; decide)] at h1
    refine ⟨h1, ?_⟩
    unfold numV
    rw [if_pos h1]
    rfl
end Go.Proofs.YteikkpiginfbkaaGreatDoor

namespace Go.Proofs.YteikkpiginfbkaaGreatDoor
open Go.RowKit

theorem EndR.z {pos : Int} {w w' : World} {e : Ending} (h : EndR pos 0 w e w') : e = .returned (.tuple #[]) ∧ w = w' := ⟨h.1.trans (if_pos rfl), h.2⟩
theorem EndR.n {pos err : Int} {w w' : World} {e : Ending} (h : EndR pos err w e w') (he : err ≠ 0) : e = .panicked (faultC pos err) ∧ w = w' := ⟨h.1.trans (if_neg he), h.2⟩
set_option maxHeartbeats 2000000 in
theorem draw_any (base B : Nat) (pos : Int) (t : St) (vt vp vq vb sv : Value) (ws : List ByteArray) (w : World) (hR : RdAt base w B t pos vt vp vq vb) (hp : PrtAt w sv ws) :
    Calls Tryz.prog 93 #[.pointer (some ⟨B, 0, none⟩), sv] w fun e w' => LineR base B pos vt vp vq vb (lnDraw t ws) w e w' := by
  have HR := Lib.hid hR
  have hD := head_any B pos 0 _ t sv ws [true, true] w hp (hR.cell 13 rfl) (hR.cell 14 rfl) rfl
  by_cases he : headZ t 0 [true, true] ws = 0
  · obtain ⟨hl, hat⟩ := fit_at (head_zero he)
    have hl2 : ws.length = 2 := hl.symm
    have HV := Lib.hid (show lnDraw t ws = (0, _) from headTo_z he)
    rw [he] at hD
    have HD := Lib.hid hD
    have HN0 := Lib.hid (name_any sv ws 1 (wAt ws 1) w hp (by omega) ((hat 1 (by decide)).1 rfl).2)
    have k0 := hR.cell 0 rfl
    have z0 := hR.frz 0
    clear hD he hl hat hl2 hp hR
    go_enter Tryz.func93, Tryz.ntmps93
    go_wp2_with fail
    refine HD.out.mono ?_
    rintro e w' hE
    obtain ⟨rfl, rfl⟩ := hE.z
    go_wp2_with fail
    refine HN0.out.mono ?_
    rintro e w' ⟨rfl, rfl⟩
    go_wp2_with fail
    go_end0
    exact lineR_yes HV.out rfl (RdS.set (Only.refl _ _) 0 _) (HR.out.set (t' := { t with d := { t.d with name := wAt ws 1 } }) 0 _ rfl rfl rfl rfl rfl)
  · have HE := Lib.hid he
    have HV := Lib.hid (show (lnDraw t ws).1 = _ from congrArg Prod.fst (headTo_n he))
    have HD := Lib.hid hD
    clear hD he hp hR
    go_enter Tryz.func93, Tryz.ntmps93
    go_wp2_with fail
    refine HD.out.mono ?_
    rintro e w' hE
    obtain ⟨rfl, rfl⟩ := hE.n HE.out
    go_wp2_with fail
    exact ⟨rfl, lineR_no HE.out HV.out rfl (Only.refl _ _)⟩
set_option maxHeartbeats 2000000 in
theorem lottery_any (base B : Nat) (pos : Int) (t : St) (vt vp vq vb sv : Value) (ws : List ByteArray) (w : World) (hR : RdAt base w B t pos vt vp vq vb) (hp : PrtAt w sv ws) :
    Calls Tryz.prog 94 #[.pointer (some ⟨B, 0, none⟩), sv] w fun e w' => LineR base B pos vt vp vq vb (lnLottery t ws) w e w' := by
  have HR := Lib.hid hR
  have hD := head_any B pos 1 _ t sv ws [true, false, false] w hp (hR.cell 13 rfl) (hR.cell 14 rfl) rfl
  by_cases he : headZ t 1 [true, false, false] ws = 0
  · obtain ⟨hl, hat⟩ := fit_at (head_zero he)
    have hl2 : ws.length = 3 := hl.symm
    have HV := Lib.hid (show lnLottery t ws = (0, _) from headTo_z he)
    rw [he] at hD
    have HD := Lib.hid hD
    have HN0 := Lib.hid (number_any sv ws 1 (aAt ws 1) w hp (by omega) ((hat 1 (by decide)).2 rfl).2)
    have HN1 := Lib.hid (number_any sv ws 2 (aAt ws 2) w hp (by omega) ((hat 2 (by decide)).2 rfl).2)
    have k1 := hR.cell 1 rfl
    have z1 := hR.frz 1
    have k4 := hR.cell 4 rfl
    have z4 := hR.frz 4
    have k5 := hR.cell 5 rfl
    have z5 := hR.frz 5
    clear hD he hl hat hl2 hp hR
    go_enter Tryz.func94, Tryz.ntmps94
    go_wp2_with fail
    refine HD.out.mono ?_
    rintro e w' hE
    obtain ⟨rfl, rfl⟩ := hE.z
    go_wp2_with fail
    refine HN0.out.mono ?_
    rintro e w' ⟨rfl, rfl⟩
    go_wp2_with fail
    refine HN1.out.mono ?_
    rintro e w' ⟨rfl, rfl⟩
    go_wp2_with fail
    go_end0
    exact lineR_yes HV.out rfl (RdS.set (RdS.set (RdS.set (Only.refl _ _) 1 _) 4 _) 5 _) (((HR.out.set (t' := { t with d := { t.d with kind := 1 } }) 1 _ rfl rfl rfl rfl rfl).set (t' := { t with d := { t.d with kind := 1, pool := aAt ws 1 } }) 4 _ rfl rfl rfl rfl rfl).set (t' := { t with d := { t.d with kind := 1, pool := aAt ws 1, pick := aAt ws 2 } }) 5 _ rfl rfl rfl rfl rfl)
  · have HE := Lib.hid he
    have HV := Lib.hid (show (lnLottery t ws).1 = _ from congrArg Prod.fst (headTo_n he))
    have HD := Lib.hid hD
    clear hD he hp hR
    go_enter Tryz.func94, Tryz.ntmps94
    go_wp2_with fail
    refine HD.out.mono ?_
    rintro e w' hE
    obtain ⟨rfl, rfl⟩ := hE.n HE.out
    go_wp2_with fail
    exact ⟨rfl, lineR_no HE.out HV.out rfl (Only.refl _ _)⟩
set_option maxHeartbeats 2000000 in
theorem ballot_any (base B : Nat) (pos : Int) (t : St) (vt vp vq vb sv : Value) (ws : List ByteArray) (w : World) (hR : RdAt base w B t pos vt vp vq vb) (hp : PrtAt w sv ws) :
    Calls Tryz.prog 95 #[.pointer (some ⟨B, 0, none⟩), sv] w fun e w' => LineR base B pos vt vp vq vb (lnBallot t ws) w e w' := by
  have HR := Lib.hid hR
  have hD := head_any B pos 1 _ t sv ws [true, false] w hp (hR.cell 13 rfl) (hR.cell 14 rfl) rfl
  by_cases he : headZ t 1 [true, false] ws = 0
  · obtain ⟨hl, hat⟩ := fit_at (head_zero he)
    have hl2 : ws.length = 2 := hl.symm
    have HV := Lib.hid (show lnBallot t ws = (0, _) from headTo_z he)
    rw [he] at hD
    have HD := Lib.hid hD
    have HN0 := Lib.hid (number_any sv ws 1 (aAt ws 1) w hp (by omega) ((hat 1 (by decide)).2 rfl).2)
    have k1 := hR.cell 1 rfl
    have z1 := hR.frz 1
    have k9 := hR.cell 9 rfl
    have z9 := hR.frz 9
    clear hD he hl hat hl2 hp hR
    go_enter Tryz.func95, Tryz.ntmps95
    go_wp2_with fail
    refine HD.out.mono ?_
    rintro e w' hE
    obtain ⟨rfl, rfl⟩ := hE.z
    go_wp2_with fail
    refine HN0.out.mono ?_
    rintro e w' ⟨rfl, rfl⟩
    go_wp2_with fail
    go_end0
    exact lineR_yes HV.out rfl (RdS.set (RdS.set (Only.refl _ _) 1 _) 9 _) ((HR.out.set (t' := { t with d := { t.d with kind := 2 } }) 1 _ rfl rfl rfl rfl rfl).set (t' := { t with d := { t.d with kind := 2, cls := aAt ws 1 } }) 9 _ rfl rfl rfl rfl rfl)
  · have HE := Lib.hid he
    have HV := Lib.hid (show (lnBallot t ws).1 = _ from congrArg Prod.fst (headTo_n he))
    have HD := Lib.hid hD
    clear hD he hp hR
    go_enter Tryz.func95, Tryz.ntmps95
    go_wp2_with fail
    refine HD.out.mono ?_
    rintro e w' hE
    obtain ⟨rfl, rfl⟩ := hE.n HE.out
    go_wp2_with fail
    exact ⟨rfl, lineR_no HE.out HV.out rfl (Only.refl _ _)⟩
set_option maxHeartbeats 2000000 in
theorem panel_any (base B : Nat) (pos : Int) (t : St) (vt vp vq vb sv : Value) (ws : List ByteArray) (w : World) (hR : RdAt base w B t pos vt vp vq vb) (hp : PrtAt w sv ws) :
    Calls Tryz.prog 96 #[.pointer (some ⟨B, 0, none⟩), sv] w fun e w' => LineR base B pos vt vp vq vb (lnPanel t ws) w e w' := by
  have HR := Lib.hid hR
  have hD := head_any B pos 1 _ t sv ws [true, false] w hp (hR.cell 13 rfl) (hR.cell 14 rfl) rfl
  by_cases he : headZ t 1 [true, false] ws = 0
  · obtain ⟨hl, hat⟩ := fit_at (head_zero he)
    have hl2 : ws.length = 2 := hl.symm
    have HV := Lib.hid (show lnPanel t ws = (0, _) from headTo_z he)
    rw [he] at hD
    have HD := Lib.hid hD
    have HN0 := Lib.hid (number_any sv ws 1 (aAt ws 1) w hp (by omega) ((hat 1 (by decide)).2 rfl).2)
    have k1 := hR.cell 1 rfl
    have z1 := hR.frz 1
    have k10 := hR.cell 10 rfl
    have z10 := hR.frz 10
    clear hD he hl hat hl2 hp hR
    go_enter Tryz.func96, Tryz.ntmps96
    go_wp2_with fail
    refine HD.out.mono ?_
    rintro e w' hE
    obtain ⟨rfl, rfl⟩ := hE.z
    go_wp2_with fail
    refine HN0.out.mono ?_
    rintro e w' ⟨rfl, rfl⟩
    go_wp2_with fail
    go_end0
    exact lineR_yes HV.out rfl (RdS.set (RdS.set (Only.refl _ _) 1 _) 10 _) ((HR.out.set (t' := { t with d := { t.d with kind := 3 } }) 1 _ rfl rfl rfl rfl rfl).set (t' := { t with d := { t.d with kind := 3, size := aAt ws 1 } }) 10 _ rfl rfl rfl rfl rfl)
  · have HE := Lib.hid he
    have HV := Lib.hid (show (lnPanel t ws).1 = _ from congrArg Prod.fst (headTo_n he))
    have HD := Lib.hid hD
    clear hD he hp hR
    go_enter Tryz.func96, Tryz.ntmps96
    go_wp2_with fail
    refine HD.out.mono ?_
    rintro e w' hE
    obtain ⟨rfl, rfl⟩ := hE.n HE.out
    go_wp2_with fail
    exact ⟨rfl, lineR_no HE.out HV.out rfl (Only.refl _ _)⟩
set_option maxHeartbeats 2000000 in
theorem round_any (base B : Nat) (pos : Int) (t : St) (vt vp vq vb sv : Value) (ws : List ByteArray) (w : World) (hR : RdAt base w B t pos vt vp vq vb) (hp : PrtAt w sv ws) :
    Calls Tryz.prog 97 #[.pointer (some ⟨B, 0, none⟩), sv] w fun e w' => LineR base B pos vt vp vq vb (lnRound t ws) w e w' := by
  have HR := Lib.hid hR
  have hD := head_any B pos 2 _ t sv ws [true, false] w hp (hR.cell 13 rfl) (hR.cell 14 rfl) rfl
  by_cases he : headZ t 2 [true, false] ws = 0
  · obtain ⟨hl, hat⟩ := fit_at (head_zero he)
    have hl2 : ws.length = 2 := hl.symm
    have HV := Lib.hid (show lnRound t ws = (0, _) from headTo_z he)
    rw [he] at hD
    have HD := Lib.hid hD
    have HN0 := Lib.hid (number_any sv ws 1 (aAt ws 1) w hp (by omega) ((hat 1 (by decide)).2 rfl).2)
    have k2 := hR.cell 2 rfl
    have z2 := hR.frz 2
    clear hD he hl hat hl2 hp hR
    go_enter Tryz.func97, Tryz.ntmps97
    go_wp2_with fail
    refine HD.out.mono ?_
    rintro e w' hE
    obtain ⟨rfl, rfl⟩ := hE.z
    go_wp2_with fail
    refine HN0.out.mono ?_
    rintro e w' ⟨rfl, rfl⟩
    go_wp2_with fail
    go_end0
    exact lineR_yes HV.out rfl (RdS.set (Only.refl _ _) 2 _) (HR.out.set (t' := { t with d := { t.d with round := aAt ws 1 } }) 2 _ rfl rfl rfl rfl rfl)
  · have HE := Lib.hid he
    have HV := Lib.hid (show (lnRound t ws).1 = _ from congrArg Prod.fst (headTo_n he))
    have HD := Lib.hid hD
    clear hD he hp hR
    go_enter Tryz.func97, Tryz.ntmps97
    go_wp2_with fail
    refine HD.out.mono ?_
    rintro e w' hE
    obtain ⟨rfl, rfl⟩ := hE.n HE.out
    go_wp2_with fail
    exact ⟨rfl, lineR_no HE.out HV.out rfl (Only.refl _ _)⟩
set_option maxHeartbeats 2000000 in
theorem price_any (base B : Nat) (pos : Int) (t : St) (vt vp vq vb sv : Value) (ws : List ByteArray) (w : World) (hR : RdAt base w B t pos vt vp vq vb) (hp : PrtAt w sv ws) :
    Calls Tryz.prog 98 #[.pointer (some ⟨B, 0, none⟩), sv] w fun e w' => LineR base B pos vt vp vq vb (lnPrice t ws) w e w' := by
  have HR := Lib.hid hR
  have hD := head_any B pos 3 _ t sv ws [true, false] w hp (hR.cell 13 rfl) (hR.cell 14 rfl) rfl
  by_cases he : headZ t 3 [true, false] ws = 0
  · obtain ⟨hl, hat⟩ := fit_at (head_zero he)
    have hl2 : ws.length = 2 := hl.symm
    have HV := Lib.hid (show lnPrice t ws = (0, _) from headTo_z he)
    rw [he] at hD
    have HD := Lib.hid hD
    have HN0 := Lib.hid (number_any sv ws 1 (aAt ws 1) w hp (by omega) ((hat 1 (by decide)).2 rfl).2)
    have k3 := hR.cell 3 rfl
    have z3 := hR.frz 3
    clear hD he hl hat hl2 hp hR
    go_enter Tryz.func98, Tryz.ntmps98
    go_wp2_with fail
    refine HD.out.mono ?_
    rintro e w' hE
    obtain ⟨rfl, rfl⟩ := hE.z
    go_wp2_with fail
    refine HN0.out.mono ?_
    rintro e w' ⟨rfl, rfl⟩
    go_wp2_with fail
    go_end0
    exact lineR_yes HV.out rfl (RdS.set (Only.refl _ _) 3 _) (HR.out.set (t' := { t with d := { t.d with price := aAt ws 1 } }) 3 _ rfl rfl rfl rfl rfl)
  · have HE := Lib.hid he
    have HV := Lib.hid (show (lnPrice t ws).1 = _ from congrArg Prod.fst (headTo_n he))
    have HD := Lib.hid hD
    clear hD he hp hR
    go_enter Tryz.func98, Tryz.ntmps98
    go_wp2_with fail
    refine HD.out.mono ?_
    rintro e w' hE
    obtain ⟨rfl, rfl⟩ := hE.n HE.out
    go_wp2_with fail
    exact ⟨rfl, lineR_no HE.out HV.out rfl (Only.refl _ _)⟩
set_option maxHeartbeats 2000000 in
theorem roll_any (base B : Nat) (pos : Int) (t : St) (vt vp vq vb sv : Value) (ws : List ByteArray) (w : World) (hR : RdAt base w B t pos vt vp vq vb) (hp : PrtAt w sv ws) :
    Calls Tryz.prog 100 #[.pointer (some ⟨B, 0, none⟩), sv] w fun e w' => LineR base B pos vt vp vq vb (lnRoll t ws) w e w' := by
  have HR := Lib.hid hR
  have hD := special_any B pos 1 _ t sv ws [true] w hp (hR.cell 1 rfl) (hR.cell 13 rfl) (hR.cell 14 rfl) (hR.cell 15 rfl) (hR.cell 16 rfl) rfl
  by_cases he : specZ t 1 [true] ws = 0
  · obtain ⟨hl, hat⟩ := fit_at (spec_zero he)
    have hl2 : ws.length = 1 := hl.symm
    have HV := Lib.hid (show lnRoll t ws = (0, _) from headTo_z he)
    rw [he] at hD
    have HD := Lib.hid hD
    have k7 := hR.cell 7 rfl
    have z7 := hR.frz 7
    have k15 := hR.cell 15 rfl
    have z15 := hR.frz 15
    clear hD he hl hat hl2 hp hR
    go_enter Tryz.func100, Tryz.ntmps100
    go_wp2_with fail
    refine HD.out.mono ?_
    rintro e w' hE
    obtain ⟨rfl, rfl⟩ := hE.z
    go_wp2_with fail
    go_end0
    exact lineR_yes HV.out rfl (RdS.set (RdS.set (Only.refl _ _) 7 _) 15 _) ((HR.out.set (t' := { t with d := { t.d with roll := true } }) 7 _ rfl rfl rfl rfl rfl).set (t' := { t with d := { t.d with roll := true }, rolled := true }) 15 _ rfl rfl rfl rfl rfl)
  · have HE := Lib.hid he
    have HV := Lib.hid (show (lnRoll t ws).1 = _ from congrArg Prod.fst (headTo_n he))
    have HD := Lib.hid hD
    clear hD he hp hR
    go_enter Tryz.func100, Tryz.ntmps100
    go_wp2_with fail
    refine HD.out.mono ?_
    rintro e w' hE
    obtain ⟨rfl, rfl⟩ := hE.n HE.out
    go_wp2_with fail
    exact ⟨rfl, lineR_no HE.out HV.out rfl (Only.refl _ _)⟩
end Go.Proofs.YteikkpiginfbkaaGreatDoor

namespace Go.Proofs.YteikkpiginfbkaaGreatDoor
open Go.RowKit

theorem addTo_e {e : Int} {tw : Bool} {n most : Nat} {t t' : St} (h : e ≠ 0) : addTo e tw n most t t' = (e, t) := if_neg h
theorem addTo_t {e : Int} {tw : Bool} {n most : Nat} {t t' : St} (h : e = 0) (h2 : tw = true) : addTo e tw n most t t' = (13, t) := by unfold addTo; rw [if_pos h, if_pos h2]
theorem addTo_m {e : Int} {tw : Bool} {n most : Nat} {t t' : St} (h : e = 0) (h2 : tw = false) (h3 : ¬ n < most) : addTo e tw n most t t' = (2, t) := by unfold addTo; rw [if_pos h, if_neg (by rw [h2]; decide), if_neg h3]
theorem addTo_y {e : Int} {tw : Bool} {n most : Nat} {t t' : St} (h : e = 0) (h2 : tw = false) (h3 : n < most) : addTo e tw n most t t' = (0, t') := by unfold addTo; rw [if_pos h, if_neg (by rw [h2]; decide), if_pos h3]
theorem any_take_succ {α : Type} {l : List α} {p : α → Bool} {k : Nat} (hk : k < l.length) (h : (l.take k).any p = false) : (l.take (k + 1)).any p = p l[k] := by
  rw [List.take_succ_eq_append_getElem hk, List.any_append, h]
  simp
theorem any_take_yes {α : Type} {l : List α} {p : α → Bool} {k : Nat} (h : (l.take k).any p = true) : l.any p = true := by
  rw [← List.take_append_drop k l, List.any_append, h]; rfl
theorem tAt_get {l : List (Int × Int)} {k : Nat} (h : k < l.length) : l[k] = tAt l k := by unfold tAt; simp [List.getD, h]
theorem pAt_get {l : List (ByteArray × Int)} {k : Nat} (h : k < l.length) : l[k] = pAt l k := by unfold pAt; simp [List.getD, h]
theorem qAt_get {l : List (ByteArray × Int × Int)} {k : Nat} (h : k < l.length) : l[k] = qAt l k := by unfold qAt; simp [List.getD, h]
theorem Tryz.infoTi : (Tryz.prog.info? 50).map (fun i => (i.zero, i.size, i.bytes)) = some (some (.agg #[.int .i64 0, .int .i64 0]), 2, 16) := by kernel_rfl
theorem Tryz.infoPl : (Tryz.prog.info? 73).map (fun i => (i.zero, i.size, i.bytes)) = some (some (.agg #[.string ByteArray.empty, .int .i64 0]), 2, 24) := by kernel_rfl
theorem Tryz.infoQu : (Tryz.prog.info? 75).map (fun i => (i.zero, i.size, i.bytes)) = some (some (.agg #[.string ByteArray.empty, .int .i64 0, .int .i64 0]), 3, 32) := by kernel_rfl
theorem RdAt.tierBack {base B : Nat} {w w1 : World} {t : St} {pos : Int} {vt vp vq vb v : Value} {x : Int × Int} (h : RdAt base w B t pos vt vp vq vb) (hg : w.grownBy w1 vt.ownBlock)
    (ho : w1.ownsRow base 50 2 v (t.d.tiers.length + 1) (trow t.d.tiers ++ [.int .i64 x.1, .int .i64 x.2])) :
    RdAt base (w1.setCell ⟨B, 6, none⟩ v) B { t with d := { t.d with tiers := t.d.tiers ++ [x] } } pos v vp vq vb := by
  have hO := (Only.refl (fun k => vt.ownBlock = some k) w).grown hg (fun k e _ => e)
  have hb : w1.heap[B]? = _ := (hO.block B h.lt (ownR_blk h.tiers h.blk (by decide))).trans h.blk
  have hv : w1.ownsRow base 50 2 v (t.d.tiers ++ [x]).length (trow (t.d.tiers ++ [x])) := by rw [trow_app, List.length_append]; exact ho
  exact ⟨heap_setCell_same w1 B 6 _ _ v hb, set_own hv (ownR_blk hv hb (by decide)),
    set_own (hO.owns h.places (fun g hg e => ownR_ne h.places h.tiers (by decide) g hg e)) (by have := ownR_blk h.places h.blk (by decide); exact this),
    set_own (hO.owns h.quotas (fun g hg e => ownR_ne h.quotas h.tiers (by decide) g hg e)) (by have := ownR_blk h.quotas h.blk (by decide); exact this),
    set_own (hO.owns h.bars (fun g hg e => ownR_ne h.bars h.tiers (by decide) g hg e)) (by have := ownR_blk h.bars h.blk (by decide); exact this)⟩
theorem RdAt.placeBack {base B : Nat} {w w1 : World} {t : St} {pos : Int} {vt vp vq vb v : Value} {x : ByteArray × Int} (h : RdAt base w B t pos vt vp vq vb) (hg : w.grownBy w1 vp.ownBlock)
    (ho : w1.ownsRow base 73 2 v (t.d.places.length + 1) (prow t.d.places ++ [.string x.1, .int .i64 x.2])) :
    RdAt base (w1.setCell ⟨B, 8, none⟩ v) B { t with d := { t.d with places := t.d.places ++ [x] } } pos vt v vq vb := by
  have hO := (Only.refl (fun k => vp.ownBlock = some k) w).grown hg (fun k e _ => e)
  have hb : w1.heap[B]? = _ := (hO.block B h.lt (ownR_blk h.places h.blk (by decide))).trans h.blk
  have hv : w1.ownsRow base 73 2 v (t.d.places ++ [x]).length (prow (t.d.places ++ [x])) := by rw [prow_app, List.length_append]; exact ho
  exact ⟨heap_setCell_same w1 B 8 _ _ v hb,
    set_own (hO.owns h.tiers (fun g hg e => ownR_ne h.tiers h.places (by decide) g hg e)) (by have := ownR_blk h.tiers h.blk (by decide); exact this), set_own hv (ownR_blk hv hb (by decide)),
    set_own (hO.owns h.quotas (fun g hg e => ownR_ne h.quotas h.places (by decide) g hg e)) (by have := ownR_blk h.quotas h.blk (by decide); exact this),
    set_own (hO.owns h.bars (fun g hg e => ownR_ne h.bars h.places (by decide) g hg e)) (by have := ownR_blk h.bars h.blk (by decide); exact this)⟩
theorem RdAt.quotaBack {base B : Nat} {w w1 : World} {t : St} {pos : Int} {vt vp vq vb v : Value} {x : ByteArray × Int × Int} (h : RdAt base w B t pos vt vp vq vb) (hg : w.grownBy w1 vq.ownBlock)
    (ho : w1.ownsRow base 75 3 v (t.d.quotas.length + 1) (qrow t.d.quotas ++ [.string x.1, .int .i64 x.2.1, .int .i64 x.2.2])) :
    RdAt base (w1.setCell ⟨B, 11, none⟩ v) B { t with d := { t.d with quotas := t.d.quotas ++ [x] } } pos vt vp v vb := by
  have hO := (Only.refl (fun k => vq.ownBlock = some k) w).grown hg (fun k e _ => e)
  have hb : w1.heap[B]? = _ := (hO.block B h.lt (ownR_blk h.quotas h.blk (by decide))).trans h.blk
  have hv : w1.ownsRow base 75 3 v (t.d.quotas ++ [x]).length (qrow (t.d.quotas ++ [x])) := by rw [qrow_app, List.length_append]; exact ho
  exact ⟨heap_setCell_same w1 B 11 _ _ v hb,
    set_own (hO.owns h.tiers (fun g hg e => ownR_ne h.tiers h.quotas (by decide) g hg e)) (by have := ownR_blk h.tiers h.blk (by decide); exact this),
    set_own (hO.owns h.places (fun g hg e => ownR_ne h.places h.quotas (by decide) g hg e)) (by have := ownR_blk h.places h.blk (by decide); exact this), set_own hv (ownR_blk hv hb (by decide)),
    set_own (hO.owns h.bars (fun g hg e => ownR_ne h.bars h.quotas (by decide) g hg e)) (by have := ownR_blk h.bars h.blk (by decide); exact this)⟩
theorem three_oneR (a b c : Value) (ha : a.oneCell' = true) (hb : b.oneCell' = true) (hc : c.oneCell' = true) : ∀ u ∈ [a, b, c], u.oneCell' = true := by
  intro u hu
  simp only [List.mem_cons, List.not_mem_nil, or_false] at hu
  rcases hu with rfl | rfl | rfl <;> assumption
theorem str_eq {a b : ByteArray} (h : a = b) : (a.toList == b.toList) = true := by rw [h]; simp
theorem str_ne {a b : ByteArray} (h : a ≠ b) : (a.toList == b.toList) = false := by
  rw [beq_eq_false_iff_ne, ByteArray.toList_eq, ByteArray.toList_eq]
  intro e
  apply h
  obtain ⟨⟨a⟩⟩ := a
  obtain ⟨⟨b⟩⟩ := b
  exact congrArg (fun l => ByteArray.mk (Array.mk l)) e
theorem newsR (w : World) (cs : List Value) (T : TypeId) : ∀ j u, cs[j]? = some u → ((w.alloc (.cells cs.toArray T)).drew).cell? ((⟨w.heap.size, 0, none⟩ : Addr).add j) = some u := by
  have h : ((w.alloc (.cells cs.toArray T)).drew).heap[w.heap.size]? = some (.cells cs.toArray T) := heap_alloc_last w (.cells cs.toArray T)
  intro j u hu
  exact World.news_of_block h j u (by simpa using hu)
theorem one_laterR (w : World) (A : Obj) {p : Addr} {v : Value} (hc : w.cell? p = some v) (hf : w.frozen? p = false) :
    ((w.alloc A).drew).cell? p = some v ∧ ((w.alloc A).drew).frozen? p = false ∧ p.block < ((w.alloc A).drew).heap.size := by
  have hb := (Below.refl _ w).alloc (Nat.le_refl _) A
  have hlt := World.block_lt_of_cell? w _ hc
  exact ⟨(hb.cell hlt).trans hc, (hb.frozen hlt).trans hf, Nat.lt_of_lt_of_le hlt hb.size⟩
theorem two_oneR (a b : Value) (ha : a.oneCell' = true) (hb : b.oneCell' = true) : ∀ u ∈ [a, b], u.oneCell' = true := by
  intro u hu
  simp only [List.mem_cons, List.not_mem_nil, or_false] at hu
  rcases hu with rfl | rfl <;> assumption
set_option maxRecDepth 100000 in
set_option maxHeartbeats 4000000 in
theorem tier_any (base B : Nat) (pos : Int) (t : St) (vt vp vq vb sv : Value) (ws : List ByteArray) (w : World) (hR : RdAt base w B t pos vt vp vq vb) (hp : PrtAt w sv ws) (hb : base ≤ w.heap.size) (hlen : t.d.tiers.length ≤ 1000) :
    Calls Tryz.prog 99 #[.pointer (some ⟨B, 0, none⟩), sv] w fun e w' => LineR base B pos vt vp vq vb (lnTier t ws) w e w' := by
  have HR := Lib.hid hR
  have hD := special_any B pos 1 _ t sv ws [true, false, false] w hp (hR.cell 1 rfl) (hR.cell 13 rfl) (hR.cell 14 rfl) (hR.cell 15 rfl) (hR.cell 16 rfl) rfl
  by_cases he : specZ t 1 [true, false, false] ws = 0
  · obtain ⟨hl, hat⟩ := fit_at (spec_zero he)
    have hl2 : ws.length = 3 := hl.symm
    have HZ := Lib.hid he
    rw [he] at hD
    have HD := Lib.hid hD
    have HN0 := Lib.hid (number_any sv ws 1 (aAt ws 1) w hp (by omega) ((hat 1 (by decide)).2 rfl).2)
    have HN1 := Lib.hid (number_any sv ws 2 (aAt ws 2) w hp (by omega) ((hat 2 (by decide)).2 rfl).2)
    obtain ⟨i0, hi, hz0, hz1, hz2⟩ := info_parts Tryz.infoTi
    have HI := Lib.hid hi
    have HI0 := Lib.hid hz0
    have HI1 := Lib.hid hz1
    have HI2 := Lib.hid hz2
    obtain ⟨a6, c6, rfl⟩ := slice_of_own hR.tiers
    have HLT := Lib.hid (show lnTier t ws = addTo (specZ t 1 [true, false, false] ws) (hasTier t.d.tiers (aAt ws 1)) t.d.tiers.length 12 t _ from rfl)
    generalize aAt ws 1 = xa at *
    generalize aAt ws 2 = xb at *
    have k6 : w.cell? ⟨B, 6, none⟩ = some (.slice a6 t.d.tiers.length c6) := hR.cell 6 rfl
    have hBw := hR.lt
    clear hD he hl hat hl2 hp hR hi hz0 hz1 hz2
    go_enter Tryz.func99, Tryz.ntmps99
    go_wp2_with fail
    refine HD.out.mono ?_
    rintro e w' hE
    obtain ⟨rfl, rfl⟩ := hE.z
    go_wp2_with fail
    refine HN0.out.mono ?_
    rintro e w' ⟨rfl, rfl⟩
    go_wp2_with fail
    refine HN1.out.mono ?_
    rintro e w' ⟨rfl, rfl⟩
    go_wp2_with fail
    have HB1 := Lib.hid (heap_alloc_last w (.cells #[.int .i64 xa, .int .i64 xb] 50))
    have HO1 := Lib.hid ((Only.refl (fun _ => False) w).alloc (.cells #[.int .i64 xa, .int .i64 xb] 50))
    clear k6
    go_loopw [21] (fun iv wr => ∃ k : Nat, iv = .int .i64 k ∧ k ≤ t.d.tiers.length ∧ (t.d.tiers.take k).any (fun u => u.1 == xa) = false ∧ Only (fun _ => False) (w.alloc (.cells #[.int .i64 xa, .int .i64 xb] 50)) wr) (fun iv _ => t.d.tiers.length - (intOf iv).toNat)
    case atStart => exact ⟨0, rfl, Nat.zero_le _, rfl, Only.refl _ _⟩
    case round =>
      obtain ⟨k, rfl, hk, hno, hO⟩ := hrel
      have HNO := Lib.hid hno
      have HO := Lib.hid hO
      have hb1 := row_still hO HB1.out
      have HBW := Lib.hid hb1
      have HRW := Lib.hid (HR.out.still (HO1.out.trans hO))
      have HOW := Lib.hid (HO1.out.trans hO)
      have q0 : _ = some (Value.int .i64 xa) := cell_of_row _ _ 0 _ _ _ hb1
      have hBr := HRW.out.lt
      have hszw : w.heap.size < wr.heap.size := (Array.getElem?_eq_some_iff.1 hb1).1
      clear hno hO hb1
      by_cases hlt : k < t.d.tiers.length
      · have j1 : (k : Int) < t.d.tiers.length := by omega
        have j2 : 0 ≤ (k : Int) := by omega
        have h0 := flat_at (fun x : Int × Int => [Value.int .i64 x.1, Value.int .i64 x.2]) 2 (fun _ => rfl) t.d.tiers k 0 hlt (by decide)
        have h1 := flat_at (fun x : Int × Int => [Value.int .i64 x.1, Value.int .i64 x.2]) 2 (fun _ => rfl) t.d.tiers k 1 hlt (by decide)
        obtain ⟨g, cap, hv, hg, hc1, hc2, d0⟩ := own_cell HRW.out.tiers h0
        obtain ⟨g', cap', hv', _, _, _, d1⟩ := own_cell HRW.out.tiers h1
        rw [hv] at hv'
        simp only [Value.slice.injEq, Option.some.injEq, Addr.mk.injEq, and_true, true_and] at hv hv'
        obtain ⟨rfl, rfl⟩ := hv
        obtain ⟨rfl, rfl⟩ := hv'
        have HST := Lib.hid (any_take_succ (p := fun u => u.1 == xa) hlt HNO.out)
        generalize t.d.tiers[k] = y at *
        obtain ⟨ya, yb⟩ := y
        dsimp only at HST
        change _ = some (Value.int .i64 ya) at d0
        change _ = some (Value.int .i64 yb) at d1
        rw [Nat.add_zero] at d0
        clear h0 h1
        have k13 := HRW.out.cell 13 rfl
        by_cases hy : ya = xa
        · have i1 : (ya != xa) = false := by simp [hy]
          have HT := Lib.hid (show hasTier t.d.tiers xa = true from any_take_yes (k := k + 1) (by rw [HST.out]; simpa using hy))
          have HV := Lib.hid (show (lnTier t ws).1 = 13 by rw [HLT.out, addTo_t HZ.out HT.out])
          have HNE := Lib.hid (fun W (hW : Only (fun _ => False) wr W) => need_no B pos 13 W (hW.cell k13 (fun h => h)))
          clear hy k13
          go_wp2_with fail
          refine (HNE.out _ ((Only.refl _ wr).alloc _)).mono ?_
          rintro e w' ⟨rfl, rfl⟩
          go_wp2_with fail
          exact ⟨rfl, lineR_no (by decide) HV.out rfl ((HOW.out.alloc _).mono (fun _ _ h => h.elim))⟩
        · have i1 : (ya != xa) = true := by simp [hy]
          have HG := Lib.hid (show (t.d.tiers.take (k + 1)).any (fun u => u.1 == xa) = false by rw [HST.out]; simpa using hy)
          clear hy k13
          go_wp2_with fail
          refine (need_ok B 13 _).mono ?_
          rintro e w' ⟨rfl, rfl⟩
          go_wp2_with fail
          go_roundw
          case rel => exact ⟨k + 1, by go_num, hlt, HG.out, HO.out.alloc _⟩
          case measure => simp [intOf]; omega
      · obtain rfl : k = t.d.tiers.length := by omega
        have j1 : ¬ (t.d.tiers.length : Int) < t.d.tiers.length := by omega
        have HT := Lib.hid (show hasTier t.d.tiers xa = false by have := HNO.out; rwa [List.take_length] at this)
        have k6 : wr.cell? ⟨B, 6, none⟩ = some (.slice a6 t.d.tiers.length c6) := HRW.out.cell 6 rfl
        clear hlt hk
        by_cases hm : t.d.tiers.length < 12
        · have i1 : (t.d.tiers.length : Int) < 12 := by omega
          have HV := Lib.hid (show lnTier t ws = (0, _) by rw [HLT.out, addTo_y HZ.out HT.out hm])
          have q1 : _ = some (Value.int .i64 xb) := cell_of_row _ _ 1 _ _ _ HBW.out
          have z6 := HRW.out.frz 6
          have hbase : base ≤ wr.heap.size := by omega
          clear j1
          go_wp2_with fail
          refine (need_ok B 2 wr).mono ?_
          rintro e w' ⟨rfl, rfl⟩
          go_wp2_with fail
          have HON := Lib.hid HRW.out.tiers
          have hvb := ownR_blk HRW.out.tiers HRW.out.blk (by decide)
          go_region_law ((refine step_append_lies _ rfl _ _ 29 rfl base 50 i0 _ 2 16 Tryz.underlying29 HI.out HI0.out HI1.out HI2.out rfl (by decide) _ _ _ rfl (owns_drew (HON.out.alloc _)) ⟨wr.heap.size, 0, none⟩ 1 1 [.int .i64 xa, .int .i64 xb] rfl rfl (by exact newsR wr _ _) (two_oneR _ _ rfl rfl) (by decide) (by unfold maxLen; omega) (by omega) (by simp; omega) _ rfl ?_); intro g cap w1 hown1 hgrow hat hlt; have c1 := hgrow.cell (one_laterR wr _ k6 z6).1 (Ne.symm hvb); have f1 := (hgrow.frozen_far ⟨B, 6, none⟩ (one_laterR wr _ k6 z6).2.2 (Ne.symm hvb)).trans (one_laterR wr _ k6 z6).2.1)
          all_goals
            go_wp2
            go_end0
            exact lineR_yes HV.out rfl (RdS.set ((((HOW.out.alloc _).drew).mono (fun _ _ h => h.elim)).grown hgrow (fun k e _ => .inr (.inl e))) 6 _) ((HRW.out.still (((Only.refl _ wr).alloc _).drew)).tierBack (x := (xa, xb)) hgrow hown1)
        · have i1 : ¬ (t.d.tiers.length : Int) < 12 := by omega
          have HV := Lib.hid (show (lnTier t ws).1 = 2 by rw [HLT.out, addTo_m HZ.out HT.out hm])
          have HNE := Lib.hid (need_no B pos 2 wr (HRW.out.cell 13 rfl))
          clear hm j1
          go_wp2_with fail
          refine HNE.out.mono ?_
          rintro e w' ⟨rfl, rfl⟩
          go_wp2_with fail
          exact ⟨rfl, lineR_no (by decide) HV.out rfl (HOW.out.mono (fun _ _ h => h.elim))⟩
  · have HE := Lib.hid he
    have HV := Lib.hid (show (lnTier t ws).1 = _ from congrArg Prod.fst (addTo_e he))
    have HD := Lib.hid hD
    clear hD he hp hR
    go_enter Tryz.func99, Tryz.ntmps99
    go_wp2_with fail
    refine HD.out.mono ?_
    rintro e w' hE
    obtain ⟨rfl, rfl⟩ := hE.n HE.out
    go_wp2_with fail
    exact ⟨rfl, lineR_no HE.out HV.out rfl (Only.refl _ _)⟩
set_option maxRecDepth 100000 in
set_option maxHeartbeats 4000000 in
theorem place_any (base B : Nat) (pos : Int) (t : St) (vt vp vq vb sv : Value) (ws : List ByteArray) (w : World) (hR : RdAt base w B t pos vt vp vq vb) (hp : PrtAt w sv ws) (hb : base ≤ w.heap.size) (hlen : t.d.places.length ≤ 1000) :
    Calls Tryz.prog 101 #[.pointer (some ⟨B, 0, none⟩), sv] w fun e w' => LineR base B pos vt vp vq vb (lnPlace t ws) w e w' := by
  have HR := Lib.hid hR
  have hD := special_any B pos 2 _ t sv ws [true, true, false] w hp (hR.cell 1 rfl) (hR.cell 13 rfl) (hR.cell 14 rfl) (hR.cell 15 rfl) (hR.cell 16 rfl) rfl
  by_cases he : specZ t 2 [true, true, false] ws = 0
  · obtain ⟨hl, hat⟩ := fit_at (spec_zero he)
    have hl2 : ws.length = 3 := hl.symm
    have HZ := Lib.hid he
    rw [he] at hD
    have HD := Lib.hid hD
    have HN0 := Lib.hid (name_any sv ws 1 (wAt ws 1) w hp (by omega) ((hat 1 (by decide)).1 rfl).2)
    have HN1 := Lib.hid (number_any sv ws 2 (aAt ws 2) w hp (by omega) ((hat 2 (by decide)).2 rfl).2)
    obtain ⟨i0, hi, hz0, hz1, hz2⟩ := info_parts Tryz.infoPl
    have HI := Lib.hid hi
    have HI0 := Lib.hid hz0
    have HI1 := Lib.hid hz1
    have HI2 := Lib.hid hz2
    obtain ⟨a8, c8, rfl⟩ := slice_of_own hR.places
    have HLT := Lib.hid (show lnPlace t ws = addTo (specZ t 2 [true, true, false] ws) (hasPlace t.d.places (wAt ws 1)) t.d.places.length 12 t _ from rfl)
    generalize wAt ws 1 = xa at *
    generalize aAt ws 2 = xb at *
    have k8 : w.cell? ⟨B, 8, none⟩ = some (.slice a8 t.d.places.length c8) := hR.cell 8 rfl
    have hBw := hR.lt
    clear hD he hl hat hl2 hp hR hi hz0 hz1 hz2
    go_enter Tryz.func101, Tryz.ntmps101
    go_wp2_with fail
    refine HD.out.mono ?_
    rintro e w' hE
    obtain ⟨rfl, rfl⟩ := hE.z
    go_wp2_with fail
    refine HN0.out.mono ?_
    rintro e w' ⟨rfl, rfl⟩
    go_wp2_with fail
    refine HN1.out.mono ?_
    rintro e w' ⟨rfl, rfl⟩
    go_wp2_with fail
    have HB1 := Lib.hid (heap_alloc_last w (.cells #[.string xa, .int .i64 xb] 73))
    have HO1 := Lib.hid ((Only.refl (fun _ => False) w).alloc (.cells #[.string xa, .int .i64 xb] 73))
    clear k8
    go_loopw [21] (fun iv wr => ∃ k : Nat, iv = .int .i64 k ∧ k ≤ t.d.places.length ∧ (t.d.places.take k).any (fun u => decide (u.1 = xa)) = false ∧ Only (fun _ => False) (w.alloc (.cells #[.string xa, .int .i64 xb] 73)) wr) (fun iv _ => t.d.places.length - (intOf iv).toNat)
    case atStart => exact ⟨0, rfl, Nat.zero_le _, rfl, Only.refl _ _⟩
    case round =>
      obtain ⟨k, rfl, hk, hno, hO⟩ := hrel
      have HNO := Lib.hid hno
      have HO := Lib.hid hO
      have hb1 := row_still hO HB1.out
      have HBW := Lib.hid hb1
      have HRW := Lib.hid (HR.out.still (HO1.out.trans hO))
      have HOW := Lib.hid (HO1.out.trans hO)
      have q0 : _ = some (Value.string xa) := cell_of_row _ _ 0 _ _ _ hb1
      have hBr := HRW.out.lt
      have hszw : w.heap.size < wr.heap.size := (Array.getElem?_eq_some_iff.1 hb1).1
      clear hno hO hb1
      by_cases hlt : k < t.d.places.length
      · have j1 : (k : Int) < t.d.places.length := by omega
        have j2 : 0 ≤ (k : Int) := by omega
        have h0 := flat_at (fun x : ByteArray × Int => [Value.string x.1, Value.int .i64 x.2]) 2 (fun _ => rfl) t.d.places k 0 hlt (by decide)
        have h1 := flat_at (fun x : ByteArray × Int => [Value.string x.1, Value.int .i64 x.2]) 2 (fun _ => rfl) t.d.places k 1 hlt (by decide)
        obtain ⟨g, cap, hv, hg, hc1, hc2, d0⟩ := own_cell HRW.out.places h0
        obtain ⟨g', cap', hv', _, _, _, d1⟩ := own_cell HRW.out.places h1
        rw [hv] at hv'
        simp only [Value.slice.injEq, Option.some.injEq, Addr.mk.injEq, and_true, true_and] at hv hv'
        obtain ⟨rfl, rfl⟩ := hv
        obtain ⟨rfl, rfl⟩ := hv'
        have HST := Lib.hid (any_take_succ (p := fun u => decide (u.1 = xa)) hlt HNO.out)
        generalize t.d.places[k] = y at *
        obtain ⟨ya, yb⟩ := y
        dsimp only at HST
        change _ = some (Value.string ya) at d0
        change _ = some (Value.int .i64 yb) at d1
        rw [Nat.add_zero] at d0
        clear h0 h1
        have k13 := HRW.out.cell 13 rfl
        by_cases hy : ya = xa
        · have i1 : (ya.toList == xa.toList) = true := str_eq hy
          have HT := Lib.hid (show hasPlace t.d.places xa = true from any_take_yes (k := k + 1) (by rw [HST.out]; simpa using hy))
          have HV := Lib.hid (show (lnPlace t ws).1 = 13 by rw [HLT.out, addTo_t HZ.out HT.out])
          have HNE := Lib.hid (fun W (hW : Only (fun _ => False) wr W) => need_no B pos 13 W (hW.cell k13 (fun h => h)))
          clear hy k13
          go_wp2_with fail
          refine (HNE.out _ ((Only.refl _ wr).alloc _)).mono ?_
          rintro e w' ⟨rfl, rfl⟩
          go_wp2_with fail
          exact ⟨rfl, lineR_no (by decide) HV.out rfl ((HOW.out.alloc _).mono (fun _ _ h => h.elim))⟩
        · have i1 : (ya.toList == xa.toList) = false := str_ne hy
          have HG := Lib.hid (show (t.d.places.take (k + 1)).any (fun u => decide (u.1 = xa)) = false by rw [HST.out]; simpa using hy)
          clear hy k13
          go_wp2_with fail
          refine (need_ok B 13 _).mono ?_
          rintro e w' ⟨rfl, rfl⟩
          go_wp2_with fail
          go_roundw
          case rel => exact ⟨k + 1, by go_num, hlt, HG.out, HO.out.alloc _⟩
          case measure => simp [intOf]; omega
      · obtain rfl : k = t.d.places.length := by omega
        have j1 : ¬ (t.d.places.length : Int) < t.d.places.length := by omega
        have HT := Lib.hid (show hasPlace t.d.places xa = false by have := HNO.out; rwa [List.take_length] at this)
        have k8 : wr.cell? ⟨B, 8, none⟩ = some (.slice a8 t.d.places.length c8) := HRW.out.cell 8 rfl
        clear hlt hk
        by_cases hm : t.d.places.length < 12
        · have i1 : (t.d.places.length : Int) < 12 := by omega
          have HV := Lib.hid (show lnPlace t ws = (0, _) by rw [HLT.out, addTo_y HZ.out HT.out hm])
          have q1 : _ = some (Value.int .i64 xb) := cell_of_row _ _ 1 _ _ _ HBW.out
          have z8 := HRW.out.frz 8
          have hbase : base ≤ wr.heap.size := by omega
          clear j1
          go_wp2_with fail
          refine (need_ok B 2 wr).mono ?_
          rintro e w' ⟨rfl, rfl⟩
          go_wp2_with fail
          have HON := Lib.hid HRW.out.places
          have hvb := ownR_blk HRW.out.places HRW.out.blk (by decide)
          go_region_law ((refine step_append_lies _ rfl _ _ 30 rfl base 73 i0 _ 2 24 Tryz.underlying30 HI.out HI0.out HI1.out HI2.out rfl (by decide) _ _ _ rfl (owns_drew (HON.out.alloc _)) ⟨wr.heap.size, 0, none⟩ 1 1 [.string xa, .int .i64 xb] rfl rfl (by exact newsR wr _ _) (two_oneR _ _ rfl rfl) (by decide) (by unfold maxLen; omega) (by omega) (by simp; omega) _ rfl ?_); intro g cap w1 hown1 hgrow hat hlt; have c1 := hgrow.cell (one_laterR wr _ k8 z8).1 (Ne.symm hvb); have f1 := (hgrow.frozen_far ⟨B, 8, none⟩ (one_laterR wr _ k8 z8).2.2 (Ne.symm hvb)).trans (one_laterR wr _ k8 z8).2.1)
          all_goals
            go_wp2
            go_end0
            exact lineR_yes HV.out rfl (RdS.set ((((HOW.out.alloc _).drew).mono (fun _ _ h => h.elim)).grown hgrow (fun k e _ => .inr (.inr (.inl e)))) 8 _) ((HRW.out.still (((Only.refl _ wr).alloc _).drew)).placeBack (x := (xa, xb)) hgrow hown1)
        · have i1 : ¬ (t.d.places.length : Int) < 12 := by omega
          have HV := Lib.hid (show (lnPlace t ws).1 = 2 by rw [HLT.out, addTo_m HZ.out HT.out hm])
          have HNE := Lib.hid (need_no B pos 2 wr (HRW.out.cell 13 rfl))
          clear hm j1
          go_wp2_with fail
          refine HNE.out.mono ?_
          rintro e w' ⟨rfl, rfl⟩
          go_wp2_with fail
          exact ⟨rfl, lineR_no (by decide) HV.out rfl (HOW.out.mono (fun _ _ h => h.elim))⟩
  · have HE := Lib.hid he
    have HV := Lib.hid (show (lnPlace t ws).1 = _ from congrArg Prod.fst (addTo_e he))
    have HD := Lib.hid hD
    clear hD he hp hR
    go_enter Tryz.func101, Tryz.ntmps101
    go_wp2_with fail
    refine HD.out.mono ?_
    rintro e w' hE
    obtain ⟨rfl, rfl⟩ := hE.n HE.out
    go_wp2_with fail
    exact ⟨rfl, lineR_no HE.out HV.out rfl (Only.refl _ _)⟩
set_option maxRecDepth 100000 in
set_option maxHeartbeats 4000000 in
theorem quota_any (base B : Nat) (pos : Int) (t : St) (vt vp vq vb sv : Value) (ws : List ByteArray) (w : World) (hR : RdAt base w B t pos vt vp vq vb) (hp : PrtAt w sv ws) (hb : base ≤ w.heap.size) (hlen : t.d.quotas.length ≤ 1000) :
    Calls Tryz.prog 102 #[.pointer (some ⟨B, 0, none⟩), sv] w fun e w' => LineR base B pos vt vp vq vb (lnQuota t ws) w e w' := by
  have HR := Lib.hid hR
  have hD := special_any B pos 3 _ t sv ws [true, true, false, false] w hp (hR.cell 1 rfl) (hR.cell 13 rfl) (hR.cell 14 rfl) (hR.cell 15 rfl) (hR.cell 16 rfl) rfl
  by_cases he : specZ t 3 [true, true, false, false] ws = 0
  · obtain ⟨hl, hat⟩ := fit_at (spec_zero he)
    have hl2 : ws.length = 4 := hl.symm
    have HZ := Lib.hid he
    rw [he] at hD
    have HD := Lib.hid hD
    have HN0 := Lib.hid (name_any sv ws 1 (wAt ws 1) w hp (by omega) ((hat 1 (by decide)).1 rfl).2)
    have HN1 := Lib.hid (number_any sv ws 2 (aAt ws 2) w hp (by omega) ((hat 2 (by decide)).2 rfl).2)
    have HN2 := Lib.hid (number_any sv ws 3 (aAt ws 3) w hp (by omega) ((hat 3 (by decide)).2 rfl).2)
    obtain ⟨i0, hi, hz0, hz1, hz2⟩ := info_parts Tryz.infoQu
    have HI := Lib.hid hi
    have HI0 := Lib.hid hz0
    have HI1 := Lib.hid hz1
    have HI2 := Lib.hid hz2
    obtain ⟨a11, c11, rfl⟩ := slice_of_own hR.quotas
    have HLT := Lib.hid (show lnQuota t ws = addTo (specZ t 3 [true, true, false, false] ws) (hasQuota t.d.quotas (wAt ws 1)) t.d.quotas.length 12 t _ from rfl)
    generalize wAt ws 1 = xa at *
    generalize aAt ws 2 = xb at *
    generalize aAt ws 3 = xc at *
    have k11 : w.cell? ⟨B, 11, none⟩ = some (.slice a11 t.d.quotas.length c11) := hR.cell 11 rfl
    have hBw := hR.lt
    clear hD he hl hat hl2 hp hR hi hz0 hz1 hz2
    go_enter Tryz.func102, Tryz.ntmps102
    go_wp2_with fail
    refine HD.out.mono ?_
    rintro e w' hE
    obtain ⟨rfl, rfl⟩ := hE.z
    go_wp2_with fail
    refine HN0.out.mono ?_
    rintro e w' ⟨rfl, rfl⟩
    go_wp2_with fail
    refine HN1.out.mono ?_
    rintro e w' ⟨rfl, rfl⟩
    go_wp2_with fail
    refine HN2.out.mono ?_
    rintro e w' ⟨rfl, rfl⟩
    go_wp2_with fail
    have HB1 := Lib.hid (heap_alloc_last w (.cells #[.string xa, .int .i64 xb, .int .i64 xc] 75))
    have HO1 := Lib.hid ((Only.refl (fun _ => False) w).alloc (.cells #[.string xa, .int .i64 xb, .int .i64 xc] 75))
    clear k11
    go_loopw [23] (fun iv wr => ∃ k : Nat, iv = .int .i64 k ∧ k ≤ t.d.quotas.length ∧ (t.d.quotas.take k).any (fun u => decide (u.1 = xa)) = false ∧ Only (fun _ => False) (w.alloc (.cells #[.string xa, .int .i64 xb, .int .i64 xc] 75)) wr) (fun iv _ => t.d.quotas.length - (intOf iv).toNat)
    case atStart => exact ⟨0, rfl, Nat.zero_le _, rfl, Only.refl _ _⟩
    case round =>
      obtain ⟨k, rfl, hk, hno, hO⟩ := hrel
      have HNO := Lib.hid hno
      have HO := Lib.hid hO
      have hb1 := row_still hO HB1.out
      have HBW := Lib.hid hb1
      have HRW := Lib.hid (HR.out.still (HO1.out.trans hO))
      have HOW := Lib.hid (HO1.out.trans hO)
      have q0 : _ = some (Value.string xa) := cell_of_row _ _ 0 _ _ _ hb1
      have hBr := HRW.out.lt
      have hszw : w.heap.size < wr.heap.size := (Array.getElem?_eq_some_iff.1 hb1).1
      clear hno hO hb1
      by_cases hlt : k < t.d.quotas.length
      · have j1 : (k : Int) < t.d.quotas.length := by omega
        have j2 : 0 ≤ (k : Int) := by omega
        have h0 := flat_at (fun x : ByteArray × Int × Int => [Value.string x.1, Value.int .i64 x.2.1, Value.int .i64 x.2.2]) 3 (fun _ => rfl) t.d.quotas k 0 hlt (by decide)
        have h2 := flat_at (fun x : ByteArray × Int × Int => [Value.string x.1, Value.int .i64 x.2.1, Value.int .i64 x.2.2]) 3 (fun _ => rfl) t.d.quotas k 2 hlt (by decide)
        have h1 := flat_at (fun x : ByteArray × Int × Int => [Value.string x.1, Value.int .i64 x.2.1, Value.int .i64 x.2.2]) 3 (fun _ => rfl) t.d.quotas k 1 hlt (by decide)
        obtain ⟨g, cap, hv, hg, hc1, hc2, d0⟩ := own_cell HRW.out.quotas h0
        obtain ⟨g', cap', hv', _, _, _, d1⟩ := own_cell HRW.out.quotas h1
        obtain ⟨g2, cap2, hv2, _, _, _, d2⟩ := own_cell HRW.out.quotas h2
        rw [hv] at hv2
        rw [hv] at hv'
        simp only [Value.slice.injEq, Option.some.injEq, Addr.mk.injEq, and_true, true_and] at hv hv' hv2
        obtain ⟨rfl, rfl⟩ := hv
        obtain ⟨rfl, rfl⟩ := hv'
        obtain ⟨rfl, rfl⟩ := hv2
        have HST := Lib.hid (any_take_succ (p := fun u => decide (u.1 = xa)) hlt HNO.out)
        generalize t.d.quotas[k] = y at *
        obtain ⟨ya, yb, yc⟩ := y
        dsimp only at HST
        change _ = some (Value.string ya) at d0
        change _ = some (Value.int .i64 yb) at d1
        change _ = some (Value.int .i64 yc) at d2
        rw [Nat.add_zero] at d0
        clear h0 h1 h2
        have k13 := HRW.out.cell 13 rfl
        by_cases hy : ya = xa
        · have i1 : (ya.toList == xa.toList) = true := str_eq hy
          have HT := Lib.hid (show hasQuota t.d.quotas xa = true from any_take_yes (k := k + 1) (by rw [HST.out]; simpa using hy))
          have HV := Lib.hid (show (lnQuota t ws).1 = 13 by rw [HLT.out, addTo_t HZ.out HT.out])
          have HNE := Lib.hid (fun W (hW : Only (fun _ => False) wr W) => need_no B pos 13 W (hW.cell k13 (fun h => h)))
          clear hy k13
          go_wp2_with fail
          refine (HNE.out _ ((Only.refl _ wr).alloc _)).mono ?_
          rintro e w' ⟨rfl, rfl⟩
          go_wp2_with fail
          exact ⟨rfl, lineR_no (by decide) HV.out rfl ((HOW.out.alloc _).mono (fun _ _ h => h.elim))⟩
        · have i1 : (ya.toList == xa.toList) = false := str_ne hy
          have HG := Lib.hid (show (t.d.quotas.take (k + 1)).any (fun u => decide (u.1 = xa)) = false by rw [HST.out]; simpa using hy)
          clear hy k13
          go_wp2_with fail
          refine (need_ok B 13 _).mono ?_
          rintro e w' ⟨rfl, rfl⟩
          go_wp2_with fail
          go_roundw
          case rel => exact ⟨k + 1, by go_num, hlt, HG.out, HO.out.alloc _⟩
          case measure => simp [intOf]; omega
      · obtain rfl : k = t.d.quotas.length := by omega
        have j1 : ¬ (t.d.quotas.length : Int) < t.d.quotas.length := by omega
        have HT := Lib.hid (show hasQuota t.d.quotas xa = false by have := HNO.out; rwa [List.take_length] at this)
        have k11 : wr.cell? ⟨B, 11, none⟩ = some (.slice a11 t.d.quotas.length c11) := HRW.out.cell 11 rfl
        clear hlt hk
        by_cases hm : t.d.quotas.length < 12
        · have i1 : (t.d.quotas.length : Int) < 12 := by omega
          have HV := Lib.hid (show lnQuota t ws = (0, _) by rw [HLT.out, addTo_y HZ.out HT.out hm])
          have q2 : _ = some (Value.int .i64 xc) := cell_of_row _ _ 2 _ _ _ HBW.out
          have q1 : _ = some (Value.int .i64 xb) := cell_of_row _ _ 1 _ _ _ HBW.out
          have z11 := HRW.out.frz 11
          have hbase : base ≤ wr.heap.size := by omega
          clear j1
          go_wp2_with fail
          refine (need_ok B 2 wr).mono ?_
          rintro e w' ⟨rfl, rfl⟩
          go_wp2_with fail
          have HON := Lib.hid HRW.out.quotas
          have hvb := ownR_blk HRW.out.quotas HRW.out.blk (by decide)
          go_region_law ((refine step_append_lies _ rfl _ _ 31 rfl base 75 i0 _ 3 32 Tryz.underlying31 HI.out HI0.out HI1.out HI2.out rfl (by decide) _ _ _ rfl (owns_drew (HON.out.alloc _)) ⟨wr.heap.size, 0, none⟩ 1 1 [.string xa, .int .i64 xb, .int .i64 xc] rfl rfl (by exact newsR wr _ _) (three_oneR _ _ _ rfl rfl rfl) (by decide) (by unfold maxLen; omega) (by omega) (by simp; omega) _ rfl ?_); intro g cap w1 hown1 hgrow hat hlt; have c1 := hgrow.cell (one_laterR wr _ k11 z11).1 (Ne.symm hvb); have f1 := (hgrow.frozen_far ⟨B, 11, none⟩ (one_laterR wr _ k11 z11).2.2 (Ne.symm hvb)).trans (one_laterR wr _ k11 z11).2.1)
          all_goals
            go_wp2
            go_end0
            exact lineR_yes HV.out rfl (RdS.set ((((HOW.out.alloc _).drew).mono (fun _ _ h => h.elim)).grown hgrow (fun k e _ => .inr (.inr (.inr (.inl e))))) 11 _) ((HRW.out.still (((Only.refl _ wr).alloc _).drew)).quotaBack (x := (xa, xb, xc)) hgrow hown1)
        · have i1 : ¬ (t.d.quotas.length : Int) < 12 := by omega
          have HV := Lib.hid (show (lnQuota t ws).1 = 2 by rw [HLT.out, addTo_m HZ.out HT.out hm])
          have HNE := Lib.hid (need_no B pos 2 wr (HRW.out.cell 13 rfl))
          clear hm j1
          go_wp2_with fail
          refine HNE.out.mono ?_
          rintro e w' ⟨rfl, rfl⟩
          go_wp2_with fail
          exact ⟨rfl, lineR_no (by decide) HV.out rfl (HOW.out.mono (fun _ _ h => h.elim))⟩
  · have HE := Lib.hid he
    have HV := Lib.hid (show (lnQuota t ws).1 = _ from congrArg Prod.fst (addTo_e he))
    have HD := Lib.hid hD
    clear hD he hp hR
    go_enter Tryz.func102, Tryz.ntmps102
    go_wp2_with fail
    refine HD.out.mono ?_
    rintro e w' hE
    obtain ⟨rfl, rfl⟩ := hE.n HE.out
    go_wp2_with fail
    exact ⟨rfl, lineR_no HE.out HV.out rfl (Only.refl _ _)⟩
end Go.Proofs.YteikkpiginfbkaaGreatDoor
