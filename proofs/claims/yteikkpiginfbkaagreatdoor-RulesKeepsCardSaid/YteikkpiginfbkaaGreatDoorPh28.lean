/-
  Rules, the reference: take.
-/
import Derived.Test.YteikkpiginfbkaaGreatDoorPh27
import Derived.Test.YteikkpiginfbkaaGreatDoorPh17
import Derived.Test.YteikkpiginfbkaaGreatDoorPh19
namespace Go.Proofs.YteikkpiginfbkaaGreatDoor
open Go.RowKit

/-- What is taken: the error, the state. -/
def tkAdd (tw : Bool) (n most : Nat) (t' : St) : Int × St := (if tw = true then 13 else if n < most then 0 else 2, t')
def takeK (t : St) (name : ByteArray) (l : List Int) : Nat → Int × St
  | 0 => (0, { t with d := { t.d with name := name } })
  | 1 => (0, { t with d := { t.d with kind := 1, pool := ptAt l 0, pick := ptAt l 1 } })
  | 2 => (0, { t with d := { t.d with kind := 2, cls := ptAt l 0 } })
  | 3 => (0, { t with d := { t.d with kind := 3, size := ptAt l 0 } })
  | 4 => (0, { t with d := { t.d with round := ptAt l 0 } })
  | 5 => (0, { t with d := { t.d with price := ptAt l 0 } })
  | 6 => tkAdd (hasTier t.d.tiers (ptAt l 0)) t.d.tiers.length 12 { t with d := { t.d with tiers := t.d.tiers ++ [(ptAt l 0, ptAt l 1)] } }
  | 7 => (0, { t with d := { t.d with roll := true }, rolled := true })
  | 8 => tkAdd (hasPlace t.d.places name) t.d.places.length 12 { t with d := { t.d with places := t.d.places ++ [(name, ptAt l 0)] } }
  | 9 => tkAdd (hasQuota t.d.quotas name) t.d.quotas.length 12 { t with d := { t.d with quotas := t.d.quotas ++ [(name, ptAt l 0, ptAt l 1)] } }
  | _ => tkAdd (hasBar t.d.barred (ptAt l 0)) t.d.barred.length 40 { t with d := { t.d with barred := t.d.barred ++ [ptAt l 0] }, barred := true }
/-- What take leaves. -/
def TakeR (base B : Nat) (vt vp vq vb : Value) (r : Int × St) (w : World) (e : Ending) (w' : World) : Prop :=
  Only (RdS B vt vp vq vb) w w' ∧ e = .returned (.int .i64 r.1) ∧ ∃ vt' vp' vq' vb', StAt base w' B r.2 vt' vp' vq' vb'
theorem tk_yes {base B : Nat} {vt vp vq vb : Value} {r : Int × St} {t' : St} {e1 : Int} {w w' : World} {e : Ending} (hr : r = (e1, t')) (h1 : e = .returned (.int .i64 e1)) (hO : Only (RdS B vt vp vq vb) w w') {vt' vp' vq' vb' : Value} (hR : StAt base w' B t' vt' vp' vq' vb') : TakeR base B vt vp vq vb r w e w' := by
  subst hr; exact ⟨hO, h1, _, _, _, _, hR⟩
/-- The numbers of a line, apart from the state. -/
structure TkArg (base B : Nat) (t : St) (vt vp vq vb sv : Value) (l : List Int) (w : World) : Prop where
  pts : PtsAt w.heap.size w sv l
  far : ∀ a n c, sv = .slice (some a) n c → ¬ RdS B vt vp vq vb a.block
  base : base ≤ w.heap.size
  small : t.d.tiers.length ≤ 1000 ∧ t.d.places.length ≤ 1000 ∧ t.d.quotas.length ≤ 1000 ∧ t.d.barred.length ≤ 1000
theorem pts_cell0 {w : World} {sv : Value} {l : List Int} {k : Nat} (h : PtsAt w.heap.size w sv l) (hk : k < l.length) : ∃ b off c, sv = .slice (some ⟨b, off, none⟩) l.length c ∧ b < w.heap.size ∧ l.length ≤ c ∧ c ≤ 9223372036854775807 ∧ w.cell? ⟨b, off + k, none⟩ = some (.int .i64 (ptAt l k)) := by
  obtain ⟨a, c, rfl⟩ := h.slice
  obtain ⟨b, off, rfl, h1, _, h2, h3, h4⟩ := h.cellAt hk
  exact ⟨b, off, c, rfl, h1, h2, h3, h4⟩
set_option maxRecDepth 100000 in
set_option maxHeartbeats 8000000 in
theorem rtake0_any (base B : Nat) (t : St) (vt vp vq vb sv : Value) (s name : ByteArray) (l : List Int) (w : World) (hR : StAt base w B t vt vp vq vb) (hs : s = keyW 0) :
    Calls Tryz.prog 109 #[.pointer (some ⟨B, 0, none⟩), .string s, .string name, sv] w fun e w' => TakeR base B vt vp vq vb (takeK t name l 0) w e w' := by
  have p0 : (s.toList == [100, 114, 97, 119]) = true := lit_eq _ _ _ (decide_eq_true (by rw [hs]; decide))
  clear hs
  have HR := Lib.hid hR
  have k0 := hR.cell 0 rfl
  have z0 := hR.frz 0
  have hBw := hR.lt
  have HV := Lib.hid (show takeK t name l 0 = (0, { t with d := { t.d with name := name } }) by rfl)
  clear hR
  go_enter Tryz.func109, Tryz.ntmps109
  go_wp2_with fail
  go_ret
  exact tk_yes HV.out rfl (RdS.set (Only.refl _ _) 0 _) (HR.out.set (t' := { t with d := { t.d with name := name } }) 0 _ rfl rfl rfl rfl rfl)
set_option maxRecDepth 100000 in
set_option maxHeartbeats 8000000 in
theorem rtake1_any (base B : Nat) (t : St) (vt vp vq vb sv : Value) (s name : ByteArray) (l : List Int) (w : World) (hR : StAt base w B t vt vp vq vb) (hg : TkArg base B t vt vp vq vb sv l w) (hlen : l.length = 2) (hs : s = keyW 1) :
    Calls Tryz.prog 109 #[.pointer (some ⟨B, 0, none⟩), .string s, .string name, sv] w fun e w' => TakeR base B vt vp vq vb (takeK t name l 1) w e w' := by
  have p0 : (s.toList == [100, 114, 97, 119]) = false := lit_eq _ _ _ (decide_eq_false (by rw [hs]; decide))
  have p1 : (s.toList == [108, 111, 116, 116, 101, 114, 121]) = true := lit_eq _ _ _ (decide_eq_true (by rw [hs]; decide))
  clear hs
  have HR := Lib.hid hR
  obtain ⟨lb, lo, lc, rfl, hlb, hl1, hl2, l0⟩ := pts_cell0 hg.pts (k := 0) (by omega)
  obtain ⟨lb', lo', lc', e', _, _, _, l1⟩ := pts_cell0 hg.pts (k := 1) (by omega)
  simp only [Value.slice.injEq, Option.some.injEq, Addr.mk.injEq, and_true, true_and] at e'
  obtain ⟨⟨rfl, rfl⟩, rfl⟩ := e'
  have hne : lb ≠ B := fun e => hg.far _ _ _ rfl (.inl e)
  rw [hlen] at hl1 ⊢
  rw [Nat.add_zero] at l0
  have k1 := hR.cell 1 rfl
  have z1 := hR.frz 1
  have k4 := hR.cell 4 rfl
  have z4 := hR.frz 4
  have k5 := hR.cell 5 rfl
  have z5 := hR.frz 5
  have hBw := hR.lt
  obtain ⟨x, hx⟩ : ∃ x, ptAt l 0 = x := ⟨_, rfl⟩
  rw [hx] at l0
  obtain ⟨y, hy⟩ : ∃ x, ptAt l 1 = x := ⟨_, rfl⟩
  rw [hy] at l1
  have HV := Lib.hid (show takeK t name l 1 = (0, { t with d := { t.d with kind := 1, pool := x, pick := y } }) by rw [← hx, ← hy]; rfl)
  clear hR hg hx hy hlen
  go_enter Tryz.func109, Tryz.ntmps109
  go_wp2_with fail
  go_ret
  exact tk_yes HV.out rfl (RdS.set (RdS.set (RdS.set (Only.refl _ _) 1 _) 4 _) 5 _) (((HR.out.set (t' := { t with d := { t.d with kind := 1 } }) 1 _ rfl rfl rfl rfl rfl).set (t' := { t with d := { t.d with kind := 1, pool := x } }) 4 _ rfl rfl rfl rfl rfl).set (t' := { t with d := { t.d with kind := 1, pool := x, pick := y } }) 5 _ rfl rfl rfl rfl rfl)
set_option maxRecDepth 100000 in
set_option maxHeartbeats 8000000 in
theorem rtake2_any (base B : Nat) (t : St) (vt vp vq vb sv : Value) (s name : ByteArray) (l : List Int) (w : World) (hR : StAt base w B t vt vp vq vb) (hg : TkArg base B t vt vp vq vb sv l w) (hlen : l.length = 1) (hs : s = keyW 2) :
    Calls Tryz.prog 109 #[.pointer (some ⟨B, 0, none⟩), .string s, .string name, sv] w fun e w' => TakeR base B vt vp vq vb (takeK t name l 2) w e w' := by
  have p0 : (s.toList == [100, 114, 97, 119]) = false := lit_eq _ _ _ (decide_eq_false (by rw [hs]; decide))
  have p1 : (s.toList == [108, 111, 116, 116, 101, 114, 121]) = false := lit_eq _ _ _ (decide_eq_false (by rw [hs]; decide))
  have p2 : (s.toList == [98, 97, 108, 108, 111, 116]) = true := lit_eq _ _ _ (decide_eq_true (by rw [hs]; decide))
  clear hs
  have HR := Lib.hid hR
  obtain ⟨lb, lo, lc, rfl, hlb, hl1, hl2, l0⟩ := pts_cell0 hg.pts (k := 0) (by omega)
  have hne : lb ≠ B := fun e => hg.far _ _ _ rfl (.inl e)
  rw [hlen] at hl1 ⊢
  rw [Nat.add_zero] at l0
  have k1 := hR.cell 1 rfl
  have z1 := hR.frz 1
  have k9 := hR.cell 9 rfl
  have z9 := hR.frz 9
  have hBw := hR.lt
  obtain ⟨x, hx⟩ : ∃ x, ptAt l 0 = x := ⟨_, rfl⟩
  rw [hx] at l0
  have HV := Lib.hid (show takeK t name l 2 = (0, { t with d := { t.d with kind := 2, cls := x } }) by rw [← hx]; rfl)
  clear hR hg hx hlen
  go_enter Tryz.func109, Tryz.ntmps109
  go_wp2_with fail
  go_ret
  exact tk_yes HV.out rfl (RdS.set (RdS.set (Only.refl _ _) 1 _) 9 _) ((HR.out.set (t' := { t with d := { t.d with kind := 2 } }) 1 _ rfl rfl rfl rfl rfl).set (t' := { t with d := { t.d with kind := 2, cls := x } }) 9 _ rfl rfl rfl rfl rfl)
set_option maxRecDepth 100000 in
set_option maxHeartbeats 8000000 in
theorem rtake3_any (base B : Nat) (t : St) (vt vp vq vb sv : Value) (s name : ByteArray) (l : List Int) (w : World) (hR : StAt base w B t vt vp vq vb) (hg : TkArg base B t vt vp vq vb sv l w) (hlen : l.length = 1) (hs : s = keyW 3) :
    Calls Tryz.prog 109 #[.pointer (some ⟨B, 0, none⟩), .string s, .string name, sv] w fun e w' => TakeR base B vt vp vq vb (takeK t name l 3) w e w' := by
  have p0 : (s.toList == [100, 114, 97, 119]) = false := lit_eq _ _ _ (decide_eq_false (by rw [hs]; decide))
  have p1 : (s.toList == [108, 111, 116, 116, 101, 114, 121]) = false := lit_eq _ _ _ (decide_eq_false (by rw [hs]; decide))
  have p2 : (s.toList == [98, 97, 108, 108, 111, 116]) = false := lit_eq _ _ _ (decide_eq_false (by rw [hs]; decide))
  have p3 : (s.toList == [112, 97, 110, 101, 108]) = true := lit_eq _ _ _ (decide_eq_true (by rw [hs]; decide))
  clear hs
  have HR := Lib.hid hR
  obtain ⟨lb, lo, lc, rfl, hlb, hl1, hl2, l0⟩ := pts_cell0 hg.pts (k := 0) (by omega)
  have hne : lb ≠ B := fun e => hg.far _ _ _ rfl (.inl e)
  rw [hlen] at hl1 ⊢
  rw [Nat.add_zero] at l0
  have k1 := hR.cell 1 rfl
  have z1 := hR.frz 1
  have k10 := hR.cell 10 rfl
  have z10 := hR.frz 10
  have hBw := hR.lt
  obtain ⟨x, hx⟩ : ∃ x, ptAt l 0 = x := ⟨_, rfl⟩
  rw [hx] at l0
  have HV := Lib.hid (show takeK t name l 3 = (0, { t with d := { t.d with kind := 3, size := x } }) by rw [← hx]; rfl)
  clear hR hg hx hlen
  go_enter Tryz.func109, Tryz.ntmps109
  go_wp2_with fail
  go_ret
  exact tk_yes HV.out rfl (RdS.set (RdS.set (Only.refl _ _) 1 _) 10 _) ((HR.out.set (t' := { t with d := { t.d with kind := 3 } }) 1 _ rfl rfl rfl rfl rfl).set (t' := { t with d := { t.d with kind := 3, size := x } }) 10 _ rfl rfl rfl rfl rfl)
set_option maxRecDepth 100000 in
set_option maxHeartbeats 8000000 in
theorem rtake4_any (base B : Nat) (t : St) (vt vp vq vb sv : Value) (s name : ByteArray) (l : List Int) (w : World) (hR : StAt base w B t vt vp vq vb) (hg : TkArg base B t vt vp vq vb sv l w) (hlen : l.length = 1) (hs : s = keyW 4) :
    Calls Tryz.prog 109 #[.pointer (some ⟨B, 0, none⟩), .string s, .string name, sv] w fun e w' => TakeR base B vt vp vq vb (takeK t name l 4) w e w' := by
  have p0 : (s.toList == [100, 114, 97, 119]) = false := lit_eq _ _ _ (decide_eq_false (by rw [hs]; decide))
  have p1 : (s.toList == [108, 111, 116, 116, 101, 114, 121]) = false := lit_eq _ _ _ (decide_eq_false (by rw [hs]; decide))
  have p2 : (s.toList == [98, 97, 108, 108, 111, 116]) = false := lit_eq _ _ _ (decide_eq_false (by rw [hs]; decide))
  have p3 : (s.toList == [112, 97, 110, 101, 108]) = false := lit_eq _ _ _ (decide_eq_false (by rw [hs]; decide))
  have p4 : (s.toList == [114, 111, 117, 110, 100]) = true := lit_eq _ _ _ (decide_eq_true (by rw [hs]; decide))
  clear hs
  have HR := Lib.hid hR
  obtain ⟨lb, lo, lc, rfl, hlb, hl1, hl2, l0⟩ := pts_cell0 hg.pts (k := 0) (by omega)
  have hne : lb ≠ B := fun e => hg.far _ _ _ rfl (.inl e)
  rw [hlen] at hl1 ⊢
  rw [Nat.add_zero] at l0
  have k2 := hR.cell 2 rfl
  have z2 := hR.frz 2
  have hBw := hR.lt
  obtain ⟨x, hx⟩ : ∃ x, ptAt l 0 = x := ⟨_, rfl⟩
  rw [hx] at l0
  have HV := Lib.hid (show takeK t name l 4 = (0, { t with d := { t.d with round := x } }) by rw [← hx]; rfl)
  clear hR hg hx hlen
  go_enter Tryz.func109, Tryz.ntmps109
  go_wp2_with fail
  go_ret
  exact tk_yes HV.out rfl (RdS.set (Only.refl _ _) 2 _) (HR.out.set (t' := { t with d := { t.d with round := x } }) 2 _ rfl rfl rfl rfl rfl)
set_option maxRecDepth 100000 in
set_option maxHeartbeats 8000000 in
theorem rtake5_any (base B : Nat) (t : St) (vt vp vq vb sv : Value) (s name : ByteArray) (l : List Int) (w : World) (hR : StAt base w B t vt vp vq vb) (hg : TkArg base B t vt vp vq vb sv l w) (hlen : l.length = 1) (hs : s = keyW 5) :
    Calls Tryz.prog 109 #[.pointer (some ⟨B, 0, none⟩), .string s, .string name, sv] w fun e w' => TakeR base B vt vp vq vb (takeK t name l 5) w e w' := by
  have p0 : (s.toList == [100, 114, 97, 119]) = false := lit_eq _ _ _ (decide_eq_false (by rw [hs]; decide))
  have p1 : (s.toList == [108, 111, 116, 116, 101, 114, 121]) = false := lit_eq _ _ _ (decide_eq_false (by rw [hs]; decide))
  have p2 : (s.toList == [98, 97, 108, 108, 111, 116]) = false := lit_eq _ _ _ (decide_eq_false (by rw [hs]; decide))
  have p3 : (s.toList == [112, 97, 110, 101, 108]) = false := lit_eq _ _ _ (decide_eq_false (by rw [hs]; decide))
  have p4 : (s.toList == [114, 111, 117, 110, 100]) = false := lit_eq _ _ _ (decide_eq_false (by rw [hs]; decide))
  have p5 : (s.toList == [112, 114, 105, 99, 101]) = true := lit_eq _ _ _ (decide_eq_true (by rw [hs]; decide))
  clear hs
  have HR := Lib.hid hR
  obtain ⟨lb, lo, lc, rfl, hlb, hl1, hl2, l0⟩ := pts_cell0 hg.pts (k := 0) (by omega)
  have hne : lb ≠ B := fun e => hg.far _ _ _ rfl (.inl e)
  rw [hlen] at hl1 ⊢
  rw [Nat.add_zero] at l0
  have k3 := hR.cell 3 rfl
  have z3 := hR.frz 3
  have hBw := hR.lt
  obtain ⟨x, hx⟩ : ∃ x, ptAt l 0 = x := ⟨_, rfl⟩
  rw [hx] at l0
  have HV := Lib.hid (show takeK t name l 5 = (0, { t with d := { t.d with price := x } }) by rw [← hx]; rfl)
  clear hR hg hx hlen
  go_enter Tryz.func109, Tryz.ntmps109
  go_wp2_with fail
  go_ret
  exact tk_yes HV.out rfl (RdS.set (Only.refl _ _) 3 _) (HR.out.set (t' := { t with d := { t.d with price := x } }) 3 _ rfl rfl rfl rfl rfl)
set_option maxRecDepth 100000 in
set_option maxHeartbeats 8000000 in
theorem rtake7_any (base B : Nat) (t : St) (vt vp vq vb sv : Value) (s name : ByteArray) (l : List Int) (w : World) (hR : StAt base w B t vt vp vq vb) (hs : s = keyW 7) :
    Calls Tryz.prog 109 #[.pointer (some ⟨B, 0, none⟩), .string s, .string name, sv] w fun e w' => TakeR base B vt vp vq vb (takeK t name l 7) w e w' := by
  have p0 : (s.toList == [100, 114, 97, 119]) = false := lit_eq _ _ _ (decide_eq_false (by rw [hs]; decide))
  have p1 : (s.toList == [108, 111, 116, 116, 101, 114, 121]) = false := lit_eq _ _ _ (decide_eq_false (by rw [hs]; decide))
  have p2 : (s.toList == [98, 97, 108, 108, 111, 116]) = false := lit_eq _ _ _ (decide_eq_false (by rw [hs]; decide))
  have p3 : (s.toList == [112, 97, 110, 101, 108]) = false := lit_eq _ _ _ (decide_eq_false (by rw [hs]; decide))
  have p4 : (s.toList == [114, 111, 117, 110, 100]) = false := lit_eq _ _ _ (decide_eq_false (by rw [hs]; decide))
  have p5 : (s.toList == [112, 114, 105, 99, 101]) = false := lit_eq _ _ _ (decide_eq_false (by rw [hs]; decide))
  have p7 : (s.toList == [114, 111, 108, 108]) = true := lit_eq _ _ _ (decide_eq_true (by rw [hs]; decide))
  clear hs
  have HR := Lib.hid hR
  have k7 := hR.cell 7 rfl
  have z7 := hR.frz 7
  have k14 := hR.cell 14 rfl
  have z14 := hR.frz 14
  have hBw := hR.lt
  have HV := Lib.hid (show takeK t name l 7 = (0, { t with d := { t.d with roll := true }, rolled := true }) by rfl)
  clear hR
  go_enter Tryz.func109, Tryz.ntmps109
  go_wp2_with fail
  go_ret
  exact tk_yes HV.out rfl (RdS.set (RdS.set (Only.refl _ _) 7 _) 14 _) ((HR.out.set (t' := { t with d := { t.d with roll := true } }) 7 _ rfl rfl rfl rfl rfl).set (t' := { t with d := { t.d with roll := true }, rolled := true }) 14 _ rfl rfl rfl rfl rfl)
theorem StAt.tierBack {base B : Nat} {w w1 : World} {t : St} {vt vp vq vb v : Value} {x : Int × Int} (h : StAt base w B t vt vp vq vb) (hg : w.grownBy w1 vt.ownBlock)
    (ho : w1.ownsRow base 50 2 v (t.d.tiers.length + 1) (trow t.d.tiers ++ [.int .i64 x.1, .int .i64 x.2])) :
    StAt base (w1.setCell ⟨B, 6, none⟩ v) B { t with d := { t.d with tiers := t.d.tiers ++ [x] } } v vp vq vb := by
  have hO := (Only.refl (fun k => vt.ownBlock = some k) w).grown hg (fun k e _ => e)
  have hb : w1.heap[B]? = _ := (hO.block B h.lt (ownR_blk h.tiers h.blk (by decide))).trans h.blk
  have hv : w1.ownsRow base 50 2 v (t.d.tiers ++ [x]).length (trow (t.d.tiers ++ [x])) := by rw [trow_app, List.length_append]; exact ho
  exact ⟨heap_setCell_same w1 B 6 _ _ v hb, set_own hv (ownR_blk hv hb (by decide)),
    set_own (hO.owns h.places (fun g hg e => ownR_ne h.places h.tiers (by decide) g hg e)) (by have := ownR_blk h.places h.blk (by decide); exact this),
    set_own (hO.owns h.quotas (fun g hg e => ownR_ne h.quotas h.tiers (by decide) g hg e)) (by have := ownR_blk h.quotas h.blk (by decide); exact this),
    set_own (hO.owns h.bars (fun g hg e => ownR_ne h.bars h.tiers (by decide) g hg e)) (by have := ownR_blk h.bars h.blk (by decide); exact this)⟩
theorem StAt.placeBack {base B : Nat} {w w1 : World} {t : St} {vt vp vq vb v : Value} {x : ByteArray × Int} (h : StAt base w B t vt vp vq vb) (hg : w.grownBy w1 vp.ownBlock)
    (ho : w1.ownsRow base 73 2 v (t.d.places.length + 1) (prow t.d.places ++ [.string x.1, .int .i64 x.2])) :
    StAt base (w1.setCell ⟨B, 8, none⟩ v) B { t with d := { t.d with places := t.d.places ++ [x] } } vt v vq vb := by
  have hO := (Only.refl (fun k => vp.ownBlock = some k) w).grown hg (fun k e _ => e)
  have hb : w1.heap[B]? = _ := (hO.block B h.lt (ownR_blk h.places h.blk (by decide))).trans h.blk
  have hv : w1.ownsRow base 73 2 v (t.d.places ++ [x]).length (prow (t.d.places ++ [x])) := by rw [prow_app, List.length_append]; exact ho
  exact ⟨heap_setCell_same w1 B 8 _ _ v hb,
    set_own (hO.owns h.tiers (fun g hg e => ownR_ne h.tiers h.places (by decide) g hg e)) (by have := ownR_blk h.tiers h.blk (by decide); exact this), set_own hv (ownR_blk hv hb (by decide)),
    set_own (hO.owns h.quotas (fun g hg e => ownR_ne h.quotas h.places (by decide) g hg e)) (by have := ownR_blk h.quotas h.blk (by decide); exact this),
    set_own (hO.owns h.bars (fun g hg e => ownR_ne h.bars h.places (by decide) g hg e)) (by have := ownR_blk h.bars h.blk (by decide); exact this)⟩
theorem StAt.quotaBack {base B : Nat} {w w1 : World} {t : St} {vt vp vq vb v : Value} {x : ByteArray × Int × Int} (h : StAt base w B t vt vp vq vb) (hg : w.grownBy w1 vq.ownBlock)
    (ho : w1.ownsRow base 75 3 v (t.d.quotas.length + 1) (qrow t.d.quotas ++ [.string x.1, .int .i64 x.2.1, .int .i64 x.2.2])) :
    StAt base (w1.setCell ⟨B, 11, none⟩ v) B { t with d := { t.d with quotas := t.d.quotas ++ [x] } } vt vp v vb := by
  have hO := (Only.refl (fun k => vq.ownBlock = some k) w).grown hg (fun k e _ => e)
  have hb : w1.heap[B]? = _ := (hO.block B h.lt (ownR_blk h.quotas h.blk (by decide))).trans h.blk
  have hv : w1.ownsRow base 75 3 v (t.d.quotas ++ [x]).length (qrow (t.d.quotas ++ [x])) := by rw [qrow_app, List.length_append]; exact ho
  exact ⟨heap_setCell_same w1 B 11 _ _ v hb,
    set_own (hO.owns h.tiers (fun g hg e => ownR_ne h.tiers h.quotas (by decide) g hg e)) (by have := ownR_blk h.tiers h.blk (by decide); exact this),
    set_own (hO.owns h.places (fun g hg e => ownR_ne h.places h.quotas (by decide) g hg e)) (by have := ownR_blk h.places h.blk (by decide); exact this), set_own hv (ownR_blk hv hb (by decide)),
    set_own (hO.owns h.bars (fun g hg e => ownR_ne h.bars h.quotas (by decide) g hg e)) (by have := ownR_blk h.bars h.blk (by decide); exact this)⟩
theorem StAt.barBack {base B : Nat} {w w1 : World} {t : St} {vt vp vq vb v : Value} {x : Int} (h : StAt base w B t vt vp vq vb) (hg : w.grownBy w1 vb.ownBlock)
    (ho : w1.ownsRow base 3 1 v (t.d.barred.length + 1) (irow t.d.barred ++ [.int .i64 x])) :
    StAt base (w1.setCell ⟨B, 12, none⟩ v) B { t with d := { t.d with barred := t.d.barred ++ [x] } } vt vp vq v := by
  have hO := (Only.refl (fun k => vb.ownBlock = some k) w).grown hg (fun k e _ => e)
  have hb : w1.heap[B]? = _ := (hO.block B h.lt (ownR_blk h.bars h.blk (by decide))).trans h.blk
  have hv : w1.ownsRow base 3 1 v (t.d.barred ++ [x]).length (irow (t.d.barred ++ [x])) := by rw [irow_app, List.length_append]; exact ho
  exact ⟨heap_setCell_same w1 B 12 _ _ v hb,
    set_own (hO.owns h.tiers (fun g hg e => ownR_ne h.tiers h.bars (by decide) g hg e)) (by have := ownR_blk h.tiers h.blk (by decide); exact this),
    set_own (hO.owns h.places (fun g hg e => ownR_ne h.places h.bars (by decide) g hg e)) (by have := ownR_blk h.places h.blk (by decide); exact this),
    set_own (hO.owns h.quotas (fun g hg e => ownR_ne h.quotas h.bars (by decide) g hg e)) (by have := ownR_blk h.quotas h.blk (by decide); exact this), set_own hv (ownR_blk hv hb (by decide))⟩
set_option maxRecDepth 100000 in
set_option maxHeartbeats 8000000 in
theorem rtake6_any (base B : Nat) (t : St) (vt vp vq vb sv : Value) (s name : ByteArray) (l : List Int) (w : World) (hR : StAt base w B t vt vp vq vb) (hg : TkArg base B t vt vp vq vb sv l w) (hlen : l.length = 2) (hs : s = keyW 6) :
    Calls Tryz.prog 109 #[.pointer (some ⟨B, 0, none⟩), .string s, .string name, sv] w fun e w' => TakeR base B vt vp vq vb (takeK t name l 6) w e w' := by
  have p0 : (s.toList == [100, 114, 97, 119]) = false := lit_eq _ _ _ (decide_eq_false (by rw [hs]; decide))
  have p1 : (s.toList == [108, 111, 116, 116, 101, 114, 121]) = false := lit_eq _ _ _ (decide_eq_false (by rw [hs]; decide))
  have p2 : (s.toList == [98, 97, 108, 108, 111, 116]) = false := lit_eq _ _ _ (decide_eq_false (by rw [hs]; decide))
  have p3 : (s.toList == [112, 97, 110, 101, 108]) = false := lit_eq _ _ _ (decide_eq_false (by rw [hs]; decide))
  have p4 : (s.toList == [114, 111, 117, 110, 100]) = false := lit_eq _ _ _ (decide_eq_false (by rw [hs]; decide))
  have p5 : (s.toList == [112, 114, 105, 99, 101]) = false := lit_eq _ _ _ (decide_eq_false (by rw [hs]; decide))
  have p7 : (s.toList == [114, 111, 108, 108]) = false := lit_eq _ _ _ (decide_eq_false (by rw [hs]; decide))
  have p6 : (s.toList == [116, 105, 101, 114]) = true := lit_eq _ _ _ (decide_eq_true (by rw [hs]; decide))
  clear hs
  have HR := Lib.hid hR
  have HG := Lib.hid hg
  obtain ⟨lb, lo, lc, rfl, hlb, hl1, hl2, l0⟩ := pts_cell0 hg.pts (k := 0) (by omega)
  obtain ⟨lb', lo', lc', e', _, _, _, l1⟩ := pts_cell0 hg.pts (k := 1) (by omega)
  simp only [Value.slice.injEq, Option.some.injEq, Addr.mk.injEq, and_true, true_and] at e'
  obtain ⟨⟨rfl, rfl⟩, rfl⟩ := e'
  have hne : lb ≠ B := fun e => hg.far _ _ _ rfl (.inl e)
  have hvb0 := ownR_blk hR.tiers hR.blk (by decide)
  have HLB := Lib.hid (show vt.ownBlock ≠ some lb from fun e => hg.far _ _ _ rfl (by unfold RdS; exact .inr (.inl e)))
  have hsm := hg.small
  have hbs := hg.base
  rw [hlen] at hl1 ⊢
  rw [Nat.add_zero] at l0
  obtain ⟨x, hx⟩ : ∃ x, ptAt l 0 = x := ⟨_, rfl⟩
  rw [hx] at l0
  obtain ⟨y, hy⟩ : ∃ x, ptAt l 1 = x := ⟨_, rfl⟩
  rw [hy] at l1
  have HV := Lib.hid (show takeK t name l 6 = tkAdd (hasTier t.d.tiers x) t.d.tiers.length 12 { t with d := { t.d with tiers := t.d.tiers ++ [(x, y)] } } from by rw [← hx, ← hy]; rfl)
  obtain ⟨i0, hi, hz0, hz1, hz2⟩ := info_parts Tryz.infoTi
  have HI := Lib.hid hi
  have HI0 := Lib.hid hz0
  have HI1 := Lib.hid hz1
  have HI2 := Lib.hid hz2
  obtain ⟨a6, c6, rfl⟩ := slice_of_own hR.tiers
  have k6 : w.cell? ⟨B, 6, none⟩ = some (.slice a6 t.d.tiers.length c6) := hR.cell 6 rfl
  have hBw := hR.lt
  clear hR hg hx hy hlen hi hz0 hz1 hz2 hvb0
  go_enter Tryz.func109, Tryz.ntmps109
  go_wp2_with fail
  go_loopw [9, 11] (fun vb9 vi wr => ∃ k : Nat, vi = .int .i64 k ∧ k ≤ t.d.tiers.length ∧ vb9 = .bool ((t.d.tiers.take k).any (fun u => u.1 == x)) ∧ Only (fun _ => False) w wr) (fun _ vi _ => t.d.tiers.length - (intOf vi).toNat)
  case atStart => exact ⟨0, rfl, Nat.zero_le _, rfl, Only.refl _ _⟩
  case round =>
    obtain ⟨k, rfl, hk, rfl, hO⟩ := hrel
    have HO := Lib.hid hO
    have HRW := Lib.hid (HR.out.still hO)
    have k6 : wr.cell? ⟨B, 6, none⟩ = some (.slice a6 t.d.tiers.length c6) := HRW.out.cell 6 rfl
    have l0 := hO.cell l0 (fun h => h)
    have l1 := hO.cell l1 (fun h => h)
    have hBr := HRW.out.lt
    have hszw := hO.size
    have hlbr : lb < wr.heap.size := by omega
    clear hO
    by_cases hlt : k < t.d.tiers.length
    · have j1 : (k : Int) < t.d.tiers.length := by omega
      have j2 : 0 ≤ (k : Int) := by omega
      have HLT := Lib.hid hlt
      have HANY := Lib.hid (show (t.d.tiers.take (k + 1)).any (fun u => u.1 == x) = ((t.d.tiers.take k).any (fun u => u.1 == x) || (t.d.tiers[k].1 == x)) by
        rw [take_snoc hlt, List.any_append, List.any_cons, List.any_nil, Bool.or_false] <;> rfl)
      have h0 := flat_at (fun x : Int × Int => [Value.int .i64 x.1, Value.int .i64 x.2]) 2 (fun _ => rfl) t.d.tiers k 0 hlt (by decide)
      have h1 := flat_at (fun x : Int × Int => [Value.int .i64 x.1, Value.int .i64 x.2]) 2 (fun _ => rfl) t.d.tiers k 1 hlt (by decide)
      obtain ⟨g, cap, hv, hg, hc1, hc2, d0⟩ := own_cell HRW.out.tiers h0
      simp only [Value.slice.injEq, true_and] at hv
      obtain ⟨rfl, rfl⟩ := hv
      rw [Nat.add_zero] at d0
      generalize t.d.tiers[k] = yy at *
      obtain ⟨ya, yr⟩ := yy
      change _ = some (Value.int .i64 ya) at d0
      dsimp only at HANY
      clear h0 h1
      generalize (t.d.tiers.take k).any (fun u => u.1 == x) = tw at *
      cases tw
      · obtain ⟨q, hq⟩ : ∃ q, (ya == x) = q := ⟨_, rfl⟩
        rw [hq] at HANY


        go_wp2_with fail
        go_quiet (fail)
        go_wp2_with fail
        go_roundw
        case rel => exact ⟨k + 1, by go_num, HLT.out, by rw [HANY.out]; rfl, HO.out.drewN _⟩
        case measure => simp [intOf]; have := HLT.out; omega
      · go_wp2_with fail
        go_quiet (fail)
        go_wp2_with fail
        go_roundw
        case rel => exact ⟨k + 1, by go_num, HLT.out, by rw [HANY.out]; rfl, HO.out.drewN _⟩
        case measure => simp [intOf]; have := HLT.out; omega
    · obtain rfl : k = t.d.tiers.length := by omega
      have j1 : ¬ (t.d.tiers.length : Int) < t.d.tiers.length := by omega
      have HTW := Lib.hid (show hasTier t.d.tiers x = (t.d.tiers.take t.d.tiers.length).any (fun u => u.1 == x) by rw [List.take_length]; rfl)
      generalize (t.d.tiers.take t.d.tiers.length).any (fun u => u.1 == x) = tw at *
      rw [HTW.out] at HV
      have z6 := HRW.out.frz 6


      have hbase : base ≤ wr.heap.size := by omega
      have HON := Lib.hid HRW.out.tiers
      have hvb := ownR_blk HRW.out.tiers HRW.out.blk (by decide)
      clear hlt hk
      go_wp2_with fail
      refine wp_region_split2 18 (by kernel_rfl) (by kernel_rfl) (wpAny_of_held (S := fun W => W.cell? ⟨B, 6, none⟩ = some (.slice a6 t.d.tiers.length c6) ∧ W.cell? ⟨lb, lo, none⟩ = some (.int .i64 x) ∧ W.cell? ⟨lb, lo + 1, none⟩ = some (.int .i64 y)) _ _ _ _ ?_)
      simp only [List.take_succ_cons, List.take_zero]
      change wpAnyH _ _ _ _ _ _ _ _ wr.drew
      have hHeld : wr.drew.cell? ⟨B, 6, none⟩ = some (.slice a6 t.d.tiers.length c6) ∧ wr.drew.cell? ⟨lb, lo, none⟩ = some (.int .i64 x) ∧ wr.drew.cell? ⟨lb, lo + 1, none⟩ = some (.int .i64 y) := ⟨k6, l0, l1⟩
      refine' wpAnyH_take (i := 0) (v := _) rfl (by kernel_rfl) (by kernel_rfl) (by kernel_rfl) (fun _ _ _ h => h) (Or.inl ⟨by rfl, ?hy0⟩) hHeld ?r0
      case hy0 => (intro w hSw; obtain ⟨s6, s0, s1⟩ := hSw; go_simp; with_reducible rfl)
      try simp only [Act.put, List.getElem_toArray, List.getElem_cons_zero, List.setIfInBounds_toArray, List.set_cons_zero, List.set_cons_succ]
      refine' wpAnyH_take (i := 1) (v := _) rfl (by kernel_rfl) (by kernel_rfl) (by kernel_rfl) (fun _ _ _ h => h) (Or.inl ⟨by rfl, ?hy1⟩) hHeld ?r1
      case hy1 => (intro w hSw; obtain ⟨s6, s0, s1⟩ := hSw; go_simp; with_reducible rfl)
      try simp only [Act.put, List.getElem_toArray, List.getElem_cons_zero, List.getElem_cons_succ, List.setIfInBounds_toArray, List.set_cons_zero, List.set_cons_succ]
      refine' wpAnyH_take (i := 2) (v := _) rfl (by kernel_rfl) (by kernel_rfl) (by kernel_rfl) (fun _ _ _ h => h) (Or.inl ⟨by rfl, ?hy2⟩) hHeld ?r2
      case hy2 => (intro w hSw; obtain ⟨s6, s0, s1⟩ := hSw; go_simp; with_reducible rfl)
      try simp only [Act.put, List.getElem_toArray, List.getElem_cons_zero, List.getElem_cons_succ, List.setIfInBounds_toArray, List.set_cons_zero, List.set_cons_succ]
      refine' wpAnyH_take (i := 3) (v := _) rfl (by kernel_rfl) (by kernel_rfl) (by kernel_rfl) (fun _ _ _ h => h) (Or.inl ⟨by rfl, ?hy3⟩) hHeld ?r3
      case hy3 => (intro w hSw; obtain ⟨s6, s0, s1⟩ := hSw; go_simp; with_reducible rfl)
      try simp only [Act.put, List.getElem_toArray, List.getElem_cons_zero, List.getElem_cons_succ, List.setIfInBounds_toArray, List.set_cons_zero, List.set_cons_succ]
      refine' wpAnyH_take (i := 4) (v := _) rfl (by kernel_rfl) (by kernel_rfl) (by kernel_rfl) (fun _ _ _ h => h) (Or.inl ⟨by rfl, ?hy4⟩) hHeld ?r4
      case hy4 => (intro w hSw; obtain ⟨s6, s0, s1⟩ := hSw; go_simp; with_reducible rfl)
      try simp only [Act.put, List.getElem_toArray, List.getElem_cons_zero, List.getElem_cons_succ, List.setIfInBounds_toArray, List.set_cons_zero, List.set_cons_succ]
      refine' wpAnyH_take (i := 5) (v := _) rfl (by kernel_rfl) (by kernel_rfl) (by kernel_rfl) (fun _ _ _ h => h) (Or.inl ⟨by rfl, ?hy5⟩) hHeld ?r5
      case hy5 => (intro w hSw; obtain ⟨s6, s0, s1⟩ := hSw; go_simp; with_reducible rfl)
      try simp only [Act.put, List.getElem_toArray, List.getElem_cons_zero, List.getElem_cons_succ, List.setIfInBounds_toArray, List.set_cons_zero, List.set_cons_succ]
      refine' wpAnyH_take (i := 6) (v := _) rfl (by kernel_rfl) (by kernel_rfl) (by kernel_rfl) (fun _ _ _ h => h) (Or.inl ⟨by rfl, ?hy6⟩) hHeld ?r6
      case hy6 => (intro w hSw; obtain ⟨s6, s0, s1⟩ := hSw; go_simp; with_reducible rfl)
      try simp only [Act.put, List.getElem_toArray, List.getElem_cons_zero, List.getElem_cons_succ, List.setIfInBounds_toArray, List.set_cons_zero, List.set_cons_succ]
      refine' wpAnyH_take (i := 7) (v := _) rfl (by kernel_rfl) (by kernel_rfl) (by kernel_rfl) (fun _ _ _ h => h) (Or.inl ⟨by rfl, ?hy7⟩) hHeld ?r7
      case hy7 => (intro w hSw; obtain ⟨s6, s0, s1⟩ := hSw; go_simp; with_reducible rfl)
      try simp only [Act.put, List.getElem_toArray, List.getElem_cons_zero, List.getElem_cons_succ, List.setIfInBounds_toArray, List.set_cons_zero, List.set_cons_succ]
      refine' wpAnyH_take (i := 8) (v := _) rfl (by kernel_rfl) (by kernel_rfl) (by kernel_rfl) (fun _ _ _ h => h) (Or.inl ⟨by rfl, ?hy8⟩) hHeld ?r8
      case hy8 => (intro w hSw; obtain ⟨s6, s0, s1⟩ := hSw; go_simp; with_reducible rfl)
      try simp only [Act.put, List.getElem_toArray, List.getElem_cons_zero, List.getElem_cons_succ, List.setIfInBounds_toArray, List.set_cons_zero, List.set_cons_succ]
      refine' wpAnyH_take (i := 9) (v := _) rfl (by kernel_rfl) (by kernel_rfl) (by kernel_rfl) (fun _ _ _ h => h) (Or.inl ⟨by rfl, ?hy9⟩) hHeld ?r9
      case hy9 => (intro w hSw; obtain ⟨s6, s0, s1⟩ := hSw; go_simp; with_reducible rfl)
      try simp only [Act.put, List.getElem_toArray, List.getElem_cons_zero, List.getElem_cons_succ, List.setIfInBounds_toArray, List.set_cons_zero, List.set_cons_succ]
      refine' wpAnyH_take (i := 10) (v := _) rfl (by kernel_rfl) (by kernel_rfl) (by kernel_rfl) (fun _ _ _ h => h) (Or.inl ⟨by rfl, ?hy10⟩) hHeld ?r10
      case hy10 => (intro w hSw; obtain ⟨s6, s0, s1⟩ := hSw; go_simp; with_reducible rfl)
      try simp only [Act.put, List.getElem_toArray, List.getElem_cons_zero, List.getElem_cons_succ, List.setIfInBounds_toArray, List.set_cons_zero, List.set_cons_succ]
      refine' wpAnyH_take (i := 11) (v := _) rfl (by kernel_rfl) (by kernel_rfl) (by kernel_rfl) (fun _ _ _ h => h) (Or.inl ⟨by rfl, ?hy11⟩) hHeld ?r11
      case hy11 => (intro w hSw; obtain ⟨s6, s0, s1⟩ := hSw; go_simp; with_reducible rfl)
      try simp only [Act.put, List.getElem_toArray, List.getElem_cons_zero, List.getElem_cons_succ, List.setIfInBounds_toArray, List.set_cons_zero, List.set_cons_succ]
      refine' wpAnyH_take (i := 12) (v := _) rfl (by kernel_rfl) (by kernel_rfl) (by kernel_rfl) (fun _ _ _ h => h) (Or.inl ⟨by rfl, ?hy12⟩) hHeld ?r12
      case hy12 => (intro w hSw; obtain ⟨s6, s0, s1⟩ := hSw; go_simp; with_reducible rfl)
      try simp only [Act.put, List.getElem_toArray, List.getElem_cons_zero, List.getElem_cons_succ, List.setIfInBounds_toArray, List.set_cons_zero, List.set_cons_succ]
      refine wpAnyH_ready (rs := [13]) (by kernel_rfl) (by simp) ?_
      refine AllReadyH.cons rfl (fun K hK => ?_) AllReadyH.nil
      go_simp
      have HST := Lib.hid ((Only.refl (fun _ => False) wr.drew).alloc (.cells #[.int .i64 x, .int .i64 y] 50))
      refine hK.out _ _ ⟨HST.out.cell hHeld.1 (fun h => h), HST.out.cell hHeld.2.1 (fun h => h), HST.out.cell hHeld.2.2 (fun h => h)⟩ (fun hHeld => ?_)
      clear hK K
      try simp only [Act.put, List.getElem_toArray, List.getElem_cons_zero, List.getElem_cons_succ, List.setIfInBounds_toArray, List.set_cons_zero, List.set_cons_succ]
      refine wpAnyH_ready (rs := [14]) (by kernel_rfl) (by simp) ?_
      refine AllReadyH.cons rfl (fun K hK => ?_) AllReadyH.nil
      refine step_append_lies _ rfl _ _ 29 rfl base 50 i0 _ 2 16 Tryz.underlying29 HI.out HI0.out HI1.out HI2.out rfl (by decide) _ _ _ (by rfl) ((owns_drew HON.out).alloc _) ⟨wr.heap.size, 0, none⟩ 1 1 [.int .i64 x, .int .i64 y] (by rfl) rfl (by exact newsR' wr.drew _ _) (two_oneR _ _ rfl rfl) (by decide) (by unfold maxLen; omega) (by omega) (by simp; omega) _ rfl ?_
      intro g cap w1 hown1 hgrow hat hlt
      have hOG := (Only.refl (fun i => (Value.slice a6 t.d.tiers.length c6).ownBlock = some i) _).grown hgrow (fun i e _ => e)
      have c1 := hOG.cell hHeld.1 hvb
      have HRA := Lib.hid (HRW.out.still (((Only.refl _ wr).drew).alloc (.cells #[.int .i64 x, .int .i64 y] 50)))
      have f1 : w1.frozen? ⟨B, 6, none⟩ = false := frozen_of_row _ _ _ _ _ ((hOG.block B HRA.out.lt hvb).trans HRA.out.blk)
      refine hK.out _ _ ⟨c1, hOG.cell hHeld.2.1 HLB.out, hOG.cell hHeld.2.2 HLB.out⟩ (fun hHeld => ?_)
      clear hK K
      try simp only [Act.put, List.getElem_toArray, List.getElem_cons_zero, List.getElem_cons_succ, List.setIfInBounds_toArray, List.set_cons_zero, List.set_cons_succ]
      refine' wpAnyH_take (i := 15) (v := _) rfl (by kernel_rfl) (by kernel_rfl) (by kernel_rfl) (fun _ _ _ h => h) (Or.inl ⟨by rfl, ?hy15⟩) hHeld ?r15
      case hy15 => (intro w hSw; obtain ⟨s6, s0, s1⟩ := hSw; go_simp; with_reducible rfl)
      try simp only [Act.put, List.getElem_toArray, List.getElem_cons_zero, List.getElem_cons_succ, List.setIfInBounds_toArray, List.set_cons_zero, List.set_cons_succ]
      refine' wpAnyH_take (i := 16) (v := _) rfl (by kernel_rfl) (by kernel_rfl) (by kernel_rfl) (fun _ _ _ h => h) (Or.inl ⟨by rfl, ?hy16⟩) hHeld ?r16
      case hy16 => (intro w hSw; obtain ⟨s6, s0, s1⟩ := hSw; go_simp; with_reducible rfl)
      try simp only [Act.put, List.getElem_toArray, List.getElem_cons_zero, List.getElem_cons_succ, List.setIfInBounds_toArray, List.set_cons_zero, List.set_cons_succ]
      refine' wpAnyH_take (i := 17) (v := _) rfl (by kernel_rfl) (by kernel_rfl) (by kernel_rfl) (fun _ _ _ h => h) (Or.inl ⟨by rfl, ?hy17⟩) hHeld ?r17
      case hy17 => (intro w hSw; obtain ⟨s6, s0, s1⟩ := hSw; go_simp; with_reducible rfl)
      try simp only [Act.put, List.getElem_toArray, List.getElem_cons_zero, List.getElem_cons_succ, List.setIfInBounds_toArray, List.set_cons_zero, List.set_cons_succ]
      refine wpAnyH_done (by kernel_rfl) ?_ _
      simp only [headPost, List.drop_succ_cons, List.drop_zero]
      have HBK := Lib.hid (HRA.out.tierBack (x := (x, y)) hgrow hown1)
      have HOF := Lib.hid (RdS.set (B := B) (vt := .slice a6 t.d.tiers.length c6) (vp := vp) (vq := vq) (vb := vb) (((((HO.out.drew).alloc (.cells #[.int .i64 x, .int .i64 y] 50)).mono (fun _ _ h => h.elim)).grown hgrow (fun k e _ => .inr (.inl e))) ) 6 (.slice (some ⟨g, 0, none⟩) (t.d.tiers.length + 1) cap))
      clear hHeld hOG k6 z6
      cases tw
      · by_cases hm : t.d.tiers.length < 12
        · have i1 : ¬ (12 : Int) < (t.d.tiers.length : Int) + 1 := by omega
          have HVV := Lib.hid (show takeK t name l 6 = (0, _) by rw [HV.out]; unfold tkAdd; rw [if_neg (by decide), if_pos hm])
          clear hm
          go_wp2_with fail
          go_ret
          exact tk_yes HVV.out rfl HOF.out HBK.out
        · have i1 : (12 : Int) < (t.d.tiers.length : Int) + 1 := by omega
          have HVV := Lib.hid (show takeK t name l 6 = (2, _) by rw [HV.out]; unfold tkAdd; rw [if_neg (by decide), if_neg hm])
          clear hm
          go_wp2_with fail
          go_ret
          exact tk_yes HVV.out rfl HOF.out HBK.out
      · have HVV := Lib.hid (show takeK t name l 6 = (13, _) by rw [HV.out]; unfold tkAdd; rw [if_pos rfl])
        go_wp2_with fail
        go_ret
        exact tk_yes HVV.out rfl HOF.out HBK.out
set_option maxRecDepth 100000 in
set_option maxHeartbeats 8000000 in
theorem rtake8_any (base B : Nat) (t : St) (vt vp vq vb sv : Value) (s name : ByteArray) (l : List Int) (w : World) (hR : StAt base w B t vt vp vq vb) (hg : TkArg base B t vt vp vq vb sv l w) (hlen : l.length = 1) (hs : s = keyW 8) :
    Calls Tryz.prog 109 #[.pointer (some ⟨B, 0, none⟩), .string s, .string name, sv] w fun e w' => TakeR base B vt vp vq vb (takeK t name l 8) w e w' := by
  have p0 : (s.toList == [100, 114, 97, 119]) = false := lit_eq _ _ _ (decide_eq_false (by rw [hs]; decide))
  have p1 : (s.toList == [108, 111, 116, 116, 101, 114, 121]) = false := lit_eq _ _ _ (decide_eq_false (by rw [hs]; decide))
  have p2 : (s.toList == [98, 97, 108, 108, 111, 116]) = false := lit_eq _ _ _ (decide_eq_false (by rw [hs]; decide))
  have p3 : (s.toList == [112, 97, 110, 101, 108]) = false := lit_eq _ _ _ (decide_eq_false (by rw [hs]; decide))
  have p4 : (s.toList == [114, 111, 117, 110, 100]) = false := lit_eq _ _ _ (decide_eq_false (by rw [hs]; decide))
  have p5 : (s.toList == [112, 114, 105, 99, 101]) = false := lit_eq _ _ _ (decide_eq_false (by rw [hs]; decide))
  have p7 : (s.toList == [114, 111, 108, 108]) = false := lit_eq _ _ _ (decide_eq_false (by rw [hs]; decide))
  have p6 : (s.toList == [116, 105, 101, 114]) = false := lit_eq _ _ _ (decide_eq_false (by rw [hs]; decide))
  have p8 : (s.toList == [112, 108, 97, 99, 101]) = true := lit_eq _ _ _ (decide_eq_true (by rw [hs]; decide))
  clear hs
  have HR := Lib.hid hR
  have HG := Lib.hid hg
  obtain ⟨lb, lo, lc, rfl, hlb, hl1, hl2, l0⟩ := pts_cell0 hg.pts (k := 0) (by omega)
  have hne : lb ≠ B := fun e => hg.far _ _ _ rfl (.inl e)
  have hvb0 := ownR_blk hR.places hR.blk (by decide)
  have HLB := Lib.hid (show vp.ownBlock ≠ some lb from fun e => hg.far _ _ _ rfl (by unfold RdS; exact .inr (.inr (.inl e))))
  have hsm := hg.small
  have hbs := hg.base
  rw [hlen] at hl1 ⊢
  rw [Nat.add_zero] at l0
  obtain ⟨x, hx⟩ : ∃ x, ptAt l 0 = x := ⟨_, rfl⟩
  rw [hx] at l0
  have HV := Lib.hid (show takeK t name l 8 = tkAdd (hasPlace t.d.places name) t.d.places.length 12 { t with d := { t.d with places := t.d.places ++ [(name, x)] } } from by rw [← hx]; rfl)
  obtain ⟨i0, hi, hz0, hz1, hz2⟩ := info_parts Tryz.infoPl
  have HI := Lib.hid hi
  have HI0 := Lib.hid hz0
  have HI1 := Lib.hid hz1
  have HI2 := Lib.hid hz2
  obtain ⟨a6, c6, rfl⟩ := slice_of_own hR.places
  have k6 : w.cell? ⟨B, 8, none⟩ = some (.slice a6 t.d.places.length c6) := hR.cell 8 rfl
  have hBw := hR.lt
  clear hR hg hx hlen hi hz0 hz1 hz2 hvb0
  go_enter Tryz.func109, Tryz.ntmps109
  go_wp2_with fail
  go_loopw [9, 12] (fun vb9 vi wr => ∃ k : Nat, vi = .int .i64 k ∧ k ≤ t.d.places.length ∧ vb9 = .bool ((t.d.places.take k).any (fun u => decide (u.1 = name))) ∧ Only (fun _ => False) w wr) (fun _ vi _ => t.d.places.length - (intOf vi).toNat)
  case atStart => exact ⟨0, rfl, Nat.zero_le _, rfl, Only.refl _ _⟩
  case round =>
    obtain ⟨k, rfl, hk, rfl, hO⟩ := hrel
    have HO := Lib.hid hO
    have HRW := Lib.hid (HR.out.still hO)
    have k6 : wr.cell? ⟨B, 8, none⟩ = some (.slice a6 t.d.places.length c6) := HRW.out.cell 8 rfl
    have l0 := hO.cell l0 (fun h => h)

    have hBr := HRW.out.lt
    have hszw := hO.size
    have hlbr : lb < wr.heap.size := by omega
    clear hO
    by_cases hlt : k < t.d.places.length
    · have j1 : (k : Int) < t.d.places.length := by omega
      have j2 : 0 ≤ (k : Int) := by omega
      have HLT := Lib.hid hlt
      have HANY := Lib.hid (show (t.d.places.take (k + 1)).any (fun u => decide (u.1 = name)) = ((t.d.places.take k).any (fun u => decide (u.1 = name)) || (decide (t.d.places[k].1 = name))) by
        rw [take_snoc hlt, List.any_append, List.any_cons, List.any_nil, Bool.or_false] <;> rfl)
      have h0 := flat_at (fun x : ByteArray × Int => [Value.string x.1, Value.int .i64 x.2]) 2 (fun _ => rfl) t.d.places k 0 hlt (by decide)
      have h1 := flat_at (fun x : ByteArray × Int => [Value.string x.1, Value.int .i64 x.2]) 2 (fun _ => rfl) t.d.places k 1 hlt (by decide)
      obtain ⟨g, cap, hv, hg, hc1, hc2, d0⟩ := own_cell HRW.out.places h0
      simp only [Value.slice.injEq, true_and] at hv
      obtain ⟨rfl, rfl⟩ := hv
      rw [Nat.add_zero] at d0
      generalize t.d.places[k] = yy at *
      obtain ⟨ya, yr⟩ := yy
      change _ = some (Value.string ya) at d0
      dsimp only at HANY
      clear h0 h1
      generalize (t.d.places.take k).any (fun u => decide (u.1 = name)) = tw at *
      cases tw
      · obtain ⟨q, hq⟩ : ∃ q, decide (ya = name) = q := ⟨_, rfl⟩
        rw [hq] at HANY
        have hq2 : (ya.toList == name.toList) = q := by rw [← hq, Bool.eq_iff_iff, decide_eq_true_eq, beq_iff_eq, ByteArray.toList_eq, ByteArray.toList_eq]; exact ⟨fun h => ba_ext h, fun h => by rw [h]⟩
        clear hq
        go_wp2_with fail
        skip
        go_wp2_with fail
        go_roundw
        case rel => exact ⟨k + 1, by go_num, HLT.out, by rw [HANY.out]; rfl, HO.out⟩
        case measure => simp [intOf]; have := HLT.out; omega
      · go_wp2_with fail
        skip
        go_wp2_with fail
        go_roundw
        case rel => exact ⟨k + 1, by go_num, HLT.out, by rw [HANY.out]; rfl, HO.out⟩
        case measure => simp [intOf]; have := HLT.out; omega
    · obtain rfl : k = t.d.places.length := by omega
      have j1 : ¬ (t.d.places.length : Int) < t.d.places.length := by omega
      have HTW := Lib.hid (show hasPlace t.d.places name = (t.d.places.take t.d.places.length).any (fun u => decide (u.1 = name)) by rw [List.take_length]; rfl)
      generalize (t.d.places.take t.d.places.length).any (fun u => decide (u.1 = name)) = tw at *
      rw [HTW.out] at HV
      have z6 := HRW.out.frz 8


      have hbase : base ≤ wr.heap.size := by omega
      have HON := Lib.hid HRW.out.places
      have hvb := ownR_blk HRW.out.places HRW.out.blk (by decide)
      clear hlt hk
      go_wp2_with fail
      refine wp_region_split2 16 (by kernel_rfl) (by kernel_rfl) (wpAny_of_held (S := fun W => W.cell? ⟨B, 8, none⟩ = some (.slice a6 t.d.places.length c6) ∧ W.cell? ⟨lb, lo, none⟩ = some (.int .i64 x)) _ _ _ _ ?_)
      simp only [List.take_succ_cons, List.take_zero]
      change wpAnyH _ _ _ _ _ _ _ _ wr.drew
      have hHeld : wr.drew.cell? ⟨B, 8, none⟩ = some (.slice a6 t.d.places.length c6) ∧ wr.drew.cell? ⟨lb, lo, none⟩ = some (.int .i64 x) := ⟨k6, l0⟩
      refine' wpAnyH_take (i := 0) (v := _) rfl (by kernel_rfl) (by kernel_rfl) (by kernel_rfl) (fun _ _ _ h => h) (Or.inl ⟨by rfl, ?hy0⟩) hHeld ?r0
      case hy0 => (intro w hSw; obtain ⟨s6, s0⟩ := hSw; go_simp; with_reducible rfl)
      try simp only [Act.put, List.getElem_toArray, List.getElem_cons_zero, List.setIfInBounds_toArray, List.set_cons_zero, List.set_cons_succ]
      refine' wpAnyH_take (i := 1) (v := _) rfl (by kernel_rfl) (by kernel_rfl) (by kernel_rfl) (fun _ _ _ h => h) (Or.inl ⟨by rfl, ?hy1⟩) hHeld ?r1
      case hy1 => (intro w hSw; obtain ⟨s6, s0⟩ := hSw; go_simp; with_reducible rfl)
      try simp only [Act.put, List.getElem_toArray, List.getElem_cons_zero, List.getElem_cons_succ, List.setIfInBounds_toArray, List.set_cons_zero, List.set_cons_succ]
      refine' wpAnyH_take (i := 2) (v := _) rfl (by kernel_rfl) (by kernel_rfl) (by kernel_rfl) (fun _ _ _ h => h) (Or.inl ⟨by rfl, ?hy2⟩) hHeld ?r2
      case hy2 => (intro w hSw; obtain ⟨s6, s0⟩ := hSw; go_simp; with_reducible rfl)
      try simp only [Act.put, List.getElem_toArray, List.getElem_cons_zero, List.getElem_cons_succ, List.setIfInBounds_toArray, List.set_cons_zero, List.set_cons_succ]
      refine' wpAnyH_take (i := 3) (v := _) rfl (by kernel_rfl) (by kernel_rfl) (by kernel_rfl) (fun _ _ _ h => h) (Or.inl ⟨by rfl, ?hy3⟩) hHeld ?r3
      case hy3 => (intro w hSw; obtain ⟨s6, s0⟩ := hSw; go_simp; with_reducible rfl)
      try simp only [Act.put, List.getElem_toArray, List.getElem_cons_zero, List.getElem_cons_succ, List.setIfInBounds_toArray, List.set_cons_zero, List.set_cons_succ]
      refine' wpAnyH_take (i := 4) (v := _) rfl (by kernel_rfl) (by kernel_rfl) (by kernel_rfl) (fun _ _ _ h => h) (Or.inl ⟨by rfl, ?hy4⟩) hHeld ?r4
      case hy4 => (intro w hSw; obtain ⟨s6, s0⟩ := hSw; go_simp; with_reducible rfl)
      try simp only [Act.put, List.getElem_toArray, List.getElem_cons_zero, List.getElem_cons_succ, List.setIfInBounds_toArray, List.set_cons_zero, List.set_cons_succ]
      refine' wpAnyH_take (i := 5) (v := _) rfl (by kernel_rfl) (by kernel_rfl) (by kernel_rfl) (fun _ _ _ h => h) (Or.inl ⟨by rfl, ?hy5⟩) hHeld ?r5
      case hy5 => (intro w hSw; obtain ⟨s6, s0⟩ := hSw; go_simp; with_reducible rfl)
      try simp only [Act.put, List.getElem_toArray, List.getElem_cons_zero, List.getElem_cons_succ, List.setIfInBounds_toArray, List.set_cons_zero, List.set_cons_succ]
      refine' wpAnyH_take (i := 6) (v := _) rfl (by kernel_rfl) (by kernel_rfl) (by kernel_rfl) (fun _ _ _ h => h) (Or.inl ⟨by rfl, ?hy6⟩) hHeld ?r6
      case hy6 => (intro w hSw; obtain ⟨s6, s0⟩ := hSw; go_simp; with_reducible rfl)
      try simp only [Act.put, List.getElem_toArray, List.getElem_cons_zero, List.getElem_cons_succ, List.setIfInBounds_toArray, List.set_cons_zero, List.set_cons_succ]
      refine' wpAnyH_take (i := 7) (v := _) rfl (by kernel_rfl) (by kernel_rfl) (by kernel_rfl) (fun _ _ _ h => h) (Or.inl ⟨by rfl, ?hy7⟩) hHeld ?r7
      case hy7 => (intro w hSw; obtain ⟨s6, s0⟩ := hSw; go_simp; with_reducible rfl)
      try simp only [Act.put, List.getElem_toArray, List.getElem_cons_zero, List.getElem_cons_succ, List.setIfInBounds_toArray, List.set_cons_zero, List.set_cons_succ]
      refine' wpAnyH_take (i := 8) (v := _) rfl (by kernel_rfl) (by kernel_rfl) (by kernel_rfl) (fun _ _ _ h => h) (Or.inl ⟨by rfl, ?hy8⟩) hHeld ?r8
      case hy8 => (intro w hSw; obtain ⟨s6, s0⟩ := hSw; go_simp; with_reducible rfl)
      try simp only [Act.put, List.getElem_toArray, List.getElem_cons_zero, List.getElem_cons_succ, List.setIfInBounds_toArray, List.set_cons_zero, List.set_cons_succ]
      refine' wpAnyH_take (i := 9) (v := _) rfl (by kernel_rfl) (by kernel_rfl) (by kernel_rfl) (fun _ _ _ h => h) (Or.inl ⟨by rfl, ?hy9⟩) hHeld ?r9
      case hy9 => (intro w hSw; obtain ⟨s6, s0⟩ := hSw; go_simp; with_reducible rfl)
      try simp only [Act.put, List.getElem_toArray, List.getElem_cons_zero, List.getElem_cons_succ, List.setIfInBounds_toArray, List.set_cons_zero, List.set_cons_succ]
      refine' wpAnyH_take (i := 10) (v := _) rfl (by kernel_rfl) (by kernel_rfl) (by kernel_rfl) (fun _ _ _ h => h) (Or.inl ⟨by rfl, ?hy10⟩) hHeld ?r10
      case hy10 => (intro w hSw; obtain ⟨s6, s0⟩ := hSw; go_simp; with_reducible rfl)
      try simp only [Act.put, List.getElem_toArray, List.getElem_cons_zero, List.getElem_cons_succ, List.setIfInBounds_toArray, List.set_cons_zero, List.set_cons_succ]
      refine wpAnyH_ready (rs := [11]) (by kernel_rfl) (by simp) ?_
      refine AllReadyH.cons rfl (fun K hK => ?_) AllReadyH.nil
      go_simp
      have HST := Lib.hid ((Only.refl (fun _ => False) wr.drew).alloc (.cells #[.string name, .int .i64 x] 73))
      refine hK.out _ _ ⟨HST.out.cell hHeld.1 (fun h => h), HST.out.cell hHeld.2 (fun h => h)⟩ (fun hHeld => ?_)
      clear hK K
      try simp only [Act.put, List.getElem_toArray, List.getElem_cons_zero, List.getElem_cons_succ, List.setIfInBounds_toArray, List.set_cons_zero, List.set_cons_succ]
      refine wpAnyH_ready (rs := [12]) (by kernel_rfl) (by simp) ?_
      refine AllReadyH.cons rfl (fun K hK => ?_) AllReadyH.nil
      refine step_append_lies _ rfl _ _ 30 rfl base 73 i0 _ 2 24 Tryz.underlying30 HI.out HI0.out HI1.out HI2.out rfl (by decide) _ _ _ (by rfl) ((owns_drew HON.out).alloc _) ⟨wr.heap.size, 0, none⟩ 1 1 [.string name, .int .i64 x] (by rfl) rfl (by exact newsR' wr.drew _ _) (two_oneR _ _ rfl rfl) (by decide) (by unfold maxLen; omega) (by omega) (by simp; omega) _ rfl ?_
      intro g cap w1 hown1 hgrow hat hlt
      have hOG := (Only.refl (fun i => (Value.slice a6 t.d.places.length c6).ownBlock = some i) _).grown hgrow (fun i e _ => e)
      have c1 := hOG.cell hHeld.1 hvb
      have HRA := Lib.hid (HRW.out.still (((Only.refl _ wr).drew).alloc (.cells #[.string name, .int .i64 x] 73)))
      have f1 : w1.frozen? ⟨B, 8, none⟩ = false := frozen_of_row _ _ _ _ _ ((hOG.block B HRA.out.lt hvb).trans HRA.out.blk)
      refine hK.out _ _ ⟨c1, hOG.cell hHeld.2 HLB.out⟩ (fun hHeld => ?_)
      clear hK K
      try simp only [Act.put, List.getElem_toArray, List.getElem_cons_zero, List.getElem_cons_succ, List.setIfInBounds_toArray, List.set_cons_zero, List.set_cons_succ]
      refine' wpAnyH_take (i := 13) (v := _) rfl (by kernel_rfl) (by kernel_rfl) (by kernel_rfl) (fun _ _ _ h => h) (Or.inl ⟨by rfl, ?hy13⟩) hHeld ?r13
      case hy13 => (intro w hSw; obtain ⟨s6, s0⟩ := hSw; go_simp; with_reducible rfl)
      try simp only [Act.put, List.getElem_toArray, List.getElem_cons_zero, List.getElem_cons_succ, List.setIfInBounds_toArray, List.set_cons_zero, List.set_cons_succ]
      refine' wpAnyH_take (i := 14) (v := _) rfl (by kernel_rfl) (by kernel_rfl) (by kernel_rfl) (fun _ _ _ h => h) (Or.inl ⟨by rfl, ?hy14⟩) hHeld ?r14
      case hy14 => (intro w hSw; obtain ⟨s6, s0⟩ := hSw; go_simp; with_reducible rfl)
      try simp only [Act.put, List.getElem_toArray, List.getElem_cons_zero, List.getElem_cons_succ, List.setIfInBounds_toArray, List.set_cons_zero, List.set_cons_succ]
      refine' wpAnyH_take (i := 15) (v := _) rfl (by kernel_rfl) (by kernel_rfl) (by kernel_rfl) (fun _ _ _ h => h) (Or.inl ⟨by rfl, ?hy15⟩) hHeld ?r15
      case hy15 => (intro w hSw; obtain ⟨s6, s0⟩ := hSw; go_simp; with_reducible rfl)
      try simp only [Act.put, List.getElem_toArray, List.getElem_cons_zero, List.getElem_cons_succ, List.setIfInBounds_toArray, List.set_cons_zero, List.set_cons_succ]
      refine wpAnyH_done (by kernel_rfl) ?_ _
      simp only [headPost, List.drop_succ_cons, List.drop_zero]
      have HBK := Lib.hid (HRA.out.placeBack (x := (name, x)) hgrow hown1)
      have HOF := Lib.hid (RdS.set (B := B) (vt := vt) (vp := .slice a6 t.d.places.length c6) (vq := vq) (vb := vb) (((((HO.out.drew).alloc (.cells #[.string name, .int .i64 x] 73)).mono (fun _ _ h => h.elim)).grown hgrow (fun k e _ => .inr (.inr (.inl e)))) ) 8 (.slice (some ⟨g, 0, none⟩) (t.d.places.length + 1) cap))
      clear hHeld hOG k6 z6
      cases tw
      · by_cases hm : t.d.places.length < 12
        · have i1 : ¬ (12 : Int) < (t.d.places.length : Int) + 1 := by omega
          have HVV := Lib.hid (show takeK t name l 8 = (0, _) by rw [HV.out]; unfold tkAdd; rw [if_neg (by decide), if_pos hm])
          clear hm
          go_wp2_with fail
          go_ret
          exact tk_yes HVV.out rfl HOF.out HBK.out
        · have i1 : (12 : Int) < (t.d.places.length : Int) + 1 := by omega
          have HVV := Lib.hid (show takeK t name l 8 = (2, _) by rw [HV.out]; unfold tkAdd; rw [if_neg (by decide), if_neg hm])
          clear hm
          go_wp2_with fail
          go_ret
          exact tk_yes HVV.out rfl HOF.out HBK.out
      · have HVV := Lib.hid (show takeK t name l 8 = (13, _) by rw [HV.out]; unfold tkAdd; rw [if_pos rfl])
        go_wp2_with fail
        go_ret
        exact tk_yes HVV.out rfl HOF.out HBK.out
set_option maxRecDepth 100000 in
set_option maxHeartbeats 8000000 in
theorem rtake9_any (base B : Nat) (t : St) (vt vp vq vb sv : Value) (s name : ByteArray) (l : List Int) (w : World) (hR : StAt base w B t vt vp vq vb) (hg : TkArg base B t vt vp vq vb sv l w) (hlen : l.length = 2) (hs : s = keyW 9) :
    Calls Tryz.prog 109 #[.pointer (some ⟨B, 0, none⟩), .string s, .string name, sv] w fun e w' => TakeR base B vt vp vq vb (takeK t name l 9) w e w' := by
  have p0 : (s.toList == [100, 114, 97, 119]) = false := lit_eq _ _ _ (decide_eq_false (by rw [hs]; decide))
  have p1 : (s.toList == [108, 111, 116, 116, 101, 114, 121]) = false := lit_eq _ _ _ (decide_eq_false (by rw [hs]; decide))
  have p2 : (s.toList == [98, 97, 108, 108, 111, 116]) = false := lit_eq _ _ _ (decide_eq_false (by rw [hs]; decide))
  have p3 : (s.toList == [112, 97, 110, 101, 108]) = false := lit_eq _ _ _ (decide_eq_false (by rw [hs]; decide))
  have p4 : (s.toList == [114, 111, 117, 110, 100]) = false := lit_eq _ _ _ (decide_eq_false (by rw [hs]; decide))
  have p5 : (s.toList == [112, 114, 105, 99, 101]) = false := lit_eq _ _ _ (decide_eq_false (by rw [hs]; decide))
  have p7 : (s.toList == [114, 111, 108, 108]) = false := lit_eq _ _ _ (decide_eq_false (by rw [hs]; decide))
  have p6 : (s.toList == [116, 105, 101, 114]) = false := lit_eq _ _ _ (decide_eq_false (by rw [hs]; decide))
  have p8 : (s.toList == [112, 108, 97, 99, 101]) = false := lit_eq _ _ _ (decide_eq_false (by rw [hs]; decide))
  have p9 : (s.toList == [113, 117, 111, 116, 97]) = true := lit_eq _ _ _ (decide_eq_true (by rw [hs]; decide))
  clear hs
  have HR := Lib.hid hR
  have HG := Lib.hid hg
  obtain ⟨lb, lo, lc, rfl, hlb, hl1, hl2, l0⟩ := pts_cell0 hg.pts (k := 0) (by omega)
  obtain ⟨lb', lo', lc', e', _, _, _, l1⟩ := pts_cell0 hg.pts (k := 1) (by omega)
  simp only [Value.slice.injEq, Option.some.injEq, Addr.mk.injEq, and_true, true_and] at e'
  obtain ⟨⟨rfl, rfl⟩, rfl⟩ := e'
  have hne : lb ≠ B := fun e => hg.far _ _ _ rfl (.inl e)
  have hvb0 := ownR_blk hR.quotas hR.blk (by decide)
  have HLB := Lib.hid (show vq.ownBlock ≠ some lb from fun e => hg.far _ _ _ rfl (by unfold RdS; exact .inr (.inr (.inr (.inl e)))))
  have hsm := hg.small
  have hbs := hg.base
  rw [hlen] at hl1 ⊢
  rw [Nat.add_zero] at l0
  obtain ⟨x, hx⟩ : ∃ x, ptAt l 0 = x := ⟨_, rfl⟩
  rw [hx] at l0
  obtain ⟨y, hy⟩ : ∃ x, ptAt l 1 = x := ⟨_, rfl⟩
  rw [hy] at l1
  have HV := Lib.hid (show takeK t name l 9 = tkAdd (hasQuota t.d.quotas name) t.d.quotas.length 12 { t with d := { t.d with quotas := t.d.quotas ++ [(name, x, y)] } } from by rw [← hx, ← hy]; rfl)
  obtain ⟨i0, hi, hz0, hz1, hz2⟩ := info_parts Tryz.infoQu
  have HI := Lib.hid hi
  have HI0 := Lib.hid hz0
  have HI1 := Lib.hid hz1
  have HI2 := Lib.hid hz2
  obtain ⟨a6, c6, rfl⟩ := slice_of_own hR.quotas
  have k6 : w.cell? ⟨B, 11, none⟩ = some (.slice a6 t.d.quotas.length c6) := hR.cell 11 rfl
  have hBw := hR.lt
  clear hR hg hx hy hlen hi hz0 hz1 hz2 hvb0
  go_enter Tryz.func109, Tryz.ntmps109
  go_wp2_with fail
  go_loopw [9, 13] (fun vb9 vi wr => ∃ k : Nat, vi = .int .i64 k ∧ k ≤ t.d.quotas.length ∧ vb9 = .bool ((t.d.quotas.take k).any (fun u => decide (u.1 = name))) ∧ Only (fun _ => False) w wr) (fun _ vi _ => t.d.quotas.length - (intOf vi).toNat)
  case atStart => exact ⟨0, rfl, Nat.zero_le _, rfl, Only.refl _ _⟩
  case round =>
    obtain ⟨k, rfl, hk, rfl, hO⟩ := hrel
    have HO := Lib.hid hO
    have HRW := Lib.hid (HR.out.still hO)
    have k6 : wr.cell? ⟨B, 11, none⟩ = some (.slice a6 t.d.quotas.length c6) := HRW.out.cell 11 rfl
    have l0 := hO.cell l0 (fun h => h)
    have l1 := hO.cell l1 (fun h => h)
    have hBr := HRW.out.lt
    have hszw := hO.size
    have hlbr : lb < wr.heap.size := by omega
    clear hO
    by_cases hlt : k < t.d.quotas.length
    · have j1 : (k : Int) < t.d.quotas.length := by omega
      have j2 : 0 ≤ (k : Int) := by omega
      have HLT := Lib.hid hlt
      have HANY := Lib.hid (show (t.d.quotas.take (k + 1)).any (fun u => decide (u.1 = name)) = ((t.d.quotas.take k).any (fun u => decide (u.1 = name)) || (decide (t.d.quotas[k].1 = name))) by
        rw [take_snoc hlt, List.any_append, List.any_cons, List.any_nil, Bool.or_false] <;> rfl)
      have h0 := flat_at (fun x : ByteArray × Int × Int => [Value.string x.1, Value.int .i64 x.2.1, Value.int .i64 x.2.2]) 3 (fun _ => rfl) t.d.quotas k 0 hlt (by decide)
      have h1 := flat_at (fun x : ByteArray × Int × Int => [Value.string x.1, Value.int .i64 x.2.1, Value.int .i64 x.2.2]) 3 (fun _ => rfl) t.d.quotas k 1 hlt (by decide)
      have h2 := flat_at (fun x : ByteArray × Int × Int => [Value.string x.1, Value.int .i64 x.2.1, Value.int .i64 x.2.2]) 3 (fun _ => rfl) t.d.quotas k 2 hlt (by decide)
      obtain ⟨g, cap, hv, hg, hc1, hc2, d0⟩ := own_cell HRW.out.quotas h0
      simp only [Value.slice.injEq, true_and] at hv
      obtain ⟨rfl, rfl⟩ := hv
      rw [Nat.add_zero] at d0
      generalize t.d.quotas[k] = yy at *
      obtain ⟨ya, yr⟩ := yy
      change _ = some (Value.string ya) at d0
      dsimp only at HANY
      clear h0 h1 h2
      generalize (t.d.quotas.take k).any (fun u => decide (u.1 = name)) = tw at *
      cases tw
      · obtain ⟨q, hq⟩ : ∃ q, decide (ya = name) = q := ⟨_, rfl⟩
        rw [hq] at HANY
        have hq2 : (ya.toList == name.toList) = q := by rw [← hq, Bool.eq_iff_iff, decide_eq_true_eq, beq_iff_eq, ByteArray.toList_eq, ByteArray.toList_eq]; exact ⟨fun h => ba_ext h, fun h => by rw [h]⟩
        clear hq
        go_wp2_with fail
        skip
        go_wp2_with fail
        go_roundw
        case rel => exact ⟨k + 1, by go_num, HLT.out, by rw [HANY.out]; rfl, HO.out⟩
        case measure => simp [intOf]; have := HLT.out; omega
      · go_wp2_with fail
        skip
        go_wp2_with fail
        go_roundw
        case rel => exact ⟨k + 1, by go_num, HLT.out, by rw [HANY.out]; rfl, HO.out⟩
        case measure => simp [intOf]; have := HLT.out; omega
    · obtain rfl : k = t.d.quotas.length := by omega
      have j1 : ¬ (t.d.quotas.length : Int) < t.d.quotas.length := by omega
      have HTW := Lib.hid (show hasQuota t.d.quotas name = (t.d.quotas.take t.d.quotas.length).any (fun u => decide (u.1 = name)) by rw [List.take_length]; rfl)
      generalize (t.d.quotas.take t.d.quotas.length).any (fun u => decide (u.1 = name)) = tw at *
      rw [HTW.out] at HV
      have z6 := HRW.out.frz 11


      have hbase : base ≤ wr.heap.size := by omega
      have HON := Lib.hid HRW.out.quotas
      have hvb := ownR_blk HRW.out.quotas HRW.out.blk (by decide)
      clear hlt hk
      go_wp2_with fail
      refine wp_region_split2 19 (by kernel_rfl) (by kernel_rfl) (wpAny_of_held (S := fun W => W.cell? ⟨B, 11, none⟩ = some (.slice a6 t.d.quotas.length c6) ∧ W.cell? ⟨lb, lo, none⟩ = some (.int .i64 x) ∧ W.cell? ⟨lb, lo + 1, none⟩ = some (.int .i64 y)) _ _ _ _ ?_)
      simp only [List.take_succ_cons, List.take_zero]
      change wpAnyH _ _ _ _ _ _ _ _ wr.drew
      have hHeld : wr.drew.cell? ⟨B, 11, none⟩ = some (.slice a6 t.d.quotas.length c6) ∧ wr.drew.cell? ⟨lb, lo, none⟩ = some (.int .i64 x) ∧ wr.drew.cell? ⟨lb, lo + 1, none⟩ = some (.int .i64 y) := ⟨k6, l0, l1⟩
      refine' wpAnyH_take (i := 0) (v := _) rfl (by kernel_rfl) (by kernel_rfl) (by kernel_rfl) (fun _ _ _ h => h) (Or.inl ⟨by rfl, ?hy0⟩) hHeld ?r0
      case hy0 => (intro w hSw; obtain ⟨s6, s0, s1⟩ := hSw; go_simp; with_reducible rfl)
      try simp only [Act.put, List.getElem_toArray, List.getElem_cons_zero, List.setIfInBounds_toArray, List.set_cons_zero, List.set_cons_succ]
      refine' wpAnyH_take (i := 1) (v := _) rfl (by kernel_rfl) (by kernel_rfl) (by kernel_rfl) (fun _ _ _ h => h) (Or.inl ⟨by rfl, ?hy1⟩) hHeld ?r1
      case hy1 => (intro w hSw; obtain ⟨s6, s0, s1⟩ := hSw; go_simp; with_reducible rfl)
      try simp only [Act.put, List.getElem_toArray, List.getElem_cons_zero, List.getElem_cons_succ, List.setIfInBounds_toArray, List.set_cons_zero, List.set_cons_succ]
      refine' wpAnyH_take (i := 2) (v := _) rfl (by kernel_rfl) (by kernel_rfl) (by kernel_rfl) (fun _ _ _ h => h) (Or.inl ⟨by rfl, ?hy2⟩) hHeld ?r2
      case hy2 => (intro w hSw; obtain ⟨s6, s0, s1⟩ := hSw; go_simp; with_reducible rfl)
      try simp only [Act.put, List.getElem_toArray, List.getElem_cons_zero, List.getElem_cons_succ, List.setIfInBounds_toArray, List.set_cons_zero, List.set_cons_succ]
      refine' wpAnyH_take (i := 3) (v := _) rfl (by kernel_rfl) (by kernel_rfl) (by kernel_rfl) (fun _ _ _ h => h) (Or.inl ⟨by rfl, ?hy3⟩) hHeld ?r3
      case hy3 => (intro w hSw; obtain ⟨s6, s0, s1⟩ := hSw; go_simp; with_reducible rfl)
      try simp only [Act.put, List.getElem_toArray, List.getElem_cons_zero, List.getElem_cons_succ, List.setIfInBounds_toArray, List.set_cons_zero, List.set_cons_succ]
      refine' wpAnyH_take (i := 4) (v := _) rfl (by kernel_rfl) (by kernel_rfl) (by kernel_rfl) (fun _ _ _ h => h) (Or.inl ⟨by rfl, ?hy4⟩) hHeld ?r4
      case hy4 => (intro w hSw; obtain ⟨s6, s0, s1⟩ := hSw; go_simp; with_reducible rfl)
      try simp only [Act.put, List.getElem_toArray, List.getElem_cons_zero, List.getElem_cons_succ, List.setIfInBounds_toArray, List.set_cons_zero, List.set_cons_succ]
      refine' wpAnyH_take (i := 5) (v := _) rfl (by kernel_rfl) (by kernel_rfl) (by kernel_rfl) (fun _ _ _ h => h) (Or.inl ⟨by rfl, ?hy5⟩) hHeld ?r5
      case hy5 => (intro w hSw; obtain ⟨s6, s0, s1⟩ := hSw; go_simp; with_reducible rfl)
      try simp only [Act.put, List.getElem_toArray, List.getElem_cons_zero, List.getElem_cons_succ, List.setIfInBounds_toArray, List.set_cons_zero, List.set_cons_succ]
      refine' wpAnyH_take (i := 6) (v := _) rfl (by kernel_rfl) (by kernel_rfl) (by kernel_rfl) (fun _ _ _ h => h) (Or.inl ⟨by rfl, ?hy6⟩) hHeld ?r6
      case hy6 => (intro w hSw; obtain ⟨s6, s0, s1⟩ := hSw; go_simp; with_reducible rfl)
      try simp only [Act.put, List.getElem_toArray, List.getElem_cons_zero, List.getElem_cons_succ, List.setIfInBounds_toArray, List.set_cons_zero, List.set_cons_succ]
      refine' wpAnyH_take (i := 7) (v := _) rfl (by kernel_rfl) (by kernel_rfl) (by kernel_rfl) (fun _ _ _ h => h) (Or.inl ⟨by rfl, ?hy7⟩) hHeld ?r7
      case hy7 => (intro w hSw; obtain ⟨s6, s0, s1⟩ := hSw; go_simp; with_reducible rfl)
      try simp only [Act.put, List.getElem_toArray, List.getElem_cons_zero, List.getElem_cons_succ, List.setIfInBounds_toArray, List.set_cons_zero, List.set_cons_succ]
      refine' wpAnyH_take (i := 8) (v := _) rfl (by kernel_rfl) (by kernel_rfl) (by kernel_rfl) (fun _ _ _ h => h) (Or.inl ⟨by rfl, ?hy8⟩) hHeld ?r8
      case hy8 => (intro w hSw; obtain ⟨s6, s0, s1⟩ := hSw; go_simp; with_reducible rfl)
      try simp only [Act.put, List.getElem_toArray, List.getElem_cons_zero, List.getElem_cons_succ, List.setIfInBounds_toArray, List.set_cons_zero, List.set_cons_succ]
      refine' wpAnyH_take (i := 9) (v := _) rfl (by kernel_rfl) (by kernel_rfl) (by kernel_rfl) (fun _ _ _ h => h) (Or.inl ⟨by rfl, ?hy9⟩) hHeld ?r9
      case hy9 => (intro w hSw; obtain ⟨s6, s0, s1⟩ := hSw; go_simp; with_reducible rfl)
      try simp only [Act.put, List.getElem_toArray, List.getElem_cons_zero, List.getElem_cons_succ, List.setIfInBounds_toArray, List.set_cons_zero, List.set_cons_succ]
      refine' wpAnyH_take (i := 10) (v := _) rfl (by kernel_rfl) (by kernel_rfl) (by kernel_rfl) (fun _ _ _ h => h) (Or.inl ⟨by rfl, ?hy10⟩) hHeld ?r10
      case hy10 => (intro w hSw; obtain ⟨s6, s0, s1⟩ := hSw; go_simp; with_reducible rfl)
      try simp only [Act.put, List.getElem_toArray, List.getElem_cons_zero, List.getElem_cons_succ, List.setIfInBounds_toArray, List.set_cons_zero, List.set_cons_succ]
      refine' wpAnyH_take (i := 11) (v := _) rfl (by kernel_rfl) (by kernel_rfl) (by kernel_rfl) (fun _ _ _ h => h) (Or.inl ⟨by rfl, ?hy11⟩) hHeld ?r11
      case hy11 => (intro w hSw; obtain ⟨s6, s0, s1⟩ := hSw; go_simp; with_reducible rfl)
      try simp only [Act.put, List.getElem_toArray, List.getElem_cons_zero, List.getElem_cons_succ, List.setIfInBounds_toArray, List.set_cons_zero, List.set_cons_succ]
      refine' wpAnyH_take (i := 12) (v := _) rfl (by kernel_rfl) (by kernel_rfl) (by kernel_rfl) (fun _ _ _ h => h) (Or.inl ⟨by rfl, ?hy12⟩) hHeld ?r12
      case hy12 => (intro w hSw; obtain ⟨s6, s0, s1⟩ := hSw; go_simp; with_reducible rfl)
      try simp only [Act.put, List.getElem_toArray, List.getElem_cons_zero, List.getElem_cons_succ, List.setIfInBounds_toArray, List.set_cons_zero, List.set_cons_succ]
      refine' wpAnyH_take (i := 13) (v := _) rfl (by kernel_rfl) (by kernel_rfl) (by kernel_rfl) (fun _ _ _ h => h) (Or.inl ⟨by rfl, ?hy13⟩) hHeld ?r13
      case hy13 => (intro w hSw; obtain ⟨s6, s0, s1⟩ := hSw; go_simp; with_reducible rfl)
      try simp only [Act.put, List.getElem_toArray, List.getElem_cons_zero, List.getElem_cons_succ, List.setIfInBounds_toArray, List.set_cons_zero, List.set_cons_succ]
      refine wpAnyH_ready (rs := [14]) (by kernel_rfl) (by simp) ?_
      refine AllReadyH.cons rfl (fun K hK => ?_) AllReadyH.nil
      go_simp
      have HST := Lib.hid ((Only.refl (fun _ => False) wr.drew).alloc (.cells #[.string name, .int .i64 x, .int .i64 y] 75))
      refine hK.out _ _ ⟨HST.out.cell hHeld.1 (fun h => h), HST.out.cell hHeld.2.1 (fun h => h), HST.out.cell hHeld.2.2 (fun h => h)⟩ (fun hHeld => ?_)
      clear hK K
      try simp only [Act.put, List.getElem_toArray, List.getElem_cons_zero, List.getElem_cons_succ, List.setIfInBounds_toArray, List.set_cons_zero, List.set_cons_succ]
      refine wpAnyH_ready (rs := [15]) (by kernel_rfl) (by simp) ?_
      refine AllReadyH.cons rfl (fun K hK => ?_) AllReadyH.nil
      refine step_append_lies _ rfl _ _ 31 rfl base 75 i0 _ 3 32 Tryz.underlying31 HI.out HI0.out HI1.out HI2.out rfl (by decide) _ _ _ (by rfl) ((owns_drew HON.out).alloc _) ⟨wr.heap.size, 0, none⟩ 1 1 [.string name, .int .i64 x, .int .i64 y] (by rfl) rfl (by exact newsR' wr.drew _ _) (three_oneR _ _ _ rfl rfl rfl) (by decide) (by unfold maxLen; omega) (by omega) (by simp; omega) _ rfl ?_
      intro g cap w1 hown1 hgrow hat hlt
      have hOG := (Only.refl (fun i => (Value.slice a6 t.d.quotas.length c6).ownBlock = some i) _).grown hgrow (fun i e _ => e)
      have c1 := hOG.cell hHeld.1 hvb
      have HRA := Lib.hid (HRW.out.still (((Only.refl _ wr).drew).alloc (.cells #[.string name, .int .i64 x, .int .i64 y] 75)))
      have f1 : w1.frozen? ⟨B, 11, none⟩ = false := frozen_of_row _ _ _ _ _ ((hOG.block B HRA.out.lt hvb).trans HRA.out.blk)
      refine hK.out _ _ ⟨c1, hOG.cell hHeld.2.1 HLB.out, hOG.cell hHeld.2.2 HLB.out⟩ (fun hHeld => ?_)
      clear hK K
      try simp only [Act.put, List.getElem_toArray, List.getElem_cons_zero, List.getElem_cons_succ, List.setIfInBounds_toArray, List.set_cons_zero, List.set_cons_succ]
      refine' wpAnyH_take (i := 16) (v := _) rfl (by kernel_rfl) (by kernel_rfl) (by kernel_rfl) (fun _ _ _ h => h) (Or.inl ⟨by rfl, ?hy16⟩) hHeld ?r16
      case hy16 => (intro w hSw; obtain ⟨s6, s0, s1⟩ := hSw; go_simp; with_reducible rfl)
      try simp only [Act.put, List.getElem_toArray, List.getElem_cons_zero, List.getElem_cons_succ, List.setIfInBounds_toArray, List.set_cons_zero, List.set_cons_succ]
      refine' wpAnyH_take (i := 17) (v := _) rfl (by kernel_rfl) (by kernel_rfl) (by kernel_rfl) (fun _ _ _ h => h) (Or.inl ⟨by rfl, ?hy17⟩) hHeld ?r17
      case hy17 => (intro w hSw; obtain ⟨s6, s0, s1⟩ := hSw; go_simp; with_reducible rfl)
      try simp only [Act.put, List.getElem_toArray, List.getElem_cons_zero, List.getElem_cons_succ, List.setIfInBounds_toArray, List.set_cons_zero, List.set_cons_succ]
      refine' wpAnyH_take (i := 18) (v := _) rfl (by kernel_rfl) (by kernel_rfl) (by kernel_rfl) (fun _ _ _ h => h) (Or.inl ⟨by rfl, ?hy18⟩) hHeld ?r18
      case hy18 => (intro w hSw; obtain ⟨s6, s0, s1⟩ := hSw; go_simp; with_reducible rfl)
      try simp only [Act.put, List.getElem_toArray, List.getElem_cons_zero, List.getElem_cons_succ, List.setIfInBounds_toArray, List.set_cons_zero, List.set_cons_succ]
      refine wpAnyH_done (by kernel_rfl) ?_ _
      simp only [headPost, List.drop_succ_cons, List.drop_zero]
      have HBK := Lib.hid (HRA.out.quotaBack (x := (name, x, y)) hgrow hown1)
      have HOF := Lib.hid (RdS.set (B := B) (vt := vt) (vp := vp) (vq := .slice a6 t.d.quotas.length c6) (vb := vb) (((((HO.out.drew).alloc (.cells #[.string name, .int .i64 x, .int .i64 y] 75)).mono (fun _ _ h => h.elim)).grown hgrow (fun k e _ => .inr (.inr (.inr (.inl e))))) ) 11 (.slice (some ⟨g, 0, none⟩) (t.d.quotas.length + 1) cap))
      clear hHeld hOG k6 z6
      cases tw
      · by_cases hm : t.d.quotas.length < 12
        · have i1 : ¬ (12 : Int) < (t.d.quotas.length : Int) + 1 := by omega
          have HVV := Lib.hid (show takeK t name l 9 = (0, _) by rw [HV.out]; unfold tkAdd; rw [if_neg (by decide), if_pos hm])
          clear hm
          go_wp2_with fail
          go_ret
          exact tk_yes HVV.out rfl HOF.out HBK.out
        · have i1 : (12 : Int) < (t.d.quotas.length : Int) + 1 := by omega
          have HVV := Lib.hid (show takeK t name l 9 = (2, _) by rw [HV.out]; unfold tkAdd; rw [if_neg (by decide), if_neg hm])
          clear hm
          go_wp2_with fail
          go_ret
          exact tk_yes HVV.out rfl HOF.out HBK.out
      · have HVV := Lib.hid (show takeK t name l 9 = (13, _) by rw [HV.out]; unfold tkAdd; rw [if_pos rfl])
        go_wp2_with fail
        go_ret
        exact tk_yes HVV.out rfl HOF.out HBK.out
set_option maxRecDepth 100000 in
set_option maxHeartbeats 8000000 in
theorem rtake10_any (base B : Nat) (t : St) (vt vp vq vb sv : Value) (s name : ByteArray) (l : List Int) (w : World) (hR : StAt base w B t vt vp vq vb) (hg : TkArg base B t vt vp vq vb sv l w) (hlen : l.length = 1) (hs : s = keyW 10) :
    Calls Tryz.prog 109 #[.pointer (some ⟨B, 0, none⟩), .string s, .string name, sv] w fun e w' => TakeR base B vt vp vq vb (takeK t name l 10) w e w' := by
  have p0 : (s.toList == [100, 114, 97, 119]) = false := lit_eq _ _ _ (decide_eq_false (by rw [hs]; decide))
  have p1 : (s.toList == [108, 111, 116, 116, 101, 114, 121]) = false := lit_eq _ _ _ (decide_eq_false (by rw [hs]; decide))
  have p2 : (s.toList == [98, 97, 108, 108, 111, 116]) = false := lit_eq _ _ _ (decide_eq_false (by rw [hs]; decide))
  have p3 : (s.toList == [112, 97, 110, 101, 108]) = false := lit_eq _ _ _ (decide_eq_false (by rw [hs]; decide))
  have p4 : (s.toList == [114, 111, 117, 110, 100]) = false := lit_eq _ _ _ (decide_eq_false (by rw [hs]; decide))
  have p5 : (s.toList == [112, 114, 105, 99, 101]) = false := lit_eq _ _ _ (decide_eq_false (by rw [hs]; decide))
  have p7 : (s.toList == [114, 111, 108, 108]) = false := lit_eq _ _ _ (decide_eq_false (by rw [hs]; decide))
  have p6 : (s.toList == [116, 105, 101, 114]) = false := lit_eq _ _ _ (decide_eq_false (by rw [hs]; decide))
  have p8 : (s.toList == [112, 108, 97, 99, 101]) = false := lit_eq _ _ _ (decide_eq_false (by rw [hs]; decide))
  have p9 : (s.toList == [113, 117, 111, 116, 97]) = false := lit_eq _ _ _ (decide_eq_false (by rw [hs]; decide))
  have p10 : (s.toList == [98, 97, 114]) = true := lit_eq _ _ _ (decide_eq_true (by rw [hs]; decide))
  clear hs
  have HR := Lib.hid hR
  have HG := Lib.hid hg
  obtain ⟨lb, lo, lc, rfl, hlb, hl1, hl2, l0⟩ := pts_cell0 hg.pts (k := 0) (by omega)
  have hne : lb ≠ B := fun e => hg.far _ _ _ rfl (.inl e)
  have hvb0 := ownR_blk hR.bars hR.blk (by decide)
  have HLB := Lib.hid (show vb.ownBlock ≠ some lb from fun e => hg.far _ _ _ rfl (by unfold RdS; exact .inr (.inr (.inr (.inr e)))))
  have hsm := hg.small
  have hbs := hg.base
  rw [hlen] at hl1 ⊢
  rw [Nat.add_zero] at l0
  obtain ⟨x, hx⟩ : ∃ x, ptAt l 0 = x := ⟨_, rfl⟩
  rw [hx] at l0
  have HV := Lib.hid (show takeK t name l 10 = tkAdd (hasBar t.d.barred x) t.d.barred.length 40 { t with d := { t.d with barred := t.d.barred ++ [x] }, barred := true } from by rw [← hx]; rfl)
  obtain ⟨i0, hi, hz0, hz1, hz2⟩ := info_parts Tryz.infoI
  have HI := Lib.hid hi
  have HI0 := Lib.hid hz0
  have HI1 := Lib.hid hz1
  have HI2 := Lib.hid hz2
  obtain ⟨a6, c6, rfl⟩ := slice_of_own hR.bars
  have k6 : w.cell? ⟨B, 12, none⟩ = some (.slice a6 t.d.barred.length c6) := hR.cell 12 rfl
  have hBw := hR.lt
  clear hR hg hx hlen hi hz0 hz1 hz2 hvb0
  go_enter Tryz.func109, Tryz.ntmps109
  go_wp2_with fail
  go_loopw [9, 14] (fun vb9 vi wr => ∃ k : Nat, vi = .int .i64 k ∧ k ≤ t.d.barred.length ∧ vb9 = .bool ((t.d.barred.take k).any (fun u => u == x)) ∧ Only (fun _ => False) w wr) (fun _ vi _ => t.d.barred.length - (intOf vi).toNat)
  case atStart => exact ⟨0, rfl, Nat.zero_le _, rfl, Only.refl _ _⟩
  case round =>
    obtain ⟨k, rfl, hk, rfl, hO⟩ := hrel
    have HO := Lib.hid hO
    have HRW := Lib.hid (HR.out.still hO)
    have k6 : wr.cell? ⟨B, 12, none⟩ = some (.slice a6 t.d.barred.length c6) := HRW.out.cell 12 rfl
    have l0 := hO.cell l0 (fun h => h)

    have hBr := HRW.out.lt
    have hszw := hO.size
    have hlbr : lb < wr.heap.size := by omega
    clear hO
    by_cases hlt : k < t.d.barred.length
    · have j1 : (k : Int) < t.d.barred.length := by omega
      have j2 : 0 ≤ (k : Int) := by omega
      have HLT := Lib.hid hlt
      have HANY := Lib.hid (show (t.d.barred.take (k + 1)).any (fun u => u == x) = ((t.d.barred.take k).any (fun u => u == x) || (t.d.barred[k] == x)) by
        rw [take_snoc hlt, List.any_append, List.any_cons, List.any_nil, Bool.or_false] <;> rfl)
      have h0 : (irow t.d.barred)[k]? = some (.int .i64 t.d.barred[k]) := by unfold irow; rw [List.getElem?_map, List.getElem?_eq_getElem hlt]; rfl
      obtain ⟨g, cap, hv, hg, hc1, hc2, d0⟩ := own_cell HRW.out.bars h0
      simp only [Value.slice.injEq, true_and] at hv
      obtain ⟨rfl, rfl⟩ := hv
      generalize t.d.barred[k] = ya at *
      generalize (t.d.barred.take k).any (fun u => u == x) = tw at *
      cases tw
      · obtain ⟨q, hq⟩ : ∃ q, (ya == x) = q := ⟨_, rfl⟩
        rw [hq] at HANY


        go_wp2_with fail
        go_quiet (fail)
        go_wp2_with fail
        go_roundw
        case rel => exact ⟨k + 1, by go_num, HLT.out, by rw [HANY.out]; rfl, HO.out.drewN _⟩
        case measure => simp [intOf]; have := HLT.out; omega
      · go_wp2_with fail
        go_quiet (fail)
        go_wp2_with fail
        go_roundw
        case rel => exact ⟨k + 1, by go_num, HLT.out, by rw [HANY.out]; rfl, HO.out.drewN _⟩
        case measure => simp [intOf]; have := HLT.out; omega
    · obtain rfl : k = t.d.barred.length := by omega
      have j1 : ¬ (t.d.barred.length : Int) < t.d.barred.length := by omega
      have HTW := Lib.hid (show hasBar t.d.barred x = (t.d.barred.take t.d.barred.length).any (fun u => u == x) by rw [List.take_length]; rfl)
      generalize (t.d.barred.take t.d.barred.length).any (fun u => u == x) = tw at *
      rw [HTW.out] at HV
      have z6 := HRW.out.frz 12
      have z15 := HRW.out.frz 15
      have k15 := HRW.out.cell 15 rfl
      have hbase : base ≤ wr.heap.size := by omega
      have HON := Lib.hid HRW.out.bars
      have hvb := ownR_blk HRW.out.bars HRW.out.blk (by decide)
      clear hlt hk
      go_wp2_with fail
      refine wp_region_split2 14 (by kernel_rfl) (by kernel_rfl) (wpAny_of_held (S := fun W => W.cell? ⟨B, 12, none⟩ = some (.slice a6 t.d.barred.length c6) ∧ W.cell? ⟨lb, lo, none⟩ = some (.int .i64 x)) _ _ _ _ ?_)
      simp only [List.take_succ_cons, List.take_zero]
      change wpAnyH _ _ _ _ _ _ _ _ wr.drew
      have hHeld : wr.drew.cell? ⟨B, 12, none⟩ = some (.slice a6 t.d.barred.length c6) ∧ wr.drew.cell? ⟨lb, lo, none⟩ = some (.int .i64 x) := ⟨k6, l0⟩
      refine' wpAnyH_take (i := 0) (v := _) rfl (by kernel_rfl) (by kernel_rfl) (by kernel_rfl) (fun _ _ _ h => h) (Or.inl ⟨by rfl, ?hy0⟩) hHeld ?r0
      case hy0 => (intro w hSw; obtain ⟨s6, s0⟩ := hSw; go_simp; with_reducible rfl)
      try simp only [Act.put, List.getElem_toArray, List.getElem_cons_zero, List.setIfInBounds_toArray, List.set_cons_zero, List.set_cons_succ]
      refine' wpAnyH_take (i := 1) (v := _) rfl (by kernel_rfl) (by kernel_rfl) (by kernel_rfl) (fun _ _ _ h => h) (Or.inl ⟨by rfl, ?hy1⟩) hHeld ?r1
      case hy1 => (intro w hSw; obtain ⟨s6, s0⟩ := hSw; go_simp; with_reducible rfl)
      try simp only [Act.put, List.getElem_toArray, List.getElem_cons_zero, List.getElem_cons_succ, List.setIfInBounds_toArray, List.set_cons_zero, List.set_cons_succ]
      refine' wpAnyH_take (i := 2) (v := _) rfl (by kernel_rfl) (by kernel_rfl) (by kernel_rfl) (fun _ _ _ h => h) (Or.inl ⟨by rfl, ?hy2⟩) hHeld ?r2
      case hy2 => (intro w hSw; obtain ⟨s6, s0⟩ := hSw; go_simp; with_reducible rfl)
      try simp only [Act.put, List.getElem_toArray, List.getElem_cons_zero, List.getElem_cons_succ, List.setIfInBounds_toArray, List.set_cons_zero, List.set_cons_succ]
      refine' wpAnyH_take (i := 3) (v := _) rfl (by kernel_rfl) (by kernel_rfl) (by kernel_rfl) (fun _ _ _ h => h) (Or.inl ⟨by rfl, ?hy3⟩) hHeld ?r3
      case hy3 => (intro w hSw; obtain ⟨s6, s0⟩ := hSw; go_simp; with_reducible rfl)
      try simp only [Act.put, List.getElem_toArray, List.getElem_cons_zero, List.getElem_cons_succ, List.setIfInBounds_toArray, List.set_cons_zero, List.set_cons_succ]
      refine' wpAnyH_take (i := 4) (v := _) rfl (by kernel_rfl) (by kernel_rfl) (by kernel_rfl) (fun _ _ _ h => h) (Or.inl ⟨by rfl, ?hy4⟩) hHeld ?r4
      case hy4 => (intro w hSw; obtain ⟨s6, s0⟩ := hSw; go_simp; with_reducible rfl)
      try simp only [Act.put, List.getElem_toArray, List.getElem_cons_zero, List.getElem_cons_succ, List.setIfInBounds_toArray, List.set_cons_zero, List.set_cons_succ]
      refine' wpAnyH_take (i := 5) (v := _) rfl (by kernel_rfl) (by kernel_rfl) (by kernel_rfl) (fun _ _ _ h => h) (Or.inl ⟨by rfl, ?hy5⟩) hHeld ?r5
      case hy5 => (intro w hSw; obtain ⟨s6, s0⟩ := hSw; go_simp; with_reducible rfl)
      try simp only [Act.put, List.getElem_toArray, List.getElem_cons_zero, List.getElem_cons_succ, List.setIfInBounds_toArray, List.set_cons_zero, List.set_cons_succ]
      refine' wpAnyH_take (i := 6) (v := _) rfl (by kernel_rfl) (by kernel_rfl) (by kernel_rfl) (fun _ _ _ h => h) (Or.inl ⟨by rfl, ?hy6⟩) hHeld ?r6
      case hy6 => (intro w hSw; obtain ⟨s6, s0⟩ := hSw; go_simp; with_reducible rfl)
      try simp only [Act.put, List.getElem_toArray, List.getElem_cons_zero, List.getElem_cons_succ, List.setIfInBounds_toArray, List.set_cons_zero, List.set_cons_succ]
      refine' wpAnyH_take (i := 7) (v := _) rfl (by kernel_rfl) (by kernel_rfl) (by kernel_rfl) (fun _ _ _ h => h) (Or.inl ⟨by rfl, ?hy7⟩) hHeld ?r7
      case hy7 => (intro w hSw; obtain ⟨s6, s0⟩ := hSw; go_simp; with_reducible rfl)
      try simp only [Act.put, List.getElem_toArray, List.getElem_cons_zero, List.getElem_cons_succ, List.setIfInBounds_toArray, List.set_cons_zero, List.set_cons_succ]
      refine' wpAnyH_take (i := 8) (v := _) rfl (by kernel_rfl) (by kernel_rfl) (by kernel_rfl) (fun _ _ _ h => h) (Or.inl ⟨by rfl, ?hy8⟩) hHeld ?r8
      case hy8 => (intro w hSw; obtain ⟨s6, s0⟩ := hSw; go_simp; with_reducible rfl)
      try simp only [Act.put, List.getElem_toArray, List.getElem_cons_zero, List.getElem_cons_succ, List.setIfInBounds_toArray, List.set_cons_zero, List.set_cons_succ]
      refine wpAnyH_ready (rs := [9]) (by kernel_rfl) (by simp) ?_
      refine AllReadyH.cons rfl (fun K hK => ?_) AllReadyH.nil
      go_simp
      have HST := Lib.hid ((Only.refl (fun _ => False) wr.drew).alloc (.cells #[.int .i64 x] 3))
      refine hK.out _ _ ⟨HST.out.cell hHeld.1 (fun h => h), HST.out.cell hHeld.2 (fun h => h)⟩ (fun hHeld => ?_)
      clear hK K
      try simp only [Act.put, List.getElem_toArray, List.getElem_cons_zero, List.getElem_cons_succ, List.setIfInBounds_toArray, List.set_cons_zero, List.set_cons_succ]
      refine wpAnyH_ready (rs := [10]) (by kernel_rfl) (by simp) ?_
      refine AllReadyH.cons rfl (fun K hK => ?_) AllReadyH.nil
      refine step_append_lies _ rfl _ _ 24 rfl base 3 i0 _ 1 8 Tryz.underlying24 HI.out HI0.out HI1.out HI2.out rfl (by decide) _ _ _ (by rfl) ((owns_drew HON.out).alloc _) ⟨wr.heap.size, 0, none⟩ 1 1 [.int .i64 x] (by rfl) rfl (by exact newsR' wr.drew _ _) (one_oneR _ rfl) (by decide) (by unfold maxLen; omega) (by omega) (by simp; omega) _ rfl ?_
      intro g cap w1 hown1 hgrow hat hlt
      have hOG := (Only.refl (fun i => (Value.slice a6 t.d.barred.length c6).ownBlock = some i) _).grown hgrow (fun i e _ => e)
      have c1 := hOG.cell hHeld.1 hvb
      have HRA := Lib.hid (HRW.out.still (((Only.refl _ wr).drew).alloc (.cells #[.int .i64 x] 3)))
      have f1 : w1.frozen? ⟨B, 12, none⟩ = false := frozen_of_row _ _ _ _ _ ((hOG.block B HRA.out.lt hvb).trans HRA.out.blk)
      refine hK.out _ _ ⟨c1, hOG.cell hHeld.2 HLB.out⟩ (fun hHeld => ?_)
      clear hK K
      try simp only [Act.put, List.getElem_toArray, List.getElem_cons_zero, List.getElem_cons_succ, List.setIfInBounds_toArray, List.set_cons_zero, List.set_cons_succ]
      refine' wpAnyH_take (i := 11) (v := _) rfl (by kernel_rfl) (by kernel_rfl) (by kernel_rfl) (fun _ _ _ h => h) (Or.inl ⟨by rfl, ?hy11⟩) hHeld ?r11
      case hy11 => (intro w hSw; obtain ⟨s6, s0⟩ := hSw; go_simp; with_reducible rfl)
      try simp only [Act.put, List.getElem_toArray, List.getElem_cons_zero, List.getElem_cons_succ, List.setIfInBounds_toArray, List.set_cons_zero, List.set_cons_succ]
      refine' wpAnyH_take (i := 12) (v := _) rfl (by kernel_rfl) (by kernel_rfl) (by kernel_rfl) (fun _ _ _ h => h) (Or.inl ⟨by rfl, ?hy12⟩) hHeld ?r12
      case hy12 => (intro w hSw; obtain ⟨s6, s0⟩ := hSw; go_simp; with_reducible rfl)
      try simp only [Act.put, List.getElem_toArray, List.getElem_cons_zero, List.getElem_cons_succ, List.setIfInBounds_toArray, List.set_cons_zero, List.set_cons_succ]
      refine' wpAnyH_take (i := 13) (v := _) rfl (by kernel_rfl) (by kernel_rfl) (by kernel_rfl) (fun _ _ _ h => h) (Or.inl ⟨by rfl, ?hy13⟩) hHeld ?r13
      case hy13 => (intro w hSw; obtain ⟨s6, s0⟩ := hSw; go_simp; with_reducible rfl)
      try simp only [Act.put, List.getElem_toArray, List.getElem_cons_zero, List.getElem_cons_succ, List.setIfInBounds_toArray, List.set_cons_zero, List.set_cons_succ]
      refine wpAnyH_done (by kernel_rfl) ?_ _
      simp only [headPost, List.drop_succ_cons, List.drop_zero]
      have HBK := Lib.hid (HRA.out.barBack (x := x) hgrow hown1)
      have HOF := Lib.hid (RdS.set (B := B) (vt := vt) (vp := vp) (vq := vq) (vb := .slice a6 t.d.barred.length c6) (((((HO.out.drew).alloc (.cells #[.int .i64 x] 3)).mono (fun _ _ h => h.elim)).grown hgrow (fun k e _ => .inr (.inr (.inr (.inr e))))) ) 12 (.slice (some ⟨g, 0, none⟩) (t.d.barred.length + 1) cap))
      have c15 : w1.cell? ⟨B, 15, none⟩ = some (.bool t.barred) := cell_of_row _ _ 15 _ _ _ ((hOG.block B HRA.out.lt hvb).trans HRA.out.blk)
      have f15 : w1.frozen? ⟨B, 15, none⟩ = false := frozen_of_row _ _ _ _ _ ((hOG.block B HRA.out.lt hvb).trans HRA.out.blk)
      have HBK := Lib.hid (HBK.out.set (t' := { t with d := { t.d with barred := t.d.barred ++ [x] }, barred := true }) 15 (.bool true) rfl rfl rfl rfl rfl)
      have HOF := Lib.hid (RdS.set HOF.out 15 (.bool true))
      clear hHeld hOG k6 z6 z15 k15
      cases tw
      · by_cases hm : t.d.barred.length < 40
        · have i1 : ¬ (12 : Int) < (t.d.barred.length : Int) + 1 - 28 := by omega
          have HVV := Lib.hid (show takeK t name l 10 = (0, _) by rw [HV.out]; unfold tkAdd; rw [if_neg (by decide), if_pos hm])
          clear hm
          go_wp2_with fail
          go_ret
          exact tk_yes HVV.out rfl HOF.out HBK.out
        · have i1 : (12 : Int) < (t.d.barred.length : Int) + 1 - 28 := by omega
          have HVV := Lib.hid (show takeK t name l 10 = (2, _) by rw [HV.out]; unfold tkAdd; rw [if_neg (by decide), if_neg hm])
          clear hm
          go_wp2_with fail
          go_ret
          exact tk_yes HVV.out rfl HOF.out HBK.out
      · have HVV := Lib.hid (show takeK t name l 10 = (13, _) by rw [HV.out]; unfold tkAdd; rw [if_pos rfl])
        go_wp2_with fail
        go_ret
        exact tk_yes HVV.out rfl HOF.out HBK.out
end Go.Proofs.YteikkpiginfbkaaGreatDoor
