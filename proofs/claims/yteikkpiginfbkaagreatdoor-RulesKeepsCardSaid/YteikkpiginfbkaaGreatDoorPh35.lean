/-
  Rules: the laws' Person.make.
-/
import Derived.Test.YteikkpiginfbkaaGreatDoorPh34
namespace Go.Proofs.YteikkpiginfbkaaGreatDoor
open Go.RowKit

structure Pers where
 h0 : Int
 h1 : Int
 h2 : Int
 picks : List Int
 wishes : List Int
 groups : List Int
 wild : Bool
def peCells (q : Pers) (vp vw vg : Value) : Array Value := #[.int .i64 q.h0, .int .i64 q.h1, .int .i64 q.h2, vp, vw, vg, .bool q.wild]
structure PeAt (w : World) (q : Pers) (vp vw vg : Value) : Prop where
 picks : PtsAt w.heap.size w vp q.picks
 wishes : PtsAt w.heap.size w vw q.wishes
 groups : PtsAt w.heap.size w vg q.groups
theorem PeAt.still {w w' : World} {q : Pers} {vp vw vg : Value} (h : PeAt w q vp vw vg) (hO : Only (fun _ => False) w w') : PeAt w' q vp vw vg := ⟨PtsAt.only hO h.picks, PtsAt.only hO h.wishes, PtsAt.only hO h.groups⟩
def PeS (B : Nat) (q : Pers) (vp vw vg : Value) (W : World) : Prop := W.cell? ⟨B, 0, none⟩ = some (Value.int .i64 q.h0) ∧ W.cell? ⟨B, 1, none⟩ = some (Value.int .i64 q.h1) ∧ W.cell? ⟨B, 2, none⟩ = some (Value.int .i64 q.h2) ∧ W.cell? ⟨B, 3, none⟩ = some (vp) ∧ W.cell? ⟨B, 4, none⟩ = some (vw) ∧ W.cell? ⟨B, 5, none⟩ = some (vg) ∧ W.cell? ⟨B, 6, none⟩ = some (Value.bool q.wild)
theorem PeS.of {W : World} {B : Nat} {q : Pers} {vp vw vg : Value} {fr : Nat × Nat} (h : W.heap[B]? = some (.cells (peCells q vp vw vg) 41 fr)) : PeS B q vp vw vg W := ⟨cell_of_row _ _ 0 _ _ _ h, cell_of_row _ _ 1 _ _ _ h, cell_of_row _ _ 2 _ _ _ h, cell_of_row _ _ 3 _ _ _ h, cell_of_row _ _ 4 _ _ _ h, cell_of_row _ _ 5 _ _ _ h, cell_of_row _ _ 6 _ _ _ h⟩
theorem PeS.only {W W' : World} {B : Nat} {q : Pers} {vp vw vg : Value} (h : PeS B q vp vw vg W) (hO : Only (fun _ => False) W W') : PeS B q vp vw vg W' := by
 obtain ⟨s0, s1, s2, s3, s4, s5, s6⟩ := h
 exact ⟨hO.cell s0 id, hO.cell s1 id, hO.cell s2 id, hO.cell s3 id, hO.cell s4 id, hO.cell s5 id, hO.cell s6 id⟩
def nmsZ (wild : Bool) (l : List Int) (k : Nat) : List ByteArray := (l.take k).map (nmZ wild)
def makeE (q : Pers) : En := ⟨q.h0, q.h1, q.h2, q.picks.take (min q.picks.length 62), nmsZ q.wild q.wishes (min q.wishes.length 14), nmsZ q.wild q.groups (min q.groups.length 14)⟩
theorem nms_succ (wild : Bool) (l : List Int) {k : Nat} (h : k < l.length) : nmsZ wild l (k + 1) = nmsZ wild l k ++ [nmZ wild (ptAt l k)] := by
 unfold nmsZ
 rw [take_snoc h, List.map_append]
 congr 2
 unfold ptAt; simp [List.getD, h]
theorem nms_len (wild : Bool) (l : List Int) {k : Nat} (h : k ≤ l.length) : (nmsZ wild l k).length = k := by unfold nmsZ; rw [List.length_map, List.length_take]; omega
theorem run_append_zero {P : Program} {w : World} (base : Nat) (t ty e : TypeId) (i : TypeInfo) (size : Nat) (ht : P.underlying t = some (.slice e)) (hi : P.info? e = some i)
  (v : Value) (n : Nat) (xs : List Value) (hown : w.ownsRow base e size v n xs) (c : Nat) :
  (Builtin.append_ #[t, t] ty #[v, .slice none 0 c]).run P w = .ok v w := by
 rcases hown.2 with ⟨rfl, rfl⟩ | ⟨g, cap, cur, rfl, _, _, hnc, _⟩
 ·simp [Builtin.append_, run_underlying ht, sizeOf, typeInfo, hi, Builtin.lenOf, Builtin.firstCells]
 ·simp [Builtin.append_, run_underlying ht, sizeOf, typeInfo, hi, Builtin.lenOf, Builtin.firstCells, hnc, storeCells]
/-- append of the first m of a list that came in, whatever its address where m is 0. -/
theorem step_append_pts {P : Program} {ops : Array Oper} {o : Oper} {a : Act} {w : World} {K : Act → World → Prop} {Q : Exit → Act → World → Prop} {E : Prop} (hgd : o.guard = none) (s x : Operand) (t : TypeId)
  (ho : o.op = .call { callee := .builtin .append, args := #[s, x], argTypes := #[t, t] })
  (base : Nat) (e : TypeId) (i : TypeInfo) (z : Value) (bytes : Nat) (ht : P.underlying t = some (.slice e)) (hi : P.info? e = some i) (hz : i.zero = some z)
  (hsize : i.size = 1) (hby : i.bytes = bytes) (hzs : z.cells.size = 1)
  (v : Value) (n : Nat) (xs : List Value) (hs : a.eval s = v) (hown : w.ownsRow base e 1 v n xs)
  (l : List Int) (vl : Value) (hl : PtsAt w.heap.size w vl l) (m : Nat) (hm : m ≤ l.length) (aa : Option Addr) (c : Nat) (hvl : ∃ c0, vl = .slice aa l.length c0) (hx : a.eval x = .slice aa m c)
  (h63 : n + m ≤ maxLen) (hbytes : (n + m) * bytes ≤ 140737488355328) (hbase : base ≤ w.heap.size)
  (h : ∀ v' w', w'.ownsRow base e 1 v' (n + m) (xs ++ irow (l.take m)) → w.grownBy w' v.ownBlock → K (a.put o.dst v') w') :
  if Region.wanted o (yielded ops a.tmps) = true then Oper.wp P o a w K Q else E := by
 have hw : Region.wanted o (yielded ops a.tmps) = true := by simp [Region.wanted, hgd]
 rw [if_pos hw]
 obtain ⟨c0, rfl⟩ := hvl
 cases aa with
 | none =>
  have hm0 : m = 0 := by
   rcases Nat.eq_zero_or_pos m with h0 | h0
   ·exact h0
   ·obtain ⟨b, off, e', _⟩ := hl.cellAt (k := 0) (by omega)
    cases e'
  subst hm0
  have hrun := run_append_zero (P := P) (w := w) base t o.type e i 1 ht hi v n xs hown c
  unfold Oper.wp execOp
  simp only [ho, resolve, invoke, builtin, Sem.run_bind, Sem.run_pure, Result.andThen_ok, List.map_toArray, List.map_cons, List.map_nil, hs, hx, hrun]
  exact h v w (by simpa [irow] using hown) ⟨rfl, rfl, rfl, Nat.le_refl _, fun _ _ _ => rfl⟩
 | some ad =>
  refine wp_append_own w s x t ho base e i z 1 bytes ht hi hz hsize hby hzs (by decide) v n xs hs hown ad m c (irow (l.take m)) hx (by unfold irow; rw [List.length_map, List.length_take]; omega) (fun j u hu => ?_) (irow_oneR _) h63 hbytes hbase (fun v' w' h2 h3 _ => h v' w' h2 h3)
  have hj : j < m := by have := (List.getElem?_eq_some_iff.1 hu).1; unfold irow at this; rw [List.length_map, List.length_take] at this; omega
  obtain ⟨b, off, e', _, _, _, _, hc⟩ := hl.cellAt (k := j) (by omega)
  cases e'
  rw [Addr.add_lit, hc]
  unfold irow at hu
  rw [List.getElem?_map, List.getElem?_take, if_pos hj, List.getElem?_eq_getElem (by omega)] at hu
  rw [← Option.some.inj hu]
  unfold ptAt
  simp [List.getD, show j < l.length by omega]
set_option maxRecDepth 100000 in
set_option maxHeartbeats 8000000 in
theorem pmake_any (q : Pers) (vp vw vg : Value) (w : World) (hq : PeAt w q vp vw vg) :
  Calls Tryz.prog 14 #[.agg (peCells q vp vw vg)] w fun e w' => ∃ up uw ug, e = .returned (.agg (enCells (makeE q) up uw ug)) ∧ EnOwn w.heap.size w' (makeE q) up uw ug ∧ Only (fun _ => False) w w' := by
 have HQ := Lib.hid hq
 have HZ := Lib.hid (heap_alloc_last w (.cells (peCells q vp vw vg) 41))
 have HP0 := Lib.hid (heap_alloc_last (w.alloc (.cells (peCells q vp vw vg) 41)) (.cells #[.int .i64 0, .int .i64 0, .int .i64 0, .slice none 0 0, .slice none 0 0, .slice none 0 0] 44))
 have HW1 := Lib.hid (((Only.refl (fun _ => False) w).alloc (.cells (peCells q vp vw vg) 41)).alloc (.cells #[.int .i64 0, .int .i64 0, .int .i64 0, .slice none 0 0, .slice none 0 0, .slice none 0 0] 44))
 have HZ0 := Lib.hid (row_still ((Only.refl (fun _ => False) _).alloc (.cells #[.int .i64 0, .int .i64 0, .int .i64 0, .slice none 0 0, .slice none 0 0, .slice none 0 0] 44)) HZ.out)
 have hs1 : (World.alloc (World.alloc w (.cells (peCells q vp vw vg) 41)) (.cells #[.int .i64 0, .int .i64 0, .int .i64 0, .slice none 0 0, .slice none 0 0, .slice none 0 0] 44)).heap.size = w.heap.size + 2 := by simp
 rw [World.size_alloc] at HP0
 clear hq HZ
 go_enter Tryz.func14, Tryz.ntmps14
 go_upto_region 1 with (fail)
 obtain ⟨B, hB⟩ : ∃ B, w.heap.size = B := ⟨_, rfl⟩
 rw [hB] at HZ0 HP0 hs1 ⊢
 generalize World.alloc (World.alloc w _) _ = w1 at *
 obtain ⟨ap, cp, hvp⟩ := HQ.out.picks.slice
 have HVP := Lib.hid hvp
 clear hvp
 have HQ1 := Lib.hid (HQ.out.still HW1.out)
 go_cut [3] (fun v wx => ∃ b up, v = .pointer (some ⟨b, 0, none⟩) ∧ w1.heap.size ≤ b ∧ wx.heap[b]? = some (.cells (enCells ⟨q.h0, q.h1, q.h2, q.picks.take (min q.picks.length 62), [], []⟩ up (.slice none 0 0) (.slice none 0 0)) 44 (0, 0)) ∧ wx.ownsRow w1.heap.size 3 1 up (min q.picks.length 62) (irow (q.picks.take (min q.picks.length 62))) ∧ Only (fun _ => False) w1 wx)
 case first =>
  have hlcp : q.picks.length ≤ cp ∨ q.picks.length = 0 := by
   rcases HQ.out.picks with ⟨a, c, e, h0⟩ | ⟨b, off, c, e, _, h1, _⟩
   ·right; rw [h0]; rfl
   ·left
    rw [HVP.out] at e
    simp only [Value.slice.injEq, true_and] at e
    omega
  obtain ⟨m, hm⟩ : ∃ m, min q.picks.length 62 = m := ⟨_, rfl⟩
  have i1 : min (q.picks.length : Int) 62 = (m : Int) := by omega
  have HM := Lib.hid hm
  have i2 : (0 : Int) ≤ m := by omega
  have i3 : (m : Int) ≤ cp := by omega
  have i4 : (m : Int) ≤ q.picks.length := by omega
  have HML := Lib.hid (show m ≤ q.picks.length ∧ m ≤ 62 by omega)
  obtain ⟨i0, hi, hz0, hz1, hz2⟩ := info_parts Tryz.infoI
  have HI := Lib.hid hi
  have HI0 := Lib.hid hz0
  have HI1 := Lib.hid hz1
  have HI2 := Lib.hid hz2
  clear hi hz0 hz1 hz2
  clear hm hlcp
  refine wp_region_split2 20 (by kernel_rfl) (by kernel_rfl) (wpAny_of_held (S := fun W => Only (fun _ => False) w1.drew W) _ _ _ _ ?_)
  simp only [List.take_succ_cons, List.take_zero]
  change wpAnyH _ _ _ _ _ _ _ _ w1.drew
  have HKS := Lib.hid (show ∀ W, Only (fun _ => False) w1.drew W → PeS B q vp vw vg W ∧ W.cell? ⟨B, 3, none⟩ = some (.slice ap q.picks.length cp) from fun W hW => ⟨PeS.only (PeS.of (row_still (Only.refl _ w1).drew HZ0.out)) hW, by rw [← HVP.out]; exact hW.cell (cell_of_row w1.drew B 3 _ _ _ HZ0.out) id⟩)
  have hHeld : Only (fun _ => False) w1.drew w1.drew := Only.refl _ _
  have HPT := Lib.hid (show PtsAt w1.drew.heap.size w1.drew vp q.picks from HQ1.out.picks)
  have HOX := Lib.hid hHeld
  obtain ⟨gd, hgd⟩ : ∃ n, w1.drew.heap.size = n := ⟨_, rfl⟩
  have HGD := Lib.hid hgd
  have HG1 := Lib.hid (show w1.heap.size = gd from hgd)
  obtain ⟨wd, hwd⟩ : ∃ wd, w1.drew = wd := ⟨_, rfl⟩
  have HWD := Lib.hid hwd
  rw [hwd] at HKS HPT hHeld HOX HGD ⊢
  clear hgd hwd
  refine' wpAnyH_take (i := 0) (v := _) rfl (by kernel_rfl) (by kernel_rfl) (by kernel_rfl) (fun _ _ _ h => h) (Or.inl ⟨by rfl, ?hya0⟩) hHeld ?ra0
  case hya0 => (intro w hSw; skip; go_simp; with_reducible rfl)
  try simp only [Act.put, List.getElem_toArray, List.getElem_cons_zero, List.setIfInBounds_toArray, List.set_cons_zero, List.set_cons_succ]
  refine' wpAnyH_take (i := 1) (v := _) rfl (by kernel_rfl) (by kernel_rfl) (by kernel_rfl) (fun _ _ _ h => h) (Or.inl ⟨by rfl, ?hya1⟩) hHeld ?ra1
  case hya1 => (intro w hSw; skip; go_simp; with_reducible rfl)
  try simp only [Act.put, List.getElem_toArray, List.getElem_cons_zero, List.getElem_cons_succ, List.setIfInBounds_toArray, List.set_cons_zero, List.set_cons_succ]
  refine' wpAnyH_take (i := 2) (v := _) rfl (by kernel_rfl) (by kernel_rfl) (by kernel_rfl) (fun _ _ _ h => h) (Or.inl ⟨by rfl, ?hya2⟩) hHeld ?ra2
  case hya2 => (intro w hSw; obtain ⟨⟨s0, s1, s2, -, s4, s5, s6⟩, y3⟩ := HKS.out _ hSw; go_simp; with_reducible rfl)
  try simp only [Act.put, List.getElem_toArray, List.getElem_cons_zero, List.getElem_cons_succ, List.setIfInBounds_toArray, List.set_cons_zero, List.set_cons_succ]
  refine' wpAnyH_take (i := 3) (v := _) rfl (by kernel_rfl) (by kernel_rfl) (by kernel_rfl) (fun _ _ _ h => h) (Or.inl ⟨by rfl, ?hya3⟩) hHeld ?ra3
  case hya3 => (intro w hSw; skip; go_simp; with_reducible rfl)
  try simp only [Act.put, List.getElem_toArray, List.getElem_cons_zero, List.getElem_cons_succ, List.setIfInBounds_toArray, List.set_cons_zero, List.set_cons_succ]
  refine' wpAnyH_take (i := 4) (v := _) rfl (by kernel_rfl) (by kernel_rfl) (by kernel_rfl) (fun _ _ _ h => h) (Or.inl ⟨by rfl, ?hya4⟩) hHeld ?ra4
  case hya4 => (intro w hSw; skip; go_simp; with_reducible rfl)
  try simp only [Act.put, List.getElem_toArray, List.getElem_cons_zero, List.getElem_cons_succ, List.setIfInBounds_toArray, List.set_cons_zero, List.set_cons_succ]
  refine' wpAnyH_take (i := 5) (v := _) rfl (by kernel_rfl) (by kernel_rfl) (by kernel_rfl) (fun _ _ _ h => h) (Or.inl ⟨by rfl, ?hya5⟩) hHeld ?ra5
  case hya5 => (intro w hSw; obtain ⟨⟨s0, s1, s2, -, s4, s5, s6⟩, y3⟩ := HKS.out _ hSw; go_simp; with_reducible rfl)
  try simp only [Act.put, List.getElem_toArray, List.getElem_cons_zero, List.getElem_cons_succ, List.setIfInBounds_toArray, List.set_cons_zero, List.set_cons_succ]
  refine' wpAnyH_take (i := 6) (v := _) rfl (by kernel_rfl) (by kernel_rfl) (by kernel_rfl) (fun _ _ _ h => h) (Or.inl ⟨by rfl, ?hya6⟩) hHeld ?ra6
  case hya6 => (intro w hSw; skip; go_simp; with_reducible rfl)
  try simp only [Act.put, List.getElem_toArray, List.getElem_cons_zero, List.getElem_cons_succ, List.setIfInBounds_toArray, List.set_cons_zero, List.set_cons_succ]
  refine' wpAnyH_take (i := 7) (v := _) rfl (by kernel_rfl) (by kernel_rfl) (by kernel_rfl) (fun _ _ _ h => h) (Or.inl ⟨by rfl, ?hya7⟩) hHeld ?ra7
  case hya7 => (intro w hSw; skip; go_simp; with_reducible rfl)
  try simp only [Act.put, List.getElem_toArray, List.getElem_cons_zero, List.getElem_cons_succ, List.setIfInBounds_toArray, List.set_cons_zero, List.set_cons_succ]
  refine' wpAnyH_take (i := 8) (v := _) rfl (by kernel_rfl) (by kernel_rfl) (by kernel_rfl) (fun _ _ _ h => h) (Or.inl ⟨by rfl, ?hya8⟩) hHeld ?ra8
  case hya8 => (intro w hSw; obtain ⟨⟨s0, s1, s2, -, s4, s5, s6⟩, y3⟩ := HKS.out _ hSw; go_simp; with_reducible rfl)
  try simp only [Act.put, List.getElem_toArray, List.getElem_cons_zero, List.getElem_cons_succ, List.setIfInBounds_toArray, List.set_cons_zero, List.set_cons_succ]
  refine' wpAnyH_take (i := 10) (v := _) rfl (by kernel_rfl) (by kernel_rfl) (by kernel_rfl) (fun _ _ _ h => h) (Or.inl ⟨by rfl, ?hya10⟩) hHeld ?ra10
  case hya10 => (intro w hSw; skip; go_simp; with_reducible rfl)
  try simp only [Act.put, List.getElem_toArray, List.getElem_cons_zero, List.getElem_cons_succ, List.setIfInBounds_toArray, List.set_cons_zero, List.set_cons_succ]
  refine' wpAnyH_take (i := 11) (v := _) rfl (by kernel_rfl) (by kernel_rfl) (by kernel_rfl) (fun _ _ _ h => h) (Or.inl ⟨by rfl, ?hya11⟩) hHeld ?ra11
  case hya11 => (intro w hSw; obtain ⟨⟨s0, s1, s2, -, s4, s5, s6⟩, y3⟩ := HKS.out _ hSw; go_simp; with_reducible rfl)
  try simp only [Act.put, List.getElem_toArray, List.getElem_cons_zero, List.getElem_cons_succ, List.setIfInBounds_toArray, List.set_cons_zero, List.set_cons_succ]
  refine' wpAnyH_take (i := 12) (v := _) rfl (by kernel_rfl) (by kernel_rfl) (by kernel_rfl) (fun _ _ _ h => h) (Or.inl ⟨by rfl, ?hya12⟩) hHeld ?ra12
  case hya12 => (intro w hSw; skip; go_simp; with_reducible rfl)
  try simp only [Act.put, List.getElem_toArray, List.getElem_cons_zero, List.getElem_cons_succ, List.setIfInBounds_toArray, List.set_cons_zero, List.set_cons_succ]
  refine' wpAnyH_take (i := 13) (v := _) rfl (by kernel_rfl) (by kernel_rfl) (by kernel_rfl) (fun _ _ _ h => h) (Or.inl ⟨by rfl, ?hya13⟩) hHeld ?ra13
  case hya13 => (intro w hSw; obtain ⟨⟨s0, s1, s2, -, s4, s5, s6⟩, y3⟩ := HKS.out _ hSw; go_simp; with_reducible rfl)
  try simp only [Act.put, List.getElem_toArray, List.getElem_cons_zero, List.getElem_cons_succ, List.setIfInBounds_toArray, List.set_cons_zero, List.set_cons_succ]
  refine' wpAnyH_take (i := 14) (v := _) rfl (by kernel_rfl) (by kernel_rfl) (by kernel_rfl) (fun _ _ _ h => h) (Or.inl ⟨by rfl, ?hya14⟩) hHeld ?ra14
  case hya14 => (intro w hSw; skip; go_simp; with_reducible rfl)
  try simp only [Act.put, List.getElem_toArray, List.getElem_cons_zero, List.getElem_cons_succ, List.setIfInBounds_toArray, List.set_cons_zero, List.set_cons_succ]
  refine' wpAnyH_take (i := 15) (v := _) rfl (by kernel_rfl) (by kernel_rfl) (by kernel_rfl) (fun _ _ _ h => h) (Or.inl ⟨by rfl, ?hya15⟩) hHeld ?ra15
  case hya15 => (intro w hSw; skip; go_simp; with_reducible rfl)
  try simp only [Act.put, List.getElem_toArray, List.getElem_cons_zero, List.getElem_cons_succ, List.setIfInBounds_toArray, List.set_cons_zero, List.set_cons_succ]
  refine' wpAnyH_take (i := 16) (v := _) rfl (by kernel_rfl) (by kernel_rfl) (by kernel_rfl) (fun _ _ _ h => h) (Or.inl ⟨by rfl, ?hya16⟩) hHeld ?ra16
  case hya16 => (intro w hSw; skip; go_simp; with_reducible rfl)
  try simp only [Act.put, List.getElem_toArray, List.getElem_cons_zero, List.getElem_cons_succ, List.setIfInBounds_toArray, List.set_cons_zero, List.set_cons_succ]
  refine wpAnyH_ready (rs := [9, 19]) (by kernel_rfl) (by simp) ?_
  refine AllReadyH.cons rfl (fun K hK => ?_) (AllReadyH.cons rfl (fun K hK => ?_) AllReadyH.nil)
  ·go_simp
   have HST := Lib.hid ((Only.refl (fun _ => False) wd).alloc (.cells #[] 3))
   have hws := HOX.out.size
   have HE := Lib.hid (World.ownsRow_made (e := 3) (base := gd) (size := 1) wd #[] 0 (by rw [← HGD.out]; exact hws) (Nat.zero_le _) rfl)
   obtain ⟨ge, hge⟩ : ∃ n, wd.heap.size = n := ⟨_, rfl⟩
   rw [hge] at HE ⊢
   have HOX := Lib.hid (HOX.out.trans HST.out)
   refine hK.out _ _ HOX.out (fun hHeld => ?_)
   clear hK K
   try simp only [Act.put, List.getElem_toArray, List.getElem_cons_zero, List.getElem_cons_succ, List.setIfInBounds_toArray, List.set_cons_zero, List.set_cons_succ]
   generalize wd.alloc (.cells #[] 3) = v1 at *
   clear HST hge hws
   refine wpAnyH_ready (rs := [17, 19]) (by kernel_rfl) (by simp) ?_
   refine AllReadyH.cons rfl (fun K hK => ?_) (AllReadyH.cons rfl (fun K hK => ?_) AllReadyH.nil)
   ·have hws := HOX.out.size
    refine step_append_pts rfl _ _ 24 rfl gd 3 i0 _ 8 Tryz.underlying24 HI.out HI0.out HI1.out HI2.out rfl _ 0 [] (by rfl) HE.out q.picks vp (PtsAt.only HOX.out HPT.out) (m) HML.out.1 ap cp ⟨cp, HVP.out⟩ (by rfl) (by have := HML.out; unfold maxLen; omega) (by have := HML.out; omega) (by rw [← HGD.out]; exact hws) ?_
    intro u1 v2 hown hgrow
    rw [Nat.zero_add, List.nil_append] at hown
    obtain ⟨na, nc, rfl⟩ := slice_of_own hown
    have HA := Lib.hid hown
    have hSG := (Only.refl (fun i => (Value.slice (some ⟨ge, 0, none⟩) 0 0).ownBlock = some i) v1).grown hgrow (fun i e _ => e)
    have HOX := Lib.hid (HOX.out.trans' (S := fun _ => False) ((Only.refl _ _).grown hgrow (fun i e _ => e)) (fun i hi e => by have := ownR_ge HE.out e; have := HGD.out; omega))
    clear HE hown hgrow hSG hws
    refine hK.out _ _ HOX.out (fun hHeld => ?_)
    clear hK K
    try simp only [Act.put, List.getElem_toArray, List.getElem_cons_zero, List.getElem_cons_succ, List.setIfInBounds_toArray, List.set_cons_zero, List.set_cons_succ]
    refine' wpAnyH_take (i := 18) (v := _) rfl (by kernel_rfl) (by kernel_rfl) (by kernel_rfl) (fun _ _ _ h => h) (Or.inl ⟨by rfl, ?hya218⟩) hHeld ?ra218
    case hya218 => (intro w hSw; skip; go_simp; with_reducible rfl)
    try simp only [Act.put, List.getElem_toArray, List.getElem_cons_zero, List.getElem_cons_succ, List.setIfInBounds_toArray, List.set_cons_zero, List.set_cons_succ]
    refine wpAnyH_ready (rs := [19]) (by kernel_rfl) (by simp) ?_
    refine AllReadyH.cons rfl (fun K hK => ?_) AllReadyH.nil
    go_simp
    have HST := Lib.hid ((Only.refl (fun _ => False) v2).alloc (.cells #[.int .i64 0, .int .i64 0, .int .i64 0, .slice none 0 0, .slice none 0 0, .slice none 0 0] 44))
    have HNR := Lib.hid (heap_alloc_last v2 (.cells #[.int .i64 0, .int .i64 0, .int .i64 0, .slice none 0 0, .slice none 0 0, .slice none 0 0] 44))
    have HNL := Lib.hid (show w1.heap.size ≤ v2.heap.size from by have := HOX.out.size; have h2 := HG1.out; have h3 := HGD.out; omega)
    obtain ⟨nb, hnb⟩ : ∃ n, v2.heap.size = n := ⟨_, rfl⟩
    rw [hnb] at HNR HNL ⊢
    have HA := Lib.hid (HST.out.owns HA.out (fun _ _ h => h))
    have HOX := Lib.hid (HOX.out.trans HST.out)
    refine hK.out _ _ HOX.out (fun hHeld => ?_)
    clear hK K
    try simp only [Act.put, List.getElem_toArray, List.getElem_cons_zero, List.getElem_cons_succ, List.setIfInBounds_toArray, List.set_cons_zero, List.set_cons_succ]
    generalize v2.alloc (.cells #[.int .i64 0, .int .i64 0, .int .i64 0, .slice none 0 0, .slice none 0 0, .slice none 0 0] 44) = v3 at *
    clear HST hnb
    refine wpAnyH_done (by kernel_rfl) ?_ _
    simp only [headPost, List.drop_succ_cons, List.drop_zero]
    have HOW := Lib.hid (((Only.refl (fun _ => False) w1).drew).trans (HWD.out.symm ▸ HOX.out))
    go_wp2_with (first | (refine wpList_store_row rfl 44 _ _ rfl nb (enCells ⟨q.h0, q.h1, q.h2, q.picks.take (m), [], []⟩ (.slice na (m) nc) (.slice none 0 0) (.slice none 0 0)) rfl rfl 44 _ HNR.out Tryz.infoEn rfl (by simp [enCells, Value.oneCell']) ?_))
    go_meet
    rw [HM.out]
    have hSR : Only (fun k => k = nb) v3 (v3.setRow nb (enCells ⟨q.h0, q.h1, q.h2, q.picks.take (m), [], []⟩ (.slice na (m) nc) (.slice none 0 0) (.slice none 0 0))) := onlyR_row (S := fun k => k = nb) (Only.refl _ _) (.inl rfl) _
    exact ⟨nb, _, rfl, HNL.out, setRow_heap _ _ _ _ _ _ HNR.out, hSR.owns (ownR_base HA.out (by have := HG1.out; omega)) (fun k hk e => by rw [e] at hk; exact ownR_blk HA.out HNR.out (by decide) hk), HOW.out.setRow HNL.out _⟩
   ·go_simp
    have HST := Lib.hid ((Only.refl (fun _ => False) v1).alloc (.cells #[.int .i64 0, .int .i64 0, .int .i64 0, .slice none 0 0, .slice none 0 0, .slice none 0 0] 44))
    have HNR := Lib.hid (heap_alloc_last v1 (.cells #[.int .i64 0, .int .i64 0, .int .i64 0, .slice none 0 0, .slice none 0 0, .slice none 0 0] 44))
    have HNL := Lib.hid (show w1.heap.size ≤ v1.heap.size from by have := HOX.out.size; have h2 := HG1.out; have h3 := HGD.out; omega)
    obtain ⟨nb, hnb⟩ : ∃ n, v1.heap.size = n := ⟨_, rfl⟩
    rw [hnb] at HNR HNL ⊢
    have HE := Lib.hid (HST.out.owns HE.out (fun _ _ h => h))
    have HOX := Lib.hid (HOX.out.trans HST.out)
    refine hK.out _ _ HOX.out (fun hHeld => ?_)
    clear hK K
    try simp only [Act.put, List.getElem_toArray, List.getElem_cons_zero, List.getElem_cons_succ, List.setIfInBounds_toArray, List.set_cons_zero, List.set_cons_succ]
    generalize v1.alloc (.cells #[.int .i64 0, .int .i64 0, .int .i64 0, .slice none 0 0, .slice none 0 0, .slice none 0 0] 44) = v2 at *
    clear HST hnb
    refine wpAnyH_ready (rs := [17]) (by kernel_rfl) (by simp) ?_
    refine AllReadyH.cons rfl (fun K hK => ?_) AllReadyH.nil
    have hws := HOX.out.size
    refine step_append_pts rfl _ _ 24 rfl gd 3 i0 _ 8 Tryz.underlying24 HI.out HI0.out HI1.out HI2.out rfl _ 0 [] (by rfl) HE.out q.picks vp (PtsAt.only HOX.out HPT.out) (m) HML.out.1 ap cp ⟨cp, HVP.out⟩ (by rfl) (by have := HML.out; unfold maxLen; omega) (by have := HML.out; omega) (by rw [← HGD.out]; exact hws) ?_
    intro u1 v5 hown hgrow
    rw [Nat.zero_add, List.nil_append] at hown
    obtain ⟨na, nc, rfl⟩ := slice_of_own hown
    have HA := Lib.hid hown
    have hSG := (Only.refl (fun i => (Value.slice (some ⟨ge, 0, none⟩) 0 0).ownBlock = some i) v2).grown hgrow (fun i e _ => e)
    have HNR := Lib.hid ((hSG.block nb (Array.getElem?_eq_some_iff.1 HNR.out).1 (fun e => by have := ownR_blk HE.out HNR.out (by decide); exact this e)).trans HNR.out)
    have HOX := Lib.hid (HOX.out.trans' (S := fun _ => False) ((Only.refl _ _).grown hgrow (fun i e _ => e)) (fun i hi e => by have := ownR_ge HE.out e; have := HGD.out; omega))
    clear HE hown hgrow hSG hws
    refine hK.out _ _ HOX.out (fun hHeld => ?_)
    clear hK K
    try simp only [Act.put, List.getElem_toArray, List.getElem_cons_zero, List.getElem_cons_succ, List.setIfInBounds_toArray, List.set_cons_zero, List.set_cons_succ]
    refine' wpAnyH_take (i := 18) (v := _) rfl (by kernel_rfl) (by kernel_rfl) (by kernel_rfl) (fun _ _ _ h => h) (Or.inl ⟨by rfl, ?hya518⟩) hHeld ?ra518
    case hya518 => (intro w hSw; skip; go_simp; with_reducible rfl)
    try simp only [Act.put, List.getElem_toArray, List.getElem_cons_zero, List.getElem_cons_succ, List.setIfInBounds_toArray, List.set_cons_zero, List.set_cons_succ]
    refine wpAnyH_done (by kernel_rfl) ?_ _
    simp only [headPost, List.drop_succ_cons, List.drop_zero]
    have HOW := Lib.hid (((Only.refl (fun _ => False) w1).drew).trans (HWD.out.symm ▸ HOX.out))
    go_wp2_with (first | (refine wpList_store_row rfl 44 _ _ rfl nb (enCells ⟨q.h0, q.h1, q.h2, q.picks.take (m), [], []⟩ (.slice na (m) nc) (.slice none 0 0) (.slice none 0 0)) rfl rfl 44 _ HNR.out Tryz.infoEn rfl (by simp [enCells, Value.oneCell']) ?_))
    go_meet
    rw [HM.out]
    have hSR : Only (fun k => k = nb) v5 (v5.setRow nb (enCells ⟨q.h0, q.h1, q.h2, q.picks.take (m), [], []⟩ (.slice na (m) nc) (.slice none 0 0) (.slice none 0 0))) := onlyR_row (S := fun k => k = nb) (Only.refl _ _) (.inl rfl) _
    exact ⟨nb, _, rfl, HNL.out, setRow_heap _ _ _ _ _ _ HNR.out, hSR.owns (ownR_base HA.out (by have := HG1.out; omega)) (fun k hk e => by rw [e] at hk; exact ownR_blk HA.out HNR.out (by decide) hk), HOW.out.setRow HNL.out _⟩
  ·go_simp
   have HST := Lib.hid ((Only.refl (fun _ => False) wd).alloc (.cells #[.int .i64 0, .int .i64 0, .int .i64 0, .slice none 0 0, .slice none 0 0, .slice none 0 0] 44))
   have HNR := Lib.hid (heap_alloc_last wd (.cells #[.int .i64 0, .int .i64 0, .int .i64 0, .slice none 0 0, .slice none 0 0, .slice none 0 0] 44))
   have HNL := Lib.hid (show w1.heap.size ≤ wd.heap.size from by have := HOX.out.size; have h2 := HG1.out; have h3 := HGD.out; omega)
   obtain ⟨nb, hnb⟩ : ∃ n, wd.heap.size = n := ⟨_, rfl⟩
   rw [hnb] at HNR HNL ⊢
   have HOX := Lib.hid (HOX.out.trans HST.out)
   refine hK.out _ _ HOX.out (fun hHeld => ?_)
   clear hK K
   try simp only [Act.put, List.getElem_toArray, List.getElem_cons_zero, List.getElem_cons_succ, List.setIfInBounds_toArray, List.set_cons_zero, List.set_cons_succ]
   generalize wd.alloc (.cells #[.int .i64 0, .int .i64 0, .int .i64 0, .slice none 0 0, .slice none 0 0, .slice none 0 0] 44) = v1 at *
   clear HST hnb
   refine wpAnyH_ready (rs := [9]) (by kernel_rfl) (by simp) ?_
   refine AllReadyH.cons rfl (fun K hK => ?_) AllReadyH.nil
   go_simp
   have HST := Lib.hid ((Only.refl (fun _ => False) v1).alloc (.cells #[] 3))
   have hws := HOX.out.size
   have HE := Lib.hid (World.ownsRow_made (e := 3) (base := gd) (size := 1) v1 #[] 0 (by rw [← HGD.out]; exact hws) (Nat.zero_le _) rfl)
   obtain ⟨ge, hge⟩ : ∃ n, v1.heap.size = n := ⟨_, rfl⟩
   rw [hge] at HE ⊢
   have HNR := Lib.hid (row_still HST.out HNR.out)
   have HOX := Lib.hid (HOX.out.trans HST.out)
   refine hK.out _ _ HOX.out (fun hHeld => ?_)
   clear hK K
   try simp only [Act.put, List.getElem_toArray, List.getElem_cons_zero, List.getElem_cons_succ, List.setIfInBounds_toArray, List.set_cons_zero, List.set_cons_succ]
   generalize v1.alloc (.cells #[] 3) = v7 at *
   clear HST hge hws
   refine wpAnyH_ready (rs := [17]) (by kernel_rfl) (by simp) ?_
   refine AllReadyH.cons rfl (fun K hK => ?_) AllReadyH.nil
   have hws := HOX.out.size
   refine step_append_pts rfl _ _ 24 rfl gd 3 i0 _ 8 Tryz.underlying24 HI.out HI0.out HI1.out HI2.out rfl _ 0 [] (by rfl) HE.out q.picks vp (PtsAt.only HOX.out HPT.out) (m) HML.out.1 ap cp ⟨cp, HVP.out⟩ (by rfl) (by have := HML.out; unfold maxLen; omega) (by have := HML.out; omega) (by rw [← HGD.out]; exact hws) ?_
   intro u1 v8 hown hgrow
   rw [Nat.zero_add, List.nil_append] at hown
   obtain ⟨na, nc, rfl⟩ := slice_of_own hown
   have HA := Lib.hid hown
   have hSG := (Only.refl (fun i => (Value.slice (some ⟨ge, 0, none⟩) 0 0).ownBlock = some i) v7).grown hgrow (fun i e _ => e)
   have HNR := Lib.hid ((hSG.block nb (Array.getElem?_eq_some_iff.1 HNR.out).1 (fun e => by have := ownR_blk HE.out HNR.out (by decide); exact this e)).trans HNR.out)
   have HOX := Lib.hid (HOX.out.trans' (S := fun _ => False) ((Only.refl _ _).grown hgrow (fun i e _ => e)) (fun i hi e => by have := ownR_ge HE.out e; have := HGD.out; omega))
   clear HE hown hgrow hSG hws
   refine hK.out _ _ HOX.out (fun hHeld => ?_)
   clear hK K
   try simp only [Act.put, List.getElem_toArray, List.getElem_cons_zero, List.getElem_cons_succ, List.setIfInBounds_toArray, List.set_cons_zero, List.set_cons_succ]
   refine' wpAnyH_take (i := 18) (v := _) rfl (by kernel_rfl) (by kernel_rfl) (by kernel_rfl) (fun _ _ _ h => h) (Or.inl ⟨by rfl, ?hya818⟩) hHeld ?ra818
   case hya818 => (intro w hSw; skip; go_simp; with_reducible rfl)
   try simp only [Act.put, List.getElem_toArray, List.getElem_cons_zero, List.getElem_cons_succ, List.setIfInBounds_toArray, List.set_cons_zero, List.set_cons_succ]
   refine wpAnyH_done (by kernel_rfl) ?_ _
   simp only [headPost, List.drop_succ_cons, List.drop_zero]
   have HOW := Lib.hid (((Only.refl (fun _ => False) w1).drew).trans (HWD.out.symm ▸ HOX.out))
   go_wp2_with (first | (refine wpList_store_row rfl 44 _ _ rfl nb (enCells ⟨q.h0, q.h1, q.h2, q.picks.take (m), [], []⟩ (.slice na (m) nc) (.slice none 0 0) (.slice none 0 0)) rfl rfl 44 _ HNR.out Tryz.infoEn rfl (by simp [enCells, Value.oneCell']) ?_))
   go_meet
   rw [HM.out]
   have hSR : Only (fun k => k = nb) v8 (v8.setRow nb (enCells ⟨q.h0, q.h1, q.h2, q.picks.take (m), [], []⟩ (.slice na (m) nc) (.slice none 0 0) (.slice none 0 0))) := onlyR_row (S := fun k => k = nb) (Only.refl _ _) (.inl rfl) _
   exact ⟨nb, _, rfl, HNL.out, setRow_heap _ _ _ _ _ _ HNR.out, hSR.owns (ownR_base HA.out (by have := HG1.out; omega)) (fun k hk e => by rw [e] at hk; exact ownR_blk HA.out HNR.out (by decide) hk), HOW.out.setRow HNL.out _⟩
 case rest =>
  obtain ⟨b, up, rfl, hbl, hrow, hpk, hO⟩ := hcut
  obtain ⟨w2, rfl⟩ : ∃ x, x = wc := ⟨_, rfl⟩
  have HBL := Lib.hid hbl
  have HR0 := Lib.hid (show w2.heap[b]? = some (.cells (enCells (makeE q) up (.slice none 0 0) (.slice none 0 0)) 44 (0, 0)) from hrow)
  have HPK := Lib.hid hpk
  have HO0 := Lib.hid (show Only (fun i => i = b) w1 w2 from hO.mono (fun _ _ h => h.elim))
  have HOF := Lib.hid hO
  have HS1 := Lib.hid hs1
  have HWS := Lib.hid hO.size
  obtain ⟨aw, cw, rfl⟩ := HQ1.out.wishes.slice
  obtain ⟨ag, cg, rfl⟩ := HQ1.out.groups.slice
  have HPW := Lib.hid HQ1.out.wishes
  have HPG := Lib.hid HQ1.out.groups
  clear hbl hrow hpk hO
  go_upto_block 0 with (fail)
  go_cut [] (fun wx => ∃ uv, wx.heap[b]? = some (.cells (enCells (makeE q) up uv (.slice none 0 0)) 44 (0, 0)) ∧ wx.ownsRow w2.heap.size 9 1 uv (min q.wishes.length 14) (nrow (nmsZ q.wild q.wishes (min q.wishes.length 14))) ∧ Only (fun i => i = b) w2 wx)
  case first =>
   go_wp2_with fail
   go_loopw [4] (fun iv wr => ∃ (k : Nat) (uv : Value), iv = .int .i64 k ∧ k ≤ min q.wishes.length 14 ∧ wr.heap[b]? = some (.cells (enCells (makeE q) up uv (.slice none 0 0)) 44 (0, 0)) ∧ wr.ownsRow w2.heap.size 9 1 uv k (nrow (nmsZ q.wild q.wishes k)) ∧ Only (fun i => i = b) w2 wr) (fun iv _ => 14 - (intOf iv).toNat)
   case atStart => exact ⟨0, .slice none 0 0, rfl, Nat.zero_le _, HR0.out, World.ownsRow_nil _ _ _ _, Only.refl _ _⟩
   case round =>
    obtain ⟨k, uv, rfl, hk, hrow, hown, hO⟩ := hrel
    obtain ⟨au, cu, rfl⟩ := slice_of_own hown
    have HR := Lib.hid hrow
    have HWO := Lib.hid hown
    have HO := Lib.hid hO
    have HOw := Lib.hid (show Only (fun i => i = b) w1 wr from (HO0.out.trans HO.out))
    have HZr := Lib.hid ((HOw.out.block B (by have := HS1.out; omega) (by have := HBL.out; have := HS1.out; omega)).trans HZ0.out)
    clear hrow hown hO
    have e4 : wr.cell? ⟨B, 4, none⟩ = some (.slice aw q.wishes.length cw) := cell_of_row _ _ 4 _ _ _ HZr.out
    have hBr : B < wr.heap.size := (Array.getElem?_eq_some_iff.1 HZr.out).1
    have hbr : b < wr.heap.size := (Array.getElem?_eq_some_iff.1 HR.out).1
    have j0 : 0 ≤ (k : Int) := by omega
    by_cases hlt : k < q.wishes.length
    ·by_cases h14 : k < 14
     ·have j1 : (k : Int) < q.wishes.length := by omega
      have j2 : (k : Int) < 14 := by omega
      obtain ⟨xb, xo, hal, hxb, _, hc1, hc2, hx0⟩ := HPW.out.cellAt hlt
      subst hal
      have HX0 := Lib.hid (HOw.out.cell hx0 (by show ¬ xb = b; have := HBL.out; omega))
      have HBS := Lib.hid (show B < w2.heap.size ∧ xb < w2.heap.size by have := HS1.out; have := HWS.out; omega)
      have HLT := Lib.hid hlt
      have HK14 := Lib.hid h14
      clear hx0 hlt h14 hk
      go_upto_region 5 with (fail)
      clear e4
      obtain ⟨i0, hi, hz0, hz1, hz2⟩ := info_parts Tryz.infoStr
      have HI := Lib.hid hi
      have HI0 := Lib.hid hz0
      have HI1 := Lib.hid hz1
      have HI2 := Lib.hid hz2
      clear hi hz0 hz1 hz2
      refine wp_region_split2 12 (by kernel_rfl) (by kernel_rfl) (wpAny_of_held (S := fun W => Only (fun i => (Value.slice au k cu).ownBlock = some i) wr.drew W) _ _ _ _ ?_)
      simp only [List.take_succ_cons, List.take_zero]
      change wpAnyH _ _ _ _ _ _ _ _ wr.drew
      have HKS := Lib.hid (show ∀ W, Only (fun i => (Value.slice au k cu).ownBlock = some i) wr.drew W → W.cell? ⟨B, 4, none⟩ = some (.slice (some ⟨xb, xo, none⟩) q.wishes.length cw) ∧ W.cell? ⟨B, 6, none⟩ = some (.bool q.wild) ∧ W.cell? ⟨xb, xo + k, none⟩ = some (.int .i64 (ptAt q.wishes k)) ∧ W.cell? ⟨b, 4, none⟩ = some (.slice au k cu) from fun W hW => ⟨hW.cell (cell_of_row wr.drew B 4 _ _ _ HZr.out) (fun e => by have := ownR_ge (g := B) HWO.out e; have := HBS.out; omega), hW.cell (cell_of_row wr.drew B 6 _ _ _ HZr.out) (fun e => by have := ownR_ge (g := B) HWO.out e; have := HBS.out; omega), hW.cell HX0.out (fun e => by have := ownR_ge (g := xb) HWO.out e; have := HBS.out; omega), hW.cell (cell_of_row wr.drew b 4 _ _ _ HR.out) (fun e => ownR_blk HWO.out HR.out (by decide) e)⟩)
      have hHeld : Only (fun i => (Value.slice au k cu).ownBlock = some i) wr.drew wr.drew := Only.refl _ _
      have HOX := Lib.hid hHeld
      have HT := Lib.hid (owns_drew HWO.out)
      have HGD := Lib.hid (show w2.heap.size ≤ wr.drew.heap.size from HO.out.size)
      have HGR := Lib.hid (show wr.heap.size = wr.drew.heap.size from rfl)
      obtain ⟨wd, hwd⟩ : ∃ wd, wr.drew = wd := ⟨_, rfl⟩
      have HWD := Lib.hid hwd
      rw [hwd] at HKS HT hHeld HOX HGD HGR ⊢
      clear hwd
      refine' wpAnyH_take (i := 0) (v := _) rfl (by kernel_rfl) (by kernel_rfl) (by kernel_rfl) (fun _ _ _ h => h) (Or.inl ⟨by rfl, ?hz4x0⟩) hHeld ?rz4x0
      case hz4x0 => (intro w hSw; obtain ⟨y0, y1, y2, y3⟩ := HKS.out _ hSw; go_simp; with_reducible rfl)
      try simp only [Act.put, List.getElem_toArray, List.getElem_cons_zero, List.setIfInBounds_toArray, List.set_cons_zero, List.set_cons_succ]
      refine' wpAnyH_take (i := 1) (v := _) rfl (by kernel_rfl) (by kernel_rfl) (by kernel_rfl) (fun _ _ _ h => h) (Or.inl ⟨by rfl, ?hz4x1⟩) hHeld ?rz4x1
      case hz4x1 => (intro w hSw; obtain ⟨y0, y1, y2, y3⟩ := HKS.out _ hSw; go_simp; with_reducible rfl)
      try simp only [Act.put, List.getElem_toArray, List.getElem_cons_zero, List.getElem_cons_succ, List.setIfInBounds_toArray, List.set_cons_zero, List.set_cons_succ]
      refine' wpAnyH_take (i := 2) (v := _) rfl (by kernel_rfl) (by kernel_rfl) (by kernel_rfl) (fun _ _ _ h => h) (Or.inl ⟨by rfl, ?hz4x2⟩) hHeld ?rz4x2
      case hz4x2 => (intro w hSw; obtain ⟨y0, y1, y2, y3⟩ := HKS.out _ hSw; go_simp; with_reducible rfl)
      try simp only [Act.put, List.getElem_toArray, List.getElem_cons_zero, List.getElem_cons_succ, List.setIfInBounds_toArray, List.set_cons_zero, List.set_cons_succ]
      refine' wpAnyH_take (i := 3) (v := _) rfl (by kernel_rfl) (by kernel_rfl) (by kernel_rfl) (fun _ _ _ h => h) (Or.inl ⟨by rfl, ?hz4x3⟩) hHeld ?rz4x3
      case hz4x3 => (intro w hSw; obtain ⟨y0, y1, y2, y3⟩ := HKS.out _ hSw; go_simp; with_reducible rfl)
      try simp only [Act.put, List.getElem_toArray, List.getElem_cons_zero, List.getElem_cons_succ, List.setIfInBounds_toArray, List.set_cons_zero, List.set_cons_succ]
      refine' wpAnyH_take (i := 4) (v := _) rfl (by kernel_rfl) (by kernel_rfl) (by kernel_rfl) (fun _ _ _ h => h) (Or.inl ⟨by rfl, ?hz4x4⟩) hHeld ?rz4x4
      case hz4x4 => (intro w hSw; obtain ⟨y0, y1, y2, y3⟩ := HKS.out _ hSw; go_simp; with_reducible rfl)
      try simp only [Act.put, List.getElem_toArray, List.getElem_cons_zero, List.getElem_cons_succ, List.setIfInBounds_toArray, List.set_cons_zero, List.set_cons_succ]
      refine' wpAnyH_take (i := 5) (v := _) rfl (by kernel_rfl) (by kernel_rfl) (by kernel_rfl) (fun _ _ _ h => h) (Or.inl ⟨by rfl, ?hz4x5⟩) hHeld ?rz4x5
      case hz4x5 => (intro w hSw; obtain ⟨y0, y1, y2, y3⟩ := HKS.out _ hSw; go_simp; with_reducible rfl)
      try simp only [Act.put, List.getElem_toArray, List.getElem_cons_zero, List.getElem_cons_succ, List.setIfInBounds_toArray, List.set_cons_zero, List.set_cons_succ]
      refine' wpAnyH_take (i := 6) (v := _) rfl (by kernel_rfl) (by kernel_rfl) (by kernel_rfl) (fun _ _ _ h => h) (Or.inl ⟨by rfl, ?hz4x6⟩) hHeld ?rz4x6
      case hz4x6 => (intro w hSw; obtain ⟨y0, y1, y2, y3⟩ := HKS.out _ hSw; go_simp; with_reducible rfl)
      try simp only [Act.put, List.getElem_toArray, List.getElem_cons_zero, List.getElem_cons_succ, List.setIfInBounds_toArray, List.set_cons_zero, List.set_cons_succ]
      refine' wpAnyH_take (i := 7) (v := _) rfl (by kernel_rfl) (by kernel_rfl) (by kernel_rfl) (fun _ _ _ h => h) (Or.inl ⟨by rfl, ?hz4x7⟩) hHeld ?rz4x7
      case hz4x7 => (intro w hSw; obtain ⟨y0, y1, y2, y3⟩ := HKS.out _ hSw; go_simp; with_reducible rfl)
      try simp only [Act.put, List.getElem_toArray, List.getElem_cons_zero, List.getElem_cons_succ, List.setIfInBounds_toArray, List.set_cons_zero, List.set_cons_succ]
      refine' wpAnyH_take (i := 8) (v := _) rfl (by kernel_rfl) (by kernel_rfl) (by kernel_rfl) (fun _ _ _ h => h) (Or.inl ⟨by rfl, ?hz4x8⟩) hHeld ?rz4x8
      case hz4x8 => (intro w hSw; obtain ⟨y0, y1, y2, y3⟩ := HKS.out _ hSw; go_simp; with_reducible rfl)
      try simp only [Act.put, List.getElem_toArray, List.getElem_cons_zero, List.getElem_cons_succ, List.setIfInBounds_toArray, List.set_cons_zero, List.set_cons_succ]
      refine wpAnyH_ready (rs := [9]) (by kernel_rfl) (by simp) ?_
      refine AllReadyH.cons rfl (fun K hK => ?_) AllReadyH.nil
      go_simp
      refine (nameP_any _ _ _).mono ?_
      rintro e v1 ⟨rfl, hST⟩
      have HOX := Lib.hid (HOX.out.trans' hST (fun _ _ h => h.elim))
      have HT := Lib.hid (hST.owns HT.out (fun _ _ h => h))
      refine hK.out _ _ HOX.out (fun hHeld => ?_)
      clear hK K
      try simp only [Act.put, List.getElem_toArray, List.getElem_cons_zero, List.getElem_cons_succ, List.setIfInBounds_toArray, List.set_cons_zero, List.set_cons_succ]
      clear hST
      refine wpAnyH_ready (rs := [10]) (by kernel_rfl) (by simp) ?_
      refine AllReadyH.cons rfl (fun K hK => ?_) AllReadyH.nil
      go_simp
      have HST := Lib.hid ((Only.refl (fun _ => False) v1).alloc (.cells #[.string (nmZ q.wild (ptAt q.wishes k))] 9))
      have HN := Lib.hid (show (v1.alloc (.cells #[.string (nmZ q.wild (ptAt q.wishes k))] 9)).ownsRow v1.heap.size 9 1 (.slice (some ⟨v1.heap.size, 0, none⟩) 1 1) 1 (nrow [nmZ q.wild (ptAt q.wishes k)]) from own_newN v1 9 1 1 [.string (nmZ q.wild (ptAt q.wishes k))] rfl (by decide))
      have HOX := Lib.hid (HOX.out.trans' HST.out (fun _ _ h => h.elim))
      have HT := Lib.hid (HST.out.owns HT.out (fun _ _ h => h))
      obtain ⟨gn, hgn⟩ : ∃ n, v1.heap.size = n := ⟨_, rfl⟩
      rw [hgn] at HN ⊢
      clear hgn
      refine hK.out _ _ HOX.out (fun hHeld => ?_)
      clear hK K
      try simp only [Act.put, List.getElem_toArray, List.getElem_cons_zero, List.getElem_cons_succ, List.setIfInBounds_toArray, List.set_cons_zero, List.set_cons_succ]
      generalize v1.alloc (.cells #[.string (nmZ q.wild (ptAt q.wishes k))] 9) = v2 at *
      clear HST
      refine wpAnyH_ready (rs := [11]) (by kernel_rfl) (by simp) ?_
      refine AllReadyH.cons rfl (fun K hK => ?_) AllReadyH.nil
      have hws := HOX.out.size
      refine step_append_row rfl _ _ 42 rfl w2.heap.size gn 9 i0 _ 1 16 Tryz.underlying42 HI.out HI0.out HI1.out HI2.out rfl (by decide) _ k (nrow (nmsZ q.wild q.wishes k)) (by rfl) HT.out _ 1 (nrow [nmZ q.wild (ptAt q.wishes k)]) (by rfl) HN.out (nrow_one _) (by have := HK14.out; unfold maxLen; omega) (by have := HK14.out; omega) (by have := HGD.out; omega) ?_
      intro u2 v3 hown hgrow
      rw [← nrow_cat, ← nms_succ _ _ HLT.out] at hown
      obtain ⟨na, nc, rfl⟩ := slice_of_own hown
      have HB := Lib.hid hown
      have HOX := Lib.hid (HOX.out.grown hgrow (fun i e _ => e))
      clear HN HT hown hgrow hws
      refine hK.out _ _ HOX.out (fun hHeld => ?_)
      clear hK K
      try simp only [Act.put, List.getElem_toArray, List.getElem_cons_zero, List.getElem_cons_succ, List.setIfInBounds_toArray, List.set_cons_zero, List.set_cons_succ]
      refine wpAnyH_done (by kernel_rfl) ?_ _
      simp only [headPost, List.drop_succ_cons, List.drop_zero]
      have HOW := Lib.hid (((Only.refl (fun i => (Value.slice au k cu).ownBlock = some i) wr).drew).trans (HWD.out.symm ▸ HOX.out))
      clear hHeld HKS HOX
      have HM9 := Lib.hid ((HOW.out.block b (Array.getElem?_eq_some_iff.1 HR.out).1 (fun e => ownR_blk HWO.out HR.out (by decide) e)).trans HR.out)
      have f9 : v3.frozen? ⟨b, 4, none⟩ = false := frozen_of_row _ _ _ _ _ HM9.out
      have m9 : v3.cell? ⟨b, 4, none⟩ = some (.slice au k cu) := cell_of_row _ _ 4 _ _ _ HM9.out
      have hb9 : b < v3.heap.size := (Array.getElem?_eq_some_iff.1 HM9.out).1
      go_wp2_with fail
      go_roundw
      case rel => exact ⟨k + 1, .slice na (k + 1) nc, by go_num, by have := HK14.out; have := HLT.out; omega, by refine (heap_setCell_same v3 b 4 _ _ _ HM9.out).trans ?_; rfl, set_own HB.out (fun e => ownR_blk HB.out HM9.out (by decide) e), (HO.out.trans' HOW.out (fun i hi e => by have := ownR_ge HWO.out e; omega)).setCell (.inl rfl) _⟩
      case measure => simp [intOf]; have := HK14.out; omega
     ·obtain rfl : k = 14 := by omega
      have j1 : ((14 : Nat) : Int) < q.wishes.length := by omega
      have HE := Lib.hid (show min q.wishes.length 14 = 14 by omega)
      clear hlt hk h14
      go_wp2_with fail
      go_meet
      rw [HE.out]
      exact ⟨_, HR.out, HWO.out, HO.out⟩
    ·obtain rfl : k = q.wishes.length := by omega
     have j1 : ¬ (q.wishes.length : Int) < q.wishes.length := by omega
     have HE := Lib.hid (show min q.wishes.length 14 = q.wishes.length by omega)
     clear hlt hk
     go_wp2_with fail
     go_meet
     rw [HE.out]
     exact ⟨_, HR.out, HWO.out, HO.out⟩
  case rest =>
   obtain ⟨uw, hrow, hown, hO⟩ := hcut
   obtain ⟨w3, rfl⟩ : ∃ x, x = wc := ⟨_, rfl⟩
   have HPW := Lib.hid HPG.out
   have HPK3 := Lib.hid (hO.owns HPK.out (fun g hg e => by subst e; exact ownR_blk HPK.out HR0.out (by decide) hg))
   have HWI3 := Lib.hid hown
   have HR0 := Lib.hid hrow
   have HO0 := Lib.hid (HO0.out.trans hO)
   have HWS3 := Lib.hid hO.size
   have HWS0 := Lib.hid HWS.out
   have HWS := Lib.hid HO0.out.size
   clear hrow hown hO HPK HOF
   go_upto_block 2 with (fail)
   go_cut [] (fun wx => ∃ uv, wx.heap[b]? = some (.cells (enCells (makeE q) up uw uv) 44 (0, 0)) ∧ wx.ownsRow w3.heap.size 9 1 uv (min q.groups.length 14) (nrow (nmsZ q.wild q.groups (min q.groups.length 14))) ∧ Only (fun i => i = b) w3 wx)
   case first =>
    go_wp2_with fail
    go_loopw [5] (fun iv wr => ∃ (k : Nat) (uv : Value), iv = .int .i64 k ∧ k ≤ min q.groups.length 14 ∧ wr.heap[b]? = some (.cells (enCells (makeE q) up uw uv) 44 (0, 0)) ∧ wr.ownsRow w3.heap.size 9 1 uv k (nrow (nmsZ q.wild q.groups k)) ∧ Only (fun i => i = b) w3 wr) (fun iv _ => 14 - (intOf iv).toNat)
    case atStart => exact ⟨0, .slice none 0 0, rfl, Nat.zero_le _, HR0.out, World.ownsRow_nil _ _ _ _, Only.refl _ _⟩
    case round =>
     obtain ⟨k, uv, rfl, hk, hrow, hown, hO⟩ := hrel
     obtain ⟨au, cu, rfl⟩ := slice_of_own hown
     have HR := Lib.hid hrow
     have HWO := Lib.hid hown
     have HO := Lib.hid hO
     have HOw := Lib.hid (show Only (fun i => i = b) w1 wr from (HO0.out.trans HO.out))
     have HZr := Lib.hid ((HOw.out.block B (by have := HS1.out; omega) (by have := HBL.out; have := HS1.out; omega)).trans HZ0.out)
     clear hrow hown hO
     have e4 : wr.cell? ⟨B, 5, none⟩ = some (.slice ag q.groups.length cg) := cell_of_row _ _ 5 _ _ _ HZr.out
     have hBr : B < wr.heap.size := (Array.getElem?_eq_some_iff.1 HZr.out).1
     have hbr : b < wr.heap.size := (Array.getElem?_eq_some_iff.1 HR.out).1
     have j0 : 0 ≤ (k : Int) := by omega
     by_cases hlt : k < q.groups.length
     ·by_cases h14 : k < 14
      ·have j1 : (k : Int) < q.groups.length := by omega
       have j2 : (k : Int) < 14 := by omega
       obtain ⟨xb, xo, hal, hxb, _, hc1, hc2, hx0⟩ := HPW.out.cellAt hlt
       subst hal
       have HX0 := Lib.hid (HOw.out.cell hx0 (by show ¬ xb = b; have := HBL.out; omega))
       have HBS := Lib.hid (show B < w3.heap.size ∧ xb < w3.heap.size by have := HS1.out; have := HWS.out; omega)
       have HLT := Lib.hid hlt
       have HK14 := Lib.hid h14
       clear hx0 hlt h14 hk
       go_upto_region 9 with (fail)
       clear e4
       obtain ⟨i0, hi, hz0, hz1, hz2⟩ := info_parts Tryz.infoStr
       have HI := Lib.hid hi
       have HI0 := Lib.hid hz0
       have HI1 := Lib.hid hz1
       have HI2 := Lib.hid hz2
       clear hi hz0 hz1 hz2
       refine wp_region_split2 12 (by kernel_rfl) (by kernel_rfl) (wpAny_of_held (S := fun W => Only (fun i => (Value.slice au k cu).ownBlock = some i) wr.drew W) _ _ _ _ ?_)
       simp only [List.take_succ_cons, List.take_zero]
       change wpAnyH _ _ _ _ _ _ _ _ wr.drew
       have HKS := Lib.hid (show ∀ W, Only (fun i => (Value.slice au k cu).ownBlock = some i) wr.drew W → W.cell? ⟨B, 5, none⟩ = some (.slice (some ⟨xb, xo, none⟩) q.groups.length cg) ∧ W.cell? ⟨B, 6, none⟩ = some (.bool q.wild) ∧ W.cell? ⟨xb, xo + k, none⟩ = some (.int .i64 (ptAt q.groups k)) ∧ W.cell? ⟨b, 5, none⟩ = some (.slice au k cu) from fun W hW => ⟨hW.cell (cell_of_row wr.drew B 5 _ _ _ HZr.out) (fun e => by have := ownR_ge (g := B) HWO.out e; have := HBS.out; omega), hW.cell (cell_of_row wr.drew B 6 _ _ _ HZr.out) (fun e => by have := ownR_ge (g := B) HWO.out e; have := HBS.out; omega), hW.cell HX0.out (fun e => by have := ownR_ge (g := xb) HWO.out e; have := HBS.out; omega), hW.cell (cell_of_row wr.drew b 5 _ _ _ HR.out) (fun e => ownR_blk HWO.out HR.out (by decide) e)⟩)
       have hHeld : Only (fun i => (Value.slice au k cu).ownBlock = some i) wr.drew wr.drew := Only.refl _ _
       have HOX := Lib.hid hHeld
       have HT := Lib.hid (owns_drew HWO.out)
       have HGD := Lib.hid (show w3.heap.size ≤ wr.drew.heap.size from HO.out.size)
       have HGR := Lib.hid (show wr.heap.size = wr.drew.heap.size from rfl)
       obtain ⟨wd, hwd⟩ : ∃ wd, wr.drew = wd := ⟨_, rfl⟩
       have HWD := Lib.hid hwd
       rw [hwd] at HKS HT hHeld HOX HGD HGR ⊢
       clear hwd
       refine' wpAnyH_take (i := 0) (v := _) rfl (by kernel_rfl) (by kernel_rfl) (by kernel_rfl) (fun _ _ _ h => h) (Or.inl ⟨by rfl, ?hz5x0⟩) hHeld ?rz5x0
       case hz5x0 => (intro w hSw; obtain ⟨y0, y1, y2, y3⟩ := HKS.out _ hSw; go_simp; with_reducible rfl)
       try simp only [Act.put, List.getElem_toArray, List.getElem_cons_zero, List.setIfInBounds_toArray, List.set_cons_zero, List.set_cons_succ]
       refine' wpAnyH_take (i := 1) (v := _) rfl (by kernel_rfl) (by kernel_rfl) (by kernel_rfl) (fun _ _ _ h => h) (Or.inl ⟨by rfl, ?hz5x1⟩) hHeld ?rz5x1
       case hz5x1 => (intro w hSw; obtain ⟨y0, y1, y2, y3⟩ := HKS.out _ hSw; go_simp; with_reducible rfl)
       try simp only [Act.put, List.getElem_toArray, List.getElem_cons_zero, List.getElem_cons_succ, List.setIfInBounds_toArray, List.set_cons_zero, List.set_cons_succ]
       refine' wpAnyH_take (i := 2) (v := _) rfl (by kernel_rfl) (by kernel_rfl) (by kernel_rfl) (fun _ _ _ h => h) (Or.inl ⟨by rfl, ?hz5x2⟩) hHeld ?rz5x2
       case hz5x2 => (intro w hSw; obtain ⟨y0, y1, y2, y3⟩ := HKS.out _ hSw; go_simp; with_reducible rfl)
       try simp only [Act.put, List.getElem_toArray, List.getElem_cons_zero, List.getElem_cons_succ, List.setIfInBounds_toArray, List.set_cons_zero, List.set_cons_succ]
       refine' wpAnyH_take (i := 3) (v := _) rfl (by kernel_rfl) (by kernel_rfl) (by kernel_rfl) (fun _ _ _ h => h) (Or.inl ⟨by rfl, ?hz5x3⟩) hHeld ?rz5x3
       case hz5x3 => (intro w hSw; obtain ⟨y0, y1, y2, y3⟩ := HKS.out _ hSw; go_simp; with_reducible rfl)
       try simp only [Act.put, List.getElem_toArray, List.getElem_cons_zero, List.getElem_cons_succ, List.setIfInBounds_toArray, List.set_cons_zero, List.set_cons_succ]
       refine' wpAnyH_take (i := 4) (v := _) rfl (by kernel_rfl) (by kernel_rfl) (by kernel_rfl) (fun _ _ _ h => h) (Or.inl ⟨by rfl, ?hz5x4⟩) hHeld ?rz5x4
       case hz5x4 => (intro w hSw; obtain ⟨y0, y1, y2, y3⟩ := HKS.out _ hSw; go_simp; with_reducible rfl)
       try simp only [Act.put, List.getElem_toArray, List.getElem_cons_zero, List.getElem_cons_succ, List.setIfInBounds_toArray, List.set_cons_zero, List.set_cons_succ]
       refine' wpAnyH_take (i := 5) (v := _) rfl (by kernel_rfl) (by kernel_rfl) (by kernel_rfl) (fun _ _ _ h => h) (Or.inl ⟨by rfl, ?hz5x5⟩) hHeld ?rz5x5
       case hz5x5 => (intro w hSw; obtain ⟨y0, y1, y2, y3⟩ := HKS.out _ hSw; go_simp; with_reducible rfl)
       try simp only [Act.put, List.getElem_toArray, List.getElem_cons_zero, List.getElem_cons_succ, List.setIfInBounds_toArray, List.set_cons_zero, List.set_cons_succ]
       refine' wpAnyH_take (i := 6) (v := _) rfl (by kernel_rfl) (by kernel_rfl) (by kernel_rfl) (fun _ _ _ h => h) (Or.inl ⟨by rfl, ?hz5x6⟩) hHeld ?rz5x6
       case hz5x6 => (intro w hSw; obtain ⟨y0, y1, y2, y3⟩ := HKS.out _ hSw; go_simp; with_reducible rfl)
       try simp only [Act.put, List.getElem_toArray, List.getElem_cons_zero, List.getElem_cons_succ, List.setIfInBounds_toArray, List.set_cons_zero, List.set_cons_succ]
       refine' wpAnyH_take (i := 7) (v := _) rfl (by kernel_rfl) (by kernel_rfl) (by kernel_rfl) (fun _ _ _ h => h) (Or.inl ⟨by rfl, ?hz5x7⟩) hHeld ?rz5x7
       case hz5x7 => (intro w hSw; obtain ⟨y0, y1, y2, y3⟩ := HKS.out _ hSw; go_simp; with_reducible rfl)
       try simp only [Act.put, List.getElem_toArray, List.getElem_cons_zero, List.getElem_cons_succ, List.setIfInBounds_toArray, List.set_cons_zero, List.set_cons_succ]
       refine' wpAnyH_take (i := 8) (v := _) rfl (by kernel_rfl) (by kernel_rfl) (by kernel_rfl) (fun _ _ _ h => h) (Or.inl ⟨by rfl, ?hz5x8⟩) hHeld ?rz5x8
       case hz5x8 => (intro w hSw; obtain ⟨y0, y1, y2, y3⟩ := HKS.out _ hSw; go_simp; with_reducible rfl)
       try simp only [Act.put, List.getElem_toArray, List.getElem_cons_zero, List.getElem_cons_succ, List.setIfInBounds_toArray, List.set_cons_zero, List.set_cons_succ]
       refine wpAnyH_ready (rs := [9]) (by kernel_rfl) (by simp) ?_
       refine AllReadyH.cons rfl (fun K hK => ?_) AllReadyH.nil
       go_simp
       refine (nameP_any _ _ _).mono ?_
       rintro e v1 ⟨rfl, hST⟩
       have HOX := Lib.hid (HOX.out.trans' hST (fun _ _ h => h.elim))
       have HT := Lib.hid (hST.owns HT.out (fun _ _ h => h))
       refine hK.out _ _ HOX.out (fun hHeld => ?_)
       clear hK K
       try simp only [Act.put, List.getElem_toArray, List.getElem_cons_zero, List.getElem_cons_succ, List.setIfInBounds_toArray, List.set_cons_zero, List.set_cons_succ]
       clear hST
       refine wpAnyH_ready (rs := [10]) (by kernel_rfl) (by simp) ?_
       refine AllReadyH.cons rfl (fun K hK => ?_) AllReadyH.nil
       go_simp
       have HST := Lib.hid ((Only.refl (fun _ => False) v1).alloc (.cells #[.string (nmZ q.wild (ptAt q.groups k))] 9))
       have HN := Lib.hid (show (v1.alloc (.cells #[.string (nmZ q.wild (ptAt q.groups k))] 9)).ownsRow v1.heap.size 9 1 (.slice (some ⟨v1.heap.size, 0, none⟩) 1 1) 1 (nrow [nmZ q.wild (ptAt q.groups k)]) from own_newN v1 9 1 1 [.string (nmZ q.wild (ptAt q.groups k))] rfl (by decide))
       have HOX := Lib.hid (HOX.out.trans' HST.out (fun _ _ h => h.elim))
       have HT := Lib.hid (HST.out.owns HT.out (fun _ _ h => h))
       obtain ⟨gn, hgn⟩ : ∃ n, v1.heap.size = n := ⟨_, rfl⟩
       rw [hgn] at HN ⊢
       clear hgn
       refine hK.out _ _ HOX.out (fun hHeld => ?_)
       clear hK K
       try simp only [Act.put, List.getElem_toArray, List.getElem_cons_zero, List.getElem_cons_succ, List.setIfInBounds_toArray, List.set_cons_zero, List.set_cons_succ]
       generalize v1.alloc (.cells #[.string (nmZ q.wild (ptAt q.groups k))] 9) = v2 at *
       clear HST
       refine wpAnyH_ready (rs := [11]) (by kernel_rfl) (by simp) ?_
       refine AllReadyH.cons rfl (fun K hK => ?_) AllReadyH.nil
       have hws := HOX.out.size
       refine step_append_row rfl _ _ 42 rfl w3.heap.size gn 9 i0 _ 1 16 Tryz.underlying42 HI.out HI0.out HI1.out HI2.out rfl (by decide) _ k (nrow (nmsZ q.wild q.groups k)) (by rfl) HT.out _ 1 (nrow [nmZ q.wild (ptAt q.groups k)]) (by rfl) HN.out (nrow_one _) (by have := HK14.out; unfold maxLen; omega) (by have := HK14.out; omega) (by have := HGD.out; omega) ?_
       intro u2 v3 hown hgrow
       rw [← nrow_cat, ← nms_succ _ _ HLT.out] at hown
       obtain ⟨na, nc, rfl⟩ := slice_of_own hown
       have HB := Lib.hid hown
       have HOX := Lib.hid (HOX.out.grown hgrow (fun i e _ => e))
       clear HN HT hown hgrow hws
       refine hK.out _ _ HOX.out (fun hHeld => ?_)
       clear hK K
       try simp only [Act.put, List.getElem_toArray, List.getElem_cons_zero, List.getElem_cons_succ, List.setIfInBounds_toArray, List.set_cons_zero, List.set_cons_succ]
       refine wpAnyH_done (by kernel_rfl) ?_ _
       simp only [headPost, List.drop_succ_cons, List.drop_zero]
       have HOW := Lib.hid (((Only.refl (fun i => (Value.slice au k cu).ownBlock = some i) wr).drew).trans (HWD.out.symm ▸ HOX.out))
       clear hHeld HKS HOX
       have HM9 := Lib.hid ((HOW.out.block b (Array.getElem?_eq_some_iff.1 HR.out).1 (fun e => ownR_blk HWO.out HR.out (by decide) e)).trans HR.out)
       have f9 : v3.frozen? ⟨b, 5, none⟩ = false := frozen_of_row _ _ _ _ _ HM9.out
       have m9 : v3.cell? ⟨b, 5, none⟩ = some (.slice au k cu) := cell_of_row _ _ 5 _ _ _ HM9.out
       have hb9 : b < v3.heap.size := (Array.getElem?_eq_some_iff.1 HM9.out).1
       go_wp2_with fail
       go_roundw
       case rel => exact ⟨k + 1, .slice na (k + 1) nc, by go_num, by have := HK14.out; have := HLT.out; omega, by refine (heap_setCell_same v3 b 5 _ _ _ HM9.out).trans ?_; rfl, set_own HB.out (fun e => ownR_blk HB.out HM9.out (by decide) e), (HO.out.trans' HOW.out (fun i hi e => by have := ownR_ge HWO.out e; omega)).setCell (.inl rfl) _⟩
       case measure => simp [intOf]; have := HK14.out; omega
      ·obtain rfl : k = 14 := by omega
       have j1 : ((14 : Nat) : Int) < q.groups.length := by omega
       have HE := Lib.hid (show min q.groups.length 14 = 14 by omega)
       clear hlt hk h14
       go_wp2_with fail
       go_meet
       rw [HE.out]
       exact ⟨_, HR.out, HWO.out, HO.out⟩
     ·obtain rfl : k = q.groups.length := by omega
      have j1 : ¬ (q.groups.length : Int) < q.groups.length := by omega
      have HE := Lib.hid (show min q.groups.length 14 = q.groups.length by omega)
      clear hlt hk
      go_wp2_with fail
      go_meet
      rw [HE.out]
      exact ⟨_, HR.out, HWO.out, HO.out⟩
   case rest =>
    obtain ⟨ug, hrow, hown, hO⟩ := hcut
    have HR9 := Lib.hid hrow
    have HPK9 := Lib.hid (hO.owns HPK3.out (fun g hg e => by subst e; exact ownR_blk HPK3.out HR0.out (by decide) hg))
    have HWI9 := Lib.hid (hO.owns HWI3.out (fun g hg e => by subst e; exact ownR_blk HWI3.out HR0.out (by decide) hg))
    have HGR9 := Lib.hid hown
    have HO9 := Lib.hid (HO0.out.trans hO)
    have HP9 := Lib.hid ((HO9.out.block (B + 1) (by have := HS1.out; omega) (by have := HBL.out; have := HS1.out; omega)).trans HP0.out)
    clear hrow hown hO
    go_wp2_with (first
     | (refine wpList_load_row rfl 44 _ rfl b rfl 44 (enCells (makeE q) up uw ug) (0, 0) _ HR9.out Tryz.underlying44 rfl Tryz.infoEn ?_)
     | (refine wpList_store_row rfl 44 _ _ rfl (B + 1) (enCells (makeE q) up uw ug) rfl rfl 44 _ HP9.out Tryz.infoEn rfl (by obtain ⟨a1, c1, e1⟩ := slice_of_own HPK9.out; obtain ⟨a2, c2, e2⟩ := slice_of_own HWI9.out; obtain ⟨a3, c3, e3⟩ := slice_of_own HGR9.out; rw [e1, e2, e3]; simp [enCells, Value.oneCell']) ?_))
    have hSR : Only (fun k => k = B + 1) wc (wc.setRow (B + 1) (enCells (makeE q) up uw ug)) := onlyR_row (S := fun k => k = B + 1) (Only.refl _ _) (.inl rfl) _
    have l1 : (makeE q).picks.length = min q.picks.length 62 := by unfold makeE; rw [List.length_take]; omega
    have l2 : (makeE q).wishes.length = min q.wishes.length 14 := nms_len _ _ (by omega)
    have l3 : (makeE q).groups.length = min q.groups.length 14 := nms_len _ _ (by omega)
    have hsz : w.heap.size ≤ w1.heap.size ∧ w.heap.size ≤ w2.heap.size ∧ w.heap.size ≤ w3.heap.size := by have := HS1.out; have := HWS0.out; have := HWS3.out; omega
    exact bodyPost_ret (v := .agg (enCells (makeE q) up uw ug)) (results_cell_row rfl _ _ (B + 1) 44 (enCells (makeE q) up uw ug) (0, 0) _ rfl (setRow_heap _ _ _ _ _ _ HP9.out) Tryz.underlying44 rfl Tryz.infoEn) rfl ⟨up, uw, ug, rfl, ⟨by rw [l1]; exact hSR.owns (ownR_base HPK9.out hsz.1) (fun g hg e => by subst e; exact ownR_blk HPK9.out HP9.out (by decide) hg), by rw [l2]; exact hSR.owns (ownR_base HWI9.out hsz.2.1) (fun g hg e => by subst e; exact ownR_blk HWI9.out HP9.out (by decide) hg), by rw [l3]; exact hSR.owns (ownR_base HGR9.out hsz.2.2) (fun g hg e => by subst e; exact ownR_blk HGR9.out HP9.out (by decide) hg)⟩, (HW1.out.trans' HO9.out (fun i hi e => by have := HBL.out; have := HS1.out; omega)).setRow (by omega) _⟩
end Go.Proofs.YteikkpiginfbkaaGreatDoor
