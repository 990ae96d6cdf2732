/-
  Rules: the walk of Plan.Make. (Under way.)
  Rules: the reference's Bent gives some text of bounded size.
  Rules: the program's PrintEntrant.
  Rules: the closures of the program's ParseEntrant: next, amount, names.
  Rules: draws that are made side by side (what each operation of such a statement leaves).
  Rules: three draws in variables, one of which is changed.
-/
import Derived.Test.YteikkpiginfbkaaGreatDoorPg22
import Derived.Laws.BytesArg
import Derived.Test.YteikkpiginfbkaaGreatDoorPg18
import Derived.Test.YteikkpiginfbkaaGreatDoorPg05
import Derived.Deep.MidRow
namespace Go.Proofs.YteikkpiginfbkaaGreatDoor
open Go.RowKit


/-- A plan's lists lie in a world. -/
structure PlAt13 (w : World) (p : Plan13) (vl vb : Value) : Prop where
  lines : ∃ a c, vl = .slice a p.lines.length c ∧ p.lines.length ≤ c ∧ c ≤ 9223372036854775807 ∧ ∀ k (_ : k < p.lines.length), ∃ b off, a = some ⟨b, off, none⟩ ∧ b < w.heap.size ∧ w.cell? ⟨b, off + k * 3, none⟩ = some (.int .i64 p.lines[k].1) ∧ w.cell? ⟨b, off + k * 3 + 1, none⟩ = some (.int .i64 p.lines[k].2.1) ∧ w.cell? ⟨b, off + k * 3 + 2, none⟩ = some (.int .i64 p.lines[k].2.2)
  bars : PtsAt w.heap.size w vb p.barred
def base0 (p : Plan13) : Dr := { name := nmZ p.wild p.h0, kind := kdZ p, round := nbZ p.wild p.h1, price := nbZ p.wild p.h2, pool := 0, pick := 0, tiers := [], roll := false, places := [], cls := 0, size := 0, quotas := [], barred := [] }
def PlS (B : Nat) (p : Plan13) (vl vb : Value) (W : World) : Prop := W.cell? ⟨B, 0, none⟩ = some (Value.int .i64 p.kind) ∧ W.cell? ⟨B, 1, none⟩ = some (Value.int .i64 p.h0) ∧ W.cell? ⟨B, 2, none⟩ = some (Value.int .i64 p.h1) ∧ W.cell? ⟨B, 3, none⟩ = some (Value.int .i64 p.h2) ∧ W.cell? ⟨B, 4, none⟩ = some (Value.int .i64 p.h3) ∧ W.cell? ⟨B, 5, none⟩ = some (Value.int .i64 p.h4) ∧ W.cell? ⟨B, 6, none⟩ = some (Value.int .i64 p.h5) ∧ W.cell? ⟨B, 7, none⟩ = some (vl) ∧ W.cell? ⟨B, 8, none⟩ = some (Value.bool p.roll) ∧ W.cell? ⟨B, 9, none⟩ = some (vb) ∧ W.cell? ⟨B, 10, none⟩ = some (Value.bool p.wild)
theorem PlS.of {W : World} {B : Nat} {p : Plan13} {vl vb : Value} {fr : Nat × Nat} (h : W.heap[B]? = some (.cells (plCells p vl vb) 26 fr)) : PlS B p vl vb W :=
  ⟨cell_of_row _ _ 0 _ _ _ h, cell_of_row _ _ 1 _ _ _ h, cell_of_row _ _ 2 _ _ _ h, cell_of_row _ _ 3 _ _ _ h, cell_of_row _ _ 4 _ _ _ h, cell_of_row _ _ 5 _ _ _ h, cell_of_row _ _ 6 _ _ _ h, cell_of_row _ _ 7 _ _ _ h, cell_of_row _ _ 8 _ _ _ h, cell_of_row _ _ 9 _ _ _ h, cell_of_row _ _ 10 _ _ _ h⟩
theorem PlS.only {W W' : World} {B : Nat} {p : Plan13} {vl vb : Value} (h : PlS B p vl vb W) (hO : Only (fun _ => False) W W') : PlS B p vl vb W' := by
  obtain ⟨s0, s1, s2, s3, s4, s5, s6, s7, s8, s9, s10⟩ := h
  exact ⟨hO.cell s0 id, hO.cell s1 id, hO.cell s2 id, hO.cell s3 id, hO.cell s4 id, hO.cell s5 id, hO.cell s6 id, hO.cell s7 id, hO.cell s8 id, hO.cell s9 id, hO.cell s10 id⟩
theorem own_newN (w : World) (e : TypeId) (size n : Nat) (xs : List Value) (hl : xs.length = n * size) (hn : n ≤ 1000) : (w.alloc (.cells xs.toArray e)).ownsRow w.heap.size e size (.slice (some ⟨w.heap.size, 0, none⟩) n n) n xs :=
  ⟨hl, .inr ⟨w.heap.size, n, xs.toArray, rfl, Nat.le_refl _, heap_alloc_last w _, Nat.le_refl _, by unfold maxLen; omega, by simpa using hl, by rw [List.take_of_length_le (by rw [Array.length_toList]; simp [hl])]⟩⟩
theorem step_append_row {P : Program} {ops : Array Oper} {o : Oper} {a : Act} {w : World} {K : Act → World → Prop} {Q : Exit → Act → World → Prop} {E : Prop} (hgd : o.guard = none) (s x : Operand) (t : TypeId)
    (ho : o.op = .call { callee := .builtin .append, args := #[s, x], argTypes := #[t, t] })
    (base base2 : Nat) (e : TypeId) (i : TypeInfo) (z : Value) (size bytes : Nat) (ht : P.underlying t = some (.slice e)) (hi : P.info? e = some i) (hz : i.zero = some z)
    (hsize : i.size = size) (hby : i.bytes = bytes) (hzs : z.cells.size = size) (hsz : 0 < size)
    (v : Value) (n : Nat) (xs : List Value) (hs : a.eval s = v) (hown : w.ownsRow base e size v n xs)
    (u : Value) (m : Nat) (news : List Value) (hx : a.eval x = u) (hown2 : w.ownsRow base2 e size u m news) (h1 : ∀ y ∈ news, y.oneCell' = true)
    (h63 : n + m ≤ maxLen) (hbytes : (n + m) * bytes ≤ 140737488355328) (hbase : base ≤ w.heap.size)
    (h : ∀ v' w', w'.ownsRow base e size v' (n + m) (xs ++ news) → w.grownBy w' v.ownBlock → K (a.put o.dst v') w') :
    if Region.wanted o (yielded ops a.tmps) = true then Oper.wp P o a w K Q else E := by
  have hw : Region.wanted o (yielded ops a.tmps) = true := by simp [Region.wanted, hgd]
  rw [if_pos hw]
  rcases hown2.2 with ⟨rfl, rfl⟩ | ⟨g, cap, cur, rfl, hb, hg, hnc, hcm, hcs, htake⟩
  · obtain rfl : news = [] := List.eq_nil_of_length_eq_zero (by simpa using hown2.1)
    have hrun := run_append_owned_none (P := P) (w := w) base t o.type e i size ht hi v n xs hown
    unfold Oper.wp execOp
    simp only [ho, resolve, invoke, builtin, Sem.run_bind, Sem.run_pure, Result.andThen_ok, List.map_toArray, List.map_cons, List.map_nil, hs, hx, hrun]
    exact h v w (by simpa using hown) ⟨rfl, rfl, rfl, Nat.le_refl _, fun _ _ _ => rfl⟩
  · exact wp_append_own w s x t ho base e i z size bytes ht hi hz hsize hby hzs hsz v n xs hs hown ⟨g, 0, none⟩ m cap news hx hown2.1 (hown2.cells rfl) h1 h63 hbytes hbase (fun v' w' h2 h3 _ => h v' w' h2 h3)
theorem trow_one (l : List (Int × Int)) : ∀ y ∈ trow l, y.oneCell' = true := by
  intro y hy
  obtain ⟨x, _, h⟩ := List.mem_flatMap.1 hy
  simp only [List.mem_cons, List.not_mem_nil, or_false] at h
  rcases h with rfl | rfl <;> rfl
theorem prow_one (l : List (ByteArray × Int)) : ∀ y ∈ prow l, y.oneCell' = true := by
  intro y hy
  obtain ⟨x, _, h⟩ := List.mem_flatMap.1 hy
  simp only [List.mem_cons, List.not_mem_nil, or_false] at h
  rcases h with rfl | rfl <;> rfl
theorem qrow_one (l : List (ByteArray × Int × Int)) : ∀ y ∈ qrow l, y.oneCell' = true := by
  intro y hy
  obtain ⟨x, _, h⟩ := List.mem_flatMap.1 hy
  simp only [List.mem_cons, List.not_mem_nil, or_false] at h
  rcases h with rfl | rfl | rfl <;> rfl
theorem irow_oneR (l : List Int) : ∀ y ∈ irow l, y.oneCell' = true := by
  intro y hy
  obtain ⟨x, _, rfl⟩ := List.mem_map.1 hy
  rfl
theorem own_rows {base g : Nat} {W : World} {d : Dr} {vt vp vq vb : Value} {cs old : Array Value} (h : DrOwn base W d vt vp vq vb) (_hs : (W.setRow g cs).heap[g]? = some (.cells cs 33 (0, 0))) (hr : W.heap[g]? = some (.cells old 33 (0, 0))) : DrOwn base (W.setRow g cs) d vt vp vq vb := by
  have hO : Only (fun k => k = g) W (W.setRow g cs) := onlyR_row (S := fun k => k = g) (Only.refl _ _) (.inl rfl) cs
  exact ⟨hO.owns h.tiers (fun k hk e => by rw [e] at hk; exact ownR_blk h.tiers hr (by decide) hk), hO.owns h.places (fun k hk e => by rw [e] at hk; exact ownR_blk h.places hr (by decide) hk), hO.owns h.quotas (fun k hk e => by rw [e] at hk; exact ownR_blk h.quotas hr (by decide) hk), hO.owns h.bars (fun k hk e => by rw [e] at hk; exact ownR_blk h.bars hr (by decide) hk)⟩
theorem row_set_other {W : World} {b g k : Nat} {v : Value} {o : Obj} (h : W.heap[b]? = some o) (hne : b ≠ g) : (W.setCell ⟨g, k, none⟩ v).heap[b]? = some o := (heap_setCell_other W ⟨g, k, none⟩ b v hne).trans h
set_option maxRecDepth 100000 in
set_option maxHeartbeats 8000000 in
theorem make_any (p : Plan13) (vl vb : Value) (w : World) (hp : PlAt13 w p vl vb) (h64 : Pl64 p) :
    Calls Tryz.prog 12 #[.agg (plCells p vl vb)] w fun e w' => ∃ vt vp vq vx, e = .returned (.agg (drCells (makeZ p) vt vp vq vx)) ∧ DrOwn w.heap.size w' (makeZ p) vt vp vq vx ∧ Only (fun _ => False) w w' := by
  have HZ := Lib.hid (heap_alloc_last w (.cells (plCells p vl vb) 26))
  have HPL := Lib.hid hp
  have H64 := Lib.hid h64
  have HMK := Lib.hid (fun k (h : k ≤ p.lines.length) => lines_ok p h64 k h)
  clear hp h64
  go_enter Tryz.func12, Tryz.ntmps12
  go_upto_region 1 with (fail)
  obtain ⟨B, hB⟩ : ∃ B, w.heap.size = B := ⟨_, rfl⟩
  have HZ0 := Lib.hid (row_still ((Only.refl (fun _ => False) _).alloc (.cells #[.string ⟨#[]⟩, .int .i64 0, .int .i64 0, .int .i64 0, .int .i64 0, .int .i64 0, .slice none 0 0, .bool false, .slice none 0 0, .int .i64 0, .int .i64 0, .slice none 0 0, .slice none 0 0] 33)) HZ.out)
  have HP0 := Lib.hid (heap_alloc_last (w.alloc (.cells (plCells p vl vb) 26)) (.cells #[.string ⟨#[]⟩, .int .i64 0, .int .i64 0, .int .i64 0, .int .i64 0, .int .i64 0, .slice none 0 0, .bool false, .slice none 0 0, .int .i64 0, .int .i64 0, .slice none 0 0, .slice none 0 0] 33))
  have HW1 := Lib.hid (((Only.refl (fun _ => False) w).alloc (.cells (plCells p vl vb) 26)).alloc (.cells #[.string ⟨#[]⟩, .int .i64 0, .int .i64 0, .int .i64 0, .int .i64 0, .int .i64 0, .slice none 0 0, .bool false, .slice none 0 0, .int .i64 0, .int .i64 0, .slice none 0 0, .slice none 0 0] 33))
  have hs1 : (World.alloc (World.alloc w (.cells (plCells p vl vb) 26)) (.cells #[.string ⟨#[]⟩, .int .i64 0, .int .i64 0, .int .i64 0, .int .i64 0, .int .i64 0, .slice none 0 0, .bool false, .slice none 0 0, .int .i64 0, .int .i64 0, .slice none 0 0, .slice none 0 0] 33)).heap.size = B + 2 := by simp [hB]
  rw [World.size_alloc] at HP0
  rw [hB] at HZ0 HP0 ⊢
  generalize World.alloc (World.alloc w _) _ = w1 at *
  have HP := Lib.hid (PlS.of HZ0.out)
  have HKD := Lib.hid (show IntKind.i64.wrap (1 + p.kind % 3) = kdZ p from IntWalk.i64_in _ (by omega))
  go_cut [3] (fun v wx => ∃ b, v = .pointer (some ⟨b, 0, none⟩) ∧ w1.heap.size ≤ b ∧ wx.heap[b]? = some (.cells (drCells (base0 p) (.slice none 0 0) (.slice none 0 0) (.slice none 0 0) (.slice none 0 0)) 33 (0, 0)) ∧ Only (fun _ => False) w1 wx)
  case first =>
    as_aux_lemma =>
      refine wp_region_split2 22 (by kernel_rfl) (by kernel_rfl) (wpAny_of_held (S := PlS B p vl vb) _ _ _ _ ?_)
      simp only [List.take_succ_cons, List.take_zero]
      change wpAnyH _ _ _ _ _ _ _ _ w1.drew
      have hHeld : PlS B p vl vb w1.drew := PlS.only HP.out (Only.refl _ w1).drew
      have HOX := Lib.hid ((Only.refl (fun _ => False) w1).drew)
      generalize w1.drew = v0 at *
      refine' wpAnyH_take (i := 0) (v := _) rfl (by kernel_rfl) (by kernel_rfl) (by kernel_rfl) (fun _ _ _ h => h) (Or.inl ⟨by rfl, ?hya0⟩) hHeld ?ra0
      case hya0 => (intro w hSw; obtain ⟨s0, s1, s2, s3, s4, s5, s6, s7, s8, s9, s10⟩ := hSw; go_simp; with_reducible rfl)
      simp only [Act.put, List.getElem_toArray, List.getElem_cons_zero, List.setIfInBounds_toArray, List.set_cons_zero, List.set_cons_succ]
      refine' wpAnyH_take (i := 1) (v := _) rfl (by kernel_rfl) (by kernel_rfl) (by kernel_rfl) (fun _ _ _ h => h) (Or.inl ⟨by rfl, ?hya1⟩) hHeld ?ra1
      case hya1 => (intro w hSw; obtain ⟨s0, s1, s2, s3, s4, s5, s6, s7, s8, s9, s10⟩ := hSw; go_simp; with_reducible rfl)
      simp only [Act.put, List.getElem_toArray, List.getElem_cons_zero, List.getElem_cons_succ, List.setIfInBounds_toArray, List.set_cons_zero, List.set_cons_succ]
      refine' wpAnyH_take (i := 4) (v := _) rfl (by kernel_rfl) (by kernel_rfl) (by kernel_rfl) (fun _ _ _ h => h) (Or.inl ⟨by rfl, ?hya4⟩) hHeld ?ra4
      case hya4 => (intro w hSw; obtain ⟨s0, s1, s2, s3, s4, s5, s6, s7, s8, s9, s10⟩ := hSw; go_simp; with_reducible rfl)
      simp only [Act.put, List.getElem_toArray, List.getElem_cons_zero, List.getElem_cons_succ, List.setIfInBounds_toArray, List.set_cons_zero, List.set_cons_succ]
      refine' wpAnyH_take (i := 5) (v := _) rfl (by kernel_rfl) (by kernel_rfl) (by kernel_rfl) (fun _ _ _ h => h) (Or.inl ⟨by rfl, ?hya5⟩) hHeld ?ra5
      case hya5 => (intro w hSw; obtain ⟨s0, s1, s2, s3, s4, s5, s6, s7, s8, s9, s10⟩ := hSw; go_simp; with_reducible rfl)
      simp only [Act.put, List.getElem_toArray, List.getElem_cons_zero, List.getElem_cons_succ, List.setIfInBounds_toArray, List.set_cons_zero, List.set_cons_succ]
      refine' wpAnyH_take (i := 6) (v := _) rfl (by kernel_rfl) (by kernel_rfl) (by kernel_rfl) (fun _ _ _ h => h) (Or.inl ⟨by rfl, ?hya6⟩) hHeld ?ra6
      case hya6 => (intro w hSw; obtain ⟨s0, s1, s2, s3, s4, s5, s6, s7, s8, s9, s10⟩ := hSw; go_simp; with_reducible rfl)
      simp only [Act.put, List.getElem_toArray, List.getElem_cons_zero, List.getElem_cons_succ, List.setIfInBounds_toArray, List.set_cons_zero, List.set_cons_succ]
      refine' wpAnyH_take (i := 7) (v := _) rfl (by kernel_rfl) (by kernel_rfl) (by kernel_rfl) (fun _ _ _ h => h) (Or.inl ⟨by rfl, ?hya7⟩) hHeld ?ra7
      case hya7 => (intro w hSw; obtain ⟨s0, s1, s2, s3, s4, s5, s6, s7, s8, s9, s10⟩ := hSw; go_simp; with_reducible rfl)
      simp only [Act.put, List.getElem_toArray, List.getElem_cons_zero, List.getElem_cons_succ, List.setIfInBounds_toArray, List.set_cons_zero, List.set_cons_succ]
      refine' wpAnyH_take (i := 8) (v := _) rfl (by kernel_rfl) (by kernel_rfl) (by kernel_rfl) (fun _ _ _ h => h) (Or.inl ⟨by rfl, ?hya8⟩) hHeld ?ra8
      case hya8 => (intro w hSw; obtain ⟨s0, s1, s2, s3, s4, s5, s6, s7, s8, s9, s10⟩ := hSw; go_simp; with_reducible rfl)
      simp only [Act.put, List.getElem_toArray, List.getElem_cons_zero, List.getElem_cons_succ, List.setIfInBounds_toArray, List.set_cons_zero, List.set_cons_succ]
      refine' wpAnyH_take (i := 10) (v := _) rfl (by kernel_rfl) (by kernel_rfl) (by kernel_rfl) (fun _ _ _ h => h) (Or.inl ⟨by rfl, ?hya10⟩) hHeld ?ra10
      case hya10 => (intro w hSw; obtain ⟨s0, s1, s2, s3, s4, s5, s6, s7, s8, s9, s10⟩ := hSw; go_simp; with_reducible rfl)
      simp only [Act.put, List.getElem_toArray, List.getElem_cons_zero, List.getElem_cons_succ, List.setIfInBounds_toArray, List.set_cons_zero, List.set_cons_succ]
      refine' wpAnyH_take (i := 11) (v := _) rfl (by kernel_rfl) (by kernel_rfl) (by kernel_rfl) (fun _ _ _ h => h) (Or.inl ⟨by rfl, ?hya11⟩) hHeld ?ra11
      case hya11 => (intro w hSw; obtain ⟨s0, s1, s2, s3, s4, s5, s6, s7, s8, s9, s10⟩ := hSw; go_simp; with_reducible rfl)
      simp only [Act.put, List.getElem_toArray, List.getElem_cons_zero, List.getElem_cons_succ, List.setIfInBounds_toArray, List.set_cons_zero, List.set_cons_succ]
      refine' wpAnyH_take (i := 12) (v := _) rfl (by kernel_rfl) (by kernel_rfl) (by kernel_rfl) (fun _ _ _ h => h) (Or.inl ⟨by rfl, ?hya12⟩) hHeld ?ra12
      case hya12 => (intro w hSw; obtain ⟨s0, s1, s2, s3, s4, s5, s6, s7, s8, s9, s10⟩ := hSw; go_simp; with_reducible rfl)
      simp only [Act.put, List.getElem_toArray, List.getElem_cons_zero, List.getElem_cons_succ, List.setIfInBounds_toArray, List.set_cons_zero, List.set_cons_succ]
      refine' wpAnyH_take (i := 13) (v := _) rfl (by kernel_rfl) (by kernel_rfl) (by kernel_rfl) (fun _ _ _ h => h) (Or.inl ⟨by rfl, ?hya13⟩) hHeld ?ra13
      case hya13 => (intro w hSw; obtain ⟨s0, s1, s2, s3, s4, s5, s6, s7, s8, s9, s10⟩ := hSw; go_simp; with_reducible rfl)
      simp only [Act.put, List.getElem_toArray, List.getElem_cons_zero, List.getElem_cons_succ, List.setIfInBounds_toArray, List.set_cons_zero, List.set_cons_succ]
      refine' wpAnyH_take (i := 15) (v := _) rfl (by kernel_rfl) (by kernel_rfl) (by kernel_rfl) (fun _ _ _ h => h) (Or.inl ⟨by rfl, ?hya15⟩) hHeld ?ra15
      case hya15 => (intro w hSw; obtain ⟨s0, s1, s2, s3, s4, s5, s6, s7, s8, s9, s10⟩ := hSw; go_simp; with_reducible rfl)
      simp only [Act.put, List.getElem_toArray, List.getElem_cons_zero, List.getElem_cons_succ, List.setIfInBounds_toArray, List.set_cons_zero, List.set_cons_succ]
      refine' wpAnyH_take (i := 16) (v := _) rfl (by kernel_rfl) (by kernel_rfl) (by kernel_rfl) (fun _ _ _ h => h) (Or.inl ⟨by rfl, ?hya16⟩) hHeld ?ra16
      case hya16 => (intro w hSw; obtain ⟨s0, s1, s2, s3, s4, s5, s6, s7, s8, s9, s10⟩ := hSw; go_simp; with_reducible rfl)
      simp only [Act.put, List.getElem_toArray, List.getElem_cons_zero, List.getElem_cons_succ, List.setIfInBounds_toArray, List.set_cons_zero, List.set_cons_succ]
      refine' wpAnyH_take (i := 17) (v := _) rfl (by kernel_rfl) (by kernel_rfl) (by kernel_rfl) (fun _ _ _ h => h) (Or.inl ⟨by rfl, ?hya17⟩) hHeld ?ra17
      case hya17 => (intro w hSw; obtain ⟨s0, s1, s2, s3, s4, s5, s6, s7, s8, s9, s10⟩ := hSw; go_simp; with_reducible rfl)
      simp only [Act.put, List.getElem_toArray, List.getElem_cons_zero, List.getElem_cons_succ, List.setIfInBounds_toArray, List.set_cons_zero, List.set_cons_succ]
      refine' wpAnyH_take (i := 18) (v := _) rfl (by kernel_rfl) (by kernel_rfl) (by kernel_rfl) (fun _ _ _ h => h) (Or.inl ⟨by rfl, ?hya18⟩) hHeld ?ra18
      case hya18 => (intro w hSw; obtain ⟨s0, s1, s2, s3, s4, s5, s6, s7, s8, s9, s10⟩ := hSw; go_simp; with_reducible rfl)
      simp only [Act.put, List.getElem_toArray, List.getElem_cons_zero, List.getElem_cons_succ, List.setIfInBounds_toArray, List.set_cons_zero, List.set_cons_succ]
      refine wpAnyH_ready (rs := [2, 21]) (by kernel_rfl) (by simp) ?_
      refine AllReadyH.cons rfl (fun K hK => ?_) (AllReadyH.cons rfl (fun K hK => ?_) AllReadyH.nil)
      · go_simp
        refine (rmodR_any p.kind 3 _ (by decide) (by decide)).mono ?_
        rintro e v1c ⟨rfl, rfl⟩
        refine hK.out _ _ hHeld (fun hHeld => ?_)
        clear hK K
        try simp only [Act.put, List.getElem_toArray, List.getElem_cons_zero, List.getElem_cons_succ, List.setIfInBounds_toArray, List.set_cons_zero, List.set_cons_succ]
        refine' wpAnyH_take (i := 3) (v := _) rfl (by kernel_rfl) (by kernel_rfl) (by kernel_rfl) (fun _ _ _ h => h) (Or.inl ⟨by rfl, ?hyt13⟩) hHeld ?rt13
        case hyt13 => (intro w hSw; obtain ⟨s0, s1, s2, s3, s4, s5, s6, s7, s8, s9, s10⟩ := hSw; go_simp; with_reducible rfl)
        simp only [Act.put, List.getElem_toArray, List.getElem_cons_zero, List.getElem_cons_succ, List.setIfInBounds_toArray, List.set_cons_zero, List.set_cons_succ]
        refine wpAnyH_ready (rs := [9, 21]) (by kernel_rfl) (by simp) ?_
        refine AllReadyH.cons rfl (fun K hK => ?_) (AllReadyH.cons rfl (fun K hK => ?_) AllReadyH.nil)
        · go_simp
          refine (nameP_any p.h0 p.wild _).mono ?_
          rintro e v2c ⟨rfl, hST⟩
          have HOX := Lib.hid (HOX.out.trans hST)
          refine hK.out _ _ (PlS.only hHeld hST) (fun hHeld => ?_)
          clear hK K hST
          try simp only [Act.put, List.getElem_toArray, List.getElem_cons_zero, List.getElem_cons_succ, List.setIfInBounds_toArray, List.set_cons_zero, List.set_cons_succ]
          refine wpAnyH_ready (rs := [14, 21]) (by kernel_rfl) (by simp) ?_
          refine AllReadyH.cons rfl (fun K hK => ?_) (AllReadyH.cons rfl (fun K hK => ?_) AllReadyH.nil)
          · go_simp
            refine (number_any13 p vl vb p.h1 _).mono ?_
            rintro e v3c ⟨rfl, hST⟩
            have HOX := Lib.hid (HOX.out.trans hST)
            refine hK.out _ _ (PlS.only hHeld hST) (fun hHeld => ?_)
            clear hK K hST
            try simp only [Act.put, List.getElem_toArray, List.getElem_cons_zero, List.getElem_cons_succ, List.setIfInBounds_toArray, List.set_cons_zero, List.set_cons_succ]
            refine wpAnyH_ready (rs := [19, 21]) (by kernel_rfl) (by simp) ?_
            refine AllReadyH.cons rfl (fun K hK => ?_) (AllReadyH.cons rfl (fun K hK => ?_) AllReadyH.nil)
            · go_simp
              refine (number_any13 p vl vb p.h2 _).mono ?_
              rintro e v4c ⟨rfl, hST⟩
              have HOX := Lib.hid (HOX.out.trans hST)
              refine hK.out _ _ (PlS.only hHeld hST) (fun hHeld => ?_)
              clear hK K hST
              try simp only [Act.put, List.getElem_toArray, List.getElem_cons_zero, List.getElem_cons_succ, List.setIfInBounds_toArray, List.set_cons_zero, List.set_cons_succ]
              refine' wpAnyH_take (i := 20) (v := _) rfl (by kernel_rfl) (by kernel_rfl) (by kernel_rfl) (fun _ _ _ h => h) (Or.inl ⟨by rfl, ?hyq420⟩) hHeld ?rq420
              case hyq420 => (intro w hSw; obtain ⟨s0, s1, s2, s3, s4, s5, s6, s7, s8, s9, s10⟩ := hSw; go_simp; with_reducible rfl)
              simp only [Act.put, List.getElem_toArray, List.getElem_cons_zero, List.getElem_cons_succ, List.setIfInBounds_toArray, List.set_cons_zero, List.set_cons_succ]
              refine wpAnyH_ready (rs := [21]) (by kernel_rfl) (by simp) ?_
              refine AllReadyH.cons rfl (fun K hK => ?_) AllReadyH.nil
              go_simp
              have HST := Lib.hid ((Only.refl (fun _ => False) v4c).alloc (.cells #[.string ⟨#[]⟩, .int .i64 0, .int .i64 0, .int .i64 0, .int .i64 0, .int .i64 0, .slice none 0 0, .bool false, .slice none 0 0, .int .i64 0, .int .i64 0, .slice none 0 0, .slice none 0 0] 33))
              have HNR := Lib.hid (heap_alloc_last v4c (.cells #[.string ⟨#[]⟩, .int .i64 0, .int .i64 0, .int .i64 0, .int .i64 0, .int .i64 0, .slice none 0 0, .bool false, .slice none 0 0, .int .i64 0, .int .i64 0, .slice none 0 0, .slice none 0 0] 33))
              have HNL := Lib.hid (show w1.heap.size ≤ v4c.heap.size from HOX.out.size)
              have HOX := Lib.hid (HOX.out.trans HST.out)
              refine hK.out _ _ (PlS.only hHeld HST.out) (fun hHeld => ?_)
              clear hK K
              try simp only [Act.put, List.getElem_toArray, List.getElem_cons_zero, List.getElem_cons_succ, List.setIfInBounds_toArray, List.set_cons_zero, List.set_cons_succ]
              generalize (v4c.alloc (.cells #[.string ⟨#[]⟩, .int .i64 0, .int .i64 0, .int .i64 0, .int .i64 0, .int .i64 0, .slice none 0 0, .bool false, .slice none 0 0, .int .i64 0, .int .i64 0, .slice none 0 0, .slice none 0 0] 33)) = v5a at *
              generalize v4c.heap.size = nb at *
              clear HST
              refine wpAnyH_done (by kernel_rfl) ?_ _
              simp only [headPost, List.drop_succ_cons, List.drop_zero]
              rw [HKD.out]
              go_wp2_with (first | (refine wpList_store_row rfl 33 _ _ rfl nb (drCells (base0 p) (.slice none 0 0) (.slice none 0 0) (.slice none 0 0) (.slice none 0 0)) rfl rfl 33 _ HNR.out Tryz.infoDr rfl (cells_one _ _ _ _ _ _ _ _ _ _ _ _ _) ?_))
              go_meet
              exact ⟨nb, rfl, HNL.out, setRow_heap _ _ _ _ _ _ HNR.out, HOX.out.setRow HNL.out _⟩
            · go_simp
              have HST := Lib.hid ((Only.refl (fun _ => False) v3c).alloc (.cells #[.string ⟨#[]⟩, .int .i64 0, .int .i64 0, .int .i64 0, .int .i64 0, .int .i64 0, .slice none 0 0, .bool false, .slice none 0 0, .int .i64 0, .int .i64 0, .slice none 0 0, .slice none 0 0] 33))
              have HNR := Lib.hid (heap_alloc_last v3c (.cells #[.string ⟨#[]⟩, .int .i64 0, .int .i64 0, .int .i64 0, .int .i64 0, .int .i64 0, .slice none 0 0, .bool false, .slice none 0 0, .int .i64 0, .int .i64 0, .slice none 0 0, .slice none 0 0] 33))
              have HNL := Lib.hid (show w1.heap.size ≤ v3c.heap.size from HOX.out.size)
              have HOX := Lib.hid (HOX.out.trans HST.out)
              refine hK.out _ _ (PlS.only hHeld HST.out) (fun hHeld => ?_)
              clear hK K
              try simp only [Act.put, List.getElem_toArray, List.getElem_cons_zero, List.getElem_cons_succ, List.setIfInBounds_toArray, List.set_cons_zero, List.set_cons_succ]
              generalize (v3c.alloc (.cells #[.string ⟨#[]⟩, .int .i64 0, .int .i64 0, .int .i64 0, .int .i64 0, .int .i64 0, .slice none 0 0, .bool false, .slice none 0 0, .int .i64 0, .int .i64 0, .slice none 0 0, .slice none 0 0] 33)) = v4a at *
              generalize v3c.heap.size = nb at *
              clear HST
              refine wpAnyH_ready (rs := [19]) (by kernel_rfl) (by simp) ?_
              refine AllReadyH.cons rfl (fun K hK => ?_) AllReadyH.nil
              go_simp
              refine (number_any13 p vl vb p.h2 _).mono ?_
              rintro e v7c ⟨rfl, hST⟩
              have HOX := Lib.hid (HOX.out.trans hST)
              have HNR := Lib.hid (row_still hST HNR.out)
              refine hK.out _ _ (PlS.only hHeld hST) (fun hHeld => ?_)
              clear hK K hST
              try simp only [Act.put, List.getElem_toArray, List.getElem_cons_zero, List.getElem_cons_succ, List.setIfInBounds_toArray, List.set_cons_zero, List.set_cons_succ]
              refine' wpAnyH_take (i := 20) (v := _) rfl (by kernel_rfl) (by kernel_rfl) (by kernel_rfl) (fun _ _ _ h => h) (Or.inl ⟨by rfl, ?hyq720⟩) hHeld ?rq720
              case hyq720 => (intro w hSw; obtain ⟨s0, s1, s2, s3, s4, s5, s6, s7, s8, s9, s10⟩ := hSw; go_simp; with_reducible rfl)
              simp only [Act.put, List.getElem_toArray, List.getElem_cons_zero, List.getElem_cons_succ, List.setIfInBounds_toArray, List.set_cons_zero, List.set_cons_succ]
              refine wpAnyH_done (by kernel_rfl) ?_ _
              simp only [headPost, List.drop_succ_cons, List.drop_zero]
              rw [HKD.out]
              go_wp2_with (first | (refine wpList_store_row rfl 33 _ _ rfl nb (drCells (base0 p) (.slice none 0 0) (.slice none 0 0) (.slice none 0 0) (.slice none 0 0)) rfl rfl 33 _ HNR.out Tryz.infoDr rfl (cells_one _ _ _ _ _ _ _ _ _ _ _ _ _) ?_))
              go_meet
              exact ⟨nb, rfl, HNL.out, setRow_heap _ _ _ _ _ _ HNR.out, HOX.out.setRow HNL.out _⟩
          · go_simp
            have HST := Lib.hid ((Only.refl (fun _ => False) v2c).alloc (.cells #[.string ⟨#[]⟩, .int .i64 0, .int .i64 0, .int .i64 0, .int .i64 0, .int .i64 0, .slice none 0 0, .bool false, .slice none 0 0, .int .i64 0, .int .i64 0, .slice none 0 0, .slice none 0 0] 33))
            have HNR := Lib.hid (heap_alloc_last v2c (.cells #[.string ⟨#[]⟩, .int .i64 0, .int .i64 0, .int .i64 0, .int .i64 0, .int .i64 0, .slice none 0 0, .bool false, .slice none 0 0, .int .i64 0, .int .i64 0, .slice none 0 0, .slice none 0 0] 33))
            have HNL := Lib.hid (show w1.heap.size ≤ v2c.heap.size from HOX.out.size)
            have HOX := Lib.hid (HOX.out.trans HST.out)
            refine hK.out _ _ (PlS.only hHeld HST.out) (fun hHeld => ?_)
            clear hK K
            try simp only [Act.put, List.getElem_toArray, List.getElem_cons_zero, List.getElem_cons_succ, List.setIfInBounds_toArray, List.set_cons_zero, List.set_cons_succ]
            generalize (v2c.alloc (.cells #[.string ⟨#[]⟩, .int .i64 0, .int .i64 0, .int .i64 0, .int .i64 0, .int .i64 0, .slice none 0 0, .bool false, .slice none 0 0, .int .i64 0, .int .i64 0, .slice none 0 0, .slice none 0 0] 33)) = v3a at *
            generalize v2c.heap.size = nb at *
            clear HST
            refine wpAnyH_ready (rs := [14]) (by kernel_rfl) (by simp) ?_
            refine AllReadyH.cons rfl (fun K hK => ?_) AllReadyH.nil
            go_simp
            refine (number_any13 p vl vb p.h1 _).mono ?_
            rintro e v9c ⟨rfl, hST⟩
            have HOX := Lib.hid (HOX.out.trans hST)
            have HNR := Lib.hid (row_still hST HNR.out)
            refine hK.out _ _ (PlS.only hHeld hST) (fun hHeld => ?_)
            clear hK K hST
            try simp only [Act.put, List.getElem_toArray, List.getElem_cons_zero, List.getElem_cons_succ, List.setIfInBounds_toArray, List.set_cons_zero, List.set_cons_succ]
            refine wpAnyH_ready (rs := [19]) (by kernel_rfl) (by simp) ?_
            refine AllReadyH.cons rfl (fun K hK => ?_) AllReadyH.nil
            go_simp
            refine (number_any13 p vl vb p.h2 _).mono ?_
            rintro e v10c ⟨rfl, hST⟩
            have HOX := Lib.hid (HOX.out.trans hST)
            have HNR := Lib.hid (row_still hST HNR.out)
            refine hK.out _ _ (PlS.only hHeld hST) (fun hHeld => ?_)
            clear hK K hST
            try simp only [Act.put, List.getElem_toArray, List.getElem_cons_zero, List.getElem_cons_succ, List.setIfInBounds_toArray, List.set_cons_zero, List.set_cons_succ]
            refine' wpAnyH_take (i := 20) (v := _) rfl (by kernel_rfl) (by kernel_rfl) (by kernel_rfl) (fun _ _ _ h => h) (Or.inl ⟨by rfl, ?hyq1020⟩) hHeld ?rq1020
            case hyq1020 => (intro w hSw; obtain ⟨s0, s1, s2, s3, s4, s5, s6, s7, s8, s9, s10⟩ := hSw; go_simp; with_reducible rfl)
            simp only [Act.put, List.getElem_toArray, List.getElem_cons_zero, List.getElem_cons_succ, List.setIfInBounds_toArray, List.set_cons_zero, List.set_cons_succ]
            refine wpAnyH_done (by kernel_rfl) ?_ _
            simp only [headPost, List.drop_succ_cons, List.drop_zero]
            rw [HKD.out]
            go_wp2_with (first | (refine wpList_store_row rfl 33 _ _ rfl nb (drCells (base0 p) (.slice none 0 0) (.slice none 0 0) (.slice none 0 0) (.slice none 0 0)) rfl rfl 33 _ HNR.out Tryz.infoDr rfl (cells_one _ _ _ _ _ _ _ _ _ _ _ _ _) ?_))
            go_meet
            exact ⟨nb, rfl, HNL.out, setRow_heap _ _ _ _ _ _ HNR.out, HOX.out.setRow HNL.out _⟩
        · go_simp
          have HST := Lib.hid ((Only.refl (fun _ => False) v0).alloc (.cells #[.string ⟨#[]⟩, .int .i64 0, .int .i64 0, .int .i64 0, .int .i64 0, .int .i64 0, .slice none 0 0, .bool false, .slice none 0 0, .int .i64 0, .int .i64 0, .slice none 0 0, .slice none 0 0] 33))
          have HNR := Lib.hid (heap_alloc_last v0 (.cells #[.string ⟨#[]⟩, .int .i64 0, .int .i64 0, .int .i64 0, .int .i64 0, .int .i64 0, .slice none 0 0, .bool false, .slice none 0 0, .int .i64 0, .int .i64 0, .slice none 0 0, .slice none 0 0] 33))
          have HNL := Lib.hid (show w1.heap.size ≤ v0.heap.size from HOX.out.size)
          have HOX := Lib.hid (HOX.out.trans HST.out)
          refine hK.out _ _ (PlS.only hHeld HST.out) (fun hHeld => ?_)
          clear hK K
          try simp only [Act.put, List.getElem_toArray, List.getElem_cons_zero, List.getElem_cons_succ, List.setIfInBounds_toArray, List.set_cons_zero, List.set_cons_succ]
          generalize (v0.alloc (.cells #[.string ⟨#[]⟩, .int .i64 0, .int .i64 0, .int .i64 0, .int .i64 0, .int .i64 0, .slice none 0 0, .bool false, .slice none 0 0, .int .i64 0, .int .i64 0, .slice none 0 0, .slice none 0 0] 33)) = v2a at *
          generalize v0.heap.size = nb at *
          clear HST
          refine wpAnyH_ready (rs := [9]) (by kernel_rfl) (by simp) ?_
          refine AllReadyH.cons rfl (fun K hK => ?_) AllReadyH.nil
          go_simp
          refine (nameP_any p.h0 p.wild _).mono ?_
          rintro e v12c ⟨rfl, hST⟩
          have HOX := Lib.hid (HOX.out.trans hST)
          have HNR := Lib.hid (row_still hST HNR.out)
          refine hK.out _ _ (PlS.only hHeld hST) (fun hHeld => ?_)
          clear hK K hST
          try simp only [Act.put, List.getElem_toArray, List.getElem_cons_zero, List.getElem_cons_succ, List.setIfInBounds_toArray, List.set_cons_zero, List.set_cons_succ]
          refine wpAnyH_ready (rs := [14]) (by kernel_rfl) (by simp) ?_
          refine AllReadyH.cons rfl (fun K hK => ?_) AllReadyH.nil
          go_simp
          refine (number_any13 p vl vb p.h1 _).mono ?_
          rintro e v13c ⟨rfl, hST⟩
          have HOX := Lib.hid (HOX.out.trans hST)
          have HNR := Lib.hid (row_still hST HNR.out)
          refine hK.out _ _ (PlS.only hHeld hST) (fun hHeld => ?_)
          clear hK K hST
          try simp only [Act.put, List.getElem_toArray, List.getElem_cons_zero, List.getElem_cons_succ, List.setIfInBounds_toArray, List.set_cons_zero, List.set_cons_succ]
          refine wpAnyH_ready (rs := [19]) (by kernel_rfl) (by simp) ?_
          refine AllReadyH.cons rfl (fun K hK => ?_) AllReadyH.nil
          go_simp
          refine (number_any13 p vl vb p.h2 _).mono ?_
          rintro e v14c ⟨rfl, hST⟩
          have HOX := Lib.hid (HOX.out.trans hST)
          have HNR := Lib.hid (row_still hST HNR.out)
          refine hK.out _ _ (PlS.only hHeld hST) (fun hHeld => ?_)
          clear hK K hST
          try simp only [Act.put, List.getElem_toArray, List.getElem_cons_zero, List.getElem_cons_succ, List.setIfInBounds_toArray, List.set_cons_zero, List.set_cons_succ]
          refine' wpAnyH_take (i := 20) (v := _) rfl (by kernel_rfl) (by kernel_rfl) (by kernel_rfl) (fun _ _ _ h => h) (Or.inl ⟨by rfl, ?hyq1420⟩) hHeld ?rq1420
          case hyq1420 => (intro w hSw; obtain ⟨s0, s1, s2, s3, s4, s5, s6, s7, s8, s9, s10⟩ := hSw; go_simp; with_reducible rfl)
          simp only [Act.put, List.getElem_toArray, List.getElem_cons_zero, List.getElem_cons_succ, List.setIfInBounds_toArray, List.set_cons_zero, List.set_cons_succ]
          refine wpAnyH_done (by kernel_rfl) ?_ _
          simp only [headPost, List.drop_succ_cons, List.drop_zero]
          rw [HKD.out]
          go_wp2_with (first | (refine wpList_store_row rfl 33 _ _ rfl nb (drCells (base0 p) (.slice none 0 0) (.slice none 0 0) (.slice none 0 0) (.slice none 0 0)) rfl rfl 33 _ HNR.out Tryz.infoDr rfl (cells_one _ _ _ _ _ _ _ _ _ _ _ _ _) ?_))
          go_meet
          exact ⟨nb, rfl, HNL.out, setRow_heap _ _ _ _ _ _ HNR.out, HOX.out.setRow HNL.out _⟩
      · go_simp
        have HST := Lib.hid ((Only.refl (fun _ => False) v0).alloc (.cells #[.string ⟨#[]⟩, .int .i64 0, .int .i64 0, .int .i64 0, .int .i64 0, .int .i64 0, .slice none 0 0, .bool false, .slice none 0 0, .int .i64 0, .int .i64 0, .slice none 0 0, .slice none 0 0] 33))
        have HNR := Lib.hid (heap_alloc_last v0 (.cells #[.string ⟨#[]⟩, .int .i64 0, .int .i64 0, .int .i64 0, .int .i64 0, .int .i64 0, .slice none 0 0, .bool false, .slice none 0 0, .int .i64 0, .int .i64 0, .slice none 0 0, .slice none 0 0] 33))
        have HNL := Lib.hid (show w1.heap.size ≤ v0.heap.size from HOX.out.size)
        have HOX := Lib.hid (HOX.out.trans HST.out)
        refine hK.out _ _ (PlS.only hHeld HST.out) (fun hHeld => ?_)
        clear hK K
        try simp only [Act.put, List.getElem_toArray, List.getElem_cons_zero, List.getElem_cons_succ, List.setIfInBounds_toArray, List.set_cons_zero, List.set_cons_succ]
        generalize (v0.alloc (.cells #[.string ⟨#[]⟩, .int .i64 0, .int .i64 0, .int .i64 0, .int .i64 0, .int .i64 0, .slice none 0 0, .bool false, .slice none 0 0, .int .i64 0, .int .i64 0, .slice none 0 0, .slice none 0 0] 33)) = v1a at *
        generalize v0.heap.size = nb at *
        clear HST
        refine wpAnyH_ready (rs := [2]) (by kernel_rfl) (by simp) ?_
        refine AllReadyH.cons rfl (fun K hK => ?_) AllReadyH.nil
        go_simp
        refine (rmodR_any p.kind 3 _ (by decide) (by decide)).mono ?_
        rintro e v16c ⟨rfl, rfl⟩
        refine hK.out _ _ hHeld (fun hHeld => ?_)
        clear hK K
        try simp only [Act.put, List.getElem_toArray, List.getElem_cons_zero, List.getElem_cons_succ, List.setIfInBounds_toArray, List.set_cons_zero, List.set_cons_succ]
        refine' wpAnyH_take (i := 3) (v := _) rfl (by kernel_rfl) (by kernel_rfl) (by kernel_rfl) (fun _ _ _ h => h) (Or.inl ⟨by rfl, ?hyt163⟩) hHeld ?rt163
        case hyt163 => (intro w hSw; obtain ⟨s0, s1, s2, s3, s4, s5, s6, s7, s8, s9, s10⟩ := hSw; go_simp; with_reducible rfl)
        simp only [Act.put, List.getElem_toArray, List.getElem_cons_zero, List.getElem_cons_succ, List.setIfInBounds_toArray, List.set_cons_zero, List.set_cons_succ]
        refine wpAnyH_ready (rs := [9]) (by kernel_rfl) (by simp) ?_
        refine AllReadyH.cons rfl (fun K hK => ?_) AllReadyH.nil
        go_simp
        refine (nameP_any p.h0 p.wild _).mono ?_
        rintro e v17c ⟨rfl, hST⟩
        have HOX := Lib.hid (HOX.out.trans hST)
        have HNR := Lib.hid (row_still hST HNR.out)
        refine hK.out _ _ (PlS.only hHeld hST) (fun hHeld => ?_)
        clear hK K hST
        try simp only [Act.put, List.getElem_toArray, List.getElem_cons_zero, List.getElem_cons_succ, List.setIfInBounds_toArray, List.set_cons_zero, List.set_cons_succ]
        refine wpAnyH_ready (rs := [14]) (by kernel_rfl) (by simp) ?_
        refine AllReadyH.cons rfl (fun K hK => ?_) AllReadyH.nil
        go_simp
        refine (number_any13 p vl vb p.h1 _).mono ?_
        rintro e v18c ⟨rfl, hST⟩
        have HOX := Lib.hid (HOX.out.trans hST)
        have HNR := Lib.hid (row_still hST HNR.out)
        refine hK.out _ _ (PlS.only hHeld hST) (fun hHeld => ?_)
        clear hK K hST
        try simp only [Act.put, List.getElem_toArray, List.getElem_cons_zero, List.getElem_cons_succ, List.setIfInBounds_toArray, List.set_cons_zero, List.set_cons_succ]
        refine wpAnyH_ready (rs := [19]) (by kernel_rfl) (by simp) ?_
        refine AllReadyH.cons rfl (fun K hK => ?_) AllReadyH.nil
        go_simp
        refine (number_any13 p vl vb p.h2 _).mono ?_
        rintro e v19c ⟨rfl, hST⟩
        have HOX := Lib.hid (HOX.out.trans hST)
        have HNR := Lib.hid (row_still hST HNR.out)
        refine hK.out _ _ (PlS.only hHeld hST) (fun hHeld => ?_)
        clear hK K hST
        try simp only [Act.put, List.getElem_toArray, List.getElem_cons_zero, List.getElem_cons_succ, List.setIfInBounds_toArray, List.set_cons_zero, List.set_cons_succ]
        refine' wpAnyH_take (i := 20) (v := _) rfl (by kernel_rfl) (by kernel_rfl) (by kernel_rfl) (fun _ _ _ h => h) (Or.inl ⟨by rfl, ?hyq1920⟩) hHeld ?rq1920
        case hyq1920 => (intro w hSw; obtain ⟨s0, s1, s2, s3, s4, s5, s6, s7, s8, s9, s10⟩ := hSw; go_simp; with_reducible rfl)
        simp only [Act.put, List.getElem_toArray, List.getElem_cons_zero, List.getElem_cons_succ, List.setIfInBounds_toArray, List.set_cons_zero, List.set_cons_succ]
        refine wpAnyH_done (by kernel_rfl) ?_ _
        simp only [headPost, List.drop_succ_cons, List.drop_zero]
        rw [HKD.out]
        go_wp2_with (first | (refine wpList_store_row rfl 33 _ _ rfl nb (drCells (base0 p) (.slice none 0 0) (.slice none 0 0) (.slice none 0 0) (.slice none 0 0)) rfl rfl 33 _ HNR.out Tryz.infoDr rfl (cells_one _ _ _ _ _ _ _ _ _ _ _ _ _) ?_))
        go_meet
        exact ⟨nb, rfl, HNL.out, setRow_heap _ _ _ _ _ _ HNR.out, HOX.out.setRow HNL.out _⟩
  case rest =>
    obtain ⟨b, rfl, hbl, hrow, hO1⟩ := hcut
    have HBL := Lib.hid hbl
    have HR1 := Lib.hid hrow
    have HO1 := Lib.hid hO1
    have HZ1 := Lib.hid (row_still hO1 HZ0.out)
    have hb2 : b < wc.heap.size := (Array.getElem?_eq_some_iff.1 hrow).1
    have hB2 : B < wc.heap.size := (Array.getElem?_eq_some_iff.1 HZ1.out).1
    have hBb : B + 2 ≤ b := by omega
    clear hrow hO1
    obtain ⟨e0, e1, e2, e3, e4, e5, e6, e7, e8, e9, e10⟩ := PlS.of HZ1.out
    have c1 : wc.cell? ⟨b, 1, none⟩ = some (Value.int .i64 (kdZ p)) := cell_of_row _ _ 1 _ _ _ HR1.out
    go_upto_block 0 with (fail)
    go_cut [3] (fun v wx => v = .pointer (some ⟨b, 0, none⟩) ∧ wx.heap[b]? = some (.cells (drCells (baseD p) (.slice none 0 0) (.slice none 0 0) (.slice none 0 0) (.slice none 0 0)) 33 (0, 0)) ∧ Only (fun _ => False) w1 wx)
    case first =>
      as_aux_lemma =>
        rcases kd_123 p with hk | hk | hk
        · have HK := Lib.hid hk
          have q1 : (kdZ p == 1) = true := by rw [hk]; rfl
          clear hk
          go_wp2_with fail
          refine (number_any13 p vl vb p.h3 _).mono ?_
          rintro e w3 ⟨rfl, hO3⟩
          have HR3 := Lib.hid (row_still hO3 HR1.out)
          have HO3 := Lib.hid (HO1.out.trans hO3)
          have HZ3 := Lib.hid (row_still hO3 HZ1.out)
          have f4 : w3.frozen? ⟨b, 4, none⟩ = false := frozen_of_row _ _ _ _ _ HR3.out
          have c4 : w3.cell? ⟨b, 4, none⟩ = some (Value.int .i64 0) := cell_of_row _ _ 4 _ _ _ HR3.out
          go_upto_region 6 with (fail)
          have HR4 := Lib.hid (heap_setCell_same w3 b 4 _ _ (.int .i64 (nbZ p.wild p.h3)) HR3.out)
          have HZ4 := Lib.hid (row_set_other (g := b) (k := 4) (v := .int .i64 (nbZ p.wild p.h3)) HZ3.out (by omega))
          have HO4 := Lib.hid (HO3.out.setCell (p := ⟨b, 4, none⟩) (.inr HBL.out) (.int .i64 (nbZ p.wild p.h3)))
          generalize World.setCell w3 _ _ = w4 at *
          clear f4 c4 e0 e1 e2 e3 e4 e5 e6 e7 e8 e9 e10
          obtain ⟨e0, e1, e2, e3, e4, e5, e6, e7, e8, e9, e10⟩ := PlS.of HZ4.out
          go_wp2_with fail
          refine (number_any13 p vl vb p.h4 _).mono ?_
          rintro e w5 ⟨rfl, hO5⟩
          have HR5 := Lib.hid (row_still hO5 HR4.out)
          have HO5 := Lib.hid (HO4.out.trans hO5)
          have HZ5 := Lib.hid (row_still hO5 HZ4.out)
          have f5 : w5.frozen? ⟨b, 5, none⟩ = false := frozen_of_row _ _ _ _ _ HR5.out
          have c5 : w5.cell? ⟨b, 5, none⟩ = some (Value.int .i64 0) := cell_of_row _ _ 5 _ _ _ HR5.out
          go_upto_region 7 with (fail)
          have HR6 := Lib.hid (heap_setCell_same w5 b 5 _ _ (.int .i64 (nbZ p.wild p.h4)) HR5.out)
          have HZ6 := Lib.hid (row_set_other (g := b) (k := 5) (v := .int .i64 (nbZ p.wild p.h4)) HZ5.out (by omega))
          have HO6 := Lib.hid (HO5.out.setCell (p := ⟨b, 5, none⟩) (.inr HBL.out) (.int .i64 (nbZ p.wild p.h4)))
          generalize World.setCell w5 _ _ = w6 at *
          clear f5 c5 e0 e1 e2 e3 e4 e5 e6 e7 e8 e9 e10
          obtain ⟨e0, e1, e2, e3, e4, e5, e6, e7, e8, e9, e10⟩ := PlS.of HZ6.out
          have f7 : w6.frozen? ⟨b, 7, none⟩ = false := frozen_of_row _ _ _ _ _ HR6.out
          have c7 : w6.cell? ⟨b, 7, none⟩ = some (Value.bool false) := cell_of_row _ _ 7 _ _ _ HR6.out
          go_wp2_with fail
          go_meet
          have hk := HK.out
          refine ⟨rfl, ?_, HO6.out.setCell (.inr HBL.out) _⟩
          refine (heap_setCell_same w6 b 7 _ _ _ HR6.out).trans ?_
          congr 2
          unfold drCells base0 baseD
          simp [hk]
        · have HK := Lib.hid hk
          have q1 : (kdZ p == 1) = false := by rw [hk]; rfl
          have q2 : (kdZ p == 2) = true := by rw [hk]; rfl
          clear hk
          go_wp2_with fail
          refine (number_any13 p vl vb p.h3 _).mono ?_
          rintro e w3 ⟨rfl, hO3⟩
          have HR3 := Lib.hid (row_still hO3 HR1.out)
          have HO3 := Lib.hid (HO1.out.trans hO3)
          have f9 : w3.frozen? ⟨b, 9, none⟩ = false := frozen_of_row _ _ _ _ _ HR3.out
          have c9 : w3.cell? ⟨b, 9, none⟩ = some (Value.int .i64 0) := cell_of_row _ _ 9 _ _ _ HR3.out
          go_wp2_with fail
          go_meet
          have hk := HK.out
          refine ⟨rfl, ?_, HO3.out.setCell (.inr HBL.out) _⟩
          refine (heap_setCell_same w3 b 9 _ _ _ HR3.out).trans ?_
          congr 2
          unfold drCells base0 baseD
          simp [hk]
        · have HK := Lib.hid hk
          have q1 : (kdZ p == 1) = false := by rw [hk]; rfl
          have q2 : (kdZ p == 2) = false := by rw [hk]; rfl
          clear hk
          go_wp2_with fail
          refine (number_any13 p vl vb p.h3 _).mono ?_
          rintro e w3 ⟨rfl, hO3⟩
          have HR3 := Lib.hid (row_still hO3 HR1.out)
          have HO3 := Lib.hid (HO1.out.trans hO3)
          have f10 : w3.frozen? ⟨b, 10, none⟩ = false := frozen_of_row _ _ _ _ _ HR3.out
          have c10 : w3.cell? ⟨b, 10, none⟩ = some (Value.int .i64 0) := cell_of_row _ _ 10 _ _ _ HR3.out
          go_wp2_with fail
          go_meet
          have hk := HK.out
          refine ⟨rfl, ?_, HO3.out.setCell (.inr HBL.out) _⟩
          refine (heap_setCell_same w3 b 10 _ _ _ HR3.out).trans ?_
          congr 2
          unfold drCells base0 baseD
          simp [hk]
    case rest =>
      obtain ⟨rfl, hrow, hO2⟩ := hcut
      clear HR1 HO1 HZ1 hb2 hB2 c1 e0 e1 e2 e3 e4 e5 e6 e7 e8 e9 e10
      have HR2 := Lib.hid hrow
      have HO2 := Lib.hid hO2
      clear hrow hO2
      have HKD3 := Lib.hid (kd_123 p)
      go_upto_block 1 with (fail)
      go_cut [3] (fun v wx => ∃ vt vp vq vx, v = .pointer (some ⟨b, 0, none⟩) ∧ wx.heap[b]? = some (.cells (drCells (linesZ p (min p.lines.length 14)) vt vp vq vx) 33 (0, 0)) ∧ DrOwn w1.heap.size wx (linesZ p (min p.lines.length 14)) vt vp vq vx ∧ Only (fun _ => False) w1 wx)
      case first =>
        go_wp2_with fail
        go_loopw [4] (fun iv wr => ∃ (k : Nat) (vt vp vq vx : Value), iv = .int .i64 k ∧ k ≤ min p.lines.length 14 ∧ wr.heap[b]? = some (.cells (drCells (linesZ p k) vt vp vq vx) 33 (0, 0)) ∧ DrOwn w1.heap.size wr (linesZ p k) vt vp vq vx ∧ Only (fun _ => False) w1 wr) (fun iv _ => 14 - (intOf iv).toNat)
        case atStart => exact ⟨0, .slice none 0 0, .slice none 0 0, .slice none 0 0, .slice none 0 0, rfl, Nat.zero_le _, HR2.out, ⟨World.ownsRow_nil _ _ _ _, World.ownsRow_nil _ _ _ _, World.ownsRow_nil _ _ _ _, World.ownsRow_nil _ _ _ _⟩, HO2.out⟩
        case round =>
          obtain ⟨k, vt, vp, vq, vx, rfl, hk, hrow, hown, hO⟩ := hrel
          obtain ⟨at1, ct, rfl⟩ := slice_of_own hown.tiers
          obtain ⟨ap1, cp, rfl⟩ := slice_of_own hown.places
          obtain ⟨aq1, cq, rfl⟩ := slice_of_own hown.quotas
          obtain ⟨ab1, cb, rfl⟩ := slice_of_own hown.bars
          obtain ⟨al, cl, hvl, hl1, hl2, hlc⟩ := HPL.out.lines
          have HR := Lib.hid hrow
          have HD := Lib.hid hown
          have HO := Lib.hid hO
          have HZr := Lib.hid (row_still hO HZ0.out)
          have HK := Lib.hid hk
          have HLC := Lib.hid hlc
          have HMO := Lib.hid (HMK.out k (by omega))
          have HDL := Lib.hid (show linesZ p (min p.lines.length 14) = linesZ p (min p.lines.length 14) from rfl)
          clear hrow hown hO hlc
          obtain ⟨e0, e1, e2, e3, e4, e5, e6, e7, e8, e9, e10⟩ := PlS.of HZr.out
          rw [hvl] at e7
          clear hvl
          have hbr : b < wr.heap.size := (Array.getElem?_eq_some_iff.1 HR.out).1
          have hBr : B < wr.heap.size := (Array.getElem?_eq_some_iff.1 HZr.out).1
          have j0 : 0 ≤ (k : Int) := by omega
          by_cases hlt : k < p.lines.length
          · by_cases h14 : k < 14
            · have j1 : (k : Int) < p.lines.length := by omega
              have j2 : (k : Int) < 14 := by omega
              obtain ⟨xb, xo, hal, hxb, hx0, hx1, hx2⟩ := HLC.out k hlt
              subst hal
              have HOw := Lib.hid (HW1.out.trans HO.out)
              have x0c := HOw.out.cell hx0 id
              have x1c := HOw.out.cell hx1 id
              have x2c := HOw.out.cell hx2 id
              have HNX := Lib.hid (lines_next p hlt)
              have H6x := Lib.hid (H64.out.lines _ (List.getElem_mem hlt))
              have HLT := Lib.hid hlt
              have H14 := Lib.hid h14
              have hxr : xb < wr.heap.size := by have := HOw.out.size; omega
              clear hx0 hx1 hx2 hxb h14
              generalize p.lines[k] = x at *
              obtain ⟨x0, x1, x2⟩ := x
              dsimp only at x0c x1c x2c H6x
              obtain ⟨d, hd⟩ : ∃ d, linesZ p k = d := ⟨_, rfl⟩
              rw [hd] at HR HD HNX HMO
              have HDK := Lib.hid hd
              clear hd hlt hk
              go_upto_region 14 with (fail)
              have HX3 := Lib.hid (heap_alloc_last wr (.cells #[.int .i64 x0, .int .i64 x1, .int .i64 x2] 39))
              have HW3 := Lib.hid ((Only.refl (fun _ => False) wr).alloc (.cells #[.int .i64 x0, .int .i64 x1, .int .i64 x2] 39))
              have HR3 := Lib.hid (row_still HW3.out HR.out)
              generalize (wr.alloc (.cells #[.int .i64 x0, .int .i64 x1, .int .i64 x2] 39)) = w3 at *
              have hbr3 : b < w3.heap.size := (Array.getElem?_eq_some_iff.1 HR3.out).1
              clear e0 e1 e2 e3 e4 e5 e6 e7 e8 e9 e10
              go_upto_region 15 with (first
                | (refine wpList_load_row rfl 33 _ rfl b rfl 33 (drCells d (.slice at1 d.tiers.length ct) (.slice ap1 d.places.length cp) (.slice aq1 d.quotas.length cq) (.slice ab1 d.barred.length cb)) (0, 0) _ HR3.out Tryz.underlying33 rfl Tryz.infoDr ?_)
                | (refine wpList_store_row rfl 33 _ _ rfl w3.heap.size (drCells d (.slice at1 d.tiers.length ct) (.slice ap1 d.places.length cp) (.slice aq1 d.quotas.length cq) (.slice ab1 d.barred.length cb)) rfl rfl 33 _ (heap_alloc_last w3 _) Tryz.infoDr rfl (cells_one _ _ _ _ _ _ _ _ _ _ _ _ _) ?_; rw [World.setRow_alloc_new]))
              have HM4 := Lib.hid (heap_alloc_last w3 (.cells (drCells d (.slice at1 d.tiers.length ct) (.slice ap1 d.places.length cp) (.slice aq1 d.quotas.length cq) (.slice ab1 d.barred.length cb)) 33))
              have HA4 := Lib.hid ((Only.refl (fun _ => False) w3).alloc (.cells (drCells d (.slice at1 d.tiers.length ct) (.slice ap1 d.places.length cp) (.slice aq1 d.quotas.length cq) (.slice ab1 d.barred.length cb)) 33))
              generalize World.alloc w3 _ = w4 at *
              have HW4 := Lib.hid (HW3.out.trans HA4.out)
              have hmb3 := HW3.out.size
              obtain ⟨mb, hmb⟩ : ∃ n, w3.heap.size = n := ⟨_, rfl⟩
              rw [hmb] at HM4 hmb3 ⊢
              have HX4 := Lib.hid (row_still HA4.out HX3.out)
              have HR4 := Lib.hid (row_still HW4.out HR.out)
              have HZ4 := Lib.hid (row_still HW4.out HZr.out)
              have HD4 := Lib.hid (HD.out.only HW4.out (fun _ _ h => h))
              have hor := HO.out.size
              have HMB := Lib.hid (show wr.heap.size ≤ mb ∧ w1.heap.size ≤ mb from by omega)
              have hmb4 : mb < w4.heap.size := (Array.getElem?_eq_some_iff.1 HM4.out).1
              have hxg4 : wr.heap.size < w4.heap.size := (Array.getElem?_eq_some_iff.1 HX4.out).1
              have hbr4 : b < w4.heap.size := (Array.getElem?_eq_some_iff.1 HR4.out).1
              have hB4 : B < w4.heap.size := (Array.getElem?_eq_some_iff.1 HZ4.out).1
              have HL4 := Lib.hid (show d.tiers.length ≤ 100 ∧ d.places.length ≤ 100 ∧ d.quotas.length ≤ 100 ∧ d.barred.length ≤ 100 from by have h1 := HMO.out.len; have h2 := HMO.out.bar; have h3 := H14.out; omega)
              have HKD4 := Lib.hid HMO.out.kind
              clear HX3 HW3 HR3 HA4 hmb hor hbr3 hmb3
              have c1 : w4.cell? ⟨b, 1, none⟩ = some (Value.int .i64 d.kind) := cell_of_row _ _ 1 _ _ _ HR4.out
              go_upto_block 3 with (fail)
              obtain ⟨m, hm⟩ : ∃ m, moreL p d (x0, x1, x2) = m := ⟨_, rfl⟩
              have HMM := Lib.hid hm
              go_cut [] (fun wx => ∃ ut up uq ub, wx.heap[mb]? = some (.cells (drCells m ut up uq ub) 33 (0, 0)) ∧ DrOwn w1.heap.size wx m ut up uq ub ∧ Only (fun _ => False) wr wx)
              case first =>
                rcases HKD4.out with hk | hk | hk
                · as_aux_lemma =>
                    have q1 : (d.kind == 1) = true := by rw [hk]; rfl
                    have HEQ := Lib.hid (show m = { d with tiers := d.tiers ++ [(nbZ p.wild x1, nbZ p.wild x2)] } by rw [← HMM.out]; unfold moreL; rw [if_pos hk])
                    have HLN := Lib.hid (show d.tiers.length ≤ 100 by have := HL4.out; omega)
                    clear hk
                    go_upto_region 18 with (fail)
                    clear q1 c1
                    obtain ⟨i0, hi, hz0, hz1, hz2⟩ := info_parts Tryz.infoTi
                    have HI := Lib.hid hi
                    have HI0 := Lib.hid hz0
                    have HI1 := Lib.hid hz1
                    have HI2 := Lib.hid hz2
                    clear hi hz0 hz1 hz2
                    refine wp_region_split2 15 (by kernel_rfl) (by kernel_rfl) (wpAny_of_held (S := fun W => Only (fun _ => False) w4.drew W) _ _ _ _ ?_)
                    simp only [List.take_succ_cons, List.take_zero]
                    change wpAnyH _ _ _ _ _ _ _ _ w4.drew
                    have HKS := Lib.hid (show ∀ W, Only (fun _ => False) w4.drew W → PlS B p vl vb W ∧ W.cell? ⟨b, 6, none⟩ = some (Value.slice at1 d.tiers.length ct) ∧ W.cell? ⟨wr.heap.size, 0, none⟩ = some (.int .i64 x0) ∧ W.cell? ⟨wr.heap.size, 1, none⟩ = some (.int .i64 x1) ∧ W.cell? ⟨wr.heap.size, 2, none⟩ = some (.int .i64 x2) from fun W hW => ⟨PlS.only (PlS.of (row_still (Only.refl _ w4).drew HZ4.out)) hW, hW.cell (cell_of_row w4.drew b 6 _ _ _ HR4.out) id, hW.cell (cell_of_row w4.drew wr.heap.size 0 _ _ _ HX4.out) id, hW.cell (cell_of_row w4.drew wr.heap.size 1 _ _ _ HX4.out) id, hW.cell (cell_of_row w4.drew wr.heap.size 2 _ _ _ HX4.out) id⟩)
                    have HT := Lib.hid (owns_drew HD4.out.tiers)
                    have hHeld : Only (fun _ => False) w4.drew w4.drew := Only.refl _ _
                    have HOX := Lib.hid hHeld
                    have hsd : w4.drew.heap.size = w4.heap.size := rfl
                    obtain ⟨wd, hwd⟩ : ∃ wd, w4.drew = wd := ⟨_, rfl⟩
                    rw [hwd] at HKS HT hHeld HOX hsd ⊢
                    have HSD := Lib.hid hsd
                    clear hsd
                    refine' wpAnyH_take (i := 1) (v := _) rfl (by kernel_rfl) (by kernel_rfl) (by kernel_rfl) (fun _ _ _ h => h) (Or.inl ⟨by rfl, ?hy1x1⟩) hHeld ?r1x1
                    case hy1x1 => (intro w hSw; obtain ⟨⟨s0, s1, s2, s3, s4, s5, s6, s7, s8, s9, s10⟩, d0, y0, y1, y2⟩ := HKS.out _ hSw; go_simp; with_reducible rfl)
                    try simp only [Act.put, List.getElem_toArray, List.getElem_cons_zero, List.getElem_cons_succ, List.setIfInBounds_toArray, List.set_cons_zero, List.set_cons_succ]
                    refine' wpAnyH_take (i := 2) (v := _) rfl (by kernel_rfl) (by kernel_rfl) (by kernel_rfl) (fun _ _ _ h => h) (Or.inl ⟨by rfl, ?hy1x2⟩) hHeld ?r1x2
                    case hy1x2 => (intro w hSw; obtain ⟨⟨s0, s1, s2, s3, s4, s5, s6, s7, s8, s9, s10⟩, d0, y0, y1, y2⟩ := HKS.out _ hSw; go_simp; with_reducible rfl)
                    try simp only [Act.put, List.getElem_toArray, List.getElem_cons_zero, List.getElem_cons_succ, List.setIfInBounds_toArray, List.set_cons_zero, List.set_cons_succ]
                    refine' wpAnyH_take (i := 4) (v := _) rfl (by kernel_rfl) (by kernel_rfl) (by kernel_rfl) (fun _ _ _ h => h) (Or.inl ⟨by rfl, ?hy1x4⟩) hHeld ?r1x4
                    case hy1x4 => (intro w hSw; obtain ⟨⟨s0, s1, s2, s3, s4, s5, s6, s7, s8, s9, s10⟩, d0, y0, y1, y2⟩ := HKS.out _ hSw; go_simp; with_reducible rfl)
                    try simp only [Act.put, List.getElem_toArray, List.getElem_cons_zero, List.getElem_cons_succ, List.setIfInBounds_toArray, List.set_cons_zero, List.set_cons_succ]
                    refine' wpAnyH_take (i := 5) (v := _) rfl (by kernel_rfl) (by kernel_rfl) (by kernel_rfl) (fun _ _ _ h => h) (Or.inl ⟨by rfl, ?hy1x5⟩) hHeld ?r1x5
                    case hy1x5 => (intro w hSw; obtain ⟨⟨s0, s1, s2, s3, s4, s5, s6, s7, s8, s9, s10⟩, d0, y0, y1, y2⟩ := HKS.out _ hSw; go_simp; with_reducible rfl)
                    try simp only [Act.put, List.getElem_toArray, List.getElem_cons_zero, List.getElem_cons_succ, List.setIfInBounds_toArray, List.set_cons_zero, List.set_cons_succ]
                    refine' wpAnyH_take (i := 6) (v := _) rfl (by kernel_rfl) (by kernel_rfl) (by kernel_rfl) (fun _ _ _ h => h) (Or.inl ⟨by rfl, ?hy1x6⟩) hHeld ?r1x6
                    case hy1x6 => (intro w hSw; obtain ⟨⟨s0, s1, s2, s3, s4, s5, s6, s7, s8, s9, s10⟩, d0, y0, y1, y2⟩ := HKS.out _ hSw; go_simp; with_reducible rfl)
                    try simp only [Act.put, List.getElem_toArray, List.getElem_cons_zero, List.getElem_cons_succ, List.setIfInBounds_toArray, List.set_cons_zero, List.set_cons_succ]
                    refine' wpAnyH_take (i := 8) (v := _) rfl (by kernel_rfl) (by kernel_rfl) (by kernel_rfl) (fun _ _ _ h => h) (Or.inl ⟨by rfl, ?hy1x8⟩) hHeld ?r1x8
                    case hy1x8 => (intro w hSw; obtain ⟨⟨s0, s1, s2, s3, s4, s5, s6, s7, s8, s9, s10⟩, d0, y0, y1, y2⟩ := HKS.out _ hSw; go_simp; with_reducible rfl)
                    try simp only [Act.put, List.getElem_toArray, List.getElem_cons_zero, List.getElem_cons_succ, List.setIfInBounds_toArray, List.set_cons_zero, List.set_cons_succ]
                    refine' wpAnyH_take (i := 9) (v := _) rfl (by kernel_rfl) (by kernel_rfl) (by kernel_rfl) (fun _ _ _ h => h) (Or.inl ⟨by rfl, ?hy1x9⟩) hHeld ?r1x9
                    case hy1x9 => (intro w hSw; obtain ⟨⟨s0, s1, s2, s3, s4, s5, s6, s7, s8, s9, s10⟩, d0, y0, y1, y2⟩ := HKS.out _ hSw; go_simp; with_reducible rfl)
                    try simp only [Act.put, List.getElem_toArray, List.getElem_cons_zero, List.getElem_cons_succ, List.setIfInBounds_toArray, List.set_cons_zero, List.set_cons_succ]
                    refine' wpAnyH_take (i := 10) (v := _) rfl (by kernel_rfl) (by kernel_rfl) (by kernel_rfl) (fun _ _ _ h => h) (Or.inl ⟨by rfl, ?hy1x10⟩) hHeld ?r1x10
                    case hy1x10 => (intro w hSw; obtain ⟨⟨s0, s1, s2, s3, s4, s5, s6, s7, s8, s9, s10⟩, d0, y0, y1, y2⟩ := HKS.out _ hSw; go_simp; with_reducible rfl)
                    try simp only [Act.put, List.getElem_toArray, List.getElem_cons_zero, List.getElem_cons_succ, List.setIfInBounds_toArray, List.set_cons_zero, List.set_cons_succ]
                    refine wpAnyH_ready (rs := [0]) (by kernel_rfl) (by simp) ?_
                    refine AllReadyH.cons rfl (fun K hK => ?_) AllReadyH.nil
                    go_simp
                    have HST := Lib.hid ((Only.refl (fun _ => False) wd).alloc (.cells #[] 50))
                    have HE := Lib.hid (World.ownsRow_made (e := 50) (base := wd.heap.size) (size := 2) wd #[] 0 (Nat.le_refl _) (Nat.zero_le _) rfl)
                    have HOX := Lib.hid (HOX.out.trans HST.out)
                    have HT := Lib.hid (HST.out.owns HT.out (fun _ _ h => h))
                    refine hK.out _ _ HOX.out (fun hHeld => ?_)
                    clear hK K
                    try simp only [Act.put, List.getElem_toArray, List.getElem_cons_zero, List.getElem_cons_succ, List.setIfInBounds_toArray, List.set_cons_zero, List.set_cons_succ]
                    generalize (wd.alloc (.cells #[] 50)) = v1 at *
                    obtain ⟨gd, hgd⟩ : ∃ n, wd.heap.size = n := ⟨_, rfl⟩
                    rw [hgd] at HE HSD ⊢
                    have HGD := Lib.hid hgd
                    clear hgd
                    clear HST
                    refine wpAnyH_ready (rs := [3]) (by kernel_rfl) (by simp) ?_
                    refine AllReadyH.cons rfl (fun K hK => ?_) AllReadyH.nil
                    have hsz1 := HOX.out.size
                    refine step_append_row rfl _ _ 29 rfl gd w1.heap.size 50 i0 _ 2 16 Tryz.underlying29 HI.out HI0.out HI1.out HI2.out rfl (by decide) _ 0 [] (by rfl) HE.out _ d.tiers.length (trow d.tiers) (by rfl) HT.out (trow_one _) (by have := HLN.out; unfold maxLen; omega) (by have := HLN.out; omega) (by have := HGD.out; omega) ?_
                    intro u1 v2 hown hgrow
                    rw [Nat.zero_add, List.nil_append] at hown
                    have HA := Lib.hid hown
                    have HOX := Lib.hid (HOX.out.trans' (S := fun _ => False) ((Only.refl _ _).grown hgrow (fun i e _ => e)) (fun i hi e => by have := ownR_ge HE.out e; have := HGD.out; omega))
                    clear HE HT hown hgrow hsz1
                    refine hK.out _ _ HOX.out (fun hHeld => ?_)
                    clear hK K
                    try simp only [Act.put, List.getElem_toArray, List.getElem_cons_zero, List.getElem_cons_succ, List.setIfInBounds_toArray, List.set_cons_zero, List.set_cons_succ]
                    refine wpAnyH_ready (rs := [7]) (by kernel_rfl) (by simp) ?_
                    refine AllReadyH.cons rfl (fun K hK => ?_) AllReadyH.nil
                    go_simp
                    refine (number_any13 p _ _ x1 _).mono ?_
                    rintro e v3 ⟨rfl, hST⟩
                    have HOX := Lib.hid (HOX.out.trans hST)
                    have HA := Lib.hid (hST.owns HA.out (fun _ _ h => h))
                    refine hK.out _ _ HOX.out (fun hHeld => ?_)
                    clear hK K
                    try simp only [Act.put, List.getElem_toArray, List.getElem_cons_zero, List.getElem_cons_succ, List.setIfInBounds_toArray, List.set_cons_zero, List.set_cons_succ]
                    clear hST
                    refine wpAnyH_ready (rs := [11]) (by kernel_rfl) (by simp) ?_
                    refine AllReadyH.cons rfl (fun K hK => ?_) AllReadyH.nil
                    go_simp
                    refine (number_any13 p _ _ x2 _).mono ?_
                    rintro e v4 ⟨rfl, hST⟩
                    have HOX := Lib.hid (HOX.out.trans hST)
                    have HA := Lib.hid (hST.owns HA.out (fun _ _ h => h))
                    refine hK.out _ _ HOX.out (fun hHeld => ?_)
                    clear hK K
                    try simp only [Act.put, List.getElem_toArray, List.getElem_cons_zero, List.getElem_cons_succ, List.setIfInBounds_toArray, List.set_cons_zero, List.set_cons_succ]
                    clear hST
                    refine' wpAnyH_take (i := 12) (v := _) rfl (by kernel_rfl) (by kernel_rfl) (by kernel_rfl) (fun _ _ _ h => h) (Or.inl ⟨by rfl, ?hy1x12⟩) hHeld ?r1x12
                    case hy1x12 => (intro w hSw; obtain ⟨⟨s0, s1, s2, s3, s4, s5, s6, s7, s8, s9, s10⟩, d0, y0, y1, y2⟩ := HKS.out _ hSw; go_simp; with_reducible rfl)
                    try simp only [Act.put, List.getElem_toArray, List.getElem_cons_zero, List.getElem_cons_succ, List.setIfInBounds_toArray, List.set_cons_zero, List.set_cons_succ]
                    refine wpAnyH_ready (rs := [13]) (by kernel_rfl) (by simp) ?_
                    refine AllReadyH.cons rfl (fun K hK => ?_) AllReadyH.nil
                    go_simp
                    have HST := Lib.hid ((Only.refl (fun _ => False) v4).alloc (.cells #[.int .i64 (nbZ p.wild x1), .int .i64 (nbZ p.wild x2)] 50))
                    have HN := Lib.hid (show (v4.alloc (.cells #[.int .i64 (nbZ p.wild x1), .int .i64 (nbZ p.wild x2)] 50)).ownsRow v4.heap.size 50 2 (.slice (some ⟨v4.heap.size, 0, none⟩) 1 1) 1 [.int .i64 (nbZ p.wild x1), .int .i64 (nbZ p.wild x2)] from own_newN v4 50 2 1 [.int .i64 (nbZ p.wild x1), .int .i64 (nbZ p.wild x2)] rfl (by decide))
                    have HOX := Lib.hid (HOX.out.trans HST.out)
                    have HA := Lib.hid (HST.out.owns HA.out (fun _ _ h => h))
                    refine hK.out _ _ HOX.out (fun hHeld => ?_)
                    clear hK K
                    try simp only [Act.put, List.getElem_toArray, List.getElem_cons_zero, List.getElem_cons_succ, List.setIfInBounds_toArray, List.set_cons_zero, List.set_cons_succ]
                    generalize (v4.alloc _) = v8 at *
                    generalize v4.heap.size = g8 at *
                    clear HST
                    refine wpAnyH_ready (rs := [14]) (by kernel_rfl) (by simp) ?_
                    refine AllReadyH.cons rfl (fun K hK => ?_) AllReadyH.nil
                    have hsz1 := HOX.out.size
                    refine step_append_row rfl _ _ 29 rfl gd g8 50 i0 _ 2 16 Tryz.underlying29 HI.out HI0.out HI1.out HI2.out rfl (by decide) _ d.tiers.length (trow d.tiers) (by rfl) HA.out _ 1 [.int .i64 (nbZ p.wild x1), .int .i64 (nbZ p.wild x2)] (by rfl) HN.out (two_oneR _ _ rfl rfl) (by have := HLN.out; unfold maxLen; omega) (by have := HLN.out; omega) (by have := HGD.out; omega) ?_
                    intro u2 v9 hown hgrow
                    obtain ⟨na, nc, rfl⟩ := slice_of_own hown
                    have HB := Lib.hid hown
                    have HOX := Lib.hid (HOX.out.trans' (S := fun _ => False) ((Only.refl _ _).grown hgrow (fun i e _ => e)) (fun i hi e => by have := ownR_ge HA.out e; have := HGD.out; omega))
                    clear HA HN hown hgrow hsz1
                    refine hK.out _ _ HOX.out (fun hHeld => ?_)
                    clear hK K
                    try simp only [Act.put, List.getElem_toArray, List.getElem_cons_zero, List.getElem_cons_succ, List.setIfInBounds_toArray, List.set_cons_zero, List.set_cons_succ]
                    refine wpAnyH_done (by kernel_rfl) ?_ _
                    simp only [headPost, List.drop_succ_cons, List.drop_zero]
                    have HOW := Lib.hid (((Only.refl (fun _ => False) w4).drew).trans (hwd ▸ HOX.out))
                    clear hHeld HKS HOX
                    have HM9 := Lib.hid (row_still HOW.out HM4.out)
                    have f6 : v9.frozen? ⟨mb, 6, none⟩ = false := frozen_of_row _ _ _ _ _ HM9.out
                    have m6 : v9.cell? ⟨mb, 6, none⟩ = some (Value.slice at1 d.tiers.length ct) := cell_of_row _ _ 6 _ _ _ HM9.out
                    have hmb9 : mb < v9.heap.size := (Array.getElem?_eq_some_iff.1 HM9.out).1
                    go_wp2_with fail
                    go_meet
                    refine ⟨(.slice na (d.tiers.length + 1) nc), (.slice ap1 d.places.length cp), (.slice aq1 d.quotas.length cq), (.slice ab1 d.barred.length cb), ?_, ⟨(by rw [HEQ.out]; show World.ownsRow _ _ _ _ _ (d.tiers ++ [_]).length (trow (d.tiers ++ [_])); rw [List.length_append, trow_app]; exact set_own (ownR_base HB.out (by have := HSD.out; have := HW4.out.size; have := HO.out.size; omega)) (fun e => by have := ownR_blk HB.out HM9.out (by decide); exact this e)), (by rw [HEQ.out]; exact set_own (HOW.out.owns HD4.out.places (fun _ _ h => h)) (fun e => by have := ownR_blk (HOW.out.owns HD4.out.places (fun _ _ h => h)) HM9.out (by decide); exact this e)), (by rw [HEQ.out]; exact set_own (HOW.out.owns HD4.out.quotas (fun _ _ h => h)) (fun e => by have := ownR_blk (HOW.out.owns HD4.out.quotas (fun _ _ h => h)) HM9.out (by decide); exact this e)), (by rw [HEQ.out]; exact set_own (HOW.out.owns HD4.out.bars (fun _ _ h => h)) (fun e => by have := ownR_blk (HOW.out.owns HD4.out.bars (fun _ _ h => h)) HM9.out (by decide); exact this e))⟩, ?_⟩
                    · refine (heap_setCell_same v9 mb 6 _ _ _ HM9.out).trans ?_
                      rw [HEQ.out]; rfl
                    · exact (HW4.out.trans HOW.out).setCell (.inr (by have := HMB.out; show wr.heap.size ≤ mb; omega)) _
                · as_aux_lemma =>
                    have q1 : (d.kind == 1) = false := by rw [hk]; rfl
                    have q2 : (d.kind == 2) = true := by rw [hk]; rfl
                    have HEQ := Lib.hid (show m = { d with places := d.places ++ [(nmZ p.wild x0, nbZ p.wild x1)] } by rw [← HMM.out]; unfold moreL; rw [if_neg (by rw [hk]; decide), if_pos hk])
                    have HLN := Lib.hid (show d.places.length ≤ 100 by have := HL4.out; omega)
                    clear hk
                    go_upto_region 20 with (fail)
                    clear q1 q2 c1
                    obtain ⟨i0, hi, hz0, hz1, hz2⟩ := info_parts Tryz.infoPl
                    have HI := Lib.hid hi
                    have HI0 := Lib.hid hz0
                    have HI1 := Lib.hid hz1
                    have HI2 := Lib.hid hz2
                    clear hi hz0 hz1 hz2
                    refine wp_region_split2 16 (by kernel_rfl) (by kernel_rfl) (wpAny_of_held (S := fun W => Only (fun _ => False) w4.drew W) _ _ _ _ ?_)
                    simp only [List.take_succ_cons, List.take_zero]
                    change wpAnyH _ _ _ _ _ _ _ _ w4.drew
                    have HKS := Lib.hid (show ∀ W, Only (fun _ => False) w4.drew W → PlS B p vl vb W ∧ W.cell? ⟨b, 8, none⟩ = some (Value.slice ap1 d.places.length cp) ∧ W.cell? ⟨wr.heap.size, 0, none⟩ = some (.int .i64 x0) ∧ W.cell? ⟨wr.heap.size, 1, none⟩ = some (.int .i64 x1) ∧ W.cell? ⟨wr.heap.size, 2, none⟩ = some (.int .i64 x2) from fun W hW => ⟨PlS.only (PlS.of (row_still (Only.refl _ w4).drew HZ4.out)) hW, hW.cell (cell_of_row w4.drew b 8 _ _ _ HR4.out) id, hW.cell (cell_of_row w4.drew wr.heap.size 0 _ _ _ HX4.out) id, hW.cell (cell_of_row w4.drew wr.heap.size 1 _ _ _ HX4.out) id, hW.cell (cell_of_row w4.drew wr.heap.size 2 _ _ _ HX4.out) id⟩)
                    have HT := Lib.hid (owns_drew HD4.out.places)
                    have hHeld : Only (fun _ => False) w4.drew w4.drew := Only.refl _ _
                    have HOX := Lib.hid hHeld
                    have hsd : w4.drew.heap.size = w4.heap.size := rfl
                    obtain ⟨wd, hwd⟩ : ∃ wd, w4.drew = wd := ⟨_, rfl⟩
                    rw [hwd] at HKS HT hHeld HOX hsd ⊢
                    have HSD := Lib.hid hsd
                    clear hsd
                    refine' wpAnyH_take (i := 1) (v := _) rfl (by kernel_rfl) (by kernel_rfl) (by kernel_rfl) (fun _ _ _ h => h) (Or.inl ⟨by rfl, ?hy2x1⟩) hHeld ?r2x1
                    case hy2x1 => (intro w hSw; obtain ⟨⟨s0, s1, s2, s3, s4, s5, s6, s7, s8, s9, s10⟩, d0, y0, y1, y2⟩ := HKS.out _ hSw; go_simp; with_reducible rfl)
                    try simp only [Act.put, List.getElem_toArray, List.getElem_cons_zero, List.getElem_cons_succ, List.setIfInBounds_toArray, List.set_cons_zero, List.set_cons_succ]
                    refine' wpAnyH_take (i := 2) (v := _) rfl (by kernel_rfl) (by kernel_rfl) (by kernel_rfl) (fun _ _ _ h => h) (Or.inl ⟨by rfl, ?hy2x2⟩) hHeld ?r2x2
                    case hy2x2 => (intro w hSw; obtain ⟨⟨s0, s1, s2, s3, s4, s5, s6, s7, s8, s9, s10⟩, d0, y0, y1, y2⟩ := HKS.out _ hSw; go_simp; with_reducible rfl)
                    try simp only [Act.put, List.getElem_toArray, List.getElem_cons_zero, List.getElem_cons_succ, List.setIfInBounds_toArray, List.set_cons_zero, List.set_cons_succ]
                    refine' wpAnyH_take (i := 4) (v := _) rfl (by kernel_rfl) (by kernel_rfl) (by kernel_rfl) (fun _ _ _ h => h) (Or.inl ⟨by rfl, ?hy2x4⟩) hHeld ?r2x4
                    case hy2x4 => (intro w hSw; obtain ⟨⟨s0, s1, s2, s3, s4, s5, s6, s7, s8, s9, s10⟩, d0, y0, y1, y2⟩ := HKS.out _ hSw; go_simp; with_reducible rfl)
                    try simp only [Act.put, List.getElem_toArray, List.getElem_cons_zero, List.getElem_cons_succ, List.setIfInBounds_toArray, List.set_cons_zero, List.set_cons_succ]
                    refine' wpAnyH_take (i := 5) (v := _) rfl (by kernel_rfl) (by kernel_rfl) (by kernel_rfl) (fun _ _ _ h => h) (Or.inl ⟨by rfl, ?hy2x5⟩) hHeld ?r2x5
                    case hy2x5 => (intro w hSw; obtain ⟨⟨s0, s1, s2, s3, s4, s5, s6, s7, s8, s9, s10⟩, d0, y0, y1, y2⟩ := HKS.out _ hSw; go_simp; with_reducible rfl)
                    try simp only [Act.put, List.getElem_toArray, List.getElem_cons_zero, List.getElem_cons_succ, List.setIfInBounds_toArray, List.set_cons_zero, List.set_cons_succ]
                    refine' wpAnyH_take (i := 6) (v := _) rfl (by kernel_rfl) (by kernel_rfl) (by kernel_rfl) (fun _ _ _ h => h) (Or.inl ⟨by rfl, ?hy2x6⟩) hHeld ?r2x6
                    case hy2x6 => (intro w hSw; obtain ⟨⟨s0, s1, s2, s3, s4, s5, s6, s7, s8, s9, s10⟩, d0, y0, y1, y2⟩ := HKS.out _ hSw; go_simp; with_reducible rfl)
                    try simp only [Act.put, List.getElem_toArray, List.getElem_cons_zero, List.getElem_cons_succ, List.setIfInBounds_toArray, List.set_cons_zero, List.set_cons_succ]
                    refine' wpAnyH_take (i := 7) (v := _) rfl (by kernel_rfl) (by kernel_rfl) (by kernel_rfl) (fun _ _ _ h => h) (Or.inl ⟨by rfl, ?hy2x7⟩) hHeld ?r2x7
                    case hy2x7 => (intro w hSw; obtain ⟨⟨s0, s1, s2, s3, s4, s5, s6, s7, s8, s9, s10⟩, d0, y0, y1, y2⟩ := HKS.out _ hSw; go_simp; with_reducible rfl)
                    try simp only [Act.put, List.getElem_toArray, List.getElem_cons_zero, List.getElem_cons_succ, List.setIfInBounds_toArray, List.set_cons_zero, List.set_cons_succ]
                    refine' wpAnyH_take (i := 9) (v := _) rfl (by kernel_rfl) (by kernel_rfl) (by kernel_rfl) (fun _ _ _ h => h) (Or.inl ⟨by rfl, ?hy2x9⟩) hHeld ?r2x9
                    case hy2x9 => (intro w hSw; obtain ⟨⟨s0, s1, s2, s3, s4, s5, s6, s7, s8, s9, s10⟩, d0, y0, y1, y2⟩ := HKS.out _ hSw; go_simp; with_reducible rfl)
                    try simp only [Act.put, List.getElem_toArray, List.getElem_cons_zero, List.getElem_cons_succ, List.setIfInBounds_toArray, List.set_cons_zero, List.set_cons_succ]
                    refine' wpAnyH_take (i := 10) (v := _) rfl (by kernel_rfl) (by kernel_rfl) (by kernel_rfl) (fun _ _ _ h => h) (Or.inl ⟨by rfl, ?hy2x10⟩) hHeld ?r2x10
                    case hy2x10 => (intro w hSw; obtain ⟨⟨s0, s1, s2, s3, s4, s5, s6, s7, s8, s9, s10⟩, d0, y0, y1, y2⟩ := HKS.out _ hSw; go_simp; with_reducible rfl)
                    try simp only [Act.put, List.getElem_toArray, List.getElem_cons_zero, List.getElem_cons_succ, List.setIfInBounds_toArray, List.set_cons_zero, List.set_cons_succ]
                    refine' wpAnyH_take (i := 11) (v := _) rfl (by kernel_rfl) (by kernel_rfl) (by kernel_rfl) (fun _ _ _ h => h) (Or.inl ⟨by rfl, ?hy2x11⟩) hHeld ?r2x11
                    case hy2x11 => (intro w hSw; obtain ⟨⟨s0, s1, s2, s3, s4, s5, s6, s7, s8, s9, s10⟩, d0, y0, y1, y2⟩ := HKS.out _ hSw; go_simp; with_reducible rfl)
                    try simp only [Act.put, List.getElem_toArray, List.getElem_cons_zero, List.getElem_cons_succ, List.setIfInBounds_toArray, List.set_cons_zero, List.set_cons_succ]
                    refine wpAnyH_ready (rs := [0]) (by kernel_rfl) (by simp) ?_
                    refine AllReadyH.cons rfl (fun K hK => ?_) AllReadyH.nil
                    go_simp
                    have HST := Lib.hid ((Only.refl (fun _ => False) wd).alloc (.cells #[] 73))
                    have HE := Lib.hid (World.ownsRow_made (e := 73) (base := wd.heap.size) (size := 2) wd #[] 0 (Nat.le_refl _) (Nat.zero_le _) rfl)
                    have HOX := Lib.hid (HOX.out.trans HST.out)
                    have HT := Lib.hid (HST.out.owns HT.out (fun _ _ h => h))
                    refine hK.out _ _ HOX.out (fun hHeld => ?_)
                    clear hK K
                    try simp only [Act.put, List.getElem_toArray, List.getElem_cons_zero, List.getElem_cons_succ, List.setIfInBounds_toArray, List.set_cons_zero, List.set_cons_succ]
                    generalize (wd.alloc (.cells #[] 73)) = v1 at *
                    obtain ⟨gd, hgd⟩ : ∃ n, wd.heap.size = n := ⟨_, rfl⟩
                    rw [hgd] at HE HSD ⊢
                    have HGD := Lib.hid hgd
                    clear hgd
                    clear HST
                    refine wpAnyH_ready (rs := [3]) (by kernel_rfl) (by simp) ?_
                    refine AllReadyH.cons rfl (fun K hK => ?_) AllReadyH.nil
                    have hsz1 := HOX.out.size
                    refine step_append_row rfl _ _ 30 rfl gd w1.heap.size 73 i0 _ 2 24 Tryz.underlying30 HI.out HI0.out HI1.out HI2.out rfl (by decide) _ 0 [] (by rfl) HE.out _ d.places.length (prow d.places) (by rfl) HT.out (prow_one _) (by have := HLN.out; unfold maxLen; omega) (by have := HLN.out; omega) (by have := HGD.out; omega) ?_
                    intro u1 v2 hown hgrow
                    rw [Nat.zero_add, List.nil_append] at hown
                    have HA := Lib.hid hown
                    have HOX := Lib.hid (HOX.out.trans' (S := fun _ => False) ((Only.refl _ _).grown hgrow (fun i e _ => e)) (fun i hi e => by have := ownR_ge HE.out e; have := HGD.out; omega))
                    clear HE HT hown hgrow hsz1
                    refine hK.out _ _ HOX.out (fun hHeld => ?_)
                    clear hK K
                    try simp only [Act.put, List.getElem_toArray, List.getElem_cons_zero, List.getElem_cons_succ, List.setIfInBounds_toArray, List.set_cons_zero, List.set_cons_succ]
                    refine wpAnyH_ready (rs := [8]) (by kernel_rfl) (by simp) ?_
                    refine AllReadyH.cons rfl (fun K hK => ?_) AllReadyH.nil
                    go_simp
                    refine (nameP_any x0 p.wild _).mono ?_
                    rintro e v3 ⟨rfl, hST⟩
                    have HOX := Lib.hid (HOX.out.trans hST)
                    have HA := Lib.hid (hST.owns HA.out (fun _ _ h => h))
                    refine hK.out _ _ HOX.out (fun hHeld => ?_)
                    clear hK K
                    try simp only [Act.put, List.getElem_toArray, List.getElem_cons_zero, List.getElem_cons_succ, List.setIfInBounds_toArray, List.set_cons_zero, List.set_cons_succ]
                    clear hST
                    refine wpAnyH_ready (rs := [12]) (by kernel_rfl) (by simp) ?_
                    refine AllReadyH.cons rfl (fun K hK => ?_) AllReadyH.nil
                    go_simp
                    refine (number_any13 p _ _ x1 _).mono ?_
                    rintro e v4 ⟨rfl, hST⟩
                    have HOX := Lib.hid (HOX.out.trans hST)
                    have HA := Lib.hid (hST.owns HA.out (fun _ _ h => h))
                    refine hK.out _ _ HOX.out (fun hHeld => ?_)
                    clear hK K
                    try simp only [Act.put, List.getElem_toArray, List.getElem_cons_zero, List.getElem_cons_succ, List.setIfInBounds_toArray, List.set_cons_zero, List.set_cons_succ]
                    clear hST
                    refine' wpAnyH_take (i := 13) (v := _) rfl (by kernel_rfl) (by kernel_rfl) (by kernel_rfl) (fun _ _ _ h => h) (Or.inl ⟨by rfl, ?hy2x13⟩) hHeld ?r2x13
                    case hy2x13 => (intro w hSw; obtain ⟨⟨s0, s1, s2, s3, s4, s5, s6, s7, s8, s9, s10⟩, d0, y0, y1, y2⟩ := HKS.out _ hSw; go_simp; with_reducible rfl)
                    try simp only [Act.put, List.getElem_toArray, List.getElem_cons_zero, List.getElem_cons_succ, List.setIfInBounds_toArray, List.set_cons_zero, List.set_cons_succ]
                    refine wpAnyH_ready (rs := [14]) (by kernel_rfl) (by simp) ?_
                    refine AllReadyH.cons rfl (fun K hK => ?_) AllReadyH.nil
                    go_simp
                    have HST := Lib.hid ((Only.refl (fun _ => False) v4).alloc (.cells #[.string (nmZ p.wild x0), .int .i64 (nbZ p.wild x1)] 73))
                    have HN := Lib.hid (show (v4.alloc (.cells #[.string (nmZ p.wild x0), .int .i64 (nbZ p.wild x1)] 73)).ownsRow v4.heap.size 73 2 (.slice (some ⟨v4.heap.size, 0, none⟩) 1 1) 1 [.string (nmZ p.wild x0), .int .i64 (nbZ p.wild x1)] from own_newN v4 73 2 1 [.string (nmZ p.wild x0), .int .i64 (nbZ p.wild x1)] rfl (by decide))
                    have HOX := Lib.hid (HOX.out.trans HST.out)
                    have HA := Lib.hid (HST.out.owns HA.out (fun _ _ h => h))
                    refine hK.out _ _ HOX.out (fun hHeld => ?_)
                    clear hK K
                    try simp only [Act.put, List.getElem_toArray, List.getElem_cons_zero, List.getElem_cons_succ, List.setIfInBounds_toArray, List.set_cons_zero, List.set_cons_succ]
                    generalize (v4.alloc _) = v8 at *
                    generalize v4.heap.size = g8 at *
                    clear HST
                    refine wpAnyH_ready (rs := [15]) (by kernel_rfl) (by simp) ?_
                    refine AllReadyH.cons rfl (fun K hK => ?_) AllReadyH.nil
                    have hsz1 := HOX.out.size
                    refine step_append_row rfl _ _ 30 rfl gd g8 73 i0 _ 2 24 Tryz.underlying30 HI.out HI0.out HI1.out HI2.out rfl (by decide) _ d.places.length (prow d.places) (by rfl) HA.out _ 1 [.string (nmZ p.wild x0), .int .i64 (nbZ p.wild x1)] (by rfl) HN.out (two_oneR _ _ rfl rfl) (by have := HLN.out; unfold maxLen; omega) (by have := HLN.out; omega) (by have := HGD.out; omega) ?_
                    intro u2 v9 hown hgrow
                    obtain ⟨na, nc, rfl⟩ := slice_of_own hown
                    have HB := Lib.hid hown
                    have HOX := Lib.hid (HOX.out.trans' (S := fun _ => False) ((Only.refl _ _).grown hgrow (fun i e _ => e)) (fun i hi e => by have := ownR_ge HA.out e; have := HGD.out; omega))
                    clear HA HN hown hgrow hsz1
                    refine hK.out _ _ HOX.out (fun hHeld => ?_)
                    clear hK K
                    try simp only [Act.put, List.getElem_toArray, List.getElem_cons_zero, List.getElem_cons_succ, List.setIfInBounds_toArray, List.set_cons_zero, List.set_cons_succ]
                    refine wpAnyH_done (by kernel_rfl) ?_ _
                    simp only [headPost, List.drop_succ_cons, List.drop_zero]
                    have HOW := Lib.hid (((Only.refl (fun _ => False) w4).drew).trans (hwd ▸ HOX.out))
                    clear hHeld HKS HOX
                    have HM9 := Lib.hid (row_still HOW.out HM4.out)
                    have f8 : v9.frozen? ⟨mb, 8, none⟩ = false := frozen_of_row _ _ _ _ _ HM9.out
                    have m8 : v9.cell? ⟨mb, 8, none⟩ = some (Value.slice ap1 d.places.length cp) := cell_of_row _ _ 8 _ _ _ HM9.out
                    have hmb9 : mb < v9.heap.size := (Array.getElem?_eq_some_iff.1 HM9.out).1
                    go_wp2_with fail
                    go_meet
                    refine ⟨(.slice at1 d.tiers.length ct), (.slice na (d.places.length + 1) nc), (.slice aq1 d.quotas.length cq), (.slice ab1 d.barred.length cb), ?_, ⟨(by rw [HEQ.out]; exact set_own (HOW.out.owns HD4.out.tiers (fun _ _ h => h)) (fun e => by have := ownR_blk (HOW.out.owns HD4.out.tiers (fun _ _ h => h)) HM9.out (by decide); exact this e)), (by rw [HEQ.out]; show World.ownsRow _ _ _ _ _ (d.places ++ [_]).length (prow (d.places ++ [_])); rw [List.length_append, prow_app]; exact set_own (ownR_base HB.out (by have := HSD.out; have := HW4.out.size; have := HO.out.size; omega)) (fun e => by have := ownR_blk HB.out HM9.out (by decide); exact this e)), (by rw [HEQ.out]; exact set_own (HOW.out.owns HD4.out.quotas (fun _ _ h => h)) (fun e => by have := ownR_blk (HOW.out.owns HD4.out.quotas (fun _ _ h => h)) HM9.out (by decide); exact this e)), (by rw [HEQ.out]; exact set_own (HOW.out.owns HD4.out.bars (fun _ _ h => h)) (fun e => by have := ownR_blk (HOW.out.owns HD4.out.bars (fun _ _ h => h)) HM9.out (by decide); exact this e))⟩, ?_⟩
                    · refine (heap_setCell_same v9 mb 8 _ _ _ HM9.out).trans ?_
                      rw [HEQ.out]; rfl
                    · exact (HW4.out.trans HOW.out).setCell (.inr (by have := HMB.out; show wr.heap.size ≤ mb; omega)) _
                · as_aux_lemma =>
                    have q1 : (d.kind == 1) = false := by rw [hk]; rfl
                    have q2 : (d.kind == 2) = false := by rw [hk]; rfl
                    have HEQ := Lib.hid (show m = { d with quotas := d.quotas ++ [(nmZ p.wild x0, nbZ p.wild x1, nbZ p.wild x2)] } by rw [← HMM.out]; unfold moreL; rw [if_neg (by rw [hk]; decide), if_neg (by rw [hk]; decide)])
                    have HLN := Lib.hid (show d.quotas.length ≤ 100 by have := HL4.out; omega)
                    clear hk
                    go_upto_region 16 with (fail)
                    clear q1 q2 c1
                    obtain ⟨i0, hi, hz0, hz1, hz2⟩ := info_parts Tryz.infoQu
                    have HI := Lib.hid hi
                    have HI0 := Lib.hid hz0
                    have HI1 := Lib.hid hz1
                    have HI2 := Lib.hid hz2
                    clear hi hz0 hz1 hz2
                    refine wp_region_split2 20 (by kernel_rfl) (by kernel_rfl) (wpAny_of_held (S := fun W => Only (fun _ => False) w4.drew W) _ _ _ _ ?_)
                    simp only [List.take_succ_cons, List.take_zero]
                    change wpAnyH _ _ _ _ _ _ _ _ w4.drew
                    have HKS := Lib.hid (show ∀ W, Only (fun _ => False) w4.drew W → PlS B p vl vb W ∧ W.cell? ⟨b, 11, none⟩ = some (Value.slice aq1 d.quotas.length cq) ∧ W.cell? ⟨wr.heap.size, 0, none⟩ = some (.int .i64 x0) ∧ W.cell? ⟨wr.heap.size, 1, none⟩ = some (.int .i64 x1) ∧ W.cell? ⟨wr.heap.size, 2, none⟩ = some (.int .i64 x2) from fun W hW => ⟨PlS.only (PlS.of (row_still (Only.refl _ w4).drew HZ4.out)) hW, hW.cell (cell_of_row w4.drew b 11 _ _ _ HR4.out) id, hW.cell (cell_of_row w4.drew wr.heap.size 0 _ _ _ HX4.out) id, hW.cell (cell_of_row w4.drew wr.heap.size 1 _ _ _ HX4.out) id, hW.cell (cell_of_row w4.drew wr.heap.size 2 _ _ _ HX4.out) id⟩)
                    have HT := Lib.hid (owns_drew HD4.out.quotas)
                    have hHeld : Only (fun _ => False) w4.drew w4.drew := Only.refl _ _
                    have HOX := Lib.hid hHeld
                    have hsd : w4.drew.heap.size = w4.heap.size := rfl
                    obtain ⟨wd, hwd⟩ : ∃ wd, w4.drew = wd := ⟨_, rfl⟩
                    rw [hwd] at HKS HT hHeld HOX hsd ⊢
                    have HSD := Lib.hid hsd
                    clear hsd
                    refine' wpAnyH_take (i := 1) (v := _) rfl (by kernel_rfl) (by kernel_rfl) (by kernel_rfl) (fun _ _ _ h => h) (Or.inl ⟨by rfl, ?hy3x1⟩) hHeld ?r3x1
                    case hy3x1 => (intro w hSw; obtain ⟨⟨s0, s1, s2, s3, s4, s5, s6, s7, s8, s9, s10⟩, d0, y0, y1, y2⟩ := HKS.out _ hSw; go_simp; with_reducible rfl)
                    try simp only [Act.put, List.getElem_toArray, List.getElem_cons_zero, List.getElem_cons_succ, List.setIfInBounds_toArray, List.set_cons_zero, List.set_cons_succ]
                    refine' wpAnyH_take (i := 2) (v := _) rfl (by kernel_rfl) (by kernel_rfl) (by kernel_rfl) (fun _ _ _ h => h) (Or.inl ⟨by rfl, ?hy3x2⟩) hHeld ?r3x2
                    case hy3x2 => (intro w hSw; obtain ⟨⟨s0, s1, s2, s3, s4, s5, s6, s7, s8, s9, s10⟩, d0, y0, y1, y2⟩ := HKS.out _ hSw; go_simp; with_reducible rfl)
                    try simp only [Act.put, List.getElem_toArray, List.getElem_cons_zero, List.getElem_cons_succ, List.setIfInBounds_toArray, List.set_cons_zero, List.set_cons_succ]
                    refine' wpAnyH_take (i := 4) (v := _) rfl (by kernel_rfl) (by kernel_rfl) (by kernel_rfl) (fun _ _ _ h => h) (Or.inl ⟨by rfl, ?hy3x4⟩) hHeld ?r3x4
                    case hy3x4 => (intro w hSw; obtain ⟨⟨s0, s1, s2, s3, s4, s5, s6, s7, s8, s9, s10⟩, d0, y0, y1, y2⟩ := HKS.out _ hSw; go_simp; with_reducible rfl)
                    try simp only [Act.put, List.getElem_toArray, List.getElem_cons_zero, List.getElem_cons_succ, List.setIfInBounds_toArray, List.set_cons_zero, List.set_cons_succ]
                    refine' wpAnyH_take (i := 5) (v := _) rfl (by kernel_rfl) (by kernel_rfl) (by kernel_rfl) (fun _ _ _ h => h) (Or.inl ⟨by rfl, ?hy3x5⟩) hHeld ?r3x5
                    case hy3x5 => (intro w hSw; obtain ⟨⟨s0, s1, s2, s3, s4, s5, s6, s7, s8, s9, s10⟩, d0, y0, y1, y2⟩ := HKS.out _ hSw; go_simp; with_reducible rfl)
                    try simp only [Act.put, List.getElem_toArray, List.getElem_cons_zero, List.getElem_cons_succ, List.setIfInBounds_toArray, List.set_cons_zero, List.set_cons_succ]
                    refine' wpAnyH_take (i := 6) (v := _) rfl (by kernel_rfl) (by kernel_rfl) (by kernel_rfl) (fun _ _ _ h => h) (Or.inl ⟨by rfl, ?hy3x6⟩) hHeld ?r3x6
                    case hy3x6 => (intro w hSw; obtain ⟨⟨s0, s1, s2, s3, s4, s5, s6, s7, s8, s9, s10⟩, d0, y0, y1, y2⟩ := HKS.out _ hSw; go_simp; with_reducible rfl)
                    try simp only [Act.put, List.getElem_toArray, List.getElem_cons_zero, List.getElem_cons_succ, List.setIfInBounds_toArray, List.set_cons_zero, List.set_cons_succ]
                    refine' wpAnyH_take (i := 7) (v := _) rfl (by kernel_rfl) (by kernel_rfl) (by kernel_rfl) (fun _ _ _ h => h) (Or.inl ⟨by rfl, ?hy3x7⟩) hHeld ?r3x7
                    case hy3x7 => (intro w hSw; obtain ⟨⟨s0, s1, s2, s3, s4, s5, s6, s7, s8, s9, s10⟩, d0, y0, y1, y2⟩ := HKS.out _ hSw; go_simp; with_reducible rfl)
                    try simp only [Act.put, List.getElem_toArray, List.getElem_cons_zero, List.getElem_cons_succ, List.setIfInBounds_toArray, List.set_cons_zero, List.set_cons_succ]
                    refine' wpAnyH_take (i := 9) (v := _) rfl (by kernel_rfl) (by kernel_rfl) (by kernel_rfl) (fun _ _ _ h => h) (Or.inl ⟨by rfl, ?hy3x9⟩) hHeld ?r3x9
                    case hy3x9 => (intro w hSw; obtain ⟨⟨s0, s1, s2, s3, s4, s5, s6, s7, s8, s9, s10⟩, d0, y0, y1, y2⟩ := HKS.out _ hSw; go_simp; with_reducible rfl)
                    try simp only [Act.put, List.getElem_toArray, List.getElem_cons_zero, List.getElem_cons_succ, List.setIfInBounds_toArray, List.set_cons_zero, List.set_cons_succ]
                    refine' wpAnyH_take (i := 10) (v := _) rfl (by kernel_rfl) (by kernel_rfl) (by kernel_rfl) (fun _ _ _ h => h) (Or.inl ⟨by rfl, ?hy3x10⟩) hHeld ?r3x10
                    case hy3x10 => (intro w hSw; obtain ⟨⟨s0, s1, s2, s3, s4, s5, s6, s7, s8, s9, s10⟩, d0, y0, y1, y2⟩ := HKS.out _ hSw; go_simp; with_reducible rfl)
                    try simp only [Act.put, List.getElem_toArray, List.getElem_cons_zero, List.getElem_cons_succ, List.setIfInBounds_toArray, List.set_cons_zero, List.set_cons_succ]
                    refine' wpAnyH_take (i := 11) (v := _) rfl (by kernel_rfl) (by kernel_rfl) (by kernel_rfl) (fun _ _ _ h => h) (Or.inl ⟨by rfl, ?hy3x11⟩) hHeld ?r3x11
                    case hy3x11 => (intro w hSw; obtain ⟨⟨s0, s1, s2, s3, s4, s5, s6, s7, s8, s9, s10⟩, d0, y0, y1, y2⟩ := HKS.out _ hSw; go_simp; with_reducible rfl)
                    try simp only [Act.put, List.getElem_toArray, List.getElem_cons_zero, List.getElem_cons_succ, List.setIfInBounds_toArray, List.set_cons_zero, List.set_cons_succ]
                    refine' wpAnyH_take (i := 13) (v := _) rfl (by kernel_rfl) (by kernel_rfl) (by kernel_rfl) (fun _ _ _ h => h) (Or.inl ⟨by rfl, ?hy3x13⟩) hHeld ?r3x13
                    case hy3x13 => (intro w hSw; obtain ⟨⟨s0, s1, s2, s3, s4, s5, s6, s7, s8, s9, s10⟩, d0, y0, y1, y2⟩ := HKS.out _ hSw; go_simp; with_reducible rfl)
                    try simp only [Act.put, List.getElem_toArray, List.getElem_cons_zero, List.getElem_cons_succ, List.setIfInBounds_toArray, List.set_cons_zero, List.set_cons_succ]
                    refine' wpAnyH_take (i := 14) (v := _) rfl (by kernel_rfl) (by kernel_rfl) (by kernel_rfl) (fun _ _ _ h => h) (Or.inl ⟨by rfl, ?hy3x14⟩) hHeld ?r3x14
                    case hy3x14 => (intro w hSw; obtain ⟨⟨s0, s1, s2, s3, s4, s5, s6, s7, s8, s9, s10⟩, d0, y0, y1, y2⟩ := HKS.out _ hSw; go_simp; with_reducible rfl)
                    try simp only [Act.put, List.getElem_toArray, List.getElem_cons_zero, List.getElem_cons_succ, List.setIfInBounds_toArray, List.set_cons_zero, List.set_cons_succ]
                    refine' wpAnyH_take (i := 15) (v := _) rfl (by kernel_rfl) (by kernel_rfl) (by kernel_rfl) (fun _ _ _ h => h) (Or.inl ⟨by rfl, ?hy3x15⟩) hHeld ?r3x15
                    case hy3x15 => (intro w hSw; obtain ⟨⟨s0, s1, s2, s3, s4, s5, s6, s7, s8, s9, s10⟩, d0, y0, y1, y2⟩ := HKS.out _ hSw; go_simp; with_reducible rfl)
                    try simp only [Act.put, List.getElem_toArray, List.getElem_cons_zero, List.getElem_cons_succ, List.setIfInBounds_toArray, List.set_cons_zero, List.set_cons_succ]
                    refine wpAnyH_ready (rs := [0]) (by kernel_rfl) (by simp) ?_
                    refine AllReadyH.cons rfl (fun K hK => ?_) AllReadyH.nil
                    go_simp
                    have HST := Lib.hid ((Only.refl (fun _ => False) wd).alloc (.cells #[] 75))
                    have HE := Lib.hid (World.ownsRow_made (e := 75) (base := wd.heap.size) (size := 3) wd #[] 0 (Nat.le_refl _) (Nat.zero_le _) rfl)
                    have HOX := Lib.hid (HOX.out.trans HST.out)
                    have HT := Lib.hid (HST.out.owns HT.out (fun _ _ h => h))
                    refine hK.out _ _ HOX.out (fun hHeld => ?_)
                    clear hK K
                    try simp only [Act.put, List.getElem_toArray, List.getElem_cons_zero, List.getElem_cons_succ, List.setIfInBounds_toArray, List.set_cons_zero, List.set_cons_succ]
                    generalize (wd.alloc (.cells #[] 75)) = v1 at *
                    obtain ⟨gd, hgd⟩ : ∃ n, wd.heap.size = n := ⟨_, rfl⟩
                    rw [hgd] at HE HSD ⊢
                    have HGD := Lib.hid hgd
                    clear hgd
                    clear HST
                    refine wpAnyH_ready (rs := [3]) (by kernel_rfl) (by simp) ?_
                    refine AllReadyH.cons rfl (fun K hK => ?_) AllReadyH.nil
                    have hsz1 := HOX.out.size
                    refine step_append_row rfl _ _ 31 rfl gd w1.heap.size 75 i0 _ 3 32 Tryz.underlying31 HI.out HI0.out HI1.out HI2.out rfl (by decide) _ 0 [] (by rfl) HE.out _ d.quotas.length (qrow d.quotas) (by rfl) HT.out (qrow_one _) (by have := HLN.out; unfold maxLen; omega) (by have := HLN.out; omega) (by have := HGD.out; omega) ?_
                    intro u1 v2 hown hgrow
                    rw [Nat.zero_add, List.nil_append] at hown
                    have HA := Lib.hid hown
                    have HOX := Lib.hid (HOX.out.trans' (S := fun _ => False) ((Only.refl _ _).grown hgrow (fun i e _ => e)) (fun i hi e => by have := ownR_ge HE.out e; have := HGD.out; omega))
                    clear HE HT hown hgrow hsz1
                    refine hK.out _ _ HOX.out (fun hHeld => ?_)
                    clear hK K
                    try simp only [Act.put, List.getElem_toArray, List.getElem_cons_zero, List.getElem_cons_succ, List.setIfInBounds_toArray, List.set_cons_zero, List.set_cons_succ]
                    refine wpAnyH_ready (rs := [8]) (by kernel_rfl) (by simp) ?_
                    refine AllReadyH.cons rfl (fun K hK => ?_) AllReadyH.nil
                    go_simp
                    refine (nameP_any x0 p.wild _).mono ?_
                    rintro e v3 ⟨rfl, hST⟩
                    have HOX := Lib.hid (HOX.out.trans hST)
                    have HA := Lib.hid (hST.owns HA.out (fun _ _ h => h))
                    refine hK.out _ _ HOX.out (fun hHeld => ?_)
                    clear hK K
                    try simp only [Act.put, List.getElem_toArray, List.getElem_cons_zero, List.getElem_cons_succ, List.setIfInBounds_toArray, List.set_cons_zero, List.set_cons_succ]
                    clear hST
                    refine wpAnyH_ready (rs := [12]) (by kernel_rfl) (by simp) ?_
                    refine AllReadyH.cons rfl (fun K hK => ?_) AllReadyH.nil
                    go_simp
                    refine (number_any13 p _ _ x1 _).mono ?_
                    rintro e v4 ⟨rfl, hST⟩
                    have HOX := Lib.hid (HOX.out.trans hST)
                    have HA := Lib.hid (hST.owns HA.out (fun _ _ h => h))
                    refine hK.out _ _ HOX.out (fun hHeld => ?_)
                    clear hK K
                    try simp only [Act.put, List.getElem_toArray, List.getElem_cons_zero, List.getElem_cons_succ, List.setIfInBounds_toArray, List.set_cons_zero, List.set_cons_succ]
                    clear hST
                    refine wpAnyH_ready (rs := [16]) (by kernel_rfl) (by simp) ?_
                    refine AllReadyH.cons rfl (fun K hK => ?_) AllReadyH.nil
                    go_simp
                    refine (number_any13 p _ _ x2 _).mono ?_
                    rintro e v5 ⟨rfl, hST⟩
                    have HOX := Lib.hid (HOX.out.trans hST)
                    have HA := Lib.hid (hST.owns HA.out (fun _ _ h => h))
                    refine hK.out _ _ HOX.out (fun hHeld => ?_)
                    clear hK K
                    try simp only [Act.put, List.getElem_toArray, List.getElem_cons_zero, List.getElem_cons_succ, List.setIfInBounds_toArray, List.set_cons_zero, List.set_cons_succ]
                    clear hST
                    refine' wpAnyH_take (i := 17) (v := _) rfl (by kernel_rfl) (by kernel_rfl) (by kernel_rfl) (fun _ _ _ h => h) (Or.inl ⟨by rfl, ?hy3x17⟩) hHeld ?r3x17
                    case hy3x17 => (intro w hSw; obtain ⟨⟨s0, s1, s2, s3, s4, s5, s6, s7, s8, s9, s10⟩, d0, y0, y1, y2⟩ := HKS.out _ hSw; go_simp; with_reducible rfl)
                    try simp only [Act.put, List.getElem_toArray, List.getElem_cons_zero, List.getElem_cons_succ, List.setIfInBounds_toArray, List.set_cons_zero, List.set_cons_succ]
                    refine wpAnyH_ready (rs := [18]) (by kernel_rfl) (by simp) ?_
                    refine AllReadyH.cons rfl (fun K hK => ?_) AllReadyH.nil
                    go_simp
                    have HST := Lib.hid ((Only.refl (fun _ => False) v5).alloc (.cells #[.string (nmZ p.wild x0), .int .i64 (nbZ p.wild x1), .int .i64 (nbZ p.wild x2)] 75))
                    have HN := Lib.hid (show (v5.alloc (.cells #[.string (nmZ p.wild x0), .int .i64 (nbZ p.wild x1), .int .i64 (nbZ p.wild x2)] 75)).ownsRow v5.heap.size 75 3 (.slice (some ⟨v5.heap.size, 0, none⟩) 1 1) 1 [.string (nmZ p.wild x0), .int .i64 (nbZ p.wild x1), .int .i64 (nbZ p.wild x2)] from own_newN v5 75 3 1 [.string (nmZ p.wild x0), .int .i64 (nbZ p.wild x1), .int .i64 (nbZ p.wild x2)] rfl (by decide))
                    have HOX := Lib.hid (HOX.out.trans HST.out)
                    have HA := Lib.hid (HST.out.owns HA.out (fun _ _ h => h))
                    refine hK.out _ _ HOX.out (fun hHeld => ?_)
                    clear hK K
                    try simp only [Act.put, List.getElem_toArray, List.getElem_cons_zero, List.getElem_cons_succ, List.setIfInBounds_toArray, List.set_cons_zero, List.set_cons_succ]
                    generalize (v5.alloc _) = v8 at *
                    generalize v5.heap.size = g8 at *
                    clear HST
                    refine wpAnyH_ready (rs := [19]) (by kernel_rfl) (by simp) ?_
                    refine AllReadyH.cons rfl (fun K hK => ?_) AllReadyH.nil
                    have hsz1 := HOX.out.size
                    refine step_append_row rfl _ _ 31 rfl gd g8 75 i0 _ 3 32 Tryz.underlying31 HI.out HI0.out HI1.out HI2.out rfl (by decide) _ d.quotas.length (qrow d.quotas) (by rfl) HA.out _ 1 [.string (nmZ p.wild x0), .int .i64 (nbZ p.wild x1), .int .i64 (nbZ p.wild x2)] (by rfl) HN.out (three_oneR _ _ _ rfl rfl rfl) (by have := HLN.out; unfold maxLen; omega) (by have := HLN.out; omega) (by have := HGD.out; omega) ?_
                    intro u2 v9 hown hgrow
                    obtain ⟨na, nc, rfl⟩ := slice_of_own hown
                    have HB := Lib.hid hown
                    have HOX := Lib.hid (HOX.out.trans' (S := fun _ => False) ((Only.refl _ _).grown hgrow (fun i e _ => e)) (fun i hi e => by have := ownR_ge HA.out e; have := HGD.out; omega))
                    clear HA HN hown hgrow hsz1
                    refine hK.out _ _ HOX.out (fun hHeld => ?_)
                    clear hK K
                    try simp only [Act.put, List.getElem_toArray, List.getElem_cons_zero, List.getElem_cons_succ, List.setIfInBounds_toArray, List.set_cons_zero, List.set_cons_succ]
                    refine wpAnyH_done (by kernel_rfl) ?_ _
                    simp only [headPost, List.drop_succ_cons, List.drop_zero]
                    have HOW := Lib.hid (((Only.refl (fun _ => False) w4).drew).trans (hwd ▸ HOX.out))
                    clear hHeld HKS HOX
                    have HM9 := Lib.hid (row_still HOW.out HM4.out)
                    have f11 : v9.frozen? ⟨mb, 11, none⟩ = false := frozen_of_row _ _ _ _ _ HM9.out
                    have m11 : v9.cell? ⟨mb, 11, none⟩ = some (Value.slice aq1 d.quotas.length cq) := cell_of_row _ _ 11 _ _ _ HM9.out
                    have hmb9 : mb < v9.heap.size := (Array.getElem?_eq_some_iff.1 HM9.out).1
                    go_wp2_with fail
                    go_meet
                    refine ⟨(.slice at1 d.tiers.length ct), (.slice ap1 d.places.length cp), (.slice na (d.quotas.length + 1) nc), (.slice ab1 d.barred.length cb), ?_, ⟨(by rw [HEQ.out]; exact set_own (HOW.out.owns HD4.out.tiers (fun _ _ h => h)) (fun e => by have := ownR_blk (HOW.out.owns HD4.out.tiers (fun _ _ h => h)) HM9.out (by decide); exact this e)), (by rw [HEQ.out]; exact set_own (HOW.out.owns HD4.out.places (fun _ _ h => h)) (fun e => by have := ownR_blk (HOW.out.owns HD4.out.places (fun _ _ h => h)) HM9.out (by decide); exact this e)), (by rw [HEQ.out]; show World.ownsRow _ _ _ _ _ (d.quotas ++ [_]).length (qrow (d.quotas ++ [_])); rw [List.length_append, qrow_app]; exact set_own (ownR_base HB.out (by have := HSD.out; have := HW4.out.size; have := HO.out.size; omega)) (fun e => by have := ownR_blk HB.out HM9.out (by decide); exact this e)), (by rw [HEQ.out]; exact set_own (HOW.out.owns HD4.out.bars (fun _ _ h => h)) (fun e => by have := ownR_blk (HOW.out.owns HD4.out.bars (fun _ _ h => h)) HM9.out (by decide); exact this e))⟩, ?_⟩
                    · refine (heap_setCell_same v9 mb 11 _ _ _ HM9.out).trans ?_
                      rw [HEQ.out]; rfl
                    · exact (HW4.out.trans HOW.out).setCell (.inr (by have := HMB.out; show wr.heap.size ≤ mb; omega)) _
              case rest =>
                obtain ⟨ut, up, uq, ub, hmr, hmd, hO5⟩ := hcut
                obtain ⟨bt1, dt, rfl⟩ := slice_of_own hmd.tiers
                obtain ⟨bp1, dp, rfl⟩ := slice_of_own hmd.places
                obtain ⟨bq1, dq, rfl⟩ := slice_of_own hmd.quotas
                obtain ⟨bb1, db, rfl⟩ := slice_of_own hmd.bars
                have HM5 := Lib.hid hmr
                have HD5 := Lib.hid hmd
                have HO5 := Lib.hid hO5
                have HR5 := Lib.hid (row_still hO5 HR.out)
                have HE5 := Lib.hid (HD.out.only hO5 (fun _ _ h => h))
                have HZ5 := Lib.hid (row_still hO5 HZr.out)
                have HMT := Lib.hid (show MkTry (k + 1) 0 m from HMM.out ▸ moreL_try HMO.out.try' _ H6x.out)
                have HLT2 := Lib.hid (show k + 1 ≤ 14 from by have := H14.out; omega)
                rw [HMM.out] at HNX
                clear hmr hmd hO5 c1 HX4 HR4 HZ4 HD4 HM4 HW4
                obtain ⟨e0, e1, e2, e3, e4, e5, e6, e7, e8, e9, e10⟩ := PlS.of HZ5.out
                have hmb5 : mb < wc.heap.size := (Array.getElem?_eq_some_iff.1 HM5.out).1
                have hbr5 : b < wc.heap.size := (Array.getElem?_eq_some_iff.1 HR5.out).1
                have hB5 : B < wc.heap.size := (Array.getElem?_eq_some_iff.1 HZ5.out).1
                clear hmb4 hxg4 hbr4 hB4 hbr hBr
                have HTN := Lib.hid HNX.out
                as_aux_lemma =>
                  cases hw : p.wild
                  · rw [hw] at e10
                    have HWI := Lib.hid hw
                    have HPR := Lib.hid (rprint13_any m (.slice bt1 m.tiers.length dt) (.slice bp1 m.places.length dp) (.slice bq1 m.quotas.length dq) (.slice bb1 m.barred.length db) w1.heap.size wc HD5.out HMT.out.short HMT.out.nums (by have h1 := HMT.out.len; have h2 := HMT.out.bar; have h3 := HLT2.out; omega))
                    have HPS := Lib.hid (print_some (d := m))
                    clear hw
                    have m0 : wc.cell? ⟨mb, 0, none⟩ = some (Value.string m.name) := cell_of_row _ _ 0 _ _ _ HM5.out
                    have m1 : wc.cell? ⟨mb, 1, none⟩ = some (Value.int .i64 m.kind) := cell_of_row _ _ 1 _ _ _ HM5.out
                    have m2 : wc.cell? ⟨mb, 2, none⟩ = some (Value.int .i64 m.round) := cell_of_row _ _ 2 _ _ _ HM5.out
                    have m3 : wc.cell? ⟨mb, 3, none⟩ = some (Value.int .i64 m.price) := cell_of_row _ _ 3 _ _ _ HM5.out
                    have m4 : wc.cell? ⟨mb, 4, none⟩ = some (Value.int .i64 m.pool) := cell_of_row _ _ 4 _ _ _ HM5.out
                    have m5 : wc.cell? ⟨mb, 5, none⟩ = some (Value.int .i64 m.pick) := cell_of_row _ _ 5 _ _ _ HM5.out
                    have m6 : wc.cell? ⟨mb, 6, none⟩ = some (Value.slice bt1 m.tiers.length dt) := cell_of_row _ _ 6 _ _ _ HM5.out
                    have m7 : wc.cell? ⟨mb, 7, none⟩ = some (Value.bool m.roll) := cell_of_row _ _ 7 _ _ _ HM5.out
                    have m8 : wc.cell? ⟨mb, 8, none⟩ = some (Value.slice bp1 m.places.length dp) := cell_of_row _ _ 8 _ _ _ HM5.out
                    have m9 : wc.cell? ⟨mb, 9, none⟩ = some (Value.int .i64 m.cls) := cell_of_row _ _ 9 _ _ _ HM5.out
                    have m10 : wc.cell? ⟨mb, 10, none⟩ = some (Value.int .i64 m.size) := cell_of_row _ _ 10 _ _ _ HM5.out
                    have m11 : wc.cell? ⟨mb, 11, none⟩ = some (Value.slice bq1 m.quotas.length dq) := cell_of_row _ _ 11 _ _ _ HM5.out
                    have m12 : wc.cell? ⟨mb, 12, none⟩ = some (Value.slice bb1 m.barred.length db) := cell_of_row _ _ 12 _ _ _ HM5.out
                    go_wp2_with fail
                    refine HPR.out.mono ?_
                    rintro e w6 ⟨rfl, hO6⟩
                    have HO6 := Lib.hid (HO5.out.trans hO6)
                    have HR6 := Lib.hid (row_still hO6 HR5.out)
                    have HM6 := Lib.hid (row_still hO6 HM5.out)
                    have HD6 := Lib.hid (HD5.out.only hO6 (fun _ _ h => h))
                    have HE6 := Lib.hid (HE5.out.only hO6 (fun _ _ h => h))
                    clear hO6 HPR m0 m1 m2 m3 m4 m5 m6 m7 m8 m9 m10 m11 m12 e0 e1 e2 e3 e4 e5 e6 e7 e8 e9 e10
                    have hmb6 : mb < w6.heap.size := (Array.getElem?_eq_some_iff.1 HM6.out).1
                    have hb6 : b < w6.heap.size := (Array.getElem?_eq_some_iff.1 HR6.out).1
                    by_cases hr : rightZ m = true
                    · have q : ((printZ m).toList == []) = false := by
                        rw [beq_eq_false_iff_ne]
                        intro e
                        exact HPS.out.2 hr (ba_ext (by rw [← ByteArray.toList_eq, e]; rfl))
                      have HTK := Lib.hid (show linesZ p (k + 1) = m by rw [HTN.out]; unfold takeP; rw [if_pos (by rw [hr]; simp)])
                      generalize printZ m = pz at *
                      clear hr
                      go_wp2_with (first
                        | (refine wpList_load_row rfl 33 _ rfl mb rfl 33 (drCells m (.slice bt1 m.tiers.length dt) (.slice bp1 m.places.length dp) (.slice bq1 m.quotas.length dq) (.slice bb1 m.barred.length db)) (0, 0) _ HM6.out Tryz.underlying33 rfl Tryz.infoDr ?_)
                        | (refine wpList_store_row rfl 33 _ _ rfl b (drCells m (.slice bt1 m.tiers.length dt) (.slice bp1 m.places.length dp) (.slice bq1 m.quotas.length dq) (.slice bb1 m.barred.length db)) rfl rfl 33 _ HR6.out Tryz.infoDr rfl (cells_one _ _ _ _ _ _ _ _ _ _ _ _ _) ?_))
                      go_roundw
                      case rel => exact ⟨k + 1, (.slice bt1 m.tiers.length dt), (.slice bp1 m.places.length dp), (.slice bq1 m.quotas.length dq), (.slice bb1 m.barred.length db), by go_num, by have := HLT.out; have := H14.out; omega, by rw [HTK.out]; exact setRow_heap _ _ _ _ _ _ HR6.out, by rw [HTK.out]; exact own_rows HD6.out (setRow_heap _ _ _ _ _ _ HR6.out) HR6.out, (HO.out.trans HO6.out).setRow HBL.out _⟩
                      case measure => simp [intOf]; have := H14.out; omega
                    · have q : ((printZ m).toList == []) = true := by
                        have : printZ m = ByteArray.empty := by unfold printZ; rw [if_neg hr]
                        rw [this, ByteArray.toList_eq]; rfl
                      have HTK := Lib.hid (show linesZ p (k + 1) = d by rw [HTN.out]; unfold takeP; rw [if_neg (by rw [HWI.out]; simpa using hr)])
                      generalize printZ m = pz at *
                      clear hr
                      go_wp2_with fail
                      go_roundw
                      case rel => exact ⟨k + 1, (.slice at1 d.tiers.length ct), (.slice ap1 d.places.length cp), (.slice aq1 d.quotas.length cq), (.slice ab1 d.barred.length cb), by go_num, by have := HLT.out; have := H14.out; omega, by rw [HTK.out]; exact HR6.out, by rw [HTK.out]; exact HE6.out, HO.out.trans HO6.out⟩
                      case measure => simp [intOf]; have := H14.out; omega
                  · rw [hw] at e10
                    have HTK := Lib.hid (show linesZ p (k + 1) = m by rw [HTN.out]; unfold takeP; rw [hw]; rfl)
                    clear hw
                    go_wp2_with (first
                      | (refine wpList_load_row rfl 33 _ rfl mb rfl 33 (drCells m (.slice bt1 m.tiers.length dt) (.slice bp1 m.places.length dp) (.slice bq1 m.quotas.length dq) (.slice bb1 m.barred.length db)) (0, 0) _ HM5.out Tryz.underlying33 rfl Tryz.infoDr ?_)
                      | (refine wpList_store_row rfl 33 _ _ rfl b (drCells m (.slice bt1 m.tiers.length dt) (.slice bp1 m.places.length dp) (.slice bq1 m.quotas.length dq) (.slice bb1 m.barred.length db)) rfl rfl 33 _ HR5.out Tryz.infoDr rfl (cells_one _ _ _ _ _ _ _ _ _ _ _ _ _) ?_))
                    go_roundw
                    case rel => exact ⟨k + 1, (.slice bt1 m.tiers.length dt), (.slice bp1 m.places.length dp), (.slice bq1 m.quotas.length dq), (.slice bb1 m.barred.length db), by go_num, by have := HLT.out; have := H14.out; omega, by rw [HTK.out]; exact setRow_heap _ _ _ _ _ _ HR5.out, by rw [HTK.out]; exact own_rows HD5.out (setRow_heap _ _ _ _ _ _ HR5.out) HR5.out, (HO.out.trans HO5.out).setRow HBL.out _⟩
                    case measure => simp [intOf]; have := H14.out; omega
            · obtain rfl : k = 14 := by omega
              have j1 : ((14 : Nat) : Int) < p.lines.length := by omega
              have HE := Lib.hid (show min p.lines.length 14 = 14 by omega)
              clear hlt hk h14
              go_wp2_with fail
              go_meet
              rw [HE.out]
              exact ⟨_, _, _, _, rfl, HR.out, HD.out, HO.out⟩
          · obtain rfl : k = p.lines.length := by omega
            have j1 : ¬ (p.lines.length : Int) < p.lines.length := by omega
            have HE := Lib.hid (show min p.lines.length 14 = p.lines.length by omega)
            clear hlt hk
            go_wp2_with fail
            go_meet
            rw [HE.out]
            exact ⟨_, _, _, _, rfl, HR.out, HD.out, HO.out⟩
      case rest =>
        obtain ⟨vt, vp, vq, vx, rfl, hrow, hown, hO⟩ := hcut
        have HR2 := Lib.hid hrow
        have HD2 := Lib.hid hown
        have HO2 := Lib.hid hO
        have HD0 := Lib.hid (lines_ok p H64.out (min p.lines.length 14) (by omega))
        have HB0 := Lib.hid (fun k (h : k ≤ p.barred.length) => bars_ok p H64.out HD0.out k h)
        have HBN := Lib.hid (fun (k : Nat) (h : k < p.barred.length) => bars_next p (linesZ p (min p.lines.length 14)) h)
        have HMZ := Lib.hid (show makeZ p = barsZ p (linesZ p (min p.lines.length 14)) (min p.barred.length 45) from rfl)
        have HN14 := Lib.hid (show min p.lines.length 14 ≤ 14 by omega)
        clear hrow hown hO HD0
        have HB00 := Lib.hid (show barsZ p (linesZ p (min p.lines.length 14)) 0 = linesZ p (min p.lines.length 14) from rfl)
        generalize linesZ p (min p.lines.length 14) = D0 at *
        generalize min p.lines.length 14 = n0 at *
        go_upto_block 4 with (fail)
        go_cut [3] (fun v wx => ∃ vt vp vq vx, v = .pointer (some ⟨b, 0, none⟩) ∧ wx.heap[b]? = some (.cells (drCells (makeZ p) vt vp vq vx) 33 (0, 0)) ∧ DrOwn w1.heap.size wx (makeZ p) vt vp vq vx ∧ Only (fun _ => False) w1 wx)
        case first =>
          go_wp2_with fail
          go_loopw [7] (fun iv wr => ∃ (k : Nat) (vt vp vq vx : Value), iv = .int .i64 k ∧ k ≤ min p.barred.length 45 ∧ wr.heap[b]? = some (.cells (drCells (barsZ p D0 k) vt vp vq vx) 33 (0, 0)) ∧ DrOwn w1.heap.size wr (barsZ p D0 k) vt vp vq vx ∧ Only (fun _ => False) w1 wr) (fun iv _ => 45 - (intOf iv).toNat)
          case atStart => exact ⟨0, vt, vp, vq, vx, rfl, Nat.zero_le _, by rw [HB00.out]; exact HR2.out, by rw [HB00.out]; exact HD2.out, HO2.out⟩
          case round =>
            obtain ⟨k, vt, vp, vq, vx, rfl, hk, hrow, hown, hO⟩ := hrel
            obtain ⟨at1, ct, rfl⟩ := slice_of_own hown.tiers
            obtain ⟨ap1, cp, rfl⟩ := slice_of_own hown.places
            obtain ⟨aq1, cq, rfl⟩ := slice_of_own hown.quotas
            obtain ⟨ab1, cb, rfl⟩ := slice_of_own hown.bars
            obtain ⟨abb, cbb, hvb⟩ := HPL.out.bars.slice
            have HVB := Lib.hid hvb
            have HPB := Lib.hid HPL.out.bars
            have HR := Lib.hid hrow
            have HD := Lib.hid hown
            have HO := Lib.hid hO
            have HZr := Lib.hid (row_still hO HZ0.out)
            have HK := Lib.hid hk
            have HMO := Lib.hid (HB0.out k (by omega))
            clear hrow hown hO
            obtain ⟨e0, e1, e2, e3, e4, e5, e6, e7, e8, e9, e10⟩ := PlS.of HZr.out
            rw [hvb] at e9 HPB
            clear hvb
            have hbr : b < wr.heap.size := (Array.getElem?_eq_some_iff.1 HR.out).1
            have hBr : B < wr.heap.size := (Array.getElem?_eq_some_iff.1 HZr.out).1
            have j0 : 0 ≤ (k : Int) := by omega
            by_cases hlt : k < p.barred.length
            · by_cases h45 : k < 45
              · have j1 : (k : Int) < p.barred.length := by omega
                have j2 : (k : Int) < 45 := by omega
                obtain ⟨pb, po, hal, hxb, _, hcb1, hcb2, hx0⟩ := HPB.out.cellAt hlt
                subst hal
                have HOw := Lib.hid (HW1.out.trans HO.out)
                have x0c := HOw.out.cell hx0 id
                have HNX := Lib.hid (HBN.out k hlt)
                have H6x := Lib.hid (H64.out.barred _ (List.getElem_mem hlt))
                have HXE := Lib.hid (show p.barred[k] = ptAt p.barred k by unfold ptAt; simp [List.getD, hlt])
                rw [HXE.out] at HNX H6x
                have HLT := Lib.hid hlt
                have H45 := Lib.hid h45
                have hxr : pb < wr.heap.size := by have := HOw.out.size; omega
                clear hx0 hxb h45 HXE
                generalize ptAt p.barred k = x0 at *
                obtain ⟨d, hd⟩ : ∃ d, barsZ p D0 k = d := ⟨_, rfl⟩
                rw [hd] at HR HD HNX HMO
                clear hd hlt hk
                go_upto_region 27 with (first
                  | (refine wpList_load_row rfl 33 _ rfl b rfl 33 (drCells d (.slice at1 d.tiers.length ct) (.slice ap1 d.places.length cp) (.slice aq1 d.quotas.length cq) (.slice ab1 d.barred.length cb)) (0, 0) _ HR.out Tryz.underlying33 rfl Tryz.infoDr ?_)
                  | (refine wpList_store_row rfl 33 _ _ rfl wr.heap.size (drCells d (.slice at1 d.tiers.length ct) (.slice ap1 d.places.length cp) (.slice aq1 d.quotas.length cq) (.slice ab1 d.barred.length cb)) rfl rfl 33 _ (heap_alloc_last wr _) Tryz.infoDr rfl (cells_one _ _ _ _ _ _ _ _ _ _ _ _ _) ?_; rw [World.setRow_alloc_new]))
                have HM4 := Lib.hid (heap_alloc_last wr (.cells (drCells d (.slice at1 d.tiers.length ct) (.slice ap1 d.places.length cp) (.slice aq1 d.quotas.length cq) (.slice ab1 d.barred.length cb)) 33))
                have HW4 := Lib.hid ((Only.refl (fun _ => False) wr).alloc (.cells (drCells d (.slice at1 d.tiers.length ct) (.slice ap1 d.places.length cp) (.slice aq1 d.quotas.length cq) (.slice ab1 d.barred.length cb)) 33))
                have e9c4 := HW4.out.cell e9 id
                have x0c4 := HW4.out.cell x0c id
                generalize World.alloc wr _ = w4 at *
                obtain ⟨mb, hmb⟩ : ∃ n, wr.heap.size = n := ⟨_, rfl⟩
                have hor := HO.out.size
                have HMB := Lib.hid (show wr.heap.size ≤ mb ∧ w1.heap.size ≤ mb from by omega)
                rw [hmb] at HM4 ⊢
                have HR4 := Lib.hid (row_still HW4.out HR.out)
                have HZ4 := Lib.hid (row_still HW4.out HZr.out)
                have HD4 := Lib.hid (HD.out.only HW4.out (fun _ _ h => h))
                have hmb4 : mb < w4.heap.size := (Array.getElem?_eq_some_iff.1 HM4.out).1
                have hbr4 : b < w4.heap.size := (Array.getElem?_eq_some_iff.1 HR4.out).1
                have hB4 : B < w4.heap.size := (Array.getElem?_eq_some_iff.1 HZ4.out).1
                have HL4 := Lib.hid (show d.tiers.length ≤ 100 ∧ d.places.length ≤ 100 ∧ d.quotas.length ≤ 100 ∧ d.barred.length ≤ 100 from by have h1 := HMO.out.len; have h2 := HMO.out.bar; have h3 := H45.out; have h4 := HN14.out; omega)
                clear hmb hor e0 e1 e2 e3 e4 e5 e6 e7 e8 e9 e10 x0c
                obtain ⟨m, hm⟩ : ∃ m, moreB p d x0 = m := ⟨_, rfl⟩
                have HMM := Lib.hid hm
                clear hm
                dsimp only [Act.put]
                go_cut [] (fun wx => ∃ ut up uq ub, wx.heap[mb]? = some (.cells (drCells m ut up uq ub) 33 (0, 0)) ∧ DrOwn w1.heap.size wx m ut up uq ub ∧ Only (fun _ => False) wr wx)
                case first =>
                  as_aux_lemma =>
                    have HEQ := Lib.hid (show m = { d with barred := d.barred ++ [nbZ p.wild x0] } by rw [← HMM.out]; rfl)
                    have HLN := Lib.hid (show d.barred.length ≤ 100 by have := HL4.out; omega)
                    obtain ⟨i0, hi, hz0, hz1, hz2⟩ := info_parts Tryz.infoI
                    have HI := Lib.hid hi
                    have HI0 := Lib.hid hz0
                    have HI1 := Lib.hid hz1
                    have HI2 := Lib.hid hz2
                    clear hi hz0 hz1 hz2
                    refine wp_region_split2 13 (by kernel_rfl) (by kernel_rfl) (wpAny_of_held (S := fun W => Only (fun _ => False) w4.drew W) _ _ _ _ ?_)
                    simp only [List.take_succ_cons, List.take_zero]
                    change wpAnyH _ _ _ _ _ _ _ _ w4.drew
                    have HKS := Lib.hid (show ∀ W, Only (fun _ => False) w4.drew W → PlS B p vl vb W ∧ W.cell? ⟨b, 12, none⟩ = some (Value.slice ab1 d.barred.length cb) ∧ W.cell? ⟨pb, po + k, none⟩ = some (.int .i64 x0) ∧ W.cell? ⟨B, 9, none⟩ = some (.slice (some ⟨pb, po, none⟩) p.barred.length cbb) ∧ W.cell? ⟨B, 10, none⟩ = some (.bool p.wild) from fun W hW => ⟨PlS.only (PlS.of (row_still (Only.refl _ w4).drew HZ4.out)) hW, hW.cell (cell_of_row w4.drew b 12 _ _ _ HR4.out) id, hW.cell (show w4.drew.cell? ⟨pb, po + k, none⟩ = some (.int .i64 x0) from x0c4) id, hW.cell (show w4.drew.cell? ⟨B, 9, none⟩ = some (.slice (some ⟨pb, po, none⟩) p.barred.length cbb) from e9c4) id, hW.cell (cell_of_row w4.drew B 10 _ _ _ HZ4.out) id⟩)
                    have HT := Lib.hid (owns_drew HD4.out.bars)
                    have hHeld : Only (fun _ => False) w4.drew w4.drew := Only.refl _ _
                    have HOX := Lib.hid hHeld
                    have hsd : w4.drew.heap.size = w4.heap.size := rfl
                    obtain ⟨wd, hwd⟩ : ∃ wd, w4.drew = wd := ⟨_, rfl⟩
                    rw [hwd] at HKS HT hHeld HOX hsd ⊢
                    have HSD := Lib.hid hsd
                    clear hsd
                    refine' wpAnyH_take (i := 1) (v := _) rfl (by kernel_rfl) (by kernel_rfl) (by kernel_rfl) (fun _ _ _ h => h) (Or.inl ⟨by rfl, ?hy4x1⟩) hHeld ?r4x1
                    case hy4x1 => (intro w hSw; obtain ⟨⟨s0, s1, s2, s3, s4, s5, s6, s7, s8, -, s10⟩, d0, y0, y1, y2⟩ := HKS.out _ hSw; go_simp; with_reducible rfl)
                    try simp only [Act.put, List.getElem_toArray, List.getElem_cons_zero, List.getElem_cons_succ, List.setIfInBounds_toArray, List.set_cons_zero, List.set_cons_succ]
                    refine' wpAnyH_take (i := 2) (v := _) rfl (by kernel_rfl) (by kernel_rfl) (by kernel_rfl) (fun _ _ _ h => h) (Or.inl ⟨by rfl, ?hy4x2⟩) hHeld ?r4x2
                    case hy4x2 => (intro w hSw; obtain ⟨⟨s0, s1, s2, s3, s4, s5, s6, s7, s8, -, s10⟩, d0, y0, y1, y2⟩ := HKS.out _ hSw; go_simp; with_reducible rfl)
                    try simp only [Act.put, List.getElem_toArray, List.getElem_cons_zero, List.getElem_cons_succ, List.setIfInBounds_toArray, List.set_cons_zero, List.set_cons_succ]
                    refine' wpAnyH_take (i := 4) (v := _) rfl (by kernel_rfl) (by kernel_rfl) (by kernel_rfl) (fun _ _ _ h => h) (Or.inl ⟨by rfl, ?hy4x4⟩) hHeld ?r4x4
                    case hy4x4 => (intro w hSw; obtain ⟨⟨s0, s1, s2, s3, s4, s5, s6, s7, s8, -, s10⟩, d0, y0, y1, y2⟩ := HKS.out _ hSw; go_simp; with_reducible rfl)
                    try simp only [Act.put, List.getElem_toArray, List.getElem_cons_zero, List.getElem_cons_succ, List.setIfInBounds_toArray, List.set_cons_zero, List.set_cons_succ]
                    refine' wpAnyH_take (i := 5) (v := _) rfl (by kernel_rfl) (by kernel_rfl) (by kernel_rfl) (fun _ _ _ h => h) (Or.inl ⟨by rfl, ?hy4x5⟩) hHeld ?r4x5
                    case hy4x5 => (intro w hSw; obtain ⟨⟨s0, s1, s2, s3, s4, s5, s6, s7, s8, -, s10⟩, d0, y0, y1, y2⟩ := HKS.out _ hSw; go_simp; with_reducible rfl)
                    try simp only [Act.put, List.getElem_toArray, List.getElem_cons_zero, List.getElem_cons_succ, List.setIfInBounds_toArray, List.set_cons_zero, List.set_cons_succ]
                    refine' wpAnyH_take (i := 6) (v := _) rfl (by kernel_rfl) (by kernel_rfl) (by kernel_rfl) (fun _ _ _ h => h) (Or.inl ⟨by rfl, ?hy4x6⟩) hHeld ?r4x6
                    case hy4x6 => (intro w hSw; obtain ⟨⟨s0, s1, s2, s3, s4, s5, s6, s7, s8, -, s10⟩, d0, y0, y1, y2⟩ := HKS.out _ hSw; go_simp; with_reducible rfl)
                    try simp only [Act.put, List.getElem_toArray, List.getElem_cons_zero, List.getElem_cons_succ, List.setIfInBounds_toArray, List.set_cons_zero, List.set_cons_succ]
                    refine' wpAnyH_take (i := 7) (v := _) rfl (by kernel_rfl) (by kernel_rfl) (by kernel_rfl) (fun _ _ _ h => h) (Or.inl ⟨by rfl, ?hy4x7⟩) hHeld ?r4x7
                    case hy4x7 => (intro w hSw; obtain ⟨⟨s0, s1, s2, s3, s4, s5, s6, s7, s8, -, s10⟩, d0, y0, y1, y2⟩ := HKS.out _ hSw; go_simp; with_reducible rfl)
                    try simp only [Act.put, List.getElem_toArray, List.getElem_cons_zero, List.getElem_cons_succ, List.setIfInBounds_toArray, List.set_cons_zero, List.set_cons_succ]
                    refine' wpAnyH_take (i := 8) (v := _) rfl (by kernel_rfl) (by kernel_rfl) (by kernel_rfl) (fun _ _ _ h => h) (Or.inl ⟨by rfl, ?hy4x8⟩) hHeld ?r4x8
                    case hy4x8 => (intro w hSw; obtain ⟨⟨s0, s1, s2, s3, s4, s5, s6, s7, s8, -, s10⟩, d0, y0, y1, y2⟩ := HKS.out _ hSw; go_simp; with_reducible rfl)
                    try simp only [Act.put, List.getElem_toArray, List.getElem_cons_zero, List.getElem_cons_succ, List.setIfInBounds_toArray, List.set_cons_zero, List.set_cons_succ]
                    refine' wpAnyH_take (i := 9) (v := _) rfl (by kernel_rfl) (by kernel_rfl) (by kernel_rfl) (fun _ _ _ h => h) (Or.inl ⟨by rfl, ?hy4x9⟩) hHeld ?r4x9
                    case hy4x9 => (intro w hSw; obtain ⟨⟨s0, s1, s2, s3, s4, s5, s6, s7, s8, -, s10⟩, d0, y0, y1, y2⟩ := HKS.out _ hSw; go_simp; with_reducible rfl)
                    try simp only [Act.put, List.getElem_toArray, List.getElem_cons_zero, List.getElem_cons_succ, List.setIfInBounds_toArray, List.set_cons_zero, List.set_cons_succ]
                    refine wpAnyH_ready (rs := [0]) (by kernel_rfl) (by simp) ?_
                    refine AllReadyH.cons rfl (fun K hK => ?_) AllReadyH.nil
                    go_simp
                    have HST := Lib.hid ((Only.refl (fun _ => False) wd).alloc (.cells #[] 3))
                    have HE := Lib.hid (World.ownsRow_made (e := 3) (base := wd.heap.size) (size := 1) wd #[] 0 (Nat.le_refl _) (Nat.zero_le _) rfl)
                    have HOX := Lib.hid (HOX.out.trans HST.out)
                    have HT := Lib.hid (HST.out.owns HT.out (fun _ _ h => h))
                    refine hK.out _ _ HOX.out (fun hHeld => ?_)
                    clear hK K
                    try simp only [Act.put, List.getElem_toArray, List.getElem_cons_zero, List.getElem_cons_succ, List.setIfInBounds_toArray, List.set_cons_zero, List.set_cons_succ]
                    generalize (wd.alloc (.cells #[] 3)) = v1 at *
                    obtain ⟨gd, hgd⟩ : ∃ n, wd.heap.size = n := ⟨_, rfl⟩
                    rw [hgd] at HE HSD ⊢
                    have HGD := Lib.hid hgd
                    clear hgd
                    clear HST
                    refine wpAnyH_ready (rs := [3]) (by kernel_rfl) (by simp) ?_
                    refine AllReadyH.cons rfl (fun K hK => ?_) AllReadyH.nil
                    have hsz1 := HOX.out.size
                    refine step_append_row rfl _ _ 24 rfl gd w1.heap.size 3 i0 _ 1 8 Tryz.underlying24 HI.out HI0.out HI1.out HI2.out rfl (by decide) _ 0 [] (by rfl) HE.out _ d.barred.length (irow d.barred) (by rfl) HT.out (irow_oneR _) (by have := HLN.out; unfold maxLen; omega) (by have := HLN.out; omega) (by have := HGD.out; omega) ?_
                    intro u1 v2 hown hgrow
                    rw [Nat.zero_add, List.nil_append] at hown
                    have HA := Lib.hid hown
                    have HOX := Lib.hid (HOX.out.trans' (S := fun _ => False) ((Only.refl _ _).grown hgrow (fun i e _ => e)) (fun i hi e => by have := ownR_ge HE.out e; have := HGD.out; omega))
                    clear HE HT hown hgrow hsz1
                    refine hK.out _ _ HOX.out (fun hHeld => ?_)
                    clear hK K
                    try simp only [Act.put, List.getElem_toArray, List.getElem_cons_zero, List.getElem_cons_succ, List.setIfInBounds_toArray, List.set_cons_zero, List.set_cons_succ]
                    refine wpAnyH_ready (rs := [10]) (by kernel_rfl) (by simp) ?_
                    refine AllReadyH.cons rfl (fun K hK => ?_) AllReadyH.nil
                    go_simp
                    refine (number_any13 p _ _ x0 _).mono ?_
                    rintro e v3 ⟨rfl, hST⟩
                    have HOX := Lib.hid (HOX.out.trans hST)
                    have HA := Lib.hid (hST.owns HA.out (fun _ _ h => h))
                    refine hK.out _ _ HOX.out (fun hHeld => ?_)
                    clear hK K
                    try simp only [Act.put, List.getElem_toArray, List.getElem_cons_zero, List.getElem_cons_succ, List.setIfInBounds_toArray, List.set_cons_zero, List.set_cons_succ]
                    clear hST
                    refine wpAnyH_ready (rs := [11]) (by kernel_rfl) (by simp) ?_
                    refine AllReadyH.cons rfl (fun K hK => ?_) AllReadyH.nil
                    go_simp
                    have HST := Lib.hid ((Only.refl (fun _ => False) v3).alloc (.cells #[.int .i64 (nbZ p.wild x0)] 3))
                    have HN := Lib.hid (show (v3.alloc (.cells #[.int .i64 (nbZ p.wild x0)] 3)).ownsRow v3.heap.size 3 1 (.slice (some ⟨v3.heap.size, 0, none⟩) 1 1) 1 [.int .i64 (nbZ p.wild x0)] from own_newN v3 3 1 1 [.int .i64 (nbZ p.wild x0)] rfl (by decide))
                    have HOX := Lib.hid (HOX.out.trans HST.out)
                    have HA := Lib.hid (HST.out.owns HA.out (fun _ _ h => h))
                    refine hK.out _ _ HOX.out (fun hHeld => ?_)
                    clear hK K
                    try simp only [Act.put, List.getElem_toArray, List.getElem_cons_zero, List.getElem_cons_succ, List.setIfInBounds_toArray, List.set_cons_zero, List.set_cons_succ]
                    generalize (v3.alloc _) = v8 at *
                    generalize v3.heap.size = g8 at *
                    clear HST
                    refine wpAnyH_ready (rs := [12]) (by kernel_rfl) (by simp) ?_
                    refine AllReadyH.cons rfl (fun K hK => ?_) AllReadyH.nil
                    have hsz1 := HOX.out.size
                    refine step_append_row rfl _ _ 24 rfl gd g8 3 i0 _ 1 8 Tryz.underlying24 HI.out HI0.out HI1.out HI2.out rfl (by decide) _ d.barred.length (irow d.barred) (by rfl) HA.out _ 1 [.int .i64 (nbZ p.wild x0)] (by rfl) HN.out (one_oneR _ rfl) (by have := HLN.out; unfold maxLen; omega) (by have := HLN.out; omega) (by have := HGD.out; omega) ?_
                    intro u2 v9 hown hgrow
                    obtain ⟨na, nc, rfl⟩ := slice_of_own hown
                    have HB := Lib.hid hown
                    have HOX := Lib.hid (HOX.out.trans' (S := fun _ => False) ((Only.refl _ _).grown hgrow (fun i e _ => e)) (fun i hi e => by have := ownR_ge HA.out e; have := HGD.out; omega))
                    clear HA HN hown hgrow hsz1
                    refine hK.out _ _ HOX.out (fun hHeld => ?_)
                    clear hK K
                    try simp only [Act.put, List.getElem_toArray, List.getElem_cons_zero, List.getElem_cons_succ, List.setIfInBounds_toArray, List.set_cons_zero, List.set_cons_succ]
                    refine wpAnyH_done (by kernel_rfl) ?_ _
                    simp only [headPost, List.drop_succ_cons, List.drop_zero]
                    have HOW := Lib.hid (((Only.refl (fun _ => False) w4).drew).trans (hwd ▸ HOX.out))
                    clear hHeld HKS HOX
                    have HM9 := Lib.hid (row_still HOW.out HM4.out)
                    have f12 : v9.frozen? ⟨mb, 12, none⟩ = false := frozen_of_row _ _ _ _ _ HM9.out
                    have m12 : v9.cell? ⟨mb, 12, none⟩ = some (Value.slice ab1 d.barred.length cb) := cell_of_row _ _ 12 _ _ _ HM9.out
                    have hmb9 : mb < v9.heap.size := (Array.getElem?_eq_some_iff.1 HM9.out).1
                    go_wp2_with fail
                    go_meet
                    refine ⟨(.slice at1 d.tiers.length ct), (.slice ap1 d.places.length cp), (.slice aq1 d.quotas.length cq), (.slice na (d.barred.length + 1) nc), ?_, ⟨(by rw [HEQ.out]; exact set_own (HOW.out.owns HD4.out.tiers (fun _ _ h => h)) (fun e => by have := ownR_blk (HOW.out.owns HD4.out.tiers (fun _ _ h => h)) HM9.out (by decide); exact this e)), (by rw [HEQ.out]; exact set_own (HOW.out.owns HD4.out.places (fun _ _ h => h)) (fun e => by have := ownR_blk (HOW.out.owns HD4.out.places (fun _ _ h => h)) HM9.out (by decide); exact this e)), (by rw [HEQ.out]; exact set_own (HOW.out.owns HD4.out.quotas (fun _ _ h => h)) (fun e => by have := ownR_blk (HOW.out.owns HD4.out.quotas (fun _ _ h => h)) HM9.out (by decide); exact this e)), (by rw [HEQ.out]; show World.ownsRow _ _ _ _ _ (d.barred ++ [_]).length (irow (d.barred ++ [_])); rw [List.length_append, irow_app]; exact set_own (ownR_base HB.out (by have := HSD.out; have := HW4.out.size; have := HO.out.size; omega)) (fun e => by have := ownR_blk HB.out HM9.out (by decide); exact this e))⟩, ?_⟩
                    · refine (heap_setCell_same v9 mb 12 _ _ _ HM9.out).trans ?_
                      rw [HEQ.out]; rfl
                    · exact (HW4.out.trans HOW.out).setCell (.inr (by have := HMB.out; show wr.heap.size ≤ mb; omega)) _
                case rest =>
                  obtain ⟨ut, up, uq, ub, hmr, hmd, hO5⟩ := hcut
                  obtain ⟨bt1, dt, rfl⟩ := slice_of_own hmd.tiers
                  obtain ⟨bp1, dp, rfl⟩ := slice_of_own hmd.places
                  obtain ⟨bq1, dq, rfl⟩ := slice_of_own hmd.quotas
                  obtain ⟨bb1, db, rfl⟩ := slice_of_own hmd.bars
                  have HM5 := Lib.hid hmr
                  have HD5 := Lib.hid hmd
                  have HO5 := Lib.hid hO5
                  have HR5 := Lib.hid (row_still hO5 HR.out)
                  have HE5 := Lib.hid (HD.out.only hO5 (fun _ _ h => h))
                  have HZ5 := Lib.hid (row_still hO5 HZr.out)
                  have HMT := Lib.hid (show MkTry n0 (k + 1) m from HMM.out ▸ moreB_try HMO.out.try' _ H6x.out)
                  have HLT2 := Lib.hid (show n0 ≤ 14 ∧ k + 1 ≤ 45 from by have := H45.out; have := HN14.out; omega)
                  rw [HMM.out] at HNX
                  clear hmr hmd hO5 HR4 HZ4 HD4 HM4 HW4 e9c4 x0c4
                  obtain ⟨e0, e1, e2, e3, e4, e5, e6, e7, e8, e9, e10⟩ := PlS.of HZ5.out
                  have hmb5 : mb < wc.heap.size := (Array.getElem?_eq_some_iff.1 HM5.out).1
                  have hbr5 : b < wc.heap.size := (Array.getElem?_eq_some_iff.1 HR5.out).1
                  have hB5 : B < wc.heap.size := (Array.getElem?_eq_some_iff.1 HZ5.out).1
                  clear hmb4 hbr4 hB4 hbr hBr
                  have HTN := Lib.hid HNX.out
                  as_aux_lemma =>
                    cases hw : p.wild
                    · rw [hw] at e10
                      have HWI := Lib.hid hw
                      have HPR := Lib.hid (rprint13_any m (.slice bt1 m.tiers.length dt) (.slice bp1 m.places.length dp) (.slice bq1 m.quotas.length dq) (.slice bb1 m.barred.length db) w1.heap.size wc HD5.out HMT.out.short HMT.out.nums (by have h1 := HMT.out.len; have h2 := HMT.out.bar; have h3 := HLT2.out; omega))
                      have HPS := Lib.hid (print_some (d := m))
                      clear hw
                      have m0 : wc.cell? ⟨mb, 0, none⟩ = some (Value.string m.name) := cell_of_row _ _ 0 _ _ _ HM5.out
                      have m1 : wc.cell? ⟨mb, 1, none⟩ = some (Value.int .i64 m.kind) := cell_of_row _ _ 1 _ _ _ HM5.out
                      have m2 : wc.cell? ⟨mb, 2, none⟩ = some (Value.int .i64 m.round) := cell_of_row _ _ 2 _ _ _ HM5.out
                      have m3 : wc.cell? ⟨mb, 3, none⟩ = some (Value.int .i64 m.price) := cell_of_row _ _ 3 _ _ _ HM5.out
                      have m4 : wc.cell? ⟨mb, 4, none⟩ = some (Value.int .i64 m.pool) := cell_of_row _ _ 4 _ _ _ HM5.out
                      have m5 : wc.cell? ⟨mb, 5, none⟩ = some (Value.int .i64 m.pick) := cell_of_row _ _ 5 _ _ _ HM5.out
                      have m6 : wc.cell? ⟨mb, 6, none⟩ = some (Value.slice bt1 m.tiers.length dt) := cell_of_row _ _ 6 _ _ _ HM5.out
                      have m7 : wc.cell? ⟨mb, 7, none⟩ = some (Value.bool m.roll) := cell_of_row _ _ 7 _ _ _ HM5.out
                      have m8 : wc.cell? ⟨mb, 8, none⟩ = some (Value.slice bp1 m.places.length dp) := cell_of_row _ _ 8 _ _ _ HM5.out
                      have m9 : wc.cell? ⟨mb, 9, none⟩ = some (Value.int .i64 m.cls) := cell_of_row _ _ 9 _ _ _ HM5.out
                      have m10 : wc.cell? ⟨mb, 10, none⟩ = some (Value.int .i64 m.size) := cell_of_row _ _ 10 _ _ _ HM5.out
                      have m11 : wc.cell? ⟨mb, 11, none⟩ = some (Value.slice bq1 m.quotas.length dq) := cell_of_row _ _ 11 _ _ _ HM5.out
                      have m12 : wc.cell? ⟨mb, 12, none⟩ = some (Value.slice bb1 m.barred.length db) := cell_of_row _ _ 12 _ _ _ HM5.out
                      go_wp2_with fail
                      refine HPR.out.mono ?_
                      rintro e w6 ⟨rfl, hO6⟩
                      have HO6 := Lib.hid (HO5.out.trans hO6)
                      have HR6 := Lib.hid (row_still hO6 HR5.out)
                      have HM6 := Lib.hid (row_still hO6 HM5.out)
                      have HD6 := Lib.hid (HD5.out.only hO6 (fun _ _ h => h))
                      have HE6 := Lib.hid (HE5.out.only hO6 (fun _ _ h => h))
                      clear hO6 HPR m0 m1 m2 m3 m4 m5 m6 m7 m8 m9 m10 m11 m12 e0 e1 e2 e3 e4 e5 e6 e7 e8 e9 e10
                      have hmb6 : mb < w6.heap.size := (Array.getElem?_eq_some_iff.1 HM6.out).1
                      have hb6 : b < w6.heap.size := (Array.getElem?_eq_some_iff.1 HR6.out).1
                      by_cases hr : rightZ m = true
                      · have q : ((printZ m).toList == []) = false := by
                          rw [beq_eq_false_iff_ne]
                          intro e
                          exact HPS.out.2 hr (ba_ext (by rw [← ByteArray.toList_eq, e]; rfl))
                        have HTK := Lib.hid (show barsZ p D0 (k + 1) = m by rw [HTN.out]; unfold takeP; rw [if_pos (by rw [hr]; simp)])
                        generalize printZ m = pz at *
                        clear hr
                        go_wp2_with (first
                          | (refine wpList_load_row rfl 33 _ rfl mb rfl 33 (drCells m (.slice bt1 m.tiers.length dt) (.slice bp1 m.places.length dp) (.slice bq1 m.quotas.length dq) (.slice bb1 m.barred.length db)) (0, 0) _ HM6.out Tryz.underlying33 rfl Tryz.infoDr ?_)
                          | (refine wpList_store_row rfl 33 _ _ rfl b (drCells m (.slice bt1 m.tiers.length dt) (.slice bp1 m.places.length dp) (.slice bq1 m.quotas.length dq) (.slice bb1 m.barred.length db)) rfl rfl 33 _ HR6.out Tryz.infoDr rfl (cells_one _ _ _ _ _ _ _ _ _ _ _ _ _) ?_))
                        go_roundw
                        case rel => exact ⟨k + 1, (.slice bt1 m.tiers.length dt), (.slice bp1 m.places.length dp), (.slice bq1 m.quotas.length dq), (.slice bb1 m.barred.length db), by go_num, by have := HLT.out; have := H45.out; omega, by rw [HTK.out]; exact setRow_heap _ _ _ _ _ _ HR6.out, by rw [HTK.out]; exact own_rows HD6.out (setRow_heap _ _ _ _ _ _ HR6.out) HR6.out, (HO.out.trans HO6.out).setRow HBL.out _⟩
                        case measure => simp [intOf]; have := H45.out; omega
                      · have q : ((printZ m).toList == []) = true := by
                          have : printZ m = ByteArray.empty := by unfold printZ; rw [if_neg hr]
                          rw [this, ByteArray.toList_eq]; rfl
                        have HTK := Lib.hid (show barsZ p D0 (k + 1) = d by rw [HTN.out]; unfold takeP; rw [if_neg (by rw [HWI.out]; simpa using hr)])
                        generalize printZ m = pz at *
                        clear hr
                        go_wp2_with fail
                        go_roundw
                        case rel => exact ⟨k + 1, (.slice at1 d.tiers.length ct), (.slice ap1 d.places.length cp), (.slice aq1 d.quotas.length cq), (.slice ab1 d.barred.length cb), by go_num, by have := HLT.out; have := H45.out; omega, by rw [HTK.out]; exact HR6.out, by rw [HTK.out]; exact HE6.out, HO.out.trans HO6.out⟩
                        case measure => simp [intOf]; have := H45.out; omega
                    · rw [hw] at e10
                      have HTK := Lib.hid (show barsZ p D0 (k + 1) = m by rw [HTN.out]; unfold takeP; rw [hw]; rfl)
                      clear hw
                      go_wp2_with (first
                        | (refine wpList_load_row rfl 33 _ rfl mb rfl 33 (drCells m (.slice bt1 m.tiers.length dt) (.slice bp1 m.places.length dp) (.slice bq1 m.quotas.length dq) (.slice bb1 m.barred.length db)) (0, 0) _ HM5.out Tryz.underlying33 rfl Tryz.infoDr ?_)
                        | (refine wpList_store_row rfl 33 _ _ rfl b (drCells m (.slice bt1 m.tiers.length dt) (.slice bp1 m.places.length dp) (.slice bq1 m.quotas.length dq) (.slice bb1 m.barred.length db)) rfl rfl 33 _ HR5.out Tryz.infoDr rfl (cells_one _ _ _ _ _ _ _ _ _ _ _ _ _) ?_))
                      go_roundw
                      case rel => exact ⟨k + 1, (.slice bt1 m.tiers.length dt), (.slice bp1 m.places.length dp), (.slice bq1 m.quotas.length dq), (.slice bb1 m.barred.length db), by go_num, by have := HLT.out; have := H45.out; omega, by rw [HTK.out]; exact setRow_heap _ _ _ _ _ _ HR5.out, by rw [HTK.out]; exact own_rows HD5.out (setRow_heap _ _ _ _ _ _ HR5.out) HR5.out, (HO.out.trans HO5.out).setRow HBL.out _⟩
                      case measure => simp [intOf]; have := H45.out; omega
              · obtain rfl : k = 45 := by omega
                have j1 : ((45 : Nat) : Int) < p.barred.length := by omega
                have HE := Lib.hid (show makeZ p = barsZ p D0 45 by rw [HMZ.out]; congr 1; omega)
                clear hlt hk h45
                go_wp2_with fail
                go_meet
                rw [HE.out]
                exact ⟨_, _, _, _, rfl, HR.out, HD.out, HO.out⟩
            · obtain rfl : k = p.barred.length := by omega
              have j1 : ¬ (p.barred.length : Int) < p.barred.length := by omega
              have HE := Lib.hid (show makeZ p = barsZ p D0 p.barred.length by rw [HMZ.out]; congr 1; omega)
              clear hlt hk
              go_wp2_with fail
              go_meet
              rw [HE.out]
              exact ⟨_, _, _, _, rfl, HR.out, HD.out, HO.out⟩
        case rest =>
          obtain ⟨vt, vp, vq, vx, rfl, hrow, hown, hO⟩ := hcut
          obtain ⟨at1, ct, rfl⟩ := slice_of_own hown.tiers
          obtain ⟨ap1, cp, rfl⟩ := slice_of_own hown.places
          obtain ⟨aq1, cq, rfl⟩ := slice_of_own hown.quotas
          obtain ⟨ab1, cb, rfl⟩ := slice_of_own hown.bars
          have HR9 := Lib.hid hrow
          have HD9 := Lib.hid hown
          have HO9 := Lib.hid hO
          have HP9 := Lib.hid (row_still hO HP0.out)
          clear hrow hown hO
          go_wp2_with (first
            | (refine wpList_load_row rfl 33 _ rfl b rfl 33 (drCells (makeZ p) (.slice at1 (makeZ p).tiers.length ct) (.slice ap1 (makeZ p).places.length cp) (.slice aq1 (makeZ p).quotas.length cq) (.slice ab1 (makeZ p).barred.length cb)) (0, 0) _ HR9.out Tryz.underlying33 rfl Tryz.infoDr ?_)
            | (refine wpList_store_row rfl 33 _ _ rfl (B + 1) (drCells (makeZ p) (.slice at1 (makeZ p).tiers.length ct) (.slice ap1 (makeZ p).places.length cp) (.slice aq1 (makeZ p).quotas.length cq) (.slice ab1 (makeZ p).barred.length cb)) rfl rfl 33 _ HP9.out Tryz.infoDr rfl (cells_one _ _ _ _ _ _ _ _ _ _ _ _ _) ?_))
          exact bodyPost_ret (v := .agg (drCells (makeZ p) (.slice at1 (makeZ p).tiers.length ct) (.slice ap1 (makeZ p).places.length cp) (.slice aq1 (makeZ p).quotas.length cq) (.slice ab1 (makeZ p).barred.length cb))) (results_cell_row rfl _ _ (B + 1) 33 (drCells (makeZ p) (.slice at1 (makeZ p).tiers.length ct) (.slice ap1 (makeZ p).places.length cp) (.slice aq1 (makeZ p).quotas.length cq) (.slice ab1 (makeZ p).barred.length cb)) (0, 0) _ rfl (setRow_heap _ _ _ _ _ _ HP9.out) Tryz.underlying33 rfl Tryz.infoDr) rfl ⟨(.slice at1 (makeZ p).tiers.length ct), (.slice ap1 (makeZ p).places.length cp), (.slice aq1 (makeZ p).quotas.length cq), (.slice ab1 (makeZ p).barred.length cb), rfl, DrOwn.base (base' := w.heap.size) (own_rows HD9.out (setRow_heap _ _ _ _ _ _ HP9.out) HP9.out) (show w.heap.size ≤ w1.heap.size by omega), (HW1.out.trans HO9.out).setRow (by rw [hB]; omega) _⟩
end Go.Proofs.YteikkpiginfbkaaGreatDoor

namespace Go.Proofs.YteikkpiginfbkaaGreatDoor
open Go.RowKit

end Go.Proofs.YteikkpiginfbkaaGreatDoor

namespace Go.Proofs.YteikkpiginfbkaaGreatDoor
open Go.RowKit

def kEntrant : ByteArray := ⟨#[101, 110, 116, 114, 97, 110, 116]⟩
def addN (s : ByteArray) (l : List ByteArray) : ByteArray := l.foldl (fun s w => s ++ (⟨#[32]⟩ ++ w)) s
theorem addN_snoc (s : ByteArray) (l : List ByteArray) (w : ByteArray) : addN s (l ++ [w]) = addN s l ++ (⟨#[32]⟩ ++ w) := by unfold addN; rw [List.foldl_append]; rfl
/-- The names of a list, with their number in front, behind a text. -/
def addW (s : ByteArray) (l : List ByteArray) : ByteArray := addN (textU s [l.length]) l
def pe0 (e : En) : ByteArray := textU (textU kEntrant [e.id, e.cls, e.fam, e.picks.length]) e.picks
def peK (e : En) : Nat → ByteArray
  | 0 => pe0 e
  | k + 1 => addW (peK e k) (lkE e k)
def printEZ (e : En) : ByteArray := if rightE e = true then peK e 2 else ByteArray.empty
theorem rg_all {l : List Int} (h : l.all rgB = true) : ∀ n ∈ l, R64 n := fun n hn => rg_R64 (List.all_eq_true.1 h n hn)
theorem rightE_parts {e : En} (h : rightE e = true) : [e.id, e.cls, e.fam].all rgB = true ∧ e.picks.all rgB = true ∧ (e.picks.length ≤ 60 ∧ e.wishes.length ≤ 12 ∧ e.groups.length ≤ 12) ∧ (∀ k, (lkE e k).all nameB = true) := by
  unfold rightE at h
  simp only [Bool.and_eq_true, decide_eq_true_eq] at h
  obtain ⟨⟨⟨h1, h2⟩, h3⟩, h4, h5⟩ := h
  refine ⟨h1, h2, h3, fun k => ?_⟩
  unfold lkE
  split
  · exact h4
  · exact h5
theorem addN_size {s : ByteArray} : ∀ {l : List ByteArray}, (∀ w ∈ l, w.size ≤ 20) → (addN s l).size ≤ s.size + 21 * l.length
  | [], _ => Nat.le_refl _
  | w :: l, h => by
    have h1 := h w List.mem_cons_self
    have h2 := addN_size (s := s ++ (⟨#[32]⟩ ++ w)) (fun x hx => h x (List.mem_cons_of_mem _ hx))
    rw [ByteArray.size_append, ByteArray.size_append] at h2
    have : (⟨#[32]⟩ : ByteArray).size = 1 := rfl
    show (addN (s ++ (⟨#[32]⟩ ++ w)) l).size ≤ _
    rw [List.length_cons]
    omega
theorem name_20 {s : ByteArray} (h : nameB s = true) : s.size ≤ 20 := by
  unfold nameB at h
  simp only [Bool.and_eq_true, decide_eq_true_eq] at h
  exact h.1.2
theorem all_20 {l : List ByteArray} (h : l.all nameB = true) : ∀ w ∈ l, w.size ≤ 20 := fun w hw => name_20 (List.all_eq_true.1 h w hw)
theorem len_R64 {n : Nat} (h : n ≤ 1000) : R64 (n : Int) := by unfold R64; omega
theorem pe0_size {e : En} (h : rightE e = true) : (pe0 e).size ≤ 1500 := by
  obtain ⟨h1, h2, h3, _⟩ := rightE_parts h
  have a := textU_size (word := kEntrant) (ns := [e.id, e.cls, e.fam, (e.picks.length : Int)]) (fun n hn => by
    simp only [List.mem_cons, List.not_mem_nil, or_false] at hn
    rcases hn with rfl | rfl | rfl | rfl
    · exact rg_all h1 _ (by simp)
    · exact rg_all h1 _ (by simp)
    · exact rg_all h1 _ (by simp)
    · exact len_R64 (by omega))
  have b := textU_size (word := textU kEntrant [e.id, e.cls, e.fam, (e.picks.length : Int)]) (rg_all h2)
  have : kEntrant.size = 7 := rfl
  simp only [List.length_cons, List.length_nil] at a
  unfold pe0
  omega
theorem addW_size {e : En} (h : rightE e = true) (k : Nat) (s : ByteArray) : (addW s (lkE e k)).size ≤ s.size + 300 := by
  obtain ⟨_, _, h3, h4⟩ := rightE_parts h
  have hl := lk_len (k := k) h3
  have a := addN_size (s := textU s [((lkE e k).length : Int)]) (all_20 (h4 k))
  have b := textU_size (word := s) (ns := [((lkE e k).length : Int)]) (fun n hn => by rw [List.mem_singleton.1 hn]; exact len_R64 (by omega))
  simp only [List.length_cons, List.length_nil] at b
  unfold addW
  omega
theorem peK_succ (e : En) (k : Nat) : peK e (k + 1) = addW (peK e k) (lkE e k) := by rw [peK]
theorem peK_zero (e : En) : peK e 0 = pe0 e := by rw [peK]
theorem peK_size {e : En} (h : rightE e = true) : ∀ k, (peK e k).size ≤ 1500 + 300 * k
  | 0 => by rw [peK_zero]; have := pe0_size h; omega
  | k + 1 => by
    have h1 := peK_size h k
    have h2 := addW_size h k (peK e k)
    rw [peK_succ]
    exact Nat.le_trans h2 (Nat.le_trans (Nat.add_le_add_right h1 300) (Nat.le_of_eq (by rw [Nat.mul_succ, Nat.add_assoc])))
set_option maxRecDepth 100000 in
set_option maxHeartbeats 4000000 in
theorem printent_any (e : En) (vp vw vg : Value) (base : Nat) (w : World) (h : EnOwn base w e vp vw vg) (hl : e.picks.length ≤ 1000000 ∧ e.wishes.length ≤ 1000000 ∧ e.groups.length ≤ 1000000) (hG : GlobU w) :
    Calls Tryz.prog 16 #[.agg (enCells e vp vw vg)] w fun r w' => r = .returned (.string (printEZ e)) ∧ Only (fun _ => False) w w' := by
  obtain ⟨ap1, cp, rfl⟩ := slice_of_own h.picks
  obtain ⟨aw1, cw, rfl⟩ := slice_of_own h.wishes
  obtain ⟨ag1, cg, rfl⟩ := slice_of_own h.groups
  have H := Lib.hid h
  have HG := Lib.hid hG
  have HL := Lib.hid hl
  have HZ := Lib.hid (heap_alloc_last w (.cells (enCells e (.slice ap1 e.picks.length cp) (.slice aw1 e.wishes.length cw) (.slice ag1 e.groups.length cg)) 44))
  have HO := Lib.hid ((Only.refl (fun _ => False) w).alloc (.cells (enCells e (.slice ap1 e.picks.length cp) (.slice aw1 e.wishes.length cw) (.slice ag1 e.groups.length cg)) 44))
  clear h hl hG
  go_enter Tryz.func16, Tryz.ntmps16
  go_upto_region 1 with (fail)
  generalize World.alloc w _ = w1 at *
  have HE1 := Lib.hid (H.out.only HO.out)
  have hlt0 : w.heap.size < w1.heap.size := (Array.getElem?_eq_some_iff.1 HZ.out).1
  have c0 : w1.cell? ⟨w.heap.size, 0, none⟩ = some (.int .i64 e.id) := cell_of_row _ _ 0 _ _ _ HZ.out
  have c1 : w1.cell? ⟨w.heap.size, 1, none⟩ = some (.int .i64 e.cls) := cell_of_row _ _ 1 _ _ _ HZ.out
  have c2 : w1.cell? ⟨w.heap.size, 2, none⟩ = some (.int .i64 e.fam) := cell_of_row _ _ 2 _ _ _ HZ.out
  have c3 : w1.cell? ⟨w.heap.size, 3, none⟩ = some (.slice ap1 e.picks.length cp) := cell_of_row _ _ 3 _ _ _ HZ.out
  have c4 : w1.cell? ⟨w.heap.size, 4, none⟩ = some (.slice aw1 e.wishes.length cw) := cell_of_row _ _ 4 _ _ _ HZ.out
  have c5 : w1.cell? ⟨w.heap.size, 5, none⟩ = some (.slice ag1 e.groups.length cg) := cell_of_row _ _ 5 _ _ _ HZ.out
  go_wp2_with fail
  obtain ⟨bb, hb⟩ : ∃ b, rightE e = b := ⟨_, rfl⟩
  refine (rightent_any e _ _ _ bb base w1 HE1.out hb HL.out).mono ?_
  rintro e' w2 ⟨rfl, hO2⟩
  have HB := Lib.hid hb
  have HO2 := Lib.hid (HO.out.trans hO2)
  cases bb
  · go_wp2_with fail
    go_ret
    exact ⟨by unfold printEZ; rw [if_neg (by rw [HB.out]; decide)]; rfl, HO2.out⟩
  have HZ2 := Lib.hid (row_still hO2 HZ.out)
  have HE2 := Lib.hid (HE1.out.only hO2)
  have HPE := Lib.hid (show printEZ e = peK e 2 by unfold printEZ; rw [if_pos hb])
  have HPR := Lib.hid (rightE_parts hb)
  have HSZ := Lib.hid (peK_size hb)
  have HS0 := Lib.hid (pe0_size hb)
  clear hb hO2 c0 c1 c2 c3 c4 c5
  have hlt2 : w.heap.size < w2.heap.size := (Array.getElem?_eq_some_iff.1 HZ2.out).1
  have c0 : w2.cell? ⟨w.heap.size, 0, none⟩ = some (.int .i64 e.id) := cell_of_row _ _ 0 _ _ _ HZ2.out
  have c1 : w2.cell? ⟨w.heap.size, 1, none⟩ = some (.int .i64 e.cls) := cell_of_row _ _ 1 _ _ _ HZ2.out
  have c2 : w2.cell? ⟨w.heap.size, 2, none⟩ = some (.int .i64 e.fam) := cell_of_row _ _ 2 _ _ _ HZ2.out
  have c3 : w2.cell? ⟨w.heap.size, 3, none⟩ = some (.slice ap1 e.picks.length cp) := cell_of_row _ _ 3 _ _ _ HZ2.out
  go_wp2_with fail
  have HOa := Lib.hid (HO2.out.alloc (.cells #[.int .i64 e.id, .int .i64 e.cls, .int .i64 e.fam, .int .i64 e.picks.length] 3))
  have HZa := Lib.hid (row_still ((Only.refl (fun _ => False) w2).alloc (.cells #[.int .i64 e.id, .int .i64 e.cls, .int .i64 e.fam, .int .i64 e.picks.length] 3)) HZ2.out)
  have HEa := Lib.hid (HE2.out.only ((Only.refl (fun _ => False) w2).alloc (.cells #[.int .i64 e.id, .int .i64 e.cls, .int .i64 e.fam, .int .i64 e.picks.length] 3)))
  have HR4 := Lib.hid (show ∀ n ∈ [e.id, e.cls, e.fam, (e.picks.length : Int)], R64 n from fun n hn => by
    have h1 := HPR.out.1
    have h3 := HPR.out.2.2.1
    simp only [List.mem_cons, List.not_mem_nil, or_false] at hn
    rcases hn with rfl | rfl | rfl | rfl
    · exact rg_all h1 _ (by simp)
    · exact rg_all h1 _ (by simp)
    · exact rg_all h1 _ (by simp)
    · exact len_R64 (by omega))
  refine (text_any _ (some ⟨w2.heap.size, 0, none⟩) 4 [e.id, e.cls, e.fam, (e.picks.length : Int)] (w2.alloc (.cells #[.int .i64 e.id, .int .i64 e.cls, .int .i64 e.fam, .int .i64 e.picks.length] 3)) (by exact pts_new w2 [e.id, e.cls, e.fam, (e.picks.length : Int)] (by simp) (by simp)) (by simp) (by decide) HR4.out (HG.out.only HOa.out)).mono ?_
  rintro e' w3 ⟨rfl, hO3⟩
  have HO3 := Lib.hid (HOa.out.trans hO3)
  have HZ3 := Lib.hid (row_still hO3 HZa.out)
  have HE3 := Lib.hid (HEa.out.only hO3)
  have HX3 := Lib.hid (textU_size (word := kEntrant) HR4.out)
  have HXE := Lib.hid (show pe0 e = textU (textU kEntrant [e.id, e.cls, e.fam, (e.picks.length : Int)]) e.picks from rfl)
  unfold kEntrant at HX3 HXE
  generalize textU ⟨#[101, 110, 116, 114, 97, 110, 116]⟩ [e.id, e.cls, e.fam, (e.picks.length : Int)] = s1 at *
  clear hO3 c0 c1 c2 c3
  have hlt3 : w.heap.size < w3.heap.size := (Array.getElem?_eq_some_iff.1 HZ3.out).1
  have c3 : w3.cell? ⟨w.heap.size, 3, none⟩ = some (.slice ap1 e.picks.length cp) := cell_of_row _ _ 3 _ _ _ HZ3.out
  go_wp2_with fail
  refine (text_any s1 ap1 cp e.picks w3 (ptsR_of_own HE3.out.picks) (by have := HPR.out.2.2.1; omega) (by have h := HX3.out; simp only [List.length_cons, List.length_nil] at h; have : (⟨#[101, 110, 116, 114, 97, 110, 116]⟩ : ByteArray).size = 7 := rfl; omega) (rg_all HPR.out.2.1) (HG.out.only HO3.out)).mono ?_
  rintro e' w4 ⟨rfl, hO4⟩
  have HO4 := Lib.hid (HO3.out.trans hO4)
  have HZ4 := Lib.hid (row_still hO4 HZ3.out)
  have HE4 := Lib.hid (HE3.out.only hO4)
  rw [show textU s1 e.picks = peK e 0 from HXE.out.symm.trans (peK_zero e).symm]
  clear hO4 c3 HXE HX3
  have hlt4 : w.heap.size < w4.heap.size := (Array.getElem?_eq_some_iff.1 HZ4.out).1
  have c4 : w4.cell? ⟨w.heap.size, 4, none⟩ = some (.slice aw1 e.wishes.length cw) := cell_of_row _ _ 4 _ _ _ HZ4.out
  have c5 : w4.cell? ⟨w.heap.size, 5, none⟩ = some (.slice ag1 e.groups.length cg) := cell_of_row _ _ 5 _ _ _ HZ4.out
  obtain ⟨s0, hs0⟩ : ∃ s, peK e 0 = s := ⟨_, rfl⟩
  rw [hs0]
  have HSE := Lib.hid hs0
  clear hs0
  go_wp2_with fail
  have HO5 := Lib.hid (HO4.out.alloc (.cells #[.slice aw1 e.wishes.length cw, .slice ag1 e.groups.length cg] 42))
  have HQ := Lib.hid (heap_alloc_last w4 (.cells #[.slice aw1 e.wishes.length cw, .slice ag1 e.groups.length cg] 42))
  have HE5 := Lib.hid (HE4.out.only ((Only.refl (fun _ => False) w4).alloc (.cells #[.slice aw1 e.wishes.length cw, .slice ag1 e.groups.length cg] 42)))
  clear c4 c5
  generalize (w4.alloc (.cells #[.slice aw1 e.wishes.length cw, .slice ag1 e.groups.length cg] 42)) = w5 at *
  generalize w4.heap.size = B at *
  go_loopw [3, 32] (fun sv iv wr => ∃ k : Nat, iv = .int .i64 k ∧ k ≤ 2 ∧ sv = .string (peK e k) ∧ Only (fun _ => False) w5 wr) (fun _ iv _ => 2 - (intOf iv).toNat)
  case atStart => exact ⟨0, rfl, by decide, by rw [HSE.out], Only.refl _ _⟩
  case round =>
    obtain ⟨k, rfl, hk, rfl, hO⟩ := hrel
    have HOR := Lib.hid hO
    clear hO
    by_cases hlt : k < 2
    · have j1 : (k : Int) < 2 := by omega
      have j2 : 0 ≤ (k : Int) := by omega
      have HQR := Lib.hid (row_still HOR.out HQ.out)
      obtain ⟨a, c, d0, hown⟩ := lk_own (HE5.out.only HOR.out) HQR.out hlt
      have HW := Lib.hid hown
      have HLT := Lib.hid hlt
      have HLL := Lib.hid (lk_len (k := k) HPR.out.2.2.1)
      have HAN := Lib.hid (all_20 (HPR.out.2.2.2 k))
      have HPK := Lib.hid (peK_succ e k)
      have hsk := HSZ.out k
      have hBr : B < wr.heap.size := (Array.getElem?_eq_some_iff.1 HQR.out).1
      clear hown hlt
      generalize lkE e k = l at *
      generalize peK e k = s at *
      go_wp2_with fail
      have HOb := Lib.hid (HOR.out.alloc (.cells #[.int .i64 l.length] 3))
      have HWb := Lib.hid (((Only.refl (fun _ => False) wr).alloc (.cells #[.int .i64 l.length] 3)).owns HW.out (fun _ _ h => h))
      refine (text_any s (some ⟨wr.heap.size, 0, none⟩) 1 [(l.length : Int)] (wr.alloc (.cells #[.int .i64 l.length] 3)) (by exact pts_new wr [(l.length : Int)] (by simp) (by simp)) (by simp) (by omega) (fun n hn => by rw [List.mem_singleton.1 hn]; exact len_R64 (by have := HLL.out; omega)) (HG.out.only (HO5.out.trans HOb.out))).mono ?_
      rintro e' w6 ⟨rfl, hO6⟩
      have HO6 := Lib.hid (HOb.out.trans hO6)
      have HW6 := Lib.hid (hO6.owns HWb.out (fun _ _ h => h))
      have HS1 := Lib.hid (textU_size (word := s) (ns := [(l.length : Int)]) (fun n hn => by rw [List.mem_singleton.1 hn]; exact len_R64 (by have := HLL.out; omega)))
      have HPK := Lib.hid (show peK e (k + 1) = addN (textU s [(l.length : Int)]) l from HPK.out)
      have hs1 : (textU s [(l.length : Int)]).size ≤ 2200 := by have h := HS1.out; simp only [List.length_cons, List.length_nil] at h; omega
      generalize textU s [(l.length : Int)] = s1 at *
      clear hO6
      go_wp2_with fail
      generalize wr = w7 at *
      go_loopw [3, 43] (fun sv jv wr => ∃ j : Nat, jv = .int .i64 j ∧ j ≤ l.length ∧ sv = .string (addN s1 (l.take j)) ∧ Only (fun _ => False) w6 wr) (fun _ jv _ => l.length - (intOf jv).toNat)
      case atStart => exact ⟨0, rfl, Nat.zero_le _, rfl, Only.refl _ _⟩
      case round =>
        obtain ⟨j, rfl, hj, rfl, hO⟩ := hrel
        have HOI := Lib.hid hO
        have HWI := Lib.hid (hO.owns HW6.out (fun _ _ h => h))
        clear hO
        by_cases hjl : j < l.length
        · have m1 : (j : Int) < l.length := by omega
          have m2 : 0 ≤ (j : Int) := by omega
          obtain ⟨g, rfl, hg, hq1, hq2, d1⟩ := nrow_cell HWI.out hjl
          have HJL := Lib.hid hjl
          have HJN := Lib.hid (show addN s1 (l.take (j + 1)) = addN s1 (l.take j) ++ (⟨#[32]⟩ ++ naAt l j) by rw [na_take hjl, addN_snoc])
          have hz1 : (addN s1 (l.take j)).size ≤ 3000 := by
            have h := addN_size (s := s1) (l := l.take j) (fun w hw => HAN.out w (List.mem_of_mem_take hw))
            have h2 : (l.take j).length ≤ 12 := by rw [List.length_take]; have := HLL.out; omega
            omega
          have hz2 : (naAt l j).size ≤ 20 := HAN.out _ (by unfold naAt; simp [List.getD, hjl])
          generalize naAt l j = y at *
          generalize addN s1 (l.take j) = t at *
          have z1 : ¬ (9223372036854775807 < 1 + y.size) := by omega
          have z2 : ¬ (9223372036854775807 < t.size + (1 + y.size)) := by omega
          go_wp2_with fail
          go_roundw
          case rel => exact ⟨j + 1, by go_num, HJL.out, by rw [HJN.out], HOI.out⟩
          case measure => simp [intOf]; have := HJL.out; omega
        · obtain rfl : j = l.length := by omega
          have m1 : ¬ (l.length : Int) < l.length := by omega
          have HPX := Lib.hid (show peK e (k + 1) = addN s1 (l.take l.length) by rw [HPK.out, List.take_length])
          generalize addN s1 (l.take l.length) = t at *
          clear hjl hj
          go_wp2_with fail
          go_roundw
          case rel => exact ⟨k + 1, by go_num, HLT.out, by rw [HPX.out], HO6.out.trans HOI.out⟩
          case measure => simp [intOf]; have := HLT.out; omega
    · obtain rfl : k = 2 := by omega
      have j1 : ¬ (2 : Int) < 2 := by omega
      have HF := Lib.hid HPE.out
      obtain ⟨t, ht⟩ : ∃ t, peK e 2 = t := ⟨_, rfl⟩
      rw [ht] at HF ⊢
      clear hlt hk
      go_wp2_with fail
      go_ret
      exact ⟨by rw [HF.out]; rfl, HO5.out.trans HOR.out⟩
end Go.Proofs.YteikkpiginfbkaaGreatDoor

namespace Go.Proofs.YteikkpiginfbkaaGreatDoor
open Go.RowKit

/-- What a step of the reader of an entrant leaves: of the blocks only the line's turns; d words fewer are left there. -/
def LnTo (Lb g o n c d : Nat) (w w' : World) : Prop :=
  Only (fun i => i = Lb) w w' ∧ ∃ a, (d < c → a = some ⟨g, o + d, none⟩) ∧ w'.heap[Lb]? = some (.cells #[.slice a (n - d) (c - d)] 114 (0, 0))
set_option maxRecDepth 100000 in
set_option maxHeartbeats 1000000 in
theorem next_is (Lb R r g o n c : Nat) (v : Value) (w : World) (hR : w.cell? ⟨R, 0, none⟩ = some (.pointer (some ⟨r, 0, none⟩))) (hL : w.heap[Lb]? = some (.cells #[.slice (some ⟨g, o, none⟩) n c] 114 (0, 0)))
    (hn : 1 ≤ n) (hc : n ≤ c) (hcm : c ≤ 9223372036854775807) (hv : w.cell? ⟨g, o, none⟩ = some v) :
    Calls Tryz.prog 56 #[.pointer (some ⟨R, 0, none⟩), .pointer (some ⟨Lb, 0, none⟩)] w fun e w' => e = .returned v ∧ LnTo Lb g o n c 1 w w' := by
  have HL := Lib.hid hL
  have l0 : w.cell? ⟨Lb, 0, none⟩ = some (.slice (some ⟨g, o, none⟩) n c) := cell_of_row _ _ 0 _ _ _ hL
  have z0 : w.frozen? ⟨Lb, 0, none⟩ = false := frozen_of_row _ _ _ _ _ hL
  have j1 : (0 : Int) < n := by omega
  have j2 : (1 : Int) ≤ n := by omega
  have j3 : (n : Int) ≤ c := by omega
  have j4 : decide (0 < n) = true := decide_eq_true (by omega)
  have HN := Lib.hid hn
  have HC := Lib.hid hc
  clear hL
  go_enter Tryz.func56, Tryz.ntmps56
  go_wp2_with fail
  refine (need_ok r 11 w).mono ?_
  rintro e w2 ⟨rfl, rfl⟩
  by_cases h1 : c = 1
  · obtain rfl : n = 1 := by omega
    subst h1
    clear hn hc hcm j1 j2 j3
    go_wp2_with fail
    go_ret
    refine ⟨rfl, (Only.refl (fun i => i = Lb) w).setCell (p := ⟨Lb, 0, none⟩) (.inl rfl) _, ?_⟩
    exact ⟨_, fun h => absurd h (by decide), heap_setCell_same w Lb 0 _ _ _ HL.out⟩
  · have k1 : 1 < c := by omega
    go_wp2_with fail
    go_ret
    refine ⟨rfl, (Only.refl (fun i => i = Lb) w).setCell (p := ⟨Lb, 0, none⟩) (.inl rfl) _, ?_⟩
    exact ⟨_, fun _ => rfl, heap_setCell_same w Lb 0 _ _ _ HL.out⟩
/-- The cells that hold the closures. -/
structure ClAt (w : World) (Lb R r N A : Nat) : Prop where
  rd : w.cell? ⟨R, 0, none⟩ = some (.pointer (some ⟨r, 0, none⟩))
  next : w.cell? ⟨N, 0, none⟩ = some (.func (.func 56) #[] #[.pointer (some ⟨R, 0, none⟩), .pointer (some ⟨Lb, 0, none⟩)])
  amount : w.cell? ⟨A, 0, none⟩ = some (.func (.func 58) #[] #[.pointer (some ⟨N, 0, none⟩), .pointer (some ⟨R, 0, none⟩)])
  apart : R ≠ Lb ∧ N ≠ Lb ∧ A ≠ Lb
theorem ClAt.only {S : Nat → Prop} {w w' : World} {Lb R r N A : Nat} (h : ClAt w Lb R r N A) (hO : Only S w w') (hS : ¬ S R ∧ ¬ S N ∧ ¬ S A) : ClAt w' Lb R r N A :=
  ⟨hO.cell h.rd hS.1, hO.cell h.next hS.2.1, hO.cell h.amount hS.2.2, h.apart⟩
theorem LnTo.zero {Lb g o n c : Nat} {w : World} (h : w.heap[Lb]? = some (.cells #[.slice (some ⟨g, o, none⟩) n c] 114 (0, 0))) : LnTo Lb g o n c 0 w w := ⟨Only.refl _ _, some ⟨g, o, none⟩, fun _ => rfl, h⟩
theorem LnTo.next {Lb g o n c d k : Nat} {w w' w'' : World} (h : LnTo Lb g o n c d w w') (h2 : LnTo Lb g (o + d) (n - d) (c - d) k w' w'') : LnTo Lb g o n c (d + k) w w'' := by
  obtain ⟨a, ha, hb⟩ := h2.2
  refine ⟨h.1.trans h2.1, a, fun hc => ?_, ?_⟩
  · rw [ha (by omega), Nat.add_assoc]
  · rw [show n - (d + k) = n - d - k by omega, show c - (d + k) = c - d - k by omega]; exact hb
set_option maxRecDepth 100000 in
set_option maxHeartbeats 2000000 in
theorem amount_is (Lb R r N A g o n c : Nat) (z most : Int) (w : World) (hA : ClAt w Lb R r N A) (hL : w.heap[Lb]? = some (.cells #[.slice (some ⟨g, o, none⟩) n c] 114 (0, 0)))
    (hn : 1 ≤ n) (hc : n ≤ c) (hcm : c ≤ 9223372036854775807) (hv : w.cell? ⟨g, o, none⟩ = some (.iface 3 (.int .i64 z))) (hz : z ≤ most) :
    Calls Tryz.prog 58 #[.int .i64 most, .pointer (some ⟨N, 0, none⟩), .pointer (some ⟨R, 0, none⟩)] w fun e w' => e = .returned (.int .i64 z) ∧ LnTo Lb g o n c 1 w w' := by
  have ta := ta_int_int z
  have HC := Lib.hid (next_is Lb R r g o n c _ w hA.rd hL hn hc hcm hv)
  have HA := Lib.hid hA
  have n0 := hA.next
  have q : decide (z ≤ most) = true := decide_eq_true hz
  clear hA hL hn hc hcm hv
  go_enter Tryz.func58, Tryz.ntmps58
  go_wp2_with fail
  refine HC.out.mono ?_
  rintro e w2 ⟨rfl, hl⟩
  have HL := Lib.hid hl
  have r0 := hl.1.cell HA.out.rd HA.out.apart.1
  clear hl HC n0
  go_wp2_with fail
  refine (need_ok r 11 w2).mono ?_
  rintro e w3 ⟨rfl, rfl⟩
  go_wp2_with fail
  go_ret
  exact ⟨rfl, HL.out⟩
theorem below_same {w w' : World} (h : w = w') : Below w.heap.size w w' := by subst h; exact (Only.refl (fun _ => False) w).below (Nat.le_refl _) (fun _ _ h => h)
theorem nrow_app (l : List ByteArray) (x : ByteArray) : nrow (l ++ [x]) = nrow l ++ [.string x] := by simp [nrow]
def NamesR (Lb g o n c : Nat) (l : List ByteArray) (w : World) (e : Ending) (w' : World) : Prop :=
  ∃ v, e = .returned v ∧ w'.ownsRow w.heap.size 9 1 v l.length (nrow l) ∧ LnTo Lb g o n c (1 + l.length) w w'
set_option maxRecDepth 100000 in
set_option maxHeartbeats 4000000 in
theorem names_is (Lb R r N A g o n c : Nat) (l : List ByteArray) (w : World) (hA : ClAt w Lb R r N A) (hL : w.heap[Lb]? = some (.cells #[.slice (some ⟨g, o, none⟩) n c] 114 (0, 0)))
    (hn : 1 + l.length ≤ n) (hc : n ≤ c) (hcm : c ≤ 9223372036854775807) (hv : w.cell? ⟨g, o, none⟩ = some (.iface 3 (.int .i64 l.length))) (h12 : l.length ≤ 12) (hg : g ≠ Lb)
    (hvs : ∀ j, j < l.length → w.cell? ⟨g, o + (1 + j), none⟩ = some (.iface 9 (.string (naAt l j))) ∧ nameB (naAt l j) = true) :
    Calls Tryz.prog 59 #[.pointer (some ⟨A, 0, none⟩), .pointer (some ⟨N, 0, none⟩), .pointer (some ⟨R, 0, none⟩)] w fun e w' => NamesR Lb g o n c l w e w' := by
  have HC := Lib.hid (amount_is Lb R r N A g o n c l.length 12 w hA hL (by omega) hc hcm hv (by omega))
  have HA := Lib.hid hA
  have HVS := Lib.hid hvs
  have HNC := Lib.hid (show 1 + l.length ≤ n ∧ n ≤ c ∧ c ≤ 9223372036854775807 ∧ l.length ≤ 12 from ⟨hn, hc, hcm, h12⟩)
  have HG := Lib.hid hg
  have HLB := Lib.hid (show Lb < w.heap.size from (Array.getElem?_eq_some_iff.1 hL).1)
  have a0 := hA.amount
  obtain ⟨i0, hi, hz0, hz1, hz2⟩ := info_parts Tryz.infoStr
  have HI := Lib.hid hi
  have HI0 := Lib.hid hz0
  have HI1 := Lib.hid hz1
  have HI2 := Lib.hid hz2
  clear hA hL hn hc hcm hv h12 hvs hg hi hz0 hz1 hz2
  go_enter Tryz.func59, Tryz.ntmps59
  go_wp2_with fail
  refine HC.out.mono ?_
  rintro e w2 ⟨rfl, hl⟩
  have HL := Lib.hid hl
  clear hl HC a0
  go_wp2_with fail
  go_loopw [4, 9] (fun v4 iv wr => ∃ k : Nat, iv = .int .i64 k ∧ k ≤ l.length ∧ wr.ownsRow w.heap.size 9 1 v4 k (nrow (l.take k)) ∧ LnTo Lb g o n c (1 + k) w wr) (fun _ iv _ => l.length - (intOf iv).toNat)
  case atStart => exact ⟨0, rfl, Nat.zero_le _, World.ownsRow_nil _ _ _ _, HL.out⟩
  case round =>
    obtain ⟨k, rfl, hk, hown, hl⟩ := hrel
    obtain ⟨a4, c4, rfl⟩ := slice_of_own hown
    have HW := Lib.hid hown
    have HK := Lib.hid hl
    clear hown hl
    by_cases hlt : k < l.length
    · have j1 : (k : Int) < l.length := by omega
      have j2 : 0 ≤ (k : Int) := by omega
      have HCL := Lib.hid (HA.out.only HK.out.1 HA.out.apart)
      have n0 := HCL.out.next
      obtain ⟨ax, hax, hrow⟩ := HK.out.2
      obtain rfl := hax (by have := HNC.out; omega)
      have hst := (HVS.out k hlt)
      have HNM := Lib.hid hst.2
      have HNX := Lib.hid (next_is Lb R r g (o + (1 + k)) (n - (1 + k)) (c - (1 + k)) _ wr HCL.out.rd hrow (by have := HNC.out; omega) (by have := HNC.out; omega) (by have := HNC.out; omega) (HK.out.1.cell hst.1 HG.out))
      have HTK := Lib.hid (show l.take (k + 1) = l.take k ++ [naAt l k] from na_take hlt)
      have HLT := Lib.hid hlt
      have ta := ta_str_str (naAt l k)
      clear hst hrow hax hlt
      generalize naAt l k = y at *
      go_wp2_with fail
      refine HNX.out.mono ?_
      rintro e w3 ⟨rfl, hl⟩
      have HK3 := Lib.hid (HK.out.next hl)
      have HW3 := Lib.hid (hl.1.owns HW.out (fun g' hg' e => by
        have h1 := ownR_ge HW.out hg'
        have h2 := HLB.out
        omega))
      clear hl n0 HNX
      have r0 := HK3.out.1.cell HA.out.rd HA.out.apart.1
      have HNC2 := Lib.hid (isname_any y true)
      have hnm := HNM.out
      go_upto_region 5 with (fail)
      have y0 := fun (d : Nat) (os : Array Obj) => cell_regrown r0 d os
      clear r0
      have HIN := Lib.hid (fun W => isname_any y true W hnm)
      clear hnm HNC2
      refine wp_region_quiet_below (by kernel_rfl) (by kernel_rfl) ?_
      repeat (go_big_quiet_step ((first | (go_at_call 60; exact Calls.regrown_of ((HIN.out _).mono fun _ _ h => ⟨h.1, below_same h.2⟩)) | (go_at_call 57; exact Calls.regrown_of ((need_ok r 11 _).mono fun _ _ h => ⟨h.1, below_same h.2⟩)))))
      refine wpQuiet_nil ?_
      intro wy hw'
      obtain ⟨pq, hw''⟩ := hw'
      have HOy := Lib.hid (Only.ofBelow (below_regrown w3 pq.d pq.os) (fun _ => False))
      rw [← hw''] at HOy
      clear hw'' y0
      have HKy := Lib.hid (show LnTo Lb g o n c (1 + k + 1) w wy from ⟨HK3.out.1.trans (HOy.out.mono (fun _ _ h => h.elim)), by obtain ⟨a, h1, h2⟩ := HK3.out.2; exact ⟨a, h1, row_still HOy.out h2⟩⟩)
      have HWy := Lib.hid (HOy.out.owns HW3.out (fun _ _ h => h))
      have HWa := Lib.hid (HWy.out.alloc (.cells #[.string y] 9))
      have hbs := (HKy.out.1.alloc (.cells #[.string y] 9)).size
      have HLN := Lib.hid (show k ≤ 12 by have := HNC.out; have := HLT.out; omega)
      have hb1 := HLN.out
      have hb4 : wrap64 ((k : Int) + 1) = (k : Int) + 1 := IntWalk.wrap64_in _ (by omega)
      go_wp2_with (first | (refine wpList_append_lies _ rfl _ _ 42 rfl w.heap.size 9 i0 _ 1 16 Tryz.underlying42 HI.out HI0.out HI1.out HI2.out rfl (by decide) _ _ _ rfl HWa.out ⟨wy.heap.size, 0, none⟩ 1 1 [.string y] rfl rfl (by exact newsR' wy _ _) (one_str1 _) (by decide) (by have := HLN.out; unfold maxLen; omega) (by have := HLN.out; omega) hbs _ rfl ?_; intro g5 cap w5 hown1 hgrow hat hlt2))
      have hOa := (HKy.out.1.alloc (.cells #[.string y] 9))
      have HK5 := Lib.hid (show LnTo Lb g o n c (1 + (k + 1)) w w5 from ⟨hOa.grown hgrow (fun i e hi => by have := ownR_ge HWa.out e; omega), by
        obtain ⟨a, h1, h2⟩ := HKy.out.2
        refine ⟨a, h1, ?_⟩
        have h3 : (wy.alloc (.cells #[.string y] 9)).heap[Lb]? = _ := row_still ((Only.refl (fun _ => False) wy).alloc _) h2
        rw [hgrow.block Lb (Array.getElem?_eq_some_iff.1 h3).1 (fun e => by have := ownR_ge HWa.out e.symm; have := HLB.out; omega)]
        exact h3⟩)
      go_roundw
      case rel => exact ⟨k + 1, by go_num, HLT.out, by rw [HTK.out, nrow_app]; exact hown1, HK5.out⟩
      case measure => simp [intOf]; have := HLT.out; omega
    · obtain rfl : k = l.length := by omega
      have j1 : ¬ (l.length : Int) < l.length := by omega
      have HWL := Lib.hid (show wr.ownsRow w.heap.size 9 1 (.slice a4 l.length c4) l.length (nrow l) from by have := HW.out; rw [List.take_length] at this; exact this)
      clear hlt hk
      go_wp2_with fail
      go_ret
      exact ⟨_, rfl, HWL.out, HK.out⟩
end Go.Proofs.YteikkpiginfbkaaGreatDoor

namespace Go.Proofs.YteikkpiginfbkaaGreatDoor
open Go.RowKit

/-- No block is shared. -/
def NoShare (v u : Value) : Prop := ∀ g, v.ownBlock = some g → u.ownBlock ≠ some g
theorem NoShare.symm {v u : Value} (h : NoShare v u) : NoShare u v := fun g h1 h2 => h g h2 h1
theorem own_blt {w : World} {base e s n g : Nat} {v : Value} {xs : List Value} (h : w.ownsRow base e s v n xs) (hg : v.ownBlock = some g) : g < w.heap.size := by
  rcases h.2 with ⟨hv, _⟩ | ⟨g', cap, cur, hv, hb, hg', _⟩
  · rw [hv] at hg; cases hg
  · rw [hv] at hg
    have e : g' = g := by simpa [Value.ownBlock] using hg
    rw [← e]
    exact (Array.getElem?_eq_some_iff.1 hg').1
theorem noShare_new {w w' : World} {b e s n e' s' n' : Nat} {v u : Value} {xs ys : List Value} (hu : w.ownsRow b e s u n xs) (hv : w'.ownsRow w.heap.size e' s' v n' ys) : NoShare v u := fun g h1 h2 => by
  have := ownR_ge hv h1
  have := own_blt hu h2
  omega
/-- A draw as a value, its lists in blocks of their own. -/
def DrVal (base : Nat) (d : Dr) (v : Value) (W : World) : Prop := ∃ vt vp vq vb, v = .agg (drCells d vt vp vq vb) ∧ DrOwn base W d vt vp vq vb
def SepV (v u : Value) : Prop := ∀ d e vt vp vq vb ut up uq ub, v = .agg (drCells d vt vp vq vb) → u = .agg (drCells e ut up uq ub) → NoShare vt ut ∧ NoShare vb ub
theorem agg_inj {d e : Dr} {vt vp vq vb ut up uq ub : Value} (h : Value.agg (drCells d vt vp vq vb) = .agg (drCells e ut up uq ub)) : vt = ut ∧ vp = up ∧ vq = uq ∧ vb = ub := by
  have h := Value.agg.inj h
  unfold drCells at h
  simp only [Array.mk.injEq, List.cons.injEq] at h
  exact ⟨h.2.2.2.2.2.2.1, h.2.2.2.2.2.2.2.2.1, h.2.2.2.2.2.2.2.2.2.2.2.1, h.2.2.2.2.2.2.2.2.2.2.2.2.1⟩
theorem sepV_new {w w' : World} {b : Nat} {d e : Dr} {v u : Value} (hu : DrVal b e u w) (hv : DrVal w.heap.size d v w') : SepV v u ∧ SepV u v := by
  obtain ⟨ut, up, uq, ub, rfl, hu⟩ := hu
  obtain ⟨vt, vp, vq, vb, rfl, hv⟩ := hv
  refine ⟨fun d' e' vt' vp' vq' vb' ut' up' uq' ub' h1 h2 => ?_, fun d' e' ut' up' uq' ub' vt' vp' vq' vb' h2 h1 => ?_⟩
  · obtain ⟨rfl, _, _, rfl⟩ := agg_inj h1
    obtain ⟨rfl, _, _, rfl⟩ := agg_inj h2
    exact ⟨noShare_new hu.tiers hv.tiers, noShare_new hu.bars hv.bars⟩
  · obtain ⟨rfl, _, _, rfl⟩ := agg_inj h1
    obtain ⟨rfl, _, _, rfl⟩ := agg_inj h2
    exact ⟨(noShare_new hu.tiers hv.tiers).symm, (noShare_new hu.bars hv.bars).symm⟩
theorem DrVal.only {base : Nat} {d : Dr} {v : Value} {w w' : World} (h : DrVal base d v w) (hO : Only (fun _ => False) w w') : DrVal base d v w' := by
  obtain ⟨vt, vp, vq, vb, h1, h2⟩ := h
  exact ⟨vt, vp, vq, vb, h1, h2.only hO (fun _ _ h => h)⟩
def zeroDrC : Array Value := #[.string ⟨#[]⟩, .int .i64 0, .int .i64 0, .int .i64 0, .int .i64 0, .int .i64 0, .slice none 0 0, .bool false, .slice none 0 0, .int .i64 0, .int .i64 0, .slice none 0 0, .slice none 0 0]
/-- A new variable of a type with zero cells cs. -/
def NewAt (base : Nat) (cs : Array Value) (T : Nat) (v : Value) (W : World) : Prop := ∃ n, v = .pointer (some ⟨n, 0, none⟩) ∧ base ≤ n ∧ W.heap[n]? = some (.cells cs T (0, 0))
theorem NewAt.only {base T : Nat} {cs : Array Value} {v : Value} {w w' : World} (h : NewAt base cs T v w) (hO : Only (fun _ => False) w w') : NewAt base cs T v w' := by
  obtain ⟨n, h1, h2, h3⟩ := h
  exact ⟨n, h1, h2, row_still hO h3⟩
theorem newAt_ne {base T : Nat} {cs : Array Value} {u : Value} {w : World} (h : NewAt base cs T u w) : (Value.pointer (some ⟨w.heap.size, 0, none⟩)) ≠ u ∧ u ≠ (Value.pointer (some ⟨w.heap.size, 0, none⟩)) := by
  obtain ⟨n, rfl, _, h3⟩ := h
  have := (Array.getElem?_eq_some_iff.1 h3).1
  constructor <;> (intro h; simp only [Value.pointer.injEq, Option.some.injEq, Addr.mk.injEq, and_true] at h; omega)
/-- What the operations of 'a, b, c := p.Make(), r.Make(), p.Make()' leave. -/
def eqFact (B0 : Nat) (c1 c2 : Array Value) (a b : Dr) : Nat → Value → World → Prop
  | 0, v, _ => v = .agg c1
  | 1, v, W => DrVal B0 a v W
  | 2, v, _ => v = .agg c2
  | 3, v, W => DrVal B0 b v W
  | 4, v, _ => v = .agg c1
  | 5, v, W => DrVal B0 a v W
  | _, v, W => NewAt B0 zeroDrC 33 v W
def eqRel (i j : Nat) (v u : Value) : Prop := if (i = 1 ∨ i = 3 ∨ i = 5) ∧ (j = 1 ∨ j = 3 ∨ j = 5) then SepV v u else if 6 ≤ i ∧ 6 ≤ j then v ≠ u else True
theorem eqFact_only {B0 : Nat} {c1 c2 : Array Value} {a b : Dr} : ∀ i v w w', eqFact B0 c1 c2 a b i v w → Only (fun _ => False) w w' → eqFact B0 c1 c2 a b i v w'
  | 0, _, _, _, h, _ => h
  | 1, _, _, _, h, hO => DrVal.only h hO
  | 2, _, _, _, h, _ => h
  | 3, _, _, _, h, hO => DrVal.only h hO
  | 4, _, _, _, h, _ => h
  | 5, _, _, _, h, hO => DrVal.only h hO
  | _ + 6, _, _, _, h, hO => NewAt.only h hO
theorem eqRel_yes {i j : Nat} {v u : Value} (hi : i = 1 ∨ i = 3 ∨ i = 5) (hj : j = 1 ∨ j = 3 ∨ j = 5) (h : SepV v u) : eqRel i j v u := by
  unfold eqRel; rw [if_pos ⟨hi, hj⟩]; exact h
theorem eqRel_two {i j : Nat} {v u : Value} (hi : 6 ≤ i) (hj : 6 ≤ j) (h : v ≠ u) : eqRel i j v u := by
  unfold eqRel; rw [if_neg (by omega), if_pos ⟨hi, hj⟩]; exact h
theorem eqRel_no {i j : Nat} {v u : Value} (h1 : ¬ ((i = 1 ∨ i = 3 ∨ i = 5) ∧ (j = 1 ∨ j = 3 ∨ j = 5))) (h2 : ¬ (6 ≤ i ∧ 6 ≤ j)) : eqRel i j v u := by
  unfold eqRel; rw [if_neg h1, if_neg h2]; trivial
theorem eqRel_load {i j : Nat} {v u : Value} (hi : i = 0 ∨ i = 2 ∨ i = 4) : eqRel i j v u ∧ eqRel j i u v := ⟨eqRel_no (by omega) (by omega), eqRel_no (by omega) (by omega)⟩
theorem eqRel_call {B0 : Nat} {c1 c2 : Array Value} {a b d : Dr} {i : Nat} {v : Value} {w w' : World} (hi : i = 1 ∨ i = 3 ∨ i = 5) (hv : DrVal w.heap.size d v w') :
    ∀ j u, j ≠ i → eqFact B0 c1 c2 a b j u w → eqRel i j v u ∧ eqRel j i u v := by
  intro j u _ hu
  have key : ∀ e, DrVal B0 e u w → (j = 1 ∨ j = 3 ∨ j = 5) → eqRel i j v u ∧ eqRel j i u v := fun e he hj => ⟨eqRel_yes hi hj (sepV_new he hv).1, eqRel_yes hj hi (sepV_new he hv).2⟩
  by_cases hj : j = 1 ∨ j = 3 ∨ j = 5
  · rcases hj with rfl | rfl | rfl
    · exact key _ hu (.inl rfl)
    · exact key _ hu (.inr (.inl rfl))
    · exact key _ hu (.inr (.inr rfl))
  · exact ⟨eqRel_no (fun h => hj h.2) (by omega), eqRel_no (fun h => hj h.1) (by omega)⟩
theorem eqRel_new {B0 : Nat} {c1 c2 : Array Value} {a b : Dr} {i : Nat} {w : World} (hi : 6 ≤ i) :
    ∀ j u, j ≠ i → eqFact B0 c1 c2 a b j u w → eqRel i j (.pointer (some ⟨w.heap.size, 0, none⟩)) u ∧ eqRel j i u (.pointer (some ⟨w.heap.size, 0, none⟩)) := by
  intro j u _ hu
  by_cases hj : 6 ≤ j
  · obtain ⟨k, rfl⟩ : ∃ k, j = k + 6 := ⟨j - 6, by omega⟩
    have := newAt_ne (show NewAt B0 zeroDrC 33 u w from hu)
    exact ⟨eqRel_two hi hj this.1, eqRel_two hj hi this.2⟩
  · exact ⟨eqRel_no (by omega) (by omega), eqRel_no (by omega) (by omega)⟩
/-- What is to be shown of an operation. -/
def eqPost (B0 : Nat) (c1 c2 : Array Value) (a b : Dr) (i : Nat) (wx : World) (v : Value) (w' : World) : Prop :=
  Only (fun _ => False) wx w' ∧ eqFact B0 c1 c2 a b i v w' ∧ ∀ j u, j ≠ i → eqFact B0 c1 c2 a b j u wx → eqRel i j v u ∧ eqRel j i u v
theorem eq_load {B0 B i : Nat} {c1 c2 : Array Value} {a b : Dr} {o : Oper} {x : Operand} {ρ : Operand → Value} {wx : World} {p : Plan13} {vl vb : Value} (hi : i = 0 ∨ i = 2 ∨ i = 4) (ho : o.op = .load 26 x)
    (hx : ρ x = .pointer (some ⟨B, 0, none⟩)) (hrow : wx.heap[B]? = some (.cells (plCells p vl vb) 26 (0, 0))) (hF : eqFact B0 c1 c2 a b i (.agg (plCells p vl vb)) wx) : opV Tryz.prog o ρ wx (eqPost B0 c1 c2 a b i wx) :=
  opV_load_row 26 x ho B hx 26 (plCells p vl vb) (0, 0) _ hrow Tryz.underlying26 rfl Tryz.infoP13 ⟨Only.refl _ _, hF, fun _ _ _ _ => eqRel_load hi⟩
theorem eq_make {B0 i : Nat} {c1 c2 : Array Value} {a b : Dr} {o : Oper} {ρ : Operand → Value} {wx : World} {p : Plan13} {vl vb : Value} (hi : i = 1 ∨ i = 3 ∨ i = 5) (hle : B0 ≤ wx.heap.size)
    (hx : (execOp ρ o).run Tryz.prog wx = .ok (.enter 12 #[.agg (plCells p vl vb)]) wx) (hp : PlAt13 wx p vl vb) (h64 : Pl64 p) (hF : ∀ v w', DrVal B0 (makeZ p) v w' → eqFact B0 c1 c2 a b i v w') : opV Tryz.prog o ρ wx (eqPost B0 c1 c2 a b i wx) := by
  refine opV_of_enter hx ((make_any p vl vb wx hp h64).mono ?_)
  rintro e w' ⟨vt, vp, vq, vx, rfl, hown, hO'⟩
  exact ⟨_, rfl, hO', hF _ _ ⟨vt, vp, vq, vx, rfl, hown.base hle⟩, eqRel_call hi ⟨vt, vp, vq, vx, rfl, hown⟩⟩
theorem eq_new {B0 i : Nat} {c1 c2 : Array Value} {a b : Dr} {o : Oper} {ρ : Operand → Value} {wx : World} (hi : 6 ≤ i) (hle : B0 ≤ wx.heap.size)
    (hx : (execOp ρ o).run Tryz.prog wx = .ok (.value (.pointer (some ⟨wx.heap.size, 0, none⟩))) (wx.alloc (.cells zeroDrC 33))) : opV Tryz.prog o ρ wx (eqPost B0 c1 c2 a b i wx) := by
  obtain ⟨k, rfl⟩ : ∃ k, i = k + 6 := ⟨i - 6, by omega⟩
  exact opV_of_value hx ⟨(Only.refl _ _).alloc _, ⟨wx.heap.size, rfl, hle, heap_alloc_last _ _⟩, eqRel_new (by omega)⟩
/-- Three draws in three variables, and no list shared between the third and another one. -/
def ThreeAt (base : Nat) (a b c : Dr) (v8 v9 v10 : Value) (W : World) : Prop :=
  ∃ n1 n2 n3 vt vp vq vb ut up uq ub xt xp xq xb, v8 = .pointer (some ⟨n1, 0, none⟩) ∧ v9 = .pointer (some ⟨n2, 0, none⟩) ∧ v10 = .pointer (some ⟨n3, 0, none⟩) ∧ n1 ≠ n3 ∧ n2 ≠ n3 ∧ base ≤ n3 ∧
    W.heap[n1]? = some (.cells (drCells a vt vp vq vb) 33 (0, 0)) ∧ W.heap[n2]? = some (.cells (drCells b ut up uq ub) 33 (0, 0)) ∧ W.heap[n3]? = some (.cells (drCells c xt xp xq xb) 33 (0, 0)) ∧
    DrOwn base W a vt vp vq vb ∧ DrOwn base W b ut up uq ub ∧ DrOwn base W c xt xp xq xb ∧ NoShare xt vt ∧ NoShare xt ut ∧ NoShare xb vb ∧ NoShare xb ub
theorem dr_oneE {base : Nat} {w : World} {d : Dr} {vt vp vq vb : Value} (h : DrOwn base w d vt vp vq vb) : (drCells d vt vp vq vb).all (·.oneCell') = true := by
  obtain ⟨_, _, rfl⟩ := slice_of_own h.tiers
  obtain ⟨_, _, rfl⟩ := slice_of_own h.places
  obtain ⟨_, _, rfl⟩ := slice_of_own h.quotas
  obtain ⟨_, _, rfl⟩ := slice_of_own h.bars
  exact cells_one _ _ _ _ _ _ _ _ _ _ _ _ _
theorem three_row2 {wx : World} {n1 n2 : Nat} {cs : Array Value} {o : Obj} (h : wx.heap[n2]? = some o) (d : n1 ≠ n2) : (wx.setRow n1 cs).heap[n2]? = some o := (setRow_other _ _ _ _ (Ne.symm d)).trans h
theorem three_row3 {wx : World} {n1 n2 n3 : Nat} {cs cs' : Array Value} {o : Obj} (h : wx.heap[n3]? = some o) (d : n1 ≠ n3) (d' : n2 ≠ n3) : ((wx.setRow n1 cs).setRow n2 cs').heap[n3]? = some o :=
  (setRow_other _ _ _ _ (Ne.symm d')).trans (three_row2 h d)
theorem three_put {w2 wx : World} {a b c : Dr} {n1 n2 n3 : Nat} {z1 z2 z3 : Array Value} {vt vp vq vx ut up uq ux xt xp xq xx : Value} (hO : Only (fun _ => False) w2 wx) (ha : DrOwn w2.heap.size wx a vt vp vq vx) (hb : DrOwn w2.heap.size wx b ut up uq ux) (hc : DrOwn w2.heap.size wx c xt xp xq xx)
    (hn1 : w2.heap.size ≤ n1) (hn2 : w2.heap.size ≤ n2) (hn3 : w2.heap.size ≤ n3) (hr1 : wx.heap[n1]? = some (.cells z1 33 (0, 0))) (hr2 : wx.heap[n2]? = some (.cells z2 33 (0, 0))) (hr3 : wx.heap[n3]? = some (.cells z3 33 (0, 0)))
    (d1 : n1 ≠ n2) (d2 : n1 ≠ n3) (d3 : n2 ≠ n3) (s1 : NoShare xt vt) (s2 : NoShare xt ut) (s3 : NoShare xx vx) (s4 : NoShare xx ux) :
    ThreeAt w2.heap.size a b c (.pointer (some ⟨n1, 0, none⟩)) (.pointer (some ⟨n2, 0, none⟩)) (.pointer (some ⟨n3, 0, none⟩)) (((wx.setRow n1 (drCells a vt vp vq vx)).setRow n2 (drCells b ut up uq ux)).setRow n3 (drCells c xt xp xq xx)) ∧
      Only (fun _ => False) w2 (((wx.setRow n1 (drCells a vt vp vq vx)).setRow n2 (drCells b ut up uq ux)).setRow n3 (drCells c xt xp xq xx)) := by
  have r2 := three_row2 (cs := drCells a vt vp vq vx) hr2 d1
  have r3 := three_row3 (cs := drCells a vt vp vq vx) (cs' := drCells b ut up uq ux) hr3 d2 d3
  have k1 := setRow_heap wx n1 z1 (drCells a vt vp vq vx) _ _ hr1
  have k2 := setRow_heap _ n2 z2 (drCells b ut up uq ux) _ _ r2
  have k3 := setRow_heap _ n3 z3 (drCells c xt xp xq xx) _ _ r3
  have own : ∀ {d : Dr} {p q r s : Value}, DrOwn w2.heap.size wx d p q r s → DrOwn w2.heap.size (((wx.setRow n1 (drCells a vt vp vq vx)).setRow n2 (drCells b ut up uq ux)).setRow n3 (drCells c xt xp xq xx)) d p q r s := fun h => own_rows (own_rows (own_rows h k1 hr1) k2 r2) k3 r3
  refine ⟨⟨n1, n2, n3, vt, vp, vq, vx, ut, up, uq, ux, xt, xp, xq, xx, rfl, rfl, rfl, d2, d3, hn3, ?_, ?_, k3, own ha, own hb, own hc, s1, s2, s3, s4⟩, onlyR_row (onlyR_row (onlyR_row hO (.inr hn1) _) (.inr hn2) _) (.inr hn3) _⟩
  · exact (setRow_other _ _ _ _ d2).trans ((setRow_other _ _ _ _ d1).trans k1)
  · exact (setRow_other _ _ _ _ d3).trans k2
end Go.Proofs.YteikkpiginfbkaaGreatDoor

namespace Go.Proofs.YteikkpiginfbkaaGreatDoor
open Go.RowKit

structure EqRow (base n1 n2 n3 : Nat) (a b c : Dr) (vt vp vq vb ut up uq ub xt xp xq xb : Value) (W : World) : Prop where
  r1 : W.heap[n1]? = some (.cells (drCells a vt vp vq vb) 33 (0, 0))
  r2 : W.heap[n2]? = some (.cells (drCells b ut up uq ub) 33 (0, 0))
  r3 : W.heap[n3]? = some (.cells (drCells c xt xp xq xb) 33 (0, 0))
  o1 : DrOwn base W a vt vp vq vb
  o2 : DrOwn base W b ut up uq ub
  o3 : DrOwn base W c xt xp xq xb
theorem dr_setD {base n k : Nat} {W : World} {d : Dr} {v : Value} {vt vp vq vb : Value} {old : Array Value} (h : DrOwn base W d vt vp vq vb) (hr : W.heap[n]? = some (.cells old 33 (0, 0))) : DrOwn base (W.setCell ⟨n, k, none⟩ v) d vt vp vq vb := by
  have hO : Only (fun g => g = n) W (W.setCell ⟨n, k, none⟩ v) := (Only.refl (fun g => g = n) W).setCell (p := ⟨n, k, none⟩) (.inl rfl) v
  exact ⟨hO.owns h.tiers (fun g hg e => by rw [e] at hg; exact ownR_blk h.tiers hr (by decide) hg), hO.owns h.places (fun g hg e => by rw [e] at hg; exact ownR_blk h.places hr (by decide) hg),
    hO.owns h.quotas (fun g hg e => by rw [e] at hg; exact ownR_blk h.quotas hr (by decide) hg), hO.owns h.bars (fun g hg e => by rw [e] at hg; exact ownR_blk h.bars hr (by decide) hg)⟩
section
variable {base n1 n2 n3 : Nat} {a b c : Dr} {vt vp vq vb ut up uq ub xt xp xq xb : Value} {W : World}
theorem EqRow.still {W' : World} (h : EqRow base n1 n2 n3 a b c vt vp vq vb ut up uq ub xt xp xq xb W) (hO : Only (fun _ => False) W W') : EqRow base n1 n2 n3 a b c vt vp vq vb ut up uq ub xt xp xq xb W' :=
  ⟨row_still hO h.r1, row_still hO h.r2, row_still hO h.r3, h.o1.only hO (fun _ _ h => h), h.o2.only hO (fun _ _ h => h), h.o3.only hO (fun _ _ h => h)⟩
theorem EqRow.set {c' : Dr} {k : Nat} {v : Value} (h : EqRow base n1 n2 n3 a b c vt vp vq vb ut up uq ub xt xp xq xb W) (d2 : n1 ≠ n3) (d3 : n2 ≠ n3) (hc : (drCells c xt xp xq xb).setIfInBounds k v = drCells c' xt xp xq xb)
    (hl : c'.tiers = c.tiers ∧ c'.places = c.places ∧ c'.quotas = c.quotas ∧ c'.barred = c.barred) : EqRow base n1 n2 n3 a b c' vt vp vq vb ut up uq ub xt xp xq xb (W.setCell ⟨n3, k, none⟩ v) := by
  have o3 : DrOwn base (W.setCell ⟨n3, k, none⟩ v) c xt xp xq xb := dr_setD h.o3 h.r3
  refine ⟨row_set_other h.r1 d2, row_set_other h.r2 d3, ?_, dr_setD h.o1 h.r3, dr_setD h.o2 h.r3, ⟨?_, ?_, ?_, ?_⟩⟩
  · rw [← hc]; exact heap_setCell_same _ _ _ _ _ _ h.r3
  · rw [hl.1]; exact o3.tiers
  · rw [hl.2.1]; exact o3.places
  · rw [hl.2.2.1]; exact o3.quotas
  · rw [hl.2.2.2]; exact o3.bars
theorem EqRow.bars {W' : World} {q : Int} {v' : Value} (h : EqRow base n1 n2 n3 a b c vt vp vq vb ut up uq ub xt xp xq xb W) (d2 : n1 ≠ n3) (d3 : n2 ≠ n3) (s3 : NoShare xb vb) (s4 : NoShare xb ub) (hg : W.grownBy W' xb.ownBlock)
    (hown : W'.ownsRow base 3 1 v' (c.barred ++ [q]).length (irow (c.barred ++ [q]))) : EqRow base n1 n2 n3 a b { c with barred := c.barred ++ [q] } vt vp vq vb ut up uq ub xt xp xq v' (W'.setCell ⟨n3, 12, none⟩ v') := by
  have hO : Only (fun g => xb.ownBlock = some g) W W' := (Only.refl _ _).grown hg (fun _ e _ => e)
  have row : ∀ {n : Nat} {cs : Array Value}, W.heap[n]? = some (.cells cs 33 (0, 0)) → W'.heap[n]? = some (.cells cs 33 (0, 0)) := fun {n cs} hr =>
    (hO.block n (Array.getElem?_eq_some_iff.1 hr).1 (fun e => ownR_blk h.o3.bars hr (by decide) e)).trans hr
  have oth : ∀ {d : Dr} {p q r s : Value}, DrOwn base W d p q r s → NoShare xb s → DrOwn base W' d p q r s := fun o hs =>
    ⟨hO.owns o.tiers (fun g hg he => ownR_ne h.o3.bars o.tiers (by decide) g he hg), hO.owns o.places (fun g hg he => ownR_ne h.o3.bars o.places (by decide) g he hg), hO.owns o.quotas (fun g hg he => ownR_ne h.o3.bars o.quotas (by decide) g he hg), hO.owns o.bars (fun g hg he => hs g he hg)⟩
  have o3 : DrOwn base W' { c with barred := c.barred ++ [q] } xt xp xq v' :=
    ⟨hO.owns h.o3.tiers (fun g hg he => ownR_ne h.o3.bars h.o3.tiers (by decide) g he hg), hO.owns h.o3.places (fun g hg he => ownR_ne h.o3.bars h.o3.places (by decide) g he hg), hO.owns h.o3.quotas (fun g hg he => ownR_ne h.o3.bars h.o3.quotas (by decide) g he hg), hown⟩
  exact ⟨row_set_other (row h.r1) d2, row_set_other (row h.r2) d3, (heap_setCell_same _ _ _ _ _ _ (row h.r3)).trans rfl, dr_setD (oth h.o1 s3) (row h.r3), dr_setD (oth h.o2 s4) (row h.r3), dr_setD o3 (row h.r3)⟩
theorem EqRow.tiers {W' : World} {q : Int × Int} {v' : Value} (h : EqRow base n1 n2 n3 a b c vt vp vq vb ut up uq ub xt xp xq xb W) (d2 : n1 ≠ n3) (d3 : n2 ≠ n3) (s3 : NoShare xt vt) (s4 : NoShare xt ut) (hg : W.grownBy W' xt.ownBlock)
    (hown : W'.ownsRow base 50 2 v' (c.tiers ++ [q]).length (trow (c.tiers ++ [q]))) : EqRow base n1 n2 n3 a b { c with tiers := c.tiers ++ [q] } vt vp vq vb ut up uq ub v' xp xq xb (W'.setCell ⟨n3, 6, none⟩ v') := by
  have hO : Only (fun g => xt.ownBlock = some g) W W' := (Only.refl _ _).grown hg (fun _ e _ => e)
  have row : ∀ {n : Nat} {cs : Array Value}, W.heap[n]? = some (.cells cs 33 (0, 0)) → W'.heap[n]? = some (.cells cs 33 (0, 0)) := fun {n cs} hr =>
    (hO.block n (Array.getElem?_eq_some_iff.1 hr).1 (fun e => ownR_blk h.o3.tiers hr (by decide) e)).trans hr
  have oth : ∀ {d : Dr} {p q r s : Value}, DrOwn base W d p q r s → NoShare xt p → DrOwn base W' d p q r s := fun o hs =>
    ⟨hO.owns o.tiers (fun g hg he => hs g he hg), hO.owns o.places (fun g hg he => ownR_ne h.o3.tiers o.places (by decide) g he hg), hO.owns o.quotas (fun g hg he => ownR_ne h.o3.tiers o.quotas (by decide) g he hg), hO.owns o.bars (fun g hg he => ownR_ne h.o3.tiers o.bars (by decide) g he hg)⟩
  have o3 : DrOwn base W' { c with tiers := c.tiers ++ [q] } v' xp xq xb :=
    ⟨hown, hO.owns h.o3.places (fun g hg he => ownR_ne h.o3.tiers h.o3.places (by decide) g he hg), hO.owns h.o3.quotas (fun g hg he => ownR_ne h.o3.tiers h.o3.quotas (by decide) g he hg), hO.owns h.o3.bars (fun g hg he => ownR_ne h.o3.tiers h.o3.bars (by decide) g he hg)⟩
  exact ⟨row_set_other (row h.r1) d2, row_set_other (row h.r2) d3, (heap_setCell_same _ _ _ _ _ _ (row h.r3)).trans rfl, dr_setD (oth h.o1 s3) (row h.r3), dr_setD (oth h.o2 s4) (row h.r3), dr_setD o3 (row h.r3)⟩
end
/-- The 13 cells of a draw. -/
theorem dr_cells {W : World} {n : Nat} {d : Dr} {vt vp vq vb : Value} (h : W.heap[n]? = some (.cells (drCells d vt vp vq vb) 33 (0, 0))) :
    W.cell? ⟨n, 0, none⟩ = some (Value.string d.name) ∧ W.cell? ⟨n, 1, none⟩ = some (Value.int .i64 d.kind) ∧ W.cell? ⟨n, 2, none⟩ = some (Value.int .i64 d.round) ∧ W.cell? ⟨n, 3, none⟩ = some (Value.int .i64 d.price) ∧
    W.cell? ⟨n, 4, none⟩ = some (Value.int .i64 d.pool) ∧ W.cell? ⟨n, 5, none⟩ = some (Value.int .i64 d.pick) ∧ W.cell? ⟨n, 6, none⟩ = some vt ∧ W.cell? ⟨n, 7, none⟩ = some (Value.bool d.roll) ∧ W.cell? ⟨n, 8, none⟩ = some vp ∧
    W.cell? ⟨n, 9, none⟩ = some (Value.int .i64 d.cls) ∧ W.cell? ⟨n, 10, none⟩ = some (Value.int .i64 d.size) ∧ W.cell? ⟨n, 11, none⟩ = some vq ∧ W.cell? ⟨n, 12, none⟩ = some vb :=
  ⟨cell_of_row _ _ 0 _ _ _ h, cell_of_row _ _ 1 _ _ _ h, cell_of_row _ _ 2 _ _ _ h, cell_of_row _ _ 3 _ _ _ h, cell_of_row _ _ 4 _ _ _ h, cell_of_row _ _ 5 _ _ _ h, cell_of_row _ _ 6 _ _ _ h, cell_of_row _ _ 7 _ _ _ h, cell_of_row _ _ 8 _ _ _ h, cell_of_row _ _ 9 _ _ _ h, cell_of_row _ _ 10 _ _ _ h, cell_of_row _ _ 11 _ _ _ h, cell_of_row _ _ 12 _ _ _ h⟩
/-- Two draws side by side in a block, from cell o on. -/
def PairAt (W : World) (N o : Nat) (X Y : Dr) (vt vp vq vb ut up uq ub : Value) : Prop :=
  W.cell? ⟨N, o, none⟩ = some (Value.string X.name) ∧ W.cell? ⟨N, o + 1, none⟩ = some (Value.int .i64 X.kind) ∧ W.cell? ⟨N, o + 2, none⟩ = some (Value.int .i64 X.round) ∧ W.cell? ⟨N, o + 3, none⟩ = some (Value.int .i64 X.price) ∧ W.cell? ⟨N, o + 4, none⟩ = some (Value.int .i64 X.pool) ∧ W.cell? ⟨N, o + 5, none⟩ = some (Value.int .i64 X.pick) ∧ W.cell? ⟨N, o + 6, none⟩ = some (vt) ∧ W.cell? ⟨N, o + 7, none⟩ = some (Value.bool X.roll) ∧ W.cell? ⟨N, o + 8, none⟩ = some (vp) ∧ W.cell? ⟨N, o + 9, none⟩ = some (Value.int .i64 X.cls) ∧ W.cell? ⟨N, o + 10, none⟩ = some (Value.int .i64 X.size) ∧ W.cell? ⟨N, o + 11, none⟩ = some (vq) ∧ W.cell? ⟨N, o + 12, none⟩ = some (vb) ∧ W.cell? ⟨N, o + 13, none⟩ = some (Value.string Y.name) ∧ W.cell? ⟨N, o + 14, none⟩ = some (Value.int .i64 Y.kind) ∧ W.cell? ⟨N, o + 15, none⟩ = some (Value.int .i64 Y.round) ∧ W.cell? ⟨N, o + 16, none⟩ = some (Value.int .i64 Y.price) ∧ W.cell? ⟨N, o + 17, none⟩ = some (Value.int .i64 Y.pool) ∧ W.cell? ⟨N, o + 18, none⟩ = some (Value.int .i64 Y.pick) ∧ W.cell? ⟨N, o + 19, none⟩ = some (ut) ∧ W.cell? ⟨N, o + 20, none⟩ = some (Value.bool Y.roll) ∧ W.cell? ⟨N, o + 21, none⟩ = some (up) ∧ W.cell? ⟨N, o + 22, none⟩ = some (Value.int .i64 Y.cls) ∧ W.cell? ⟨N, o + 23, none⟩ = some (Value.int .i64 Y.size) ∧ W.cell? ⟨N, o + 24, none⟩ = some (uq) ∧ W.cell? ⟨N, o + 25, none⟩ = some (ub)
theorem pair_at {W : World} {N o : Nat} {cs : Array Value} {T : TypeId} {fr : Nat × Nat} {X Y : Dr} {vt vp vq vb ut up uq ub : Value} (h : W.heap[N]? = some (.cells cs T fr))
    (hc : (cs.toList.drop o).take 26 = (drCells X vt vp vq vb).toList ++ (drCells Y ut up uq ub).toList) : PairAt W N o X Y vt vp vq vb ut up uq ub := by
  have hj : ∀ j, j < 26 → cs[o + j]? = ((drCells X vt vp vq vb).toList ++ (drCells Y ut up uq ub).toList)[j]? := fun j hj => by
    rw [← hc, List.getElem?_take_of_lt hj, List.getElem?_drop, Array.getElem?_toList]
  unfold PairAt
  refine ⟨?_, ?_, ?_, ?_, ?_, ?_, ?_, ?_, ?_, ?_, ?_, ?_, ?_, ?_, ?_, ?_, ?_, ?_, ?_, ?_, ?_, ?_, ?_, ?_, ?_, ?_⟩
  · exact (cell_of_row _ _ (o + 0) _ _ _ h).trans ((hj 0 (by decide)).trans rfl)
  · exact (cell_of_row _ _ (o + 1) _ _ _ h).trans ((hj 1 (by decide)).trans rfl)
  · exact (cell_of_row _ _ (o + 2) _ _ _ h).trans ((hj 2 (by decide)).trans rfl)
  · exact (cell_of_row _ _ (o + 3) _ _ _ h).trans ((hj 3 (by decide)).trans rfl)
  · exact (cell_of_row _ _ (o + 4) _ _ _ h).trans ((hj 4 (by decide)).trans rfl)
  · exact (cell_of_row _ _ (o + 5) _ _ _ h).trans ((hj 5 (by decide)).trans rfl)
  · exact (cell_of_row _ _ (o + 6) _ _ _ h).trans ((hj 6 (by decide)).trans rfl)
  · exact (cell_of_row _ _ (o + 7) _ _ _ h).trans ((hj 7 (by decide)).trans rfl)
  · exact (cell_of_row _ _ (o + 8) _ _ _ h).trans ((hj 8 (by decide)).trans rfl)
  · exact (cell_of_row _ _ (o + 9) _ _ _ h).trans ((hj 9 (by decide)).trans rfl)
  · exact (cell_of_row _ _ (o + 10) _ _ _ h).trans ((hj 10 (by decide)).trans rfl)
  · exact (cell_of_row _ _ (o + 11) _ _ _ h).trans ((hj 11 (by decide)).trans rfl)
  · exact (cell_of_row _ _ (o + 12) _ _ _ h).trans ((hj 12 (by decide)).trans rfl)
  · exact (cell_of_row _ _ (o + 13) _ _ _ h).trans ((hj 13 (by decide)).trans rfl)
  · exact (cell_of_row _ _ (o + 14) _ _ _ h).trans ((hj 14 (by decide)).trans rfl)
  · exact (cell_of_row _ _ (o + 15) _ _ _ h).trans ((hj 15 (by decide)).trans rfl)
  · exact (cell_of_row _ _ (o + 16) _ _ _ h).trans ((hj 16 (by decide)).trans rfl)
  · exact (cell_of_row _ _ (o + 17) _ _ _ h).trans ((hj 17 (by decide)).trans rfl)
  · exact (cell_of_row _ _ (o + 18) _ _ _ h).trans ((hj 18 (by decide)).trans rfl)
  · exact (cell_of_row _ _ (o + 19) _ _ _ h).trans ((hj 19 (by decide)).trans rfl)
  · exact (cell_of_row _ _ (o + 20) _ _ _ h).trans ((hj 20 (by decide)).trans rfl)
  · exact (cell_of_row _ _ (o + 21) _ _ _ h).trans ((hj 21 (by decide)).trans rfl)
  · exact (cell_of_row _ _ (o + 22) _ _ _ h).trans ((hj 22 (by decide)).trans rfl)
  · exact (cell_of_row _ _ (o + 23) _ _ _ h).trans ((hj 23 (by decide)).trans rfl)
  · exact (cell_of_row _ _ (o + 24) _ _ _ h).trans ((hj 24 (by decide)).trans rfl)
  · exact (cell_of_row _ _ (o + 25) _ _ _ h).trans ((hj 25 (by decide)).trans rfl)
theorem alloc_onlyE {W V : World} {o : Obj} (h : W.alloc o = V) : Only (fun _ => False) W V := h ▸ (Only.refl _ W).alloc o
theorem alloc_rowE {W V : World} {o : Obj} (h : W.alloc o = V) : V.heap[W.heap.size]? = some o := h ▸ heap_alloc_last W o
theorem pair_range {W : World} {N o : Nat} {cs : Array Value} {T : TypeId} {fr : Nat × Nat} {L : List Value} (h : W.heap[N]? = some (.cells cs T fr)) (hc : (cs.toList.drop o).take L.length = L) : W.rangeAt N o L := fun j v hv => by
  have hj : j < L.length := (List.getElem?_eq_some_iff.1 hv).1
  have e : cs[o + j]? = L[j]? := by
    rw [← hc] at hj ⊢
    rw [List.getElem?_take_of_lt (by rw [hc] at hj; exact hj), List.getElem?_drop, Array.getElem?_toList]
  exact (cell_of_row _ _ (o + j) _ _ _ h).trans (e.trans hv)
theorem pair_zero {W : World} {N : Nat} {X Y : Dr} {vt vp vq vb ut up uq ub : Value} (h : PairAt W N (0 * 26) X Y vt vp vq vb ut up uq ub) : PairAt W N 0 X Y vt vp vq vb ut up uq ub := h
theorem Tryz.infoPr : (Tryz.prog.info? 59).map (·.size) = some 26 := by kernel_rfl
end Go.Proofs.YteikkpiginfbkaaGreatDoor
