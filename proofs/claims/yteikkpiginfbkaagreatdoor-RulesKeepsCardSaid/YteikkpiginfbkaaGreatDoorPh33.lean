/-
  Rules: the walk of Plan.Make. (Under way.)
-/
import Derived.Test.YteikkpiginfbkaaGreatDoorPh32
namespace Go.Proofs.YteikkpiginfbkaaGreatDoor
open Go.RowKit


/-- A plan's lists lie in a world. -/
structure PlAt13 (w : World) (p : Plan13) (vl vb : Value) : Prop where
 lines : ∃ a c, vl = .slice a p.lines.length c ∧ p.lines.length ≤ c ∧ c ≤ 9223372036854775807 ∧ ∀ k (_ : k < p.lines.length), ∃ b off, a = some ⟨b, off, none⟩ ∧ b < w.heap.size ∧ w.cell? ⟨b, off + k * 3, none⟩ = some (.int .i64 p.lines[k].1) ∧ w.cell? ⟨b, off + k * 3 + 1, none⟩ = some (.int .i64 p.lines[k].2.1) ∧ w.cell? ⟨b, off + k * 3 + 2, none⟩ = some (.int .i64 p.lines[k].2.2)
 bars : PtsAt w.heap.size w vb p.barred
def base0 (p : Plan13) : Dr := { name := nmZ p.wild p.h0, kind := kdZ p, round := nbZ p.wild p.h1, price := nbZ p.wild p.h2, pool := 0, pick := 0, tiers := [], roll := false, places := [], cls := 0, size := 0, quotas := [], barred := [] }
def PlS (B : Nat) (p : Plan13) (vl vb : Value) (W : World) : Prop := W.cell? ⟨B, 0, none⟩ = some (Value.int .i64 p.kind) ∧ W.cell? ⟨B, 1, none⟩ = some (Value.int .i64 p.h0) ∧ W.cell? ⟨B, 2, none⟩ = some (Value.int .i64 p.h1) ∧ W.cell? ⟨B, 3, none⟩ = some (Value.int .i64 p.h2) ∧ W.cell? ⟨B, 4, none⟩ = some (Value.int .i64 p.h3) ∧ W.cell? ⟨B, 5, none⟩ = some (Value.int .i64 p.h4) ∧ W.cell? ⟨B, 6, none⟩ = some (Value.int .i64 p.h5) ∧ W.cell? ⟨B, 7, none⟩ = some (vl) ∧ W.cell? ⟨B, 8, none⟩ = some (Value.bool p.roll) ∧ W.cell? ⟨B, 9, none⟩ = some (vb) ∧ W.cell? ⟨B, 10, none⟩ = some (Value.bool p.wild)
theorem PlS.of {W : World} {B : Nat} {p : Plan13} {vl vb : Value} {fr : Nat × Nat} (h : W.heap[B]? = some (.cells (plCells p vl vb) 26 fr)) : PlS B p vl vb W :=
 ⟨cell_of_row _ _ 0 _ _ _ h, cell_of_row _ _ 1 _ _ _ h, cell_of_row _ _ 2 _ _ _ h, cell_of_row _ _ 3 _ _ _ h, cell_of_row _ _ 4 _ _ _ h, cell_of_row _ _ 5 _ _ _ h, cell_of_row _ _ 6 _ _ _ h, cell_of_row _ _ 7 _ _ _ h, cell_of_row _ _ 8 _ _ _ h, cell_of_row _ _ 9 _ _ _ h, cell_of_row _ _ 10 _ _ _ h⟩
theorem PlS.only {W W' : World} {B : Nat} {p : Plan13} {vl vb : Value} (h : PlS B p vl vb W) (hO : Only (fun _ => False) W W') : PlS B p vl vb W' := by
 obtain ⟨s0, s1, s2, s3, s4, s5, s6, s7, s8, s9, s10⟩ := h
 exact ⟨hO.cell s0 id, hO.cell s1 id, hO.cell s2 id, hO.cell s3 id, hO.cell s4 id, hO.cell s5 id, hO.cell s6 id, hO.cell s7 id, hO.cell s8 id, hO.cell s9 id, hO.cell s10 id⟩
theorem own_newN (w : World) (e : TypeId) (size n : Nat) (xs : List Value) (hl : xs.length = n * size) (hn : n ≤ 1000) : (w.alloc (.cells xs.toArray e)).ownsRow w.heap.size e size (.slice (some ⟨w.heap.size, 0, none⟩) n n) n xs :=
 ⟨hl, .inr ⟨w.heap.size, n, xs.toArray, rfl, Nat.le_refl _, heap_alloc_last w _, Nat.le_refl _, by unfold maxLen; omega, by simpa using hl, by rw [List.take_of_length_le (by rw [Array.length_toList]; simp [hl])]⟩⟩
theorem step_append_row {P : Program} {ops : Array Oper} {o : Oper} {a : Act} {w : World} {K : Act → World → Prop} {Q : Exit → Act → World → Prop} {E : Prop} (hgd : o.guard = none) (s x : Operand) (t : TypeId)
  (ho : o.op = .call { callee := .builtin .append, args := #[s, x], argTypes := #[t, t] })
  (base base2 : Nat) (e : TypeId) (i : TypeInfo) (z : Value) (size bytes : Nat) (ht : P.underlying t = some (.slice e)) (hi : P.info? e = some i) (hz : i.zero = some z)
  (hsize : i.size = size) (hby : i.bytes = bytes) (hzs : z.cells.size = size) (hsz : 0 < size)
  (v : Value) (n : Nat) (xs : List Value) (hs : a.eval s = v) (hown : w.ownsRow base e size v n xs)
  (u : Value) (m : Nat) (news : List Value) (hx : a.eval x = u) (hown2 : w.ownsRow base2 e size u m news) (h1 : ∀ y ∈ news, y.oneCell' = true)
  (h63 : n + m ≤ maxLen) (hbytes : (n + m) * bytes ≤ 140737488355328) (hbase : base ≤ w.heap.size)
  (h : ∀ v' w', w'.ownsRow base e size v' (n + m) (xs ++ news) → w.grownBy w' v.ownBlock → K (a.put o.dst v') w') :
  if Region.wanted o (yielded ops a.tmps) = true then Oper.wp P o a w K Q else E := by
 have hw : Region.wanted o (yielded ops a.tmps) = true := by simp [Region.wanted, hgd]
 rw [if_pos hw]
 rcases hown2.2 with ⟨rfl, rfl⟩ | ⟨g, cap, cur, rfl, hb, hg, hnc, hcm, hcs, htake⟩
 ·obtain rfl : news = [] := List.eq_nil_of_length_eq_zero (by simpa using hown2.1)
  have hrun := run_append_owned_none (P := P) (w := w) base t o.type e i size ht hi v n xs hown
  unfold Oper.wp execOp
  simp only [ho, resolve, invoke, builtin, Sem.run_bind, Sem.run_pure, Result.andThen_ok, List.map_toArray, List.map_cons, List.map_nil, hs, hx, hrun]
  exact h v w (by simpa using hown) ⟨rfl, rfl, rfl, Nat.le_refl _, fun _ _ _ => rfl⟩
 ·exact wp_append_own w s x t ho base e i z size bytes ht hi hz hsize hby hzs hsz v n xs hs hown ⟨g, 0, none⟩ m cap news hx hown2.1 (hown2.cells rfl) h1 h63 hbytes hbase (fun v' w' h2 h3 _ => h v' w' h2 h3)
theorem trow_one (l : List (Int × Int)) : ∀ y ∈ trow l, y.oneCell' = true := by
 intro y hy
 obtain ⟨x, _, h⟩ := List.mem_flatMap.1 hy
 simp only [List.mem_cons, List.not_mem_nil, or_false] at h
 rcases h with rfl | rfl <;> rfl
theorem prow_one (l : List (ByteArray × Int)) : ∀ y ∈ prow l, y.oneCell' = true := by
 intro y hy
 obtain ⟨x, _, h⟩ := List.mem_flatMap.1 hy
 simp only [List.mem_cons, List.not_mem_nil, or_false] at h
 rcases h with rfl | rfl <;> rfl
theorem qrow_one (l : List (ByteArray × Int × Int)) : ∀ y ∈ qrow l, y.oneCell' = true := by
 intro y hy
 obtain ⟨x, _, h⟩ := List.mem_flatMap.1 hy
 simp only [List.mem_cons, List.not_mem_nil, or_false] at h
 rcases h with rfl | rfl | rfl <;> rfl
theorem irow_oneR (l : List Int) : ∀ y ∈ irow l, y.oneCell' = true := by
 intro y hy
 obtain ⟨x, _, rfl⟩ := List.mem_map.1 hy
 rfl
theorem own_rows {base g : Nat} {W : World} {d : Dr} {vt vp vq vb : Value} {cs old : Array Value} (h : DrOwn base W d vt vp vq vb) (_hs : (W.setRow g cs).heap[g]? = some (.cells cs 33 (0, 0))) (hr : W.heap[g]? = some (.cells old 33 (0, 0))) : DrOwn base (W.setRow g cs) d vt vp vq vb := by
 have hO : Only (fun k => k = g) W (W.setRow g cs) := onlyR_row (S := fun k => k = g) (Only.refl _ _) (.inl rfl) cs
 exact ⟨hO.owns h.tiers (fun k hk e => by rw [e] at hk; exact ownR_blk h.tiers hr (by decide) hk), hO.owns h.places (fun k hk e => by rw [e] at hk; exact ownR_blk h.places hr (by decide) hk), hO.owns h.quotas (fun k hk e => by rw [e] at hk; exact ownR_blk h.quotas hr (by decide) hk), hO.owns h.bars (fun k hk e => by rw [e] at hk; exact ownR_blk h.bars hr (by decide) hk)⟩
theorem row_set_other {W : World} {b g k : Nat} {v : Value} {o : Obj} (h : W.heap[b]? = some o) (hne : b ≠ g) : (W.setCell ⟨g, k, none⟩ v).heap[b]? = some o := (heap_setCell_other W ⟨g, k, none⟩ b v hne).trans h
set_option maxRecDepth 100000 in
set_option maxHeartbeats 8000000 in
theorem make_any (p : Plan13) (vl vb : Value) (w : World) (hp : PlAt13 w p vl vb) (h64 : Pl64 p) :
  Calls Tryz.prog 12 #[.agg (plCells p vl vb)] w fun e w' => ∃ vt vp vq vx, e = .returned (.agg (drCells (makeZ p) vt vp vq vx)) ∧ DrOwn w.heap.size w' (makeZ p) vt vp vq vx ∧ Only (fun _ => False) w w' := by
 have HZ := Lib.hid (heap_alloc_last w (.cells (plCells p vl vb) 26))
 have HPL := Lib.hid hp
 have H64 := Lib.hid h64
 have HMK := Lib.hid (fun k (h : k ≤ p.lines.length) => lines_ok p h64 k h)
 clear hp h64
 go_enter Tryz.func12, Tryz.ntmps12
 go_upto_region 1 with (fail)
 obtain ⟨B, hB⟩ : ∃ B, w.heap.size = B := ⟨_, rfl⟩
 have HZ0 := Lib.hid (row_still ((Only.refl (fun _ => False) _).alloc (.cells #[.string ⟨#[]⟩, .int .i64 0, .int .i64 0, .int .i64 0, .int .i64 0, .int .i64 0, .slice none 0 0, .bool false, .slice none 0 0, .int .i64 0, .int .i64 0, .slice none 0 0, .slice none 0 0] 33)) HZ.out)
 have HP0 := Lib.hid (heap_alloc_last (w.alloc (.cells (plCells p vl vb) 26)) (.cells #[.string ⟨#[]⟩, .int .i64 0, .int .i64 0, .int .i64 0, .int .i64 0, .int .i64 0, .slice none 0 0, .bool false, .slice none 0 0, .int .i64 0, .int .i64 0, .slice none 0 0, .slice none 0 0] 33))
 have HW1 := Lib.hid (((Only.refl (fun _ => False) w).alloc (.cells (plCells p vl vb) 26)).alloc (.cells #[.string ⟨#[]⟩, .int .i64 0, .int .i64 0, .int .i64 0, .int .i64 0, .int .i64 0, .slice none 0 0, .bool false, .slice none 0 0, .int .i64 0, .int .i64 0, .slice none 0 0, .slice none 0 0] 33))
 have hs1 : (World.alloc (World.alloc w (.cells (plCells p vl vb) 26)) (.cells #[.string ⟨#[]⟩, .int .i64 0, .int .i64 0, .int .i64 0, .int .i64 0, .int .i64 0, .slice none 0 0, .bool false, .slice none 0 0, .int .i64 0, .int .i64 0, .slice none 0 0, .slice none 0 0] 33)).heap.size = B + 2 := by simp [hB]
 rw [World.size_alloc] at HP0
 rw [hB] at HZ0 HP0 ⊢
 generalize World.alloc (World.alloc w _) _ = w1 at *
 have HP := Lib.hid (PlS.of HZ0.out)
 have HKD := Lib.hid (show IntKind.i64.wrap (1 + p.kind % 3) = kdZ p from IntWalk.i64_in _ (by omega))
 go_cut [3] (fun v wx => ∃ b, v = .pointer (some ⟨b, 0, none⟩) ∧ w1.heap.size ≤ b ∧ wx.heap[b]? = some (.cells (drCells (base0 p) (.slice none 0 0) (.slice none 0 0) (.slice none 0 0) (.slice none 0 0)) 33 (0, 0)) ∧ Only (fun _ => False) w1 wx)
 case first =>
  as_aux_lemma =>
   refine wp_region_split2 22 (by kernel_rfl) (by kernel_rfl) (wpAny_of_held (S := PlS B p vl vb) _ _ _ _ ?_)
   simp only [List.take_succ_cons, List.take_zero]
   change wpAnyH _ _ _ _ _ _ _ _ w1.drew
   have hHeld : PlS B p vl vb w1.drew := PlS.only HP.out (Only.refl _ w1).drew
   have HOX := Lib.hid ((Only.refl (fun _ => False) w1).drew)
   generalize w1.drew = v0 at *
   refine' wpAnyH_take (i := 0) (v := _) rfl (by kernel_rfl) (by kernel_rfl) (by kernel_rfl) (fun _ _ _ h => h) (Or.inl ⟨by rfl, ?hya0⟩) hHeld ?ra0
   case hya0 => (intro w hSw; obtain ⟨s0, s1, s2, s3, s4, s5, s6, s7, s8, s9, s10⟩ := hSw; go_simp; with_reducible rfl)
   simp only [Act.put, List.getElem_toArray, List.getElem_cons_zero, List.setIfInBounds_toArray, List.set_cons_zero, List.set_cons_succ]
   refine' wpAnyH_take (i := 1) (v := _) rfl (by kernel_rfl) (by kernel_rfl) (by kernel_rfl) (fun _ _ _ h => h) (Or.inl ⟨by rfl, ?hya1⟩) hHeld ?ra1
   case hya1 => (intro w hSw; obtain ⟨s0, s1, s2, s3, s4, s5, s6, s7, s8, s9, s10⟩ := hSw; go_simp; with_reducible rfl)
   simp only [Act.put, List.getElem_toArray, List.getElem_cons_zero, List.getElem_cons_succ, List.setIfInBounds_toArray, List.set_cons_zero, List.set_cons_succ]
   refine' wpAnyH_take (i := 4) (v := _) rfl (by kernel_rfl) (by kernel_rfl) (by kernel_rfl) (fun _ _ _ h => h) (Or.inl ⟨by rfl, ?hya4⟩) hHeld ?ra4
   case hya4 => (intro w hSw; obtain ⟨s0, s1, s2, s3, s4, s5, s6, s7, s8, s9, s10⟩ := hSw; go_simp; with_reducible rfl)
   simp only [Act.put, List.getElem_toArray, List.getElem_cons_zero, List.getElem_cons_succ, List.setIfInBounds_toArray, List.set_cons_zero, List.set_cons_succ]
   refine' wpAnyH_take (i := 5) (v := _) rfl (by kernel_rfl) (by kernel_rfl) (by kernel_rfl) (fun _ _ _ h => h) (Or.inl ⟨by rfl, ?hya5⟩) hHeld ?ra5
   case hya5 => (intro w hSw; obtain ⟨s0, s1, s2, s3, s4, s5, s6, s7, s8, s9, s10⟩ := hSw; go_simp; with_reducible rfl)
   simp only [Act.put, List.getElem_toArray, List.getElem_cons_zero, List.getElem_cons_succ, List.setIfInBounds_toArray, List.set_cons_zero, List.set_cons_succ]
   refine' wpAnyH_take (i := 6) (v := _) rfl (by kernel_rfl) (by kernel_rfl) (by kernel_rfl) (fun _ _ _ h => h) (Or.inl ⟨by rfl, ?hya6⟩) hHeld ?ra6
   case hya6 => (intro w hSw; obtain ⟨s0, s1, s2, s3, s4, s5, s6, s7, s8, s9, s10⟩ := hSw; go_simp; with_reducible rfl)
   simp only [Act.put, List.getElem_toArray, List.getElem_cons_zero, List.getElem_cons_succ, List.setIfInBounds_toArray, List.set_cons_zero, List.set_cons_succ]
   refine' wpAnyH_take (i := 7) (v := _) rfl (by kernel_rfl) (by kernel_rfl) (by kernel_rfl) (fun _ _ _ h => h) (Or.inl ⟨by rfl, ?hya7⟩) hHeld ?ra7
   case hya7 => (intro w hSw; obtain ⟨s0, s1, s2, s3, s4, s5, s6, s7, s8, s9, s10⟩ := hSw; go_simp; with_reducible rfl)
   simp only [Act.put, List.getElem_toArray, List.getElem_cons_zero, List.getElem_cons_succ, List.setIfInBounds_toArray, List.set_cons_zero, List.set_cons_succ]
   refine' wpAnyH_take (i := 8) (v := _) rfl (by kernel_rfl) (by kernel_rfl) (by kernel_rfl) (fun _ _ _ h => h) (Or.inl ⟨by rfl, ?hya8⟩) hHeld ?ra8
   case hya8 => (intro w hSw; obtain ⟨s0, s1, s2, s3, s4, s5, s6, s7, s8, s9, s10⟩ := hSw; go_simp; with_reducible rfl)
   simp only [Act.put, List.getElem_toArray, List.getElem_cons_zero, List.getElem_cons_succ, List.setIfInBounds_toArray, List.set_cons_zero, List.set_cons_succ]
   refine' wpAnyH_take (i := 10) (v := _) rfl (by kernel_rfl) (by kernel_rfl) (by kernel_rfl) (fun _ _ _ h => h) (Or.inl ⟨by rfl, ?hya10⟩) hHeld ?ra10
   case hya10 => (intro w hSw; obtain ⟨s0, s1, s2, s3, s4, s5, s6, s7, s8, s9, s10⟩ := hSw; go_simp; with_reducible rfl)
   simp only [Act.put, List.getElem_toArray, List.getElem_cons_zero, List.getElem_cons_succ, List.setIfInBounds_toArray, List.set_cons_zero, List.set_cons_succ]
   refine' wpAnyH_take (i := 11) (v := _) rfl (by kernel_rfl) (by kernel_rfl) (by kernel_rfl) (fun _ _ _ h => h) (Or.inl ⟨by rfl, ?hya11⟩) hHeld ?ra11
   case hya11 => (intro w hSw; obtain ⟨s0, s1, s2, s3, s4, s5, s6, s7, s8, s9, s10⟩ := hSw; go_simp; with_reducible rfl)
   simp only [Act.put, List.getElem_toArray, List.getElem_cons_zero, List.getElem_cons_succ, List.setIfInBounds_toArray, List.set_cons_zero, List.set_cons_succ]
   refine' wpAnyH_take (i := 12) (v := _) rfl (by kernel_rfl) (by kernel_rfl) (by kernel_rfl) (fun _ _ _ h => h) (Or.inl ⟨by rfl, ?hya12⟩) hHeld ?ra12
   case hya12 => (intro w hSw; obtain ⟨s0, s1, s2, s3, s4, s5, s6, s7, s8, s9, s10⟩ := hSw; go_simp; with_reducible rfl)
   simp only [Act.put, List.getElem_toArray, List.getElem_cons_zero, List.getElem_cons_succ, List.setIfInBounds_toArray, List.set_cons_zero, List.set_cons_succ]
   refine' wpAnyH_take (i := 13) (v := _) rfl (by kernel_rfl) (by kernel_rfl) (by kernel_rfl) (fun _ _ _ h => h) (Or.inl ⟨by rfl, ?hya13⟩) hHeld ?ra13
   case hya13 => (intro w hSw; obtain ⟨s0, s1, s2, s3, s4, s5, s6, s7, s8, s9, s10⟩ := hSw; go_simp; with_reducible rfl)
   simp only [Act.put, List.getElem_toArray, List.getElem_cons_zero, List.getElem_cons_succ, List.setIfInBounds_toArray, List.set_cons_zero, List.set_cons_succ]
   refine' wpAnyH_take (i := 15) (v := _) rfl (by kernel_rfl) (by kernel_rfl) (by kernel_rfl) (fun _ _ _ h => h) (Or.inl ⟨by rfl, ?hya15⟩) hHeld ?ra15
   case hya15 => (intro w hSw; obtain ⟨s0, s1, s2, s3, s4, s5, s6, s7, s8, s9, s10⟩ := hSw; go_simp; with_reducible rfl)
   simp only [Act.put, List.getElem_toArray, List.getElem_cons_zero, List.getElem_cons_succ, List.setIfInBounds_toArray, List.set_cons_zero, List.set_cons_succ]
   refine' wpAnyH_take (i := 16) (v := _) rfl (by kernel_rfl) (by kernel_rfl) (by kernel_rfl) (fun _ _ _ h => h) (Or.inl ⟨by rfl, ?hya16⟩) hHeld ?ra16
   case hya16 => (intro w hSw; obtain ⟨s0, s1, s2, s3, s4, s5, s6, s7, s8, s9, s10⟩ := hSw; go_simp; with_reducible rfl)
   simp only [Act.put, List.getElem_toArray, List.getElem_cons_zero, List.getElem_cons_succ, List.setIfInBounds_toArray, List.set_cons_zero, List.set_cons_succ]
   refine' wpAnyH_take (i := 17) (v := _) rfl (by kernel_rfl) (by kernel_rfl) (by kernel_rfl) (fun _ _ _ h => h) (Or.inl ⟨by rfl, ?hya17⟩) hHeld ?ra17
   case hya17 => (intro w hSw; obtain ⟨s0, s1, s2, s3, s4, s5, s6, s7, s8, s9, s10⟩ := hSw; go_simp; with_reducible rfl)
   simp only [Act.put, List.getElem_toArray, List.getElem_cons_zero, List.getElem_cons_succ, List.setIfInBounds_toArray, List.set_cons_zero, List.set_cons_succ]
   refine' wpAnyH_take (i := 18) (v := _) rfl (by kernel_rfl) (by kernel_rfl) (by kernel_rfl) (fun _ _ _ h => h) (Or.inl ⟨by rfl, ?hya18⟩) hHeld ?ra18
   case hya18 => (intro w hSw; obtain ⟨s0, s1, s2, s3, s4, s5, s6, s7, s8, s9, s10⟩ := hSw; go_simp; with_reducible rfl)
   simp only [Act.put, List.getElem_toArray, List.getElem_cons_zero, List.getElem_cons_succ, List.setIfInBounds_toArray, List.set_cons_zero, List.set_cons_succ]
   refine wpAnyH_ready (rs := [2, 21]) (by kernel_rfl) (by simp) ?_
   refine AllReadyH.cons rfl (fun K hK => ?_) (AllReadyH.cons rfl (fun K hK => ?_) AllReadyH.nil)
   ·go_simp
    refine (rmodR_any p.kind 3 _ (by decide) (by decide)).mono ?_
    rintro e v1c ⟨rfl, rfl⟩
    refine hK.out _ _ hHeld (fun hHeld => ?_)
    clear hK K
    try simp only [Act.put, List.getElem_toArray, List.getElem_cons_zero, List.getElem_cons_succ, List.setIfInBounds_toArray, List.set_cons_zero, List.set_cons_succ]
    refine' wpAnyH_take (i := 3) (v := _) rfl (by kernel_rfl) (by kernel_rfl) (by kernel_rfl) (fun _ _ _ h => h) (Or.inl ⟨by rfl, ?hyt13⟩) hHeld ?rt13
    case hyt13 => (intro w hSw; obtain ⟨s0, s1, s2, s3, s4, s5, s6, s7, s8, s9, s10⟩ := hSw; go_simp; with_reducible rfl)
    simp only [Act.put, List.getElem_toArray, List.getElem_cons_zero, List.getElem_cons_succ, List.setIfInBounds_toArray, List.set_cons_zero, List.set_cons_succ]
    refine wpAnyH_ready (rs := [9, 21]) (by kernel_rfl) (by simp) ?_
    refine AllReadyH.cons rfl (fun K hK => ?_) (AllReadyH.cons rfl (fun K hK => ?_) AllReadyH.nil)
    ·go_simp
     refine (nameP_any p.h0 p.wild _).mono ?_
     rintro e v2c ⟨rfl, hST⟩
     have HOX := Lib.hid (HOX.out.trans hST)
     refine hK.out _ _ (PlS.only hHeld hST) (fun hHeld => ?_)
     clear hK K hST
     try simp only [Act.put, List.getElem_toArray, List.getElem_cons_zero, List.getElem_cons_succ, List.setIfInBounds_toArray, List.set_cons_zero, List.set_cons_succ]
     refine wpAnyH_ready (rs := [14, 21]) (by kernel_rfl) (by simp) ?_
     refine AllReadyH.cons rfl (fun K hK => ?_) (AllReadyH.cons rfl (fun K hK => ?_) AllReadyH.nil)
     ·go_simp
      refine (number_any13 p vl vb p.h1 _).mono ?_
      rintro e v3c ⟨rfl, hST⟩
      have HOX := Lib.hid (HOX.out.trans hST)
      refine hK.out _ _ (PlS.only hHeld hST) (fun hHeld => ?_)
      clear hK K hST
      try simp only [Act.put, List.getElem_toArray, List.getElem_cons_zero, List.getElem_cons_succ, List.setIfInBounds_toArray, List.set_cons_zero, List.set_cons_succ]
      refine wpAnyH_ready (rs := [19, 21]) (by kernel_rfl) (by simp) ?_
      refine AllReadyH.cons rfl (fun K hK => ?_) (AllReadyH.cons rfl (fun K hK => ?_) AllReadyH.nil)
      ·go_simp
       refine (number_any13 p vl vb p.h2 _).mono ?_
       rintro e v4c ⟨rfl, hST⟩
       have HOX := Lib.hid (HOX.out.trans hST)
       refine hK.out _ _ (PlS.only hHeld hST) (fun hHeld => ?_)
       clear hK K hST
       try simp only [Act.put, List.getElem_toArray, List.getElem_cons_zero, List.getElem_cons_succ, List.setIfInBounds_toArray, List.set_cons_zero, List.set_cons_succ]
       refine' wpAnyH_take (i := 20) (v := _) rfl (by kernel_rfl) (by kernel_rfl) (by kernel_rfl) (fun _ _ _ h => h) (Or.inl ⟨by rfl, ?hyq420⟩) hHeld ?rq420
       case hyq420 => (intro w hSw; obtain ⟨s0, s1, s2, s3, s4, s5, s6, s7, s8, s9, s10⟩ := hSw; go_simp; with_reducible rfl)
       simp only [Act.put, List.getElem_toArray, List.getElem_cons_zero, List.getElem_cons_succ, List.setIfInBounds_toArray, List.set_cons_zero, List.set_cons_succ]
       refine wpAnyH_ready (rs := [21]) (by kernel_rfl) (by simp) ?_
       refine AllReadyH.cons rfl (fun K hK => ?_) AllReadyH.nil
       go_simp
       have HST := Lib.hid ((Only.refl (fun _ => False) v4c).alloc (.cells #[.string ⟨#[]⟩, .int .i64 0, .int .i64 0, .int .i64 0, .int .i64 0, .int .i64 0, .slice none 0 0, .bool false, .slice none 0 0, .int .i64 0, .int .i64 0, .slice none 0 0, .slice none 0 0] 33))
       have HNR := Lib.hid (heap_alloc_last v4c (.cells #[.string ⟨#[]⟩, .int .i64 0, .int .i64 0, .int .i64 0, .int .i64 0, .int .i64 0, .slice none 0 0, .bool false, .slice none 0 0, .int .i64 0, .int .i64 0, .slice none 0 0, .slice none 0 0] 33))
       have HNL := Lib.hid (show w1.heap.size ≤ v4c.heap.size from HOX.out.size)
       have HOX := Lib.hid (HOX.out.trans HST.out)
       refine hK.out _ _ (PlS.only hHeld HST.out) (fun hHeld => ?_)
       clear hK K
       try simp only [Act.put, List.getElem_toArray, List.getElem_cons_zero, List.getElem_cons_succ, List.setIfInBounds_toArray, List.set_cons_zero, List.set_cons_succ]
       generalize (v4c.alloc (.cells #[.string ⟨#[]⟩, .int .i64 0, .int .i64 0, .int .i64 0, .int .i64 0, .int .i64 0, .slice none 0 0, .bool false, .slice none 0 0, .int .i64 0, .int .i64 0, .slice none 0 0, .slice none 0 0] 33)) = v5a at *
       generalize v4c.heap.size = nb at *
       clear HST
       refine wpAnyH_done (by kernel_rfl) ?_ _
       simp only [headPost, List.drop_succ_cons, List.drop_zero]
       rw [HKD.out]
       go_wp2_with (first | (refine wpList_store_row rfl 33 _ _ rfl nb (drCells (base0 p) (.slice none 0 0) (.slice none 0 0) (.slice none 0 0) (.slice none 0 0)) rfl rfl 33 _ HNR.out Tryz.infoDr rfl (cells_one _ _ _ _ _ _ _ _ _ _ _ _ _) ?_))
       go_meet
       exact ⟨nb, rfl, HNL.out, setRow_heap _ _ _ _ _ _ HNR.out, HOX.out.setRow HNL.out _⟩
      ·go_simp
       have HST := Lib.hid ((Only.refl (fun _ => False) v3c).alloc (.cells #[.string ⟨#[]⟩, .int .i64 0, .int .i64 0, .int .i64 0, .int .i64 0, .int .i64 0, .slice none 0 0, .bool false, .slice none 0 0, .int .i64 0, .int .i64 0, .slice none 0 0, .slice none 0 0] 33))
       have HNR := Lib.hid (heap_alloc_last v3c (.cells #[.string ⟨#[]⟩, .int .i64 0, .int .i64 0, .int .i64 0, .int .i64 0, .int .i64 0, .slice none 0 0, .bool false, .slice none 0 0, .int .i64 0, .int .i64 0, .slice none 0 0, .slice none 0 0] 33))
       have HNL := Lib.hid (show w1.heap.size ≤ v3c.heap.size from HOX.out.size)
       have HOX := Lib.hid (HOX.out.trans HST.out)
       refine hK.out _ _ (PlS.only hHeld HST.out) (fun hHeld => ?_)
       clear hK K
       try simp only [Act.put, List.getElem_toArray, List.getElem_cons_zero, List.getElem_cons_succ, List.setIfInBounds_toArray, List.set_cons_zero, List.set_cons_succ]
       generalize (v3c.alloc (.cells #[.string ⟨#[]⟩, .int .i64 0, .int .i64 0, .int .i64 0, .int .i64 0, .int .i64 0, .slice none 0 0, .bool false, .slice none 0 0, .int .i64 0, .int .i64 0, .slice none 0 0, .slice none 0 0] 33)) = v4a at *
       generalize v3c.heap.size = nb at *
       clear HST
       refine wpAnyH_ready (rs := [19]) (by kernel_rfl) (by simp) ?_
       refine AllReadyH.cons rfl (fun K hK => ?_) AllReadyH.nil
       go_simp
       refine (number_any13 p vl vb p.h2 _).mono ?_
       rintro e v7c ⟨rfl, hST⟩
       have HOX := Lib.hid (HOX.out.trans hST)
       have HNR := Lib.hid (row_still hST HNR.out)
       refine hK.out _ _ (PlS.only hHeld hST) (fun hHeld => ?_)
       clear hK K hST
       try simp only [Act.put, List.getElem_toArray, List.getElem_cons_zero, List.getElem_cons_succ, List.setIfInBounds_toArray, List.set_cons_zero, List.set_cons_succ]
       refine' wpAnyH_take (i := 20) (v := _) rfl (by kernel_rfl) (by kernel_rfl) (by kernel_rfl) (fun _ _ _ h => h) (Or.inl ⟨by rfl, ?hyq720⟩) hHeld ?rq720
       case hyq720 => (intro w hSw; obtain ⟨s0, s1, s2, s3, s4, s5, s6, s7, s8, s9, s10⟩ := hSw; go_simp; with_reducible rfl)
       simp only [Act.put, List.getElem_toArray, List.getElem_cons_zero, List.getElem_cons_succ, List.setIfInBounds_toArray, List.set_cons_zero, List.set_cons_succ]
       refine wpAnyH_done (by kernel_rfl) ?_ _
       simp only [headPost, List.drop_succ_cons, List.drop_zero]
       rw [HKD.out]
       go_wp2_with (first | (refine wpList_store_row rfl 33 _ _ rfl nb (drCells (base0 p) (.slice none 0 0) (.slice none 0 0) (.slice none 0 0) (.slice none 0 0)) rfl rfl 33 _ HNR.out Tryz.infoDr rfl (cells_one _ _ _ _ _ _ _ _ _ _ _ _ _) ?_))
       go_meet
       exact ⟨nb, rfl, HNL.out, setRow_heap _ _ _ _ _ _ HNR.out, HOX.out.setRow HNL.out _⟩
     ·go_simp
      have HST := Lib.hid ((Only.refl (fun _ => False) v2c).alloc (.cells #[.string ⟨#[]⟩, .int .i64 0, .int .i64 0, .int .i64 0, .int .i64 0, .int .i64 0, .slice none 0 0, .bool false, .slice none 0 0, .int .i64 0, .int .i64 0, .slice none 0 0, .slice none 0 0] 33))
      have HNR := Lib.hid (heap_alloc_last v2c (.cells #[.string ⟨#[]⟩, .int .i64 0, .int .i64 0, .int .i64 0, .int .i64 0, .int .i64 0, .slice none 0 0, .bool false, .slice none 0 0, .int .i64 0, .int .i64 0, .slice none 0 0, .slice none 0 0] 33))
      have HNL := Lib.hid (show w1.heap.size ≤ v2c.heap.size from HOX.out.size)
      have HOX := Lib.hid (HOX.out.trans HST.out)
      refine hK.out _ _ (PlS.only hHeld HST.out) (fun hHeld => ?_)
      clear hK K
      try simp only [Act.put, List.getElem_toArray, List.getElem_cons_zero, List.getElem_cons_succ, List.setIfInBounds_toArray, List.set_cons_zero, List.set_cons_succ]
      generalize (v2c.alloc (.cells #[.string ⟨#[]⟩, .int .i64 0, .int .i64 0, .int .i64 0, .int .i64 0, .int .i64 0, .slice none 0 0, .bool false, .slice none 0 0, .int .i64 0, .int .i64 0, .slice none 0 0, .slice none 0 0] 33)) = v3a at *
      generalize v2c.heap.size = nb at *
      clear HST
      refine wpAnyH_ready (rs := [14]) (by kernel_rfl) (by simp) ?_
      refine AllReadyH.cons rfl (fun K hK => ?_) AllReadyH.nil
      go_simp
      refine (number_any13 p vl vb p.h1 _).mono ?_
      rintro e v9c ⟨rfl, hST⟩
      have HOX := Lib.hid (HOX.out.trans hST)
      have HNR := Lib.hid (row_still hST HNR.out)
      refine hK.out _ _ (PlS.only hHeld hST) (fun hHeld => ?_)
      clear hK K hST
      try simp only [Act.put, List.getElem_toArray, List.getElem_cons_zero, List.getElem_cons_succ, List.setIfInBounds_toArray, List.set_cons_zero, List.set_cons_succ]
      refine wpAnyH_ready (rs := [19]) (by kernel_rfl) (by simp) ?_
      refine AllReadyH.cons rfl (fun K hK => ?_) AllReadyH.nil
      go_simp
      refine (number_any13 p vl vb p.h2 _).mono ?_
      rintro e v10c ⟨rfl, hST⟩
      have HOX := Lib.hid (HOX.out.trans hST)
      have HNR := Lib.hid (row_still hST HNR.out)
      refine hK.out _ _ (PlS.only hHeld hST) (fun hHeld => ?_)
      clear hK K hST
      try simp only [Act.put, List.getElem_toArray, List.getElem_cons_zero, List.getElem_cons_succ, List.setIfInBounds_toArray, List.set_cons_zero, List.set_cons_succ]
      refine' wpAnyH_take (i := 20) (v := _) rfl (by kernel_rfl) (by kernel_rfl) (by kernel_rfl) (fun _ _ _ h => h) (Or.inl ⟨by rfl, ?hyq1020⟩) hHeld ?rq1020
      case hyq1020 => (intro w hSw; obtain ⟨s0, s1, s2, s3, s4, s5, s6, s7, s8, s9, s10⟩ := hSw; go_simp; with_reducible rfl)
      simp only [Act.put, List.getElem_toArray, List.getElem_cons_zero, List.getElem_cons_succ, List.setIfInBounds_toArray, List.set_cons_zero, List.set_cons_succ]
      refine wpAnyH_done (by kernel_rfl) ?_ _
      simp only [headPost, List.drop_succ_cons, List.drop_zero]
      rw [HKD.out]
      go_wp2_with (first | (refine wpList_store_row rfl 33 _ _ rfl nb (drCells (base0 p) (.slice none 0 0) (.slice none 0 0) (.slice none 0 0) (.slice none 0 0)) rfl rfl 33 _ HNR.out Tryz.infoDr rfl (cells_one _ _ _ _ _ _ _ _ _ _ _ _ _) ?_))
      go_meet
      exact ⟨nb, rfl, HNL.out, setRow_heap _ _ _ _ _ _ HNR.out, HOX.out.setRow HNL.out _⟩
    ·go_simp
     have HST := Lib.hid ((Only.refl (fun _ => False) v0).alloc (.cells #[.string ⟨#[]⟩, .int .i64 0, .int .i64 0, .int .i64 0, .int .i64 0, .int .i64 0, .slice none 0 0, .bool false, .slice none 0 0, .int .i64 0, .int .i64 0, .slice none 0 0, .slice none 0 0] 33))
     have HNR := Lib.hid (heap_alloc_last v0 (.cells #[.string ⟨#[]⟩, .int .i64 0, .int .i64 0, .int .i64 0, .int .i64 0, .int .i64 0, .slice none 0 0, .bool false, .slice none 0 0, .int .i64 0, .int .i64 0, .slice none 0 0, .slice none 0 0] 33))
     have HNL := Lib.hid (show w1.heap.size ≤ v0.heap.size from HOX.out.size)
     have HOX := Lib.hid (HOX.out.trans HST.out)
     refine hK.out _ _ (PlS.only hHeld HST.out) (fun hHeld => ?_)
     clear hK K
     try simp only [Act.put, List.getElem_toArray, List.getElem_cons_zero, List.getElem_cons_succ, List.setIfInBounds_toArray, List.set_cons_zero, List.set_cons_succ]
     generalize (v0.alloc (.cells #[.string ⟨#[]⟩, .int .i64 0, .int .i64 0, .int .i64 0, .int .i64 0, .int .i64 0, .slice none 0 0, .bool false, .slice none 0 0, .int .i64 0, .int .i64 0, .slice none 0 0, .slice none 0 0] 33)) = v2a at *
     generalize v0.heap.size = nb at *
     clear HST
     refine wpAnyH_ready (rs := [9]) (by kernel_rfl) (by simp) ?_
     refine AllReadyH.cons rfl (fun K hK => ?_) AllReadyH.nil
     go_simp
     refine (nameP_any p.h0 p.wild _).mono ?_
     rintro e v12c ⟨rfl, hST⟩
     have HOX := Lib.hid (HOX.out.trans hST)
     have HNR := Lib.hid (row_still hST HNR.out)
     refine hK.out _ _ (PlS.only hHeld hST) (fun hHeld => ?_)
     clear hK K hST
     try simp only [Act.put, List.getElem_toArray, List.getElem_cons_zero, List.getElem_cons_succ, List.setIfInBounds_toArray, List.set_cons_zero, List.set_cons_succ]
     refine wpAnyH_ready (rs := [14]) (by kernel_rfl) (by simp) ?_
     refine AllReadyH.cons rfl (fun K hK => ?_) AllReadyH.nil
     go_simp
     refine (number_any13 p vl vb p.h1 _).mono ?_
     rintro e v13c ⟨rfl, hST⟩
     have HOX := Lib.hid (HOX.out.trans hST)
     have HNR := Lib.hid (row_still hST HNR.out)
     refine hK.out _ _ (PlS.only hHeld hST) (fun hHeld => ?_)
     clear hK K hST
     try simp only [Act.put, List.getElem_toArray, List.getElem_cons_zero, List.getElem_cons_succ, List.setIfInBounds_toArray, List.set_cons_zero, List.set_cons_succ]
     refine wpAnyH_ready (rs := [19]) (by kernel_rfl) (by simp) ?_
     refine AllReadyH.cons rfl (fun K hK => ?_) AllReadyH.nil
     go_simp
     refine (number_any13 p vl vb p.h2 _).mono ?_
     rintro e v14c ⟨rfl, hST⟩
     have HOX := Lib.hid (HOX.out.trans hST)
     have HNR := Lib.hid (row_still hST HNR.out)
     refine hK.out _ _ (PlS.only hHeld hST) (fun hHeld => ?_)
     clear hK K hST
     try simp only [Act.put, List.getElem_toArray, List.getElem_cons_zero, List.getElem_cons_succ, List.setIfInBounds_toArray, List.set_cons_zero, List.set_cons_succ]
     refine' wpAnyH_take (i := 20) (v := _) rfl (by kernel_rfl) (by kernel_rfl) (by kernel_rfl) (fun _ _ _ h => h) (Or.inl ⟨by rfl, ?hyq1420⟩) hHeld ?rq1420
     case hyq1420 => (intro w hSw; obtain ⟨s0, s1, s2, s3, s4, s5, s6, s7, s8, s9, s10⟩ := hSw; go_simp; with_reducible rfl)
     simp only [Act.put, List.getElem_toArray, List.getElem_cons_zero, List.getElem_cons_succ, List.setIfInBounds_toArray, List.set_cons_zero, List.set_cons_succ]
     refine wpAnyH_done (by kernel_rfl) ?_ _
     simp only [headPost, List.drop_succ_cons, List.drop_zero]
     rw [HKD.out]
     go_wp2_with (first | (refine wpList_store_row rfl 33 _ _ rfl nb (drCells (base0 p) (.slice none 0 0) (.slice none 0 0) (.slice none 0 0) (.slice none 0 0)) rfl rfl 33 _ HNR.out Tryz.infoDr rfl (cells_one _ _ _ _ _ _ _ _ _ _ _ _ _) ?_))
     go_meet
     exact ⟨nb, rfl, HNL.out, setRow_heap _ _ _ _ _ _ HNR.out, HOX.out.setRow HNL.out _⟩
   ·go_simp
    have HST := Lib.hid ((Only.refl (fun _ => False) v0).alloc (.cells #[.string ⟨#[]⟩, .int .i64 0, .int .i64 0, .int .i64 0, .int .i64 0, .int .i64 0, .slice none 0 0, .bool false, .slice none 0 0, .int .i64 0, .int .i64 0, .slice none 0 0, .slice none 0 0] 33))
    have HNR := Lib.hid (heap_alloc_last v0 (.cells #[.string ⟨#[]⟩, .int .i64 0, .int .i64 0, .int .i64 0, .int .i64 0, .int .i64 0, .slice none 0 0, .bool false, .slice none 0 0, .int .i64 0, .int .i64 0, .slice none 0 0, .slice none 0 0] 33))
    have HNL := Lib.hid (show w1.heap.size ≤ v0.heap.size from HOX.out.size)
    have HOX := Lib.hid (HOX.out.trans HST.out)
    refine hK.out _ _ (PlS.only hHeld HST.out) (fun hHeld => ?_)
    clear hK K
    try simp only [Act.put, List.getElem_toArray, List.getElem_cons_zero, List.getElem_cons_succ, List.setIfInBounds_toArray, List.set_cons_zero, List.set_cons_succ]
    generalize (v0.alloc (.cells #[.string ⟨#[]⟩, .int .i64 0, .int .i64 0, .int .i64 0, .int .i64 0, .int .i64 0, .slice none 0 0, .bool false, .slice none 0 0, .int .i64 0, .int .i64 0, .slice none 0 0, .slice none 0 0] 33)) = v1a at *
    generalize v0.heap.size = nb at *
    clear HST
    refine wpAnyH_ready (rs := [2]) (by kernel_rfl) (by simp) ?_
    refine AllReadyH.cons rfl (fun K hK => ?_) AllReadyH.nil
    go_simp
    refine (rmodR_any p.kind 3 _ (by decide) (by decide)).mono ?_
    rintro e v16c ⟨rfl, rfl⟩
    refine hK.out _ _ hHeld (fun hHeld => ?_)
    clear hK K
    try simp only [Act.put, List.getElem_toArray, List.getElem_cons_zero, List.getElem_cons_succ, List.setIfInBounds_toArray, List.set_cons_zero, List.set_cons_succ]
    refine' wpAnyH_take (i := 3) (v := _) rfl (by kernel_rfl) (by kernel_rfl) (by kernel_rfl) (fun _ _ _ h => h) (Or.inl ⟨by rfl, ?hyt163⟩) hHeld ?rt163
    case hyt163 => (intro w hSw; obtain ⟨s0, s1, s2, s3, s4, s5, s6, s7, s8, s9, s10⟩ := hSw; go_simp; with_reducible rfl)
    simp only [Act.put, List.getElem_toArray, List.getElem_cons_zero, List.getElem_cons_succ, List.setIfInBounds_toArray, List.set_cons_zero, List.set_cons_succ]
    refine wpAnyH_ready (rs := [9]) (by kernel_rfl) (by simp) ?_
    refine AllReadyH.cons rfl (fun K hK => ?_) AllReadyH.nil
    go_simp
    refine (nameP_any p.h0 p.wild _).mono ?_
    rintro e v17c ⟨rfl, hST⟩
    have HOX := Lib.hid (HOX.out.trans hST)
    have HNR := Lib.hid (row_still hST HNR.out)
    refine hK.out _ _ (PlS.only hHeld hST) (fun hHeld => ?_)
    clear hK K hST
    try simp only [Act.put, List.getElem_toArray, List.getElem_cons_zero, List.getElem_cons_succ, List.setIfInBounds_toArray, List.set_cons_zero, List.set_cons_succ]
    refine wpAnyH_ready (rs := [14]) (by kernel_rfl) (by simp) ?_
    refine AllReadyH.cons rfl (fun K hK => ?_) AllReadyH.nil
    go_simp
    refine (number_any13 p vl vb p.h1 _).mono ?_
    rintro e v18c ⟨rfl, hST⟩
    have HOX := Lib.hid (HOX.out.trans hST)
    have HNR := Lib.hid (row_still hST HNR.out)
    refine hK.out _ _ (PlS.only hHeld hST) (fun hHeld => ?_)
    clear hK K hST
    try simp only [Act.put, List.getElem_toArray, List.getElem_cons_zero, List.getElem_cons_succ, List.setIfInBounds_toArray, List.set_cons_zero, List.set_cons_succ]
    refine wpAnyH_ready (rs := [19]) (by kernel_rfl) (by simp) ?_
    refine AllReadyH.cons rfl (fun K hK => ?_) AllReadyH.nil
    go_simp
    refine (number_any13 p vl vb p.h2 _).mono ?_
    rintro e v19c ⟨rfl, hST⟩
    have HOX := Lib.hid (HOX.out.trans hST)
    have HNR := Lib.hid (row_still hST HNR.out)
    refine hK.out _ _ (PlS.only hHeld hST) (fun hHeld => ?_)
    clear hK K hST
    try simp only [Act.put, List.getElem_toArray, List.getElem_cons_zero, List.getElem_cons_succ, List.setIfInBounds_toArray, List.set_cons_zero, List.set_cons_succ]
    refine' wpAnyH_take (i := 20) (v := _) rfl (by kernel_rfl) (by kernel_rfl) (by kernel_rfl) (fun _ _ _ h => h) (Or.inl ⟨by rfl, ?hyq1920⟩) hHeld ?rq1920
    case hyq1920 => (intro w hSw; obtain ⟨s0, s1, s2, s3, s4, s5, s6, s7, s8, s9, s10⟩ := hSw; go_simp; with_reducible rfl)
    simp only [Act.put, List.getElem_toArray, List.getElem_cons_zero, List.getElem_cons_succ, List.setIfInBounds_toArray, List.set_cons_zero, List.set_cons_succ]
    refine wpAnyH_done (by kernel_rfl) ?_ _
    simp only [headPost, List.drop_succ_cons, List.drop_zero]
    rw [HKD.out]
    go_wp2_with (first | (refine wpList_store_row rfl 33 _ _ rfl nb (drCells (base0 p) (.slice none 0 0) (.slice none 0 0) (.slice none 0 0) (.slice none 0 0)) rfl rfl 33 _ HNR.out Tryz.infoDr rfl (cells_one _ _ _ _ _ _ _ _ _ _ _ _ _) ?_))
    go_meet
    exact ⟨nb, rfl, HNL.out, setRow_heap _ _ _ _ _ _ HNR.out, HOX.out.setRow HNL.out _⟩
 case rest =>
  obtain ⟨b, rfl, hbl, hrow, hO1⟩ := hcut
  have HBL := Lib.hid hbl
  have HR1 := Lib.hid hrow
  have HO1 := Lib.hid hO1
  have HZ1 := Lib.hid (row_still hO1 HZ0.out)
  have hb2 : b < wc.heap.size := (Array.getElem?_eq_some_iff.1 hrow).1
  have hB2 : B < wc.heap.size := (Array.getElem?_eq_some_iff.1 HZ1.out).1
  have hBb : B + 2 ≤ b := by omega
  clear hrow hO1
  obtain ⟨e0, e1, e2, e3, e4, e5, e6, e7, e8, e9, e10⟩ := PlS.of HZ1.out
  have c1 : wc.cell? ⟨b, 1, none⟩ = some (Value.int .i64 (kdZ p)) := cell_of_row _ _ 1 _ _ _ HR1.out
  go_upto_block 0 with (fail)
  go_cut [3] (fun v wx => v = .pointer (some ⟨b, 0, none⟩) ∧ wx.heap[b]? = some (.cells (drCells (baseD p) (.slice none 0 0) (.slice none 0 0) (.slice none 0 0) (.slice none 0 0)) 33 (0, 0)) ∧ Only (fun _ => False) w1 wx)
  case first =>
   as_aux_lemma =>
    rcases kd_123 p with hk | hk | hk
    ·have HK := Lib.hid hk
     have q1 : (kdZ p == 1) = true := by rw [hk]; rfl
     clear hk
     go_wp2_with fail
     refine (number_any13 p vl vb p.h3 _).mono ?_
     rintro e w3 ⟨rfl, hO3⟩
     have HR3 := Lib.hid (row_still hO3 HR1.out)
     have HO3 := Lib.hid (HO1.out.trans hO3)
     have HZ3 := Lib.hid (row_still hO3 HZ1.out)
     have f4 : w3.frozen? ⟨b, 4, none⟩ = false := frozen_of_row _ _ _ _ _ HR3.out
     have c4 : w3.cell? ⟨b, 4, none⟩ = some (Value.int .i64 0) := cell_of_row _ _ 4 _ _ _ HR3.out
     go_upto_region 6 with (fail)
     have HR4 := Lib.hid (heap_setCell_same w3 b 4 _ _ (.int .i64 (nbZ p.wild p.h3)) HR3.out)
     have HZ4 := Lib.hid (row_set_other (g := b) (k := 4) (v := .int .i64 (nbZ p.wild p.h3)) HZ3.out (by omega))
     have HO4 := Lib.hid (HO3.out.setCell (p := ⟨b, 4, none⟩) (.inr HBL.out) (.int .i64 (nbZ p.wild p.h3)))
     generalize World.setCell w3 _ _ = w4 at *
     clear f4 c4 e0 e1 e2 e3 e4 e5 e6 e7 e8 e9 e10
     obtain ⟨e0, e1, e2, e3, e4, e5, e6, e7, e8, e9, e10⟩ := PlS.of HZ4.out
     go_wp2_with fail
     refine (number_any13 p vl vb p.h4 _).mono ?_
     rintro e w5 ⟨rfl, hO5⟩
     have HR5 := Lib.hid (row_still hO5 HR4.out)
     have HO5 := Lib.hid (HO4.out.trans hO5)
     have HZ5 := Lib.hid (row_still hO5 HZ4.out)
     have f5 : w5.frozen? ⟨b, 5, none⟩ = false := frozen_of_row _ _ _ _ _ HR5.out
     have c5 : w5.cell? ⟨b, 5, none⟩ = some (Value.int .i64 0) := cell_of_row _ _ 5 _ _ _ HR5.out
     go_upto_region 7 with (fail)
     have HR6 := Lib.hid (heap_setCell_same w5 b 5 _ _ (.int .i64 (nbZ p.wild p.h4)) HR5.out)
     have HZ6 := Lib.hid (row_set_other (g := b) (k := 5) (v := .int .i64 (nbZ p.wild p.h4)) HZ5.out (by omega))
     have HO6 := Lib.hid (HO5.out.setCell (p := ⟨b, 5, none⟩) (.inr HBL.out) (.int .i64 (nbZ p.wild p.h4)))
     generalize World.setCell w5 _ _ = w6 at *
     clear f5 c5 e0 e1 e2 e3 e4 e5 e6 e7 e8 e9 e10
     obtain ⟨e0, e1, e2, e3, e4, e5, e6, e7, e8, e9, e10⟩ := PlS.of HZ6.out
     have f7 : w6.frozen? ⟨b, 7, none⟩ = false := frozen_of_row _ _ _ _ _ HR6.out
     have c7 : w6.cell? ⟨b, 7, none⟩ = some (Value.bool false) := cell_of_row _ _ 7 _ _ _ HR6.out
     go_wp2_with fail
     go_meet
     have hk := HK.out
     refine ⟨rfl, ?_, HO6.out.setCell (.inr HBL.out) _⟩
     refine (heap_setCell_same w6 b 7 _ _ _ HR6.out).trans ?_
     congr 2
     unfold drCells base0 baseD
     simp [hk]
    ·have HK := Lib.hid hk
     have q1 : (kdZ p == 1) = false := by rw [hk]; rfl
     have q2 : (kdZ p == 2) = true := by rw [hk]; rfl
     clear hk
     go_wp2_with fail
     refine (number_any13 p vl vb p.h3 _).mono ?_
     rintro e w3 ⟨rfl, hO3⟩
     have HR3 := Lib.hid (row_still hO3 HR1.out)
     have HO3 := Lib.hid (HO1.out.trans hO3)
     have f9 : w3.frozen? ⟨b, 9, none⟩ = false := frozen_of_row _ _ _ _ _ HR3.out
     have c9 : w3.cell? ⟨b, 9, none⟩ = some (Value.int .i64 0) := cell_of_row _ _ 9 _ _ _ HR3.out
     go_wp2_with fail
     go_meet
     have hk := HK.out
     refine ⟨rfl, ?_, HO3.out.setCell (.inr HBL.out) _⟩
     refine (heap_setCell_same w3 b 9 _ _ _ HR3.out).trans ?_
     congr 2
     unfold drCells base0 baseD
     simp [hk]
    ·have HK := Lib.hid hk
     have q1 : (kdZ p == 1) = false := by rw [hk]; rfl
     have q2 : (kdZ p == 2) = false := by rw [hk]; rfl
     clear hk
     go_wp2_with fail
     refine (number_any13 p vl vb p.h3 _).mono ?_
     rintro e w3 ⟨rfl, hO3⟩
     have HR3 := Lib.hid (row_still hO3 HR1.out)
     have HO3 := Lib.hid (HO1.out.trans hO3)
     have f10 : w3.frozen? ⟨b, 10, none⟩ = false := frozen_of_row _ _ _ _ _ HR3.out
     have c10 : w3.cell? ⟨b, 10, none⟩ = some (Value.int .i64 0) := cell_of_row _ _ 10 _ _ _ HR3.out
     go_wp2_with fail
     go_meet
     have hk := HK.out
     refine ⟨rfl, ?_, HO3.out.setCell (.inr HBL.out) _⟩
     refine (heap_setCell_same w3 b 10 _ _ _ HR3.out).trans ?_
     congr 2
     unfold drCells base0 baseD
     simp [hk]
  case rest =>
   obtain ⟨rfl, hrow, hO2⟩ := hcut
   clear HR1 HO1 HZ1 hb2 hB2 c1 e0 e1 e2 e3 e4 e5 e6 e7 e8 e9 e10
   have HR2 := Lib.hid hrow
   have HO2 := Lib.hid hO2
   clear hrow hO2
   have HKD3 := Lib.hid (kd_123 p)
   go_upto_block 1 with (fail)
   go_cut [3] (fun v wx => ∃ vt vp vq vx, v = .pointer (some ⟨b, 0, none⟩) ∧ wx.heap[b]? = some (.cells (drCells (linesZ p (min p.lines.length 14)) vt vp vq vx) 33 (0, 0)) ∧ DrOwn w1.heap.size wx (linesZ p (min p.lines.length 14)) vt vp vq vx ∧ Only (fun _ => False) w1 wx)
   case first =>
    go_wp2_with fail
    go_loopw [4] (fun iv wr => ∃ (k : Nat) (vt vp vq vx : Value), iv = .int .i64 k ∧ k ≤ min p.lines.length 14 ∧ wr.heap[b]? = some (.cells (drCells (linesZ p k) vt vp vq vx) 33 (0, 0)) ∧ DrOwn w1.heap.size wr (linesZ p k) vt vp vq vx ∧ Only (fun _ => False) w1 wr) (fun iv _ => 14 - (intOf iv).toNat)
    case atStart => exact ⟨0, .slice none 0 0, .slice none 0 0, .slice none 0 0, .slice none 0 0, rfl, Nat.zero_le _, HR2.out, ⟨World.ownsRow_nil _ _ _ _, World.ownsRow_nil _ _ _ _, World.ownsRow_nil _ _ _ _, World.ownsRow_nil _ _ _ _⟩, HO2.out⟩
    case round =>
     obtain ⟨k, vt, vp, vq, vx, rfl, hk, hrow, hown, hO⟩ := hrel
     obtain ⟨at1, ct, rfl⟩ := slice_of_own hown.tiers
     obtain ⟨ap1, cp, rfl⟩ := slice_of_own hown.places
     obtain ⟨aq1, cq, rfl⟩ := slice_of_own hown.quotas
     obtain ⟨ab1, cb, rfl⟩ := slice_of_own hown.bars
     obtain ⟨al, cl, hvl, hl1, hl2, hlc⟩ := HPL.out.lines
     have HR := Lib.hid hrow
     have HD := Lib.hid hown
     have HO := Lib.hid hO
     have HZr := Lib.hid (row_still hO HZ0.out)
     have HK := Lib.hid hk
     have HLC := Lib.hid hlc
     have HMO := Lib.hid (HMK.out k (by omega))
     have HDL := Lib.hid (show linesZ p (min p.lines.length 14) = linesZ p (min p.lines.length 14) from rfl)
     clear hrow hown hO hlc
     obtain ⟨e0, e1, e2, e3, e4, e5, e6, e7, e8, e9, e10⟩ := PlS.of HZr.out
     rw [hvl] at e7
     clear hvl
     have hbr : b < wr.heap.size := (Array.getElem?_eq_some_iff.1 HR.out).1
     have hBr : B < wr.heap.size := (Array.getElem?_eq_some_iff.1 HZr.out).1
     have j0 : 0 ≤ (k : Int) := by omega
     by_cases hlt : k < p.lines.length
     ·by_cases h14 : k < 14
      ·have j1 : (k : Int) < p.lines.length := by omega
       have j2 : (k : Int) < 14 := by omega
       obtain ⟨xb, xo, hal, hxb, hx0, hx1, hx2⟩ := HLC.out k hlt
       subst hal
       have HOw := Lib.hid (HW1.out.trans HO.out)
       have x0c := HOw.out.cell hx0 id
       have x1c := HOw.out.cell hx1 id
       have x2c := HOw.out.cell hx2 id
       have HNX := Lib.hid (lines_next p hlt)
       have H6x := Lib.hid (H64.out.lines _ (List.getElem_mem hlt))
       have HLT := Lib.hid hlt
       have H14 := Lib.hid h14
       have hxr : xb < wr.heap.size := by have := HOw.out.size; omega
       clear hx0 hx1 hx2 hxb h14
       generalize p.lines[k] = x at *
       obtain ⟨x0, x1, x2⟩ := x
       dsimp only at x0c x1c x2c H6x
       obtain ⟨d, hd⟩ : ∃ d, linesZ p k = d := ⟨_, rfl⟩
       rw [hd] at HR HD HNX HMO
       have HDK := Lib.hid hd
       clear hd hlt hk
       go_upto_region 14 with (fail)
       have HX3 := Lib.hid (heap_alloc_last wr (.cells #[.int .i64 x0, .int .i64 x1, .int .i64 x2] 39))
       have HW3 := Lib.hid ((Only.refl (fun _ => False) wr).alloc (.cells #[.int .i64 x0, .int .i64 x1, .int .i64 x2] 39))
       have HR3 := Lib.hid (row_still HW3.out HR.out)
       generalize (wr.alloc (.cells #[.int .i64 x0, .int .i64 x1, .int .i64 x2] 39)) = w3 at *
       have hbr3 : b < w3.heap.size := (Array.getElem?_eq_some_iff.1 HR3.out).1
       clear e0 e1 e2 e3 e4 e5 e6 e7 e8 e9 e10
       go_upto_region 15 with (first
        | (refine wpList_load_row rfl 33 _ rfl b rfl 33 (drCells d (.slice at1 d.tiers.length ct) (.slice ap1 d.places.length cp) (.slice aq1 d.quotas.length cq) (.slice ab1 d.barred.length cb)) (0, 0) _ HR3.out Tryz.underlying33 rfl Tryz.infoDr ?_)
        | (refine wpList_store_row rfl 33 _ _ rfl w3.heap.size (drCells d (.slice at1 d.tiers.length ct) (.slice ap1 d.places.length cp) (.slice aq1 d.quotas.length cq) (.slice ab1 d.barred.length cb)) rfl rfl 33 _ (heap_alloc_last w3 _) Tryz.infoDr rfl (cells_one _ _ _ _ _ _ _ _ _ _ _ _ _) ?_; rw [World.setRow_alloc_new]))
       have HM4 := Lib.hid (heap_alloc_last w3 (.cells (drCells d (.slice at1 d.tiers.length ct) (.slice ap1 d.places.length cp) (.slice aq1 d.quotas.length cq) (.slice ab1 d.barred.length cb)) 33))
       have HA4 := Lib.hid ((Only.refl (fun _ => False) w3).alloc (.cells (drCells d (.slice at1 d.tiers.length ct) (.slice ap1 d.places.length cp) (.slice aq1 d.quotas.length cq) (.slice ab1 d.barred.length cb)) 33))
       generalize World.alloc w3 _ = w4 at *
       have HW4 := Lib.hid (HW3.out.trans HA4.out)
       have hmb3 := HW3.out.size
       obtain ⟨mb, hmb⟩ : ∃ n, w3.heap.size = n := ⟨_, rfl⟩
       rw [hmb] at HM4 hmb3 ⊢
       have HX4 := Lib.hid (row_still HA4.out HX3.out)
       have HR4 := Lib.hid (row_still HW4.out HR.out)
       have HZ4 := Lib.hid (row_still HW4.out HZr.out)
       have HD4 := Lib.hid (HD.out.only HW4.out (fun _ _ h => h))
       have hor := HO.out.size
       have HMB := Lib.hid (show wr.heap.size ≤ mb ∧ w1.heap.size ≤ mb from by omega)
       have hmb4 : mb < w4.heap.size := (Array.getElem?_eq_some_iff.1 HM4.out).1
       have hxg4 : wr.heap.size < w4.heap.size := (Array.getElem?_eq_some_iff.1 HX4.out).1
       have hbr4 : b < w4.heap.size := (Array.getElem?_eq_some_iff.1 HR4.out).1
       have hB4 : B < w4.heap.size := (Array.getElem?_eq_some_iff.1 HZ4.out).1
       have HL4 := Lib.hid (show d.tiers.length ≤ 100 ∧ d.places.length ≤ 100 ∧ d.quotas.length ≤ 100 ∧ d.barred.length ≤ 100 from by have h1 := HMO.out.len; have h2 := HMO.out.bar; have h3 := H14.out; omega)
       have HKD4 := Lib.hid HMO.out.kind
       clear HX3 HW3 HR3 HA4 hmb hor hbr3 hmb3
       have c1 : w4.cell? ⟨b, 1, none⟩ = some (Value.int .i64 d.kind) := cell_of_row _ _ 1 _ _ _ HR4.out
       go_upto_block 3 with (fail)
       obtain ⟨m, hm⟩ : ∃ m, moreL p d (x0, x1, x2) = m := ⟨_, rfl⟩
       have HMM := Lib.hid hm
       go_cut [] (fun wx => ∃ ut up uq ub, wx.heap[mb]? = some (.cells (drCells m ut up uq ub) 33 (0, 0)) ∧ DrOwn w1.heap.size wx m ut up uq ub ∧ Only (fun _ => False) wr wx)
       case first =>
        rcases HKD4.out with hk | hk | hk
        ·as_aux_lemma =>
          have q1 : (d.kind == 1) = true := by rw [hk]; rfl
          have HEQ := Lib.hid (show m = { d with tiers := d.tiers ++ [(nbZ p.wild x1, nbZ p.wild x2)] } by rw [← HMM.out]; unfold moreL; rw [if_pos hk])
          have HLN := Lib.hid (show d.tiers.length ≤ 100 by have := HL4.out; omega)
          clear hk
          go_upto_region 18 with (fail)
          clear q1 c1
          obtain ⟨i0, hi, hz0, hz1, hz2⟩ := info_parts Tryz.infoTi
          have HI := Lib.hid hi
          have HI0 := Lib.hid hz0
          have HI1 := Lib.hid hz1
          have HI2 := Lib.hid hz2
          clear hi hz0 hz1 hz2
          refine wp_region_split2 15 (by kernel_rfl) (by kernel_rfl) (wpAny_of_held (S := fun W => Only (fun _ => False) w4.drew W) _ _ _ _ ?_)
          simp only [List.take_succ_cons, List.take_zero]
          change wpAnyH _ _ _ _ _ _ _ _ w4.drew
          have HKS := Lib.hid (show ∀ W, Only (fun _ => False) w4.drew W → PlS B p vl vb W ∧ W.cell? ⟨b, 6, none⟩ = some (Value.slice at1 d.tiers.length ct) ∧ W.cell? ⟨wr.heap.size, 0, none⟩ = some (.int .i64 x0) ∧ W.cell? ⟨wr.heap.size, 1, none⟩ = some (.int .i64 x1) ∧ W.cell? ⟨wr.heap.size, 2, none⟩ = some (.int .i64 x2) from fun W hW => ⟨PlS.only (PlS.of (row_still (Only.refl _ w4).drew HZ4.out)) hW, hW.cell (cell_of_row w4.drew b 6 _ _ _ HR4.out) id, hW.cell (cell_of_row w4.drew wr.heap.size 0 _ _ _ HX4.out) id, hW.cell (cell_of_row w4.drew wr.heap.size 1 _ _ _ HX4.out) id, hW.cell (cell_of_row w4.drew wr.heap.size 2 _ _ _ HX4.out) id⟩)
          have HT := Lib.hid (owns_drew HD4.out.tiers)
          have hHeld : Only (fun _ => False) w4.drew w4.drew := Only.refl _ _
          have HOX := Lib.hid hHeld
          have hsd : w4.drew.heap.size = w4.heap.size := rfl
          obtain ⟨wd, hwd⟩ : ∃ wd, w4.drew = wd := ⟨_, rfl⟩
          rw [hwd] at HKS HT hHeld HOX hsd ⊢
          have HSD := Lib.hid hsd
          clear hsd
          refine' wpAnyH_take (i := 1) (v := _) rfl (by kernel_rfl) (by kernel_rfl) (by kernel_rfl) (fun _ _ _ h => h) (Or.inl ⟨by rfl, ?hy1x1⟩) hHeld ?r1x1
          case hy1x1 => (intro w hSw; obtain ⟨⟨s0, s1, s2, s3, s4, s5, s6, s7, s8, s9, s10⟩, d0, y0, y1, y2⟩ := HKS.out _ hSw; go_simp; with_reducible rfl)
          try simp only [Act.put, List.getElem_toArray, List.getElem_cons_zero, List.getElem_cons_succ, List.setIfInBounds_toArray, List.set_cons_zero, List.set_cons_succ]
          refine' wpAnyH_take (i := 2) (v := _) rfl (by kernel_rfl) (by kernel_rfl) (by kernel_rfl) (fun _ _ _ h => h) (Or.inl ⟨by rfl, ?hy1x2⟩) hHeld ?r1x2
          case hy1x2 => (intro w hSw; obtain ⟨⟨s0, s1, s2, s3, s4, s5, s6, s7, s8, s9, s10⟩, d0, y0, y1, y2⟩ := HKS.out _ hSw; go_simp; with_reducible rfl)
          try simp only [Act.put, List.getElem_toArray, List.getElem_cons_zero, List.getElem_cons_succ, List.setIfInBounds_toArray, List.set_cons_zero, List.set_cons_succ]
          refine' wpAnyH_take (i := 4) (v := _) rfl (by kernel_rfl) (by kernel_rfl) (by kernel_rfl) (fun _ _ _ h => h) (Or.inl ⟨by rfl, ?hy1x4⟩) hHeld ?r1x4
          case hy1x4 => (intro w hSw; obtain ⟨⟨s0, s1, s2, s3, s4, s5, s6, s7, s8, s9, s10⟩, d0, y0, y1, y2⟩ := HKS.out _ hSw; go_simp; with_reducible rfl)
          try simp only [Act.put, List.getElem_toArray, List.getElem_cons_zero, List.getElem_cons_succ, List.setIfInBounds_toArray, List.set_cons_zero, List.set_cons_succ]
          refine' wpAnyH_take (i := 5) (v := _) rfl (by kernel_rfl) (by kernel_rfl) (by kernel_rfl) (fun _ _ _ h => h) (Or.inl ⟨by rfl, ?hy1x5⟩) hHeld ?r1x5
          case hy1x5 => (intro w hSw; obtain ⟨⟨s0, s1, s2, s3, s4, s5, s6, s7, s8, s9, s10⟩, d0, y0, y1, y2⟩ := HKS.out _ hSw; go_simp; with_reducible rfl)
          try simp only [Act.put, List.getElem_toArray, List.getElem_cons_zero, List.getElem_cons_succ, List.setIfInBounds_toArray, List.set_cons_zero, List.set_cons_succ]
          refine' wpAnyH_take (i := 6) (v := _) rfl (by kernel_rfl) (by kernel_rfl) (by kernel_rfl) (fun _ _ _ h => h) (Or.inl ⟨by rfl, ?hy1x6⟩) hHeld ?r1x6
          case hy1x6 => (intro w hSw; obtain ⟨⟨s0, s1, s2, s3, s4, s5, s6, s7, s8, s9, s10⟩, d0, y0, y1, y2⟩ := HKS.out _ hSw; go_simp; with_reducible rfl)
          try simp only [Act.put, List.getElem_toArray, List.getElem_cons_zero, List.getElem_cons_succ, List.setIfInBounds_toArray, List.set_cons_zero, List.set_cons_succ]
          refine' wpAnyH_take (i := 8) (v := _) rfl (by kernel_rfl) (by kernel_rfl) (by kernel_rfl) (fun _ _ _ h => h) (Or.inl ⟨by rfl, ?hy1x8⟩) hHeld ?r1x8
          case hy1x8 => (intro w hSw; obtain ⟨⟨s0, s1, s2, s3, s4, s5, s6, s7, s8, s9, s10⟩, d0, y0, y1, y2⟩ := HKS.out _ hSw; go_simp; with_reducible rfl)
          try simp only [Act.put, List.getElem_toArray, List.getElem_cons_zero, List.getElem_cons_succ, List.setIfInBounds_toArray, List.set_cons_zero, List.set_cons_succ]
          refine' wpAnyH_take (i := 9) (v := _) rfl (by kernel_rfl) (by kernel_rfl) (by kernel_rfl) (fun _ _ _ h => h) (Or.inl ⟨by rfl, ?hy1x9⟩) hHeld ?r1x9
          case hy1x9 => (intro w hSw; obtain ⟨⟨s0, s1, s2, s3, s4, s5, s6, s7, s8, s9, s10⟩, d0, y0, y1, y2⟩ := HKS.out _ hSw; go_simp; with_reducible rfl)
          try simp only [Act.put, List.getElem_toArray, List.getElem_cons_zero, List.getElem_cons_succ, List.setIfInBounds_toArray, List.set_cons_zero, List.set_cons_succ]
          refine' wpAnyH_take (i := 10) (v := _) rfl (by kernel_rfl) (by kernel_rfl) (by kernel_rfl) (fun _ _ _ h => h) (Or.inl ⟨by rfl, ?hy1x10⟩) hHeld ?r1x10
          case hy1x10 => (intro w hSw; obtain ⟨⟨s0, s1, s2, s3, s4, s5, s6, s7, s8, s9, s10⟩, d0, y0, y1, y2⟩ := HKS.out _ hSw; go_simp; with_reducible rfl)
          try simp only [Act.put, List.getElem_toArray, List.getElem_cons_zero, List.getElem_cons_succ, List.setIfInBounds_toArray, List.set_cons_zero, List.set_cons_succ]
          refine wpAnyH_ready (rs := [0]) (by kernel_rfl) (by simp) ?_
          refine AllReadyH.cons rfl (fun K hK => ?_) AllReadyH.nil
          go_simp
          have HST := Lib.hid ((Only.refl (fun _ => False) wd).alloc (.cells #[] 50))
          have HE := Lib.hid (World.ownsRow_made (e := 50) (base := wd.heap.size) (size := 2) wd #[] 0 (Nat.le_refl _) (Nat.zero_le _) rfl)
          have HOX := Lib.hid (HOX.out.trans HST.out)
          have HT := Lib.hid (HST.out.owns HT.out (fun _ _ h => h))
          refine hK.out _ _ HOX.out (fun hHeld => ?_)
          clear hK K
          try simp only [Act.put, List.getElem_toArray, List.getElem_cons_zero, List.getElem_cons_succ, List.setIfInBounds_toArray, List.set_cons_zero, List.set_cons_succ]
          generalize (wd.alloc (.cells #[] 50)) = v1 at *
          obtain ⟨gd, hgd⟩ : ∃ n, wd.heap.size = n := ⟨_, rfl⟩
          rw [hgd] at HE HSD ⊢
          have HGD := Lib.hid hgd
          clear hgd
          clear HST
          refine wpAnyH_ready (rs := [3]) (by kernel_rfl) (by simp) ?_
          refine AllReadyH.cons rfl (fun K hK => ?_) AllReadyH.nil
          have hsz1 := HOX.out.size
          refine step_append_row rfl _ _ 29 rfl gd w1.heap.size 50 i0 _ 2 16 Tryz.underlying29 HI.out HI0.out HI1.out HI2.out rfl (by decide) _ 0 [] (by rfl) HE.out _ d.tiers.length (trow d.tiers) (by rfl) HT.out (trow_one _) (by have := HLN.out; unfold maxLen; omega) (by have := HLN.out; omega) (by have := HGD.out; omega) ?_
          intro u1 v2 hown hgrow
          rw [Nat.zero_add, List.nil_append] at hown
          have HA := Lib.hid hown
          have HOX := Lib.hid (HOX.out.trans' (S := fun _ => False) ((Only.refl _ _).grown hgrow (fun i e _ => e)) (fun i hi e => by have := ownR_ge HE.out e; have := HGD.out; omega))
          clear HE HT hown hgrow hsz1
          refine hK.out _ _ HOX.out (fun hHeld => ?_)
          clear hK K
          try simp only [Act.put, List.getElem_toArray, List.getElem_cons_zero, List.getElem_cons_succ, List.setIfInBounds_toArray, List.set_cons_zero, List.set_cons_succ]
          refine wpAnyH_ready (rs := [7]) (by kernel_rfl) (by simp) ?_
          refine AllReadyH.cons rfl (fun K hK => ?_) AllReadyH.nil
          go_simp
          refine (number_any13 p _ _ x1 _).mono ?_
          rintro e v3 ⟨rfl, hST⟩
          have HOX := Lib.hid (HOX.out.trans hST)
          have HA := Lib.hid (hST.owns HA.out (fun _ _ h => h))
          refine hK.out _ _ HOX.out (fun hHeld => ?_)
          clear hK K
          try simp only [Act.put, List.getElem_toArray, List.getElem_cons_zero, List.getElem_cons_succ, List.setIfInBounds_toArray, List.set_cons_zero, List.set_cons_succ]
          clear hST
          refine wpAnyH_ready (rs := [11]) (by kernel_rfl) (by simp) ?_
          refine AllReadyH.cons rfl (fun K hK => ?_) AllReadyH.nil
          go_simp
          refine (number_any13 p _ _ x2 _).mono ?_
          rintro e v4 ⟨rfl, hST⟩
          have HOX := Lib.hid (HOX.out.trans hST)
          have HA := Lib.hid (hST.owns HA.out (fun _ _ h => h))
          refine hK.out _ _ HOX.out (fun hHeld => ?_)
          clear hK K
          try simp only [Act.put, List.getElem_toArray, List.getElem_cons_zero, List.getElem_cons_succ, List.setIfInBounds_toArray, List.set_cons_zero, List.set_cons_succ]
          clear hST
          refine' wpAnyH_take (i := 12) (v := _) rfl (by kernel_rfl) (by kernel_rfl) (by kernel_rfl) (fun _ _ _ h => h) (Or.inl ⟨by rfl, ?hy1x12⟩) hHeld ?r1x12
          case hy1x12 => (intro w hSw; obtain ⟨⟨s0, s1, s2, s3, s4, s5, s6, s7, s8, s9, s10⟩, d0, y0, y1, y2⟩ := HKS.out _ hSw; go_simp; with_reducible rfl)
          try simp only [Act.put, List.getElem_toArray, List.getElem_cons_zero, List.getElem_cons_succ, List.setIfInBounds_toArray, List.set_cons_zero, List.set_cons_succ]
          refine wpAnyH_ready (rs := [13]) (by kernel_rfl) (by simp) ?_
          refine AllReadyH.cons rfl (fun K hK => ?_) AllReadyH.nil
          go_simp
          have HST := Lib.hid ((Only.refl (fun _ => False) v4).alloc (.cells #[.int .i64 (nbZ p.wild x1), .int .i64 (nbZ p.wild x2)] 50))
          have HN := Lib.hid (show (v4.alloc (.cells #[.int .i64 (nbZ p.wild x1), .int .i64 (nbZ p.wild x2)] 50)).ownsRow v4.heap.size 50 2 (.slice (some ⟨v4.heap.size, 0, none⟩) 1 1) 1 [.int .i64 (nbZ p.wild x1), .int .i64 (nbZ p.wild x2)] from own_newN v4 50 2 1 [.int .i64 (nbZ p.wild x1), .int .i64 (nbZ p.wild x2)] rfl (by decide))
          have HOX := Lib.hid (HOX.out.trans HST.out)
          have HA := Lib.hid (HST.out.owns HA.out (fun _ _ h => h))
          refine hK.out _ _ HOX.out (fun hHeld => ?_)
          clear hK K
          try simp only [Act.put, List.getElem_toArray, List.getElem_cons_zero, List.getElem_cons_succ, List.setIfInBounds_toArray, List.set_cons_zero, List.set_cons_succ]
          generalize (v4.alloc _) = v8 at *
          generalize v4.heap.size = g8 at *
          clear HST
          refine wpAnyH_ready (rs := [14]) (by kernel_rfl) (by simp) ?_
          refine AllReadyH.cons rfl (fun K hK => ?_) AllReadyH.nil
          have hsz1 := HOX.out.size
          refine step_append_row rfl _ _ 29 rfl gd g8 50 i0 _ 2 16 Tryz.underlying29 HI.out HI0.out HI1.out HI2.out rfl (by decide) _ d.tiers.length (trow d.tiers) (by rfl) HA.out _ 1 [.int .i64 (nbZ p.wild x1), .int .i64 (nbZ p.wild x2)] (by rfl) HN.out (two_oneR _ _ rfl rfl) (by have := HLN.out; unfold maxLen; omega) (by have := HLN.out; omega) (by have := HGD.out; omega) ?_
          intro u2 v9 hown hgrow
          obtain ⟨na, nc, rfl⟩ := slice_of_own hown
          have HB := Lib.hid hown
          have HOX := Lib.hid (HOX.out.trans' (S := fun _ => False) ((Only.refl _ _).grown hgrow (fun i e _ => e)) (fun i hi e => by have := ownR_ge HA.out e; have := HGD.out; omega))
          clear HA HN hown hgrow hsz1
          refine hK.out _ _ HOX.out (fun hHeld => ?_)
          clear hK K
          try simp only [Act.put, List.getElem_toArray, List.getElem_cons_zero, List.getElem_cons_succ, List.setIfInBounds_toArray, List.set_cons_zero, List.set_cons_succ]
          refine wpAnyH_done (by kernel_rfl) ?_ _
          simp only [headPost, List.drop_succ_cons, List.drop_zero]
          have HOW := Lib.hid (((Only.refl (fun _ => False) w4).drew).trans (hwd ▸ HOX.out))
          clear hHeld HKS HOX
          have HM9 := Lib.hid (row_still HOW.out HM4.out)
          have f6 : v9.frozen? ⟨mb, 6, none⟩ = false := frozen_of_row _ _ _ _ _ HM9.out
          have m6 : v9.cell? ⟨mb, 6, none⟩ = some (Value.slice at1 d.tiers.length ct) := cell_of_row _ _ 6 _ _ _ HM9.out
          have hmb9 : mb < v9.heap.size := (Array.getElem?_eq_some_iff.1 HM9.out).1
          go_wp2_with fail
          go_meet
          refine ⟨(.slice na (d.tiers.length + 1) nc), (.slice ap1 d.places.length cp), (.slice aq1 d.quotas.length cq), (.slice ab1 d.barred.length cb), ?_, ⟨(by rw [HEQ.out]; show World.ownsRow _ _ _ _ _ (d.tiers ++ [_]).length (trow (d.tiers ++ [_])); rw [List.length_append, trow_app]; exact set_own (ownR_base HB.out (by have := HSD.out; have := HW4.out.size; have := HO.out.size; omega)) (fun e => by have := ownR_blk HB.out HM9.out (by decide); exact this e)), (by rw [HEQ.out]; exact set_own (HOW.out.owns HD4.out.places (fun _ _ h => h)) (fun e => by have := ownR_blk (HOW.out.owns HD4.out.places (fun _ _ h => h)) HM9.out (by decide); exact this e)), (by rw [HEQ.out]; exact set_own (HOW.out.owns HD4.out.quotas (fun _ _ h => h)) (fun e => by have := ownR_blk (HOW.out.owns HD4.out.quotas (fun _ _ h => h)) HM9.out (by decide); exact this e)), (by rw [HEQ.out]; exact set_own (HOW.out.owns HD4.out.bars (fun _ _ h => h)) (fun e => by have := ownR_blk (HOW.out.owns HD4.out.bars (fun _ _ h => h)) HM9.out (by decide); exact this e))⟩, ?_⟩
          ·refine (heap_setCell_same v9 mb 6 _ _ _ HM9.out).trans ?_
           rw [HEQ.out]; rfl
          ·exact (HW4.out.trans HOW.out).setCell (.inr (by have := HMB.out; show wr.heap.size ≤ mb; omega)) _
        ·as_aux_lemma =>
          have q1 : (d.kind == 1) = false := by rw [hk]; rfl
          have q2 : (d.kind == 2) = true := by rw [hk]; rfl
          have HEQ := Lib.hid (show m = { d with places := d.places ++ [(nmZ p.wild x0, nbZ p.wild x1)] } by rw [← HMM.out]; unfold moreL; rw [if_neg (by rw [hk]; decide), if_pos hk])
          have HLN := Lib.hid (show d.places.length ≤ 100 by have := HL4.out; omega)
          clear hk
          go_upto_region 20 with (fail)
          clear q1 q2 c1
          obtain ⟨i0, hi, hz0, hz1, hz2⟩ := info_parts Tryz.infoPl
          have HI := Lib.hid hi
          have HI0 := Lib.hid hz0
          have HI1 := Lib.hid hz1
          have HI2 := Lib.hid hz2
          clear hi hz0 hz1 hz2
          refine wp_region_split2 16 (by kernel_rfl) (by kernel_rfl) (wpAny_of_held (S := fun W => Only (fun _ => False) w4.drew W) _ _ _ _ ?_)
          simp only [List.take_succ_cons, List.take_zero]
          change wpAnyH _ _ _ _ _ _ _ _ w4.drew
          have HKS := Lib.hid (show ∀ W, Only (fun _ => False) w4.drew W → PlS B p vl vb W ∧ W.cell? ⟨b, 8, none⟩ = some (Value.slice ap1 d.places.length cp) ∧ W.cell? ⟨wr.heap.size, 0, none⟩ = some (.int .i64 x0) ∧ W.cell? ⟨wr.heap.size, 1, none⟩ = some (.int .i64 x1) ∧ W.cell? ⟨wr.heap.size, 2, none⟩ = some (.int .i64 x2) from fun W hW => ⟨PlS.only (PlS.of (row_still (Only.refl _ w4).drew HZ4.out)) hW, hW.cell (cell_of_row w4.drew b 8 _ _ _ HR4.out) id, hW.cell (cell_of_row w4.drew wr.heap.size 0 _ _ _ HX4.out) id, hW.cell (cell_of_row w4.drew wr.heap.size 1 _ _ _ HX4.out) id, hW.cell (cell_of_row w4.drew wr.heap.size 2 _ _ _ HX4.out) id⟩)
          have HT := Lib.hid (owns_drew HD4.out.places)
          have hHeld : Only (fun _ => False) w4.drew w4.drew := Only.refl _ _
          have HOX := Lib.hid hHeld
          have hsd : w4.drew.heap.size = w4.heap.size := rfl
          obtain ⟨wd, hwd⟩ : ∃ wd, w4.drew = wd := ⟨_, rfl⟩
          rw [hwd] at HKS HT hHeld HOX hsd ⊢
          have HSD := Lib.hid hsd
          clear hsd
          refine' wpAnyH_take (i := 1) (v := _) rfl (by kernel_rfl) (by kernel_rfl) (by kernel_rfl) (fun _ _ _ h => h) (Or.inl ⟨by rfl, ?hy2x1⟩) hHeld ?r2x1
          case hy2x1 => (intro w hSw; obtain ⟨⟨s0, s1, s2, s3, s4, s5, s6, s7, s8, s9, s10⟩, d0, y0, y1, y2⟩ := HKS.out _ hSw; go_simp; with_reducible rfl)
          try simp only [Act.put, List.getElem_toArray, List.getElem_cons_zero, List.getElem_cons_succ, List.setIfInBounds_toArray, List.set_cons_zero, List.set_cons_succ]
          refine' wpAnyH_take (i := 2) (v := _) rfl (by kernel_rfl) (by kernel_rfl) (by kernel_rfl) (fun _ _ _ h => h) (Or.inl ⟨by rfl, ?hy2x2⟩) hHeld ?r2x2
          case hy2x2 => (intro w hSw; obtain ⟨⟨s0, s1, s2, s3, s4, s5, s6, s7, s8, s9, s10⟩, d0, y0, y1, y2⟩ := HKS.out _ hSw; go_simp; with_reducible rfl)
          try simp only [Act.put, List.getElem_toArray, List.getElem_cons_zero, List.getElem_cons_succ, List.setIfInBounds_toArray, List.set_cons_zero, List.set_cons_succ]
          refine' wpAnyH_take (i := 4) (v := _) rfl (by kernel_rfl) (by kernel_rfl) (by kernel_rfl) (fun _ _ _ h => h) (Or.inl ⟨by rfl, ?hy2x4⟩) hHeld ?r2x4
          case hy2x4 => (intro w hSw; obtain ⟨⟨s0, s1, s2, s3, s4, s5, s6, s7, s8, s9, s10⟩, d0, y0, y1, y2⟩ := HKS.out _ hSw; go_simp; with_reducible rfl)
          try simp only [Act.put, List.getElem_toArray, List.getElem_cons_zero, List.getElem_cons_succ, List.setIfInBounds_toArray, List.set_cons_zero, List.set_cons_succ]
          refine' wpAnyH_take (i := 5) (v := _) rfl (by kernel_rfl) (by kernel_rfl) (by kernel_rfl) (fun _ _ _ h => h) (Or.inl ⟨by rfl, ?hy2x5⟩) hHeld ?r2x5
          case hy2x5 => (intro w hSw; obtain ⟨⟨s0, s1, s2, s3, s4, s5, s6, s7, s8, s9, s10⟩, d0, y0, y1, y2⟩ := HKS.out _ hSw; go_simp; with_reducible rfl)
          try simp only [Act.put, List.getElem_toArray, List.getElem_cons_zero, List.getElem_cons_succ, List.setIfInBounds_toArray, List.set_cons_zero, List.set_cons_succ]
          refine' wpAnyH_take (i := 6) (v := _) rfl (by kernel_rfl) (by kernel_rfl) (by kernel_rfl) (fun _ _ _ h => h) (Or.inl ⟨by rfl, ?hy2x6⟩) hHeld ?r2x6
          case hy2x6 => (intro w hSw; obtain ⟨⟨s0, s1, s2, s3, s4, s5, s6, s7, s8, s9, s10⟩, d0, y0, y1, y2⟩ := HKS.out _ hSw; go_simp; with_reducible rfl)
          try simp only [Act.put, List.getElem_toArray, List.getElem_cons_zero, List.getElem_cons_succ, List.setIfInBounds_toArray, List.set_cons_zero, List.set_cons_succ]
          refine' wpAnyH_take (i := 7) (v := _) rfl (by kernel_rfl) (by kernel_rfl) (by kernel_rfl) (fun _ _ _ h => h) (Or.inl ⟨by rfl, ?hy2x7⟩) hHeld ?r2x7
          case hy2x7 => (intro w hSw; obtain ⟨⟨s0, s1, s2, s3, s4, s5, s6, s7, s8, s9, s10⟩, d0, y0, y1, y2⟩ := HKS.out _ hSw; go_simp; with_reducible rfl)
          try simp only [Act.put, List.getElem_toArray, List.getElem_cons_zero, List.getElem_cons_succ, List.setIfInBounds_toArray, List.set_cons_zero, List.set_cons_succ]
          refine' wpAnyH_take (i := 9) (v := _) rfl (by kernel_rfl) (by kernel_rfl) (by kernel_rfl) (fun _ _ _ h => h) (Or.inl ⟨by rfl, ?hy2x9⟩) hHeld ?r2x9
          case hy2x9 => (intro w hSw; obtain ⟨⟨s0, s1, s2, s3, s4, s5, s6, s7, s8, s9, s10⟩, d0, y0, y1, y2⟩ := HKS.out _ hSw; go_simp; with_reducible rfl)
          try simp only [Act.put, List.getElem_toArray, List.getElem_cons_zero, List.getElem_cons_succ, List.setIfInBounds_toArray, List.set_cons_zero, List.set_cons_succ]
          refine' wpAnyH_take (i := 10) (v := _) rfl (by kernel_rfl) (by kernel_rfl) (by kernel_rfl) (fun _ _ _ h => h) (Or.inl ⟨by rfl, ?hy2x10⟩) hHeld ?r2x10
          case hy2x10 => (intro w hSw; obtain ⟨⟨s0, s1, s2, s3, s4, s5, s6, s7, s8, s9, s10⟩, d0, y0, y1, y2⟩ := HKS.out _ hSw; go_simp; with_reducible rfl)
          try simp only [Act.put, List.getElem_toArray, List.getElem_cons_zero, List.getElem_cons_succ, List.setIfInBounds_toArray, List.set_cons_zero, List.set_cons_succ]
          refine' wpAnyH_take (i := 11) (v := _) rfl (by kernel_rfl) (by kernel_rfl) (by kernel_rfl) (fun _ _ _ h => h) (Or.inl ⟨by rfl, ?hy2x11⟩) hHeld ?r2x11
          case hy2x11 => (intro w hSw; obtain ⟨⟨s0, s1, s2, s3, s4, s5, s6, s7, s8, s9, s10⟩, d0, y0, y1, y2⟩ := HKS.out _ hSw; go_simp; with_reducible rfl)
          try simp only [Act.put, List.getElem_toArray, List.getElem_cons_zero, List.getElem_cons_succ, List.setIfInBounds_toArray, List.set_cons_zero, List.set_cons_succ]
          refine wpAnyH_ready (rs := [0]) (by kernel_rfl) (by simp) ?_
          refine AllReadyH.cons rfl (fun K hK => ?_) AllReadyH.nil
          go_simp
          have HST := Lib.hid ((Only.refl (fun _ => False) wd).alloc (.cells #[] 73))
          have HE := Lib.hid (World.ownsRow_made (e := 73) (base := wd.heap.size) (size := 2) wd #[] 0 (Nat.le_refl _) (Nat.zero_le _) rfl)
          have HOX := Lib.hid (HOX.out.trans HST.out)
          have HT := Lib.hid (HST.out.owns HT.out (fun _ _ h => h))
          refine hK.out _ _ HOX.out (fun hHeld => ?_)
          clear hK K
          try simp only [Act.put, List.getElem_toArray, List.getElem_cons_zero, List.getElem_cons_succ, List.setIfInBounds_toArray, List.set_cons_zero, List.set_cons_succ]
          generalize (wd.alloc (.cells #[] 73)) = v1 at *
          obtain ⟨gd, hgd⟩ : ∃ n, wd.heap.size = n := ⟨_, rfl⟩
          rw [hgd] at HE HSD ⊢
          have HGD := Lib.hid hgd
          clear hgd
          clear HST
          refine wpAnyH_ready (rs := [3]) (by kernel_rfl) (by simp) ?_
          refine AllReadyH.cons rfl (fun K hK => ?_) AllReadyH.nil
          have hsz1 := HOX.out.size
          refine step_append_row rfl _ _ 30 rfl gd w1.heap.size 73 i0 _ 2 24 Tryz.underlying30 HI.out HI0.out HI1.out HI2.out rfl (by decide) _ 0 [] (by rfl) HE.out _ d.places.length (prow d.places) (by rfl) HT.out (prow_one _) (by have := HLN.out; unfold maxLen; omega) (by have := HLN.out; omega) (by have := HGD.out; omega) ?_
          intro u1 v2 hown hgrow
          rw [Nat.zero_add, List.nil_append] at hown
          have HA := Lib.hid hown
          have HOX := Lib.hid (HOX.out.trans' (S := fun _ => False) ((Only.refl _ _).grown hgrow (fun i e _ => e)) (fun i hi e => by have := ownR_ge HE.out e; have := HGD.out; omega))
          clear HE HT hown hgrow hsz1
          refine hK.out _ _ HOX.out (fun hHeld => ?_)
          clear hK K
          try simp only [Act.put, List.getElem_toArray, List.getElem_cons_zero, List.getElem_cons_succ, List.setIfInBounds_toArray, List.set_cons_zero, List.set_cons_succ]
          refine wpAnyH_ready (rs := [8]) (by kernel_rfl) (by simp) ?_
          refine AllReadyH.cons rfl (fun K hK => ?_) AllReadyH.nil
          go_simp
          refine (nameP_any x0 p.wild _).mono ?_
          rintro e v3 ⟨rfl, hST⟩
          have HOX := Lib.hid (HOX.out.trans hST)
          have HA := Lib.hid (hST.owns HA.out (fun _ _ h => h))
          refine hK.out _ _ HOX.out (fun hHeld => ?_)
          clear hK K
          try simp only [Act.put, List.getElem_toArray, List.getElem_cons_zero, List.getElem_cons_succ, List.setIfInBounds_toArray, List.set_cons_zero, List.set_cons_succ]
          clear hST
          refine wpAnyH_ready (rs := [12]) (by kernel_rfl) (by simp) ?_
          refine AllReadyH.cons rfl (fun K hK => ?_) AllReadyH.nil
          go_simp
          refine (number_any13 p _ _ x1 _).mono ?_
          rintro e v4 ⟨rfl, hST⟩
          have HOX := Lib.hid (HOX.out.trans hST)
          have HA := Lib.hid (hST.owns HA.out (fun _ _ h => h))
          refine hK.out _ _ HOX.out (fun hHeld => ?_)
          clear hK K
          try simp only [Act.put, List.getElem_toArray, List.getElem_cons_zero, List.getElem_cons_succ, List.setIfInBounds_toArray, List.set_cons_zero, List.set_cons_succ]
          clear hST
          refine' wpAnyH_take (i := 13) (v := _) rfl (by kernel_rfl) (by kernel_rfl) (by kernel_rfl) (fun _ _ _ h => h) (Or.inl ⟨by rfl, ?hy2x13⟩) hHeld ?r2x13
          case hy2x13 => (intro w hSw; obtain ⟨⟨s0, s1, s2, s3, s4, s5, s6, s7, s8, s9, s10⟩, d0, y0, y1, y2⟩ := HKS.out _ hSw; go_simp; with_reducible rfl)
          try simp only [Act.put, List.getElem_toArray, List.getElem_cons_zero, List.getElem_cons_succ, List.setIfInBounds_toArray, List.set_cons_zero, List.set_cons_succ]
          refine wpAnyH_ready (rs := [14]) (by kernel_rfl) (by simp) ?_
          refine AllReadyH.cons rfl (fun K hK => ?_) AllReadyH.nil
          go_simp
          have HST := Lib.hid ((Only.refl (fun _ => False) v4).alloc (.cells #[.string (nmZ p.wild x0), .int .i64 (nbZ p.wild x1)] 73))
          have HN := Lib.hid (show (v4.alloc (.cells #[.string (nmZ p.wild x0), .int .i64 (nbZ p.wild x1)] 73)).ownsRow v4.heap.size 73 2 (.slice (some ⟨v4.heap.size, 0, none⟩) 1 1) 1 [.string (nmZ p.wild x0), .int .i64 (nbZ p.wild x1)] from own_newN v4 73 2 1 [.string (nmZ p.wild x0), .int .i64 (nbZ p.wild x1)] rfl (by decide))
          have HOX := Lib.hid (HOX.out.trans HST.out)
          have HA := Lib.hid (HST.out.owns HA.out (fun _ _ h => h))
          refine hK.out _ _ HOX.out (fun hHeld => ?_)
          clear hK K
          try simp only [Act.put, List.getElem_toArray, List.getElem_cons_zero, List.getElem_cons_succ, List.setIfInBounds_toArray, List.set_cons_zero, List.set_cons_succ]
          generalize (v4.alloc _) = v8 at *
          generalize v4.heap.size = g8 at *
          clear HST
          refine wpAnyH_ready (rs := [15]) (by kernel_rfl) (by simp) ?_
          refine AllReadyH.cons rfl (fun K hK => ?_) AllReadyH.nil
          have hsz1 := HOX.out.size
          refine step_append_row rfl _ _ 30 rfl gd g8 73 i0 _ 2 24 Tryz.underlying30 HI.out HI0.out HI1.out HI2.out rfl (by decide) _ d.places.length (prow d.places) (by rfl) HA.out _ 1 [.string (nmZ p.wild x0), .int .i64 (nbZ p.wild x1)] (by rfl) HN.out (two_oneR _ _ rfl rfl) (by have := HLN.out; unfold maxLen; omega) (by have := HLN.out; omega) (by have := HGD.out; omega) ?_
          intro u2 v9 hown hgrow
          obtain ⟨na, nc, rfl⟩ := slice_of_own hown
          have HB := Lib.hid hown
          have HOX := Lib.hid (HOX.out.trans' (S := fun _ => False) ((Only.refl _ _).grown hgrow (fun i e _ => e)) (fun i hi e => by have := ownR_ge HA.out e; have := HGD.out; omega))
          clear HA HN hown hgrow hsz1
          refine hK.out _ _ HOX.out (fun hHeld => ?_)
          clear hK K
          try simp only [Act.put, List.getElem_toArray, List.getElem_cons_zero, List.getElem_cons_succ, List.setIfInBounds_toArray, List.set_cons_zero, List.set_cons_succ]
          refine wpAnyH_done (by kernel_rfl) ?_ _
          simp only [headPost, List.drop_succ_cons, List.drop_zero]
          have HOW := Lib.hid (((Only.refl (fun _ => False) w4).drew).trans (hwd ▸ HOX.out))
          clear hHeld HKS HOX
          have HM9 := Lib.hid (row_still HOW.out HM4.out)
          have f8 : v9.frozen? ⟨mb, 8, none⟩ = false := frozen_of_row _ _ _ _ _ HM9.out
          have m8 : v9.cell? ⟨mb, 8, none⟩ = some (Value.slice ap1 d.places.length cp) := cell_of_row _ _ 8 _ _ _ HM9.out
          have hmb9 : mb < v9.heap.size := (Array.getElem?_eq_some_iff.1 HM9.out).1
          go_wp2_with fail
          go_meet
          refine ⟨(.slice at1 d.tiers.length ct), (.slice na (d.places.length + 1) nc), (.slice aq1 d.quotas.length cq), (.slice ab1 d.barred.length cb), ?_, ⟨(by rw [HEQ.out]; exact set_own (HOW.out.owns HD4.out.tiers (fun _ _ h => h)) (fun e => by have := ownR_blk (HOW.out.owns HD4.out.tiers (fun _ _ h => h)) HM9.out (by decide); exact this e)), (by rw [HEQ.out]; show World.ownsRow _ _ _ _ _ (d.places ++ [_]).length (prow (d.places ++ [_])); rw [List.length_append, prow_app]; exact set_own (ownR_base HB.out (by have := HSD.out; have := HW4.out.size; have := HO.out.size; omega)) (fun e => by have := ownR_blk HB.out HM9.out (by decide); exact this e)), (by rw [HEQ.out]; exact set_own (HOW.out.owns HD4.out.quotas (fun _ _ h => h)) (fun e => by have := ownR_blk (HOW.out.owns HD4.out.quotas (fun _ _ h => h)) HM9.out (by decide); exact this e)), (by rw [HEQ.out]; exact set_own (HOW.out.owns HD4.out.bars (fun _ _ h => h)) (fun e => by have := ownR_blk (HOW.out.owns HD4.out.bars (fun _ _ h => h)) HM9.out (by decide); exact this e))⟩, ?_⟩
          ·refine (heap_setCell_same v9 mb 8 _ _ _ HM9.out).trans ?_
           rw [HEQ.out]; rfl
          ·exact (HW4.out.trans HOW.out).setCell (.inr (by have := HMB.out; show wr.heap.size ≤ mb; omega)) _
        ·as_aux_lemma =>
          have q1 : (d.kind == 1) = false := by rw [hk]; rfl
          have q2 : (d.kind == 2) = false := by rw [hk]; rfl
          have HEQ := Lib.hid (show m = { d with quotas := d.quotas ++ [(nmZ p.wild x0, nbZ p.wild x1, nbZ p.wild x2)] } by rw [← HMM.out]; unfold moreL; rw [if_neg (by rw [hk]; decide), if_neg (by rw [hk]; decide)])
          have HLN := Lib.hid (show d.quotas.length ≤ 100 by have := HL4.out; omega)
          clear hk
          go_upto_region 16 with (fail)
          clear q1 q2 c1
          obtain ⟨i0, hi, hz0, hz1, hz2⟩ := info_parts Tryz.infoQu
          have HI := Lib.hid hi
          have HI0 := Lib.hid hz0
          have HI1 := Lib.hid hz1
          have HI2 := Lib.hid hz2
          clear hi hz0 hz1 hz2
          refine wp_region_split2 20 (by kernel_rfl) (by kernel_rfl) (wpAny_of_held (S := fun W => Only (fun _ => False) w4.drew W) _ _ _ _ ?_)
          simp only [List.take_succ_cons, List.take_zero]
          change wpAnyH _ _ _ _ _ _ _ _ w4.drew
          have HKS := Lib.hid (show ∀ W, Only (fun _ => False) w4.drew W → PlS B p vl vb W ∧ W.cell? ⟨b, 11, none⟩ = some (Value.slice aq1 d.quotas.length cq) ∧ W.cell? ⟨wr.heap.size, 0, none⟩ = some (.int .i64 x0) ∧ W.cell? ⟨wr.heap.size, 1, none⟩ = some (.int .i64 x1) ∧ W.cell? ⟨wr.heap.size, 2, none⟩ = some (.int .i64 x2) from fun W hW => ⟨PlS.only (PlS.of (row_still (Only.refl _ w4).drew HZ4.out)) hW, hW.cell (cell_of_row w4.drew b 11 _ _ _ HR4.out) id, hW.cell (cell_of_row w4.drew wr.heap.size 0 _ _ _ HX4.out) id, hW.cell (cell_of_row w4.drew wr.heap.size 1 _ _ _ HX4.out) id, hW.cell (cell_of_row w4.drew wr.heap.size 2 _ _ _ HX4.out) id⟩)
          have HT := Lib.hid (owns_drew HD4.out.quotas)
          have hHeld : Only (fun _ => False) w4.drew w4.drew := Only.refl _ _
          have HOX := Lib.hid hHeld
          have hsd : w4.drew.heap.size = w4.heap.size := rfl
          obtain ⟨wd, hwd⟩ : ∃ wd, w4.drew = wd := ⟨_, rfl⟩
          rw [hwd] at HKS HT hHeld HOX hsd ⊢
          have HSD := Lib.hid hsd
          clear hsd
          refine' wpAnyH_take (i := 1) (v := _) rfl (by kernel_rfl) (by kernel_rfl) (by kernel_rfl) (fun _ _ _ h => h) (Or.inl ⟨by rfl, ?hy3x1⟩) hHeld ?r3x1
          case hy3x1 => (intro w hSw; obtain ⟨⟨s0, s1, s2, s3, s4, s5, s6, s7, s8, s9, s10⟩, d0, y0, y1, y2⟩ := HKS.out _ hSw; go_simp; with_reducible rfl)
          try simp only [Act.put, List.getElem_toArray, List.getElem_cons_zero, List.getElem_cons_succ, List.setIfInBounds_toArray, List.set_cons_zero, List.set_cons_succ]
          refine' wpAnyH_take (i := 2) (v := _) rfl (by kernel_rfl) (by kernel_rfl) (by kernel_rfl) (fun _ _ _ h => h) (Or.inl ⟨by rfl, ?hy3x2⟩) hHeld ?r3x2
          case hy3x2 => (intro w hSw; obtain ⟨⟨s0, s1, s2, s3, s4, s5, s6, s7, s8, s9, s10⟩, d0, y0, y1, y2⟩ := HKS.out _ hSw; go_simp; with_reducible rfl)
          try simp only [Act.put, List.getElem_toArray, List.getElem_cons_zero, List.getElem_cons_succ, List.setIfInBounds_toArray, List.set_cons_zero, List.set_cons_succ]
          refine' wpAnyH_take (i := 4) (v := _) rfl (by kernel_rfl) (by kernel_rfl) (by kernel_rfl) (fun _ _ _ h => h) (Or.inl ⟨by rfl, ?hy3x4⟩) hHeld ?r3x4
          case hy3x4 => (intro w hSw; obtain ⟨⟨s0, s1, s2, s3, s4, s5, s6, s7, s8, s9, s10⟩, d0, y0, y1, y2⟩ := HKS.out _ hSw; go_simp; with_reducible rfl)
          try simp only [Act.put, List.getElem_toArray, List.getElem_cons_zero, List.getElem_cons_succ, List.setIfInBounds_toArray, List.set_cons_zero, List.set_cons_succ]
          refine' wpAnyH_take (i := 5) (v := _) rfl (by kernel_rfl) (by kernel_rfl) (by kernel_rfl) (fun _ _ _ h => h) (Or.inl ⟨by rfl, ?hy3x5⟩) hHeld ?r3x5
          case hy3x5 => (intro w hSw; obtain ⟨⟨s0, s1, s2, s3, s4, s5, s6, s7, s8, s9, s10⟩, d0, y0, y1, y2⟩ := HKS.out _ hSw; go_simp; with_reducible rfl)
          try simp only [Act.put, List.getElem_toArray, List.getElem_cons_zero, List.getElem_cons_succ, List.setIfInBounds_toArray, List.set_cons_zero, List.set_cons_succ]
          refine' wpAnyH_take (i := 6) (v := _) rfl (by kernel_rfl) (by kernel_rfl) (by kernel_rfl) (fun _ _ _ h => h) (Or.inl ⟨by rfl, ?hy3x6⟩) hHeld ?r3x6
          case hy3x6 => (intro w hSw; obtain ⟨⟨s0, s1, s2, s3, s4, s5, s6, s7, s8, s9, s10⟩, d0, y0, y1, y2⟩ := HKS.out _ hSw; go_simp; with_reducible rfl)
          try simp only [Act.put, List.getElem_toArray, List.getElem_cons_zero, List.getElem_cons_succ, List.setIfInBounds_toArray, List.set_cons_zero, List.set_cons_succ]
          refine' wpAnyH_take (i := 7) (v := _) rfl (by kernel_rfl) (by kernel_rfl) (by kernel_rfl) (fun _ _ _ h => h) (Or.inl ⟨by rfl, ?hy3x7⟩) hHeld ?r3x7
          case hy3x7 => (intro w hSw; obtain ⟨⟨s0, s1, s2, s3, s4, s5, s6, s7, s8, s9, s10⟩, d0, y0, y1, y2⟩ := HKS.out _ hSw; go_simp; with_reducible rfl)
          try simp only [Act.put, List.getElem_toArray, List.getElem_cons_zero, List.getElem_cons_succ, List.setIfInBounds_toArray, List.set_cons_zero, List.set_cons_succ]
          refine' wpAnyH_take (i := 9) (v := _) rfl (by kernel_rfl) (by kernel_rfl) (by kernel_rfl) (fun _ _ _ h => h) (Or.inl ⟨by rfl, ?hy3x9⟩) hHeld ?r3x9
          case hy3x9 => (intro w hSw; obtain ⟨⟨s0, s1, s2, s3, s4, s5, s6, s7, s8, s9, s10⟩, d0, y0, y1, y2⟩ := HKS.out _ hSw; go_simp; with_reducible rfl)
          try simp only [Act.put, List.getElem_toArray, List.getElem_cons_zero, List.getElem_cons_succ, List.setIfInBounds_toArray, List.set_cons_zero, List.set_cons_succ]
          refine' wpAnyH_take (i := 10) (v := _) rfl (by kernel_rfl) (by kernel_rfl) (by kernel_rfl) (fun _ _ _ h => h) (Or.inl ⟨by rfl, ?hy3x10⟩) hHeld ?r3x10
          case hy3x10 => (intro w hSw; obtain ⟨⟨s0, s1, s2, s3, s4, s5, s6, s7, s8, s9, s10⟩, d0, y0, y1, y2⟩ := HKS.out _ hSw; go_simp; with_reducible rfl)
          try simp only [Act.put, List.getElem_toArray, List.getElem_cons_zero, List.getElem_cons_succ, List.setIfInBounds_toArray, List.set_cons_zero, List.set_cons_succ]
          refine' wpAnyH_take (i := 11) (v := _) rfl (by kernel_rfl) (by kernel_rfl) (by kernel_rfl) (fun _ _ _ h => h) (Or.inl ⟨by rfl, ?hy3x11⟩) hHeld ?r3x11
          case hy3x11 => (intro w hSw; obtain ⟨⟨s0, s1, s2, s3, s4, s5, s6, s7, s8, s9, s10⟩, d0, y0, y1, y2⟩ := HKS.out _ hSw; go_simp; with_reducible rfl)
          try simp only [Act.put, List.getElem_toArray, List.getElem_cons_zero, List.getElem_cons_succ, List.setIfInBounds_toArray, List.set_cons_zero, List.set_cons_succ]
          refine' wpAnyH_take (i := 13) (v := _) rfl (by kernel_rfl) (by kernel_rfl) (by kernel_rfl) (fun _ _ _ h => h) (Or.inl ⟨by rfl, ?hy3x13⟩) hHeld ?r3x13
          case hy3x13 => (intro w hSw; obtain ⟨⟨s0, s1, s2, s3, s4, s5, s6, s7, s8, s9, s10⟩, d0, y0, y1, y2⟩ := HKS.out _ hSw; go_simp; with_reducible rfl)
          try simp only [Act.put, List.getElem_toArray, List.getElem_cons_zero, List.getElem_cons_succ, List.setIfInBounds_toArray, List.set_cons_zero, List.set_cons_succ]
          refine' wpAnyH_take (i := 14) (v := _) rfl (by kernel_rfl) (by kernel_rfl) (by kernel_rfl) (fun _ _ _ h => h) (Or.inl ⟨by rfl, ?hy3x14⟩) hHeld ?r3x14
          case hy3x14 => (intro w hSw; obtain ⟨⟨s0, s1, s2, s3, s4, s5, s6, s7, s8, s9, s10⟩, d0, y0, y1, y2⟩ := HKS.out _ hSw; go_simp; with_reducible rfl)
          try simp only [Act.put, List.getElem_toArray, List.getElem_cons_zero, List.getElem_cons_succ, List.setIfInBounds_toArray, List.set_cons_zero, List.set_cons_succ]
          refine' wpAnyH_take (i := 15) (v := _) rfl (by kernel_rfl) (by kernel_rfl) (by kernel_rfl) (fun _ _ _ h => h) (Or.inl ⟨by rfl, ?hy3x15⟩) hHeld ?r3x15
          case hy3x15 => (intro w hSw; obtain ⟨⟨s0, s1, s2, s3, s4, s5, s6, s7, s8, s9, s10⟩, d0, y0, y1, y2⟩ := HKS.out _ hSw; go_simp; with_reducible rfl)
          try simp only [Act.put, List.getElem_toArray, List.getElem_cons_zero, List.getElem_cons_succ, List.setIfInBounds_toArray, List.set_cons_zero, List.set_cons_succ]
          refine wpAnyH_ready (rs := [0]) (by kernel_rfl) (by simp) ?_
          refine AllReadyH.cons rfl (fun K hK => ?_) AllReadyH.nil
          go_simp
          have HST := Lib.hid ((Only.refl (fun _ => False) wd).alloc (.cells #[] 75))
          have HE := Lib.hid (World.ownsRow_made (e := 75) (base := wd.heap.size) (size := 3) wd #[] 0 (Nat.le_refl _) (Nat.zero_le _) rfl)
          have HOX := Lib.hid (HOX.out.trans HST.out)
          have HT := Lib.hid (HST.out.owns HT.out (fun _ _ h => h))
          refine hK.out _ _ HOX.out (fun hHeld => ?_)
          clear hK K
          try simp only [Act.put, List.getElem_toArray, List.getElem_cons_zero, List.getElem_cons_succ, List.setIfInBounds_toArray, List.set_cons_zero, List.set_cons_succ]
          generalize (wd.alloc (.cells #[] 75)) = v1 at *
          obtain ⟨gd, hgd⟩ : ∃ n, wd.heap.size = n := ⟨_, rfl⟩
          rw [hgd] at HE HSD ⊢
          have HGD := Lib.hid hgd
          clear hgd
          clear HST
          refine wpAnyH_ready (rs := [3]) (by kernel_rfl) (by simp) ?_
          refine AllReadyH.cons rfl (fun K hK => ?_) AllReadyH.nil
          have hsz1 := HOX.out.size
          refine step_append_row rfl _ _ 31 rfl gd w1.heap.size 75 i0 _ 3 32 Tryz.underlying31 HI.out HI0.out HI1.out HI2.out rfl (by decide) _ 0 [] (by rfl) HE.out _ d.quotas.length (qrow d.quotas) (by rfl) HT.out (qrow_one _) (by have := HLN.out; unfold maxLen; omega) (by have := HLN.out; omega) (by have := HGD.out; omega) ?_
          intro u1 v2 hown hgrow
          rw [Nat.zero_add, List.nil_append] at hown
          have HA := Lib.hid hown
          have HOX := Lib.hid (HOX.out.trans' (S := fun _ => False) ((Only.refl _ _).grown hgrow (fun i e _ => e)) (fun i hi e => by have := ownR_ge HE.out e; have := HGD.out; omega))
          clear HE HT hown hgrow hsz1
          refine hK.out _ _ HOX.out (fun hHeld => ?_)
          clear hK K
          try simp only [Act.put, List.getElem_toArray, List.getElem_cons_zero, List.getElem_cons_succ, List.setIfInBounds_toArray, List.set_cons_zero, List.set_cons_succ]
          refine wpAnyH_ready (rs := [8]) (by kernel_rfl) (by simp) ?_
          refine AllReadyH.cons rfl (fun K hK => ?_) AllReadyH.nil
          go_simp
          refine (nameP_any x0 p.wild _).mono ?_
          rintro e v3 ⟨rfl, hST⟩
          have HOX := Lib.hid (HOX.out.trans hST)
          have HA := Lib.hid (hST.owns HA.out (fun _ _ h => h))
          refine hK.out _ _ HOX.out (fun hHeld => ?_)
          clear hK K
          try simp only [Act.put, List.getElem_toArray, List.getElem_cons_zero, List.getElem_cons_succ, List.setIfInBounds_toArray, List.set_cons_zero, List.set_cons_succ]
          clear hST
          refine wpAnyH_ready (rs := [12]) (by kernel_rfl) (by simp) ?_
          refine AllReadyH.cons rfl (fun K hK => ?_) AllReadyH.nil
          go_simp
          refine (number_any13 p _ _ x1 _).mono ?_
          rintro e v4 ⟨rfl, hST⟩
          have HOX := Lib.hid (HOX.out.trans hST)
          have HA := Lib.hid (hST.owns HA.out (fun _ _ h => h))
          refine hK.out _ _ HOX.out (fun hHeld => ?_)
          clear hK K
          try simp only [Act.put, List.getElem_toArray, List.getElem_cons_zero, List.getElem_cons_succ, List.setIfInBounds_toArray, List.set_cons_zero, List.set_cons_succ]
          clear hST
          refine wpAnyH_ready (rs := [16]) (by kernel_rfl) (by simp) ?_
          refine AllReadyH.cons rfl (fun K hK => ?_) AllReadyH.nil
          go_simp
          refine (number_any13 p _ _ x2 _).mono ?_
          rintro e v5 ⟨rfl, hST⟩
          have HOX := Lib.hid (HOX.out.trans hST)
          have HA := Lib.hid (hST.owns HA.out (fun _ _ h => h))
          refine hK.out _ _ HOX.out (fun hHeld => ?_)
          clear hK K
          try simp only [Act.put, List.getElem_toArray, List.getElem_cons_zero, List.getElem_cons_succ, List.setIfInBounds_toArray, List.set_cons_zero, List.set_cons_succ]
          clear hST
          refine' wpAnyH_take (i := 17) (v := _) rfl (by kernel_rfl) (by kernel_rfl) (by kernel_rfl) (fun _ _ _ h => h) (Or.inl ⟨by rfl, ?hy3x17⟩) hHeld ?r3x17
          case hy3x17 => (intro w hSw; obtain ⟨⟨s0, s1, s2, s3, s4, s5, s6, s7, s8, s9, s10⟩, d0, y0, y1, y2⟩ := HKS.out _ hSw; go_simp; with_reducible rfl)
          try simp only [Act.put, List.getElem_toArray, List.getElem_cons_zero, List.getElem_cons_succ, List.setIfInBounds_toArray, List.set_cons_zero, List.set_cons_succ]
          refine wpAnyH_ready (rs := [18]) (by kernel_rfl) (by simp) ?_
          refine AllReadyH.cons rfl (fun K hK => ?_) AllReadyH.nil
          go_simp
          have HST := Lib.hid ((Only.refl (fun _ => False) v5).alloc (.cells #[.string (nmZ p.wild x0), .int .i64 (nbZ p.wild x1), .int .i64 (nbZ p.wild x2)] 75))
          have HN := Lib.hid (show (v5.alloc (.cells #[.string (nmZ p.wild x0), .int .i64 (nbZ p.wild x1), .int .i64 (nbZ p.wild x2)] 75)).ownsRow v5.heap.size 75 3 (.slice (some ⟨v5.heap.size, 0, none⟩) 1 1) 1 [.string (nmZ p.wild x0), .int .i64 (nbZ p.wild x1), .int .i64 (nbZ p.wild x2)] from own_newN v5 75 3 1 [.string (nmZ p.wild x0), .int .i64 (nbZ p.wild x1), .int .i64 (nbZ p.wild x2)] rfl (by decide))
          have HOX := Lib.hid (HOX.out.trans HST.out)
          have HA := Lib.hid (HST.out.owns HA.out (fun _ _ h => h))
          refine hK.out _ _ HOX.out (fun hHeld => ?_)
          clear hK K
          try simp only [Act.put, List.getElem_toArray, List.getElem_cons_zero, List.getElem_cons_succ, List.setIfInBounds_toArray, List.set_cons_zero, List.set_cons_succ]
          generalize (v5.alloc _) = v8 at *
          generalize v5.heap.size = g8 at *
          clear HST
          refine wpAnyH_ready (rs := [19]) (by kernel_rfl) (by simp) ?_
          refine AllReadyH.cons rfl (fun K hK => ?_) AllReadyH.nil
          have hsz1 := HOX.out.size
          refine step_append_row rfl _ _ 31 rfl gd g8 75 i0 _ 3 32 Tryz.underlying31 HI.out HI0.out HI1.out HI2.out rfl (by decide) _ d.quotas.length (qrow d.quotas) (by rfl) HA.out _ 1 [.string (nmZ p.wild x0), .int .i64 (nbZ p.wild x1), .int .i64 (nbZ p.wild x2)] (by rfl) HN.out (three_oneR _ _ _ rfl rfl rfl) (by have := HLN.out; unfold maxLen; omega) (by have := HLN.out; omega) (by have := HGD.out; omega) ?_
          intro u2 v9 hown hgrow
          obtain ⟨na, nc, rfl⟩ := slice_of_own hown
          have HB := Lib.hid hown
          have HOX := Lib.hid (HOX.out.trans' (S := fun _ => False) ((Only.refl _ _).grown hgrow (fun i e _ => e)) (fun i hi e => by have := ownR_ge HA.out e; have := HGD.out; omega))
          clear HA HN hown hgrow hsz1
          refine hK.out _ _ HOX.out (fun hHeld => ?_)
          clear hK K
          try simp only [Act.put, List.getElem_toArray, List.getElem_cons_zero, List.getElem_cons_succ, List.setIfInBounds_toArray, List.set_cons_zero, List.set_cons_succ]
          refine wpAnyH_done (by kernel_rfl) ?_ _
          simp only [headPost, List.drop_succ_cons, List.drop_zero]
          have HOW := Lib.hid (((Only.refl (fun _ => False) w4).drew).trans (hwd ▸ HOX.out))
          clear hHeld HKS HOX
          have HM9 := Lib.hid (row_still HOW.out HM4.out)
          have f11 : v9.frozen? ⟨mb, 11, none⟩ = false := frozen_of_row _ _ _ _ _ HM9.out
          have m11 : v9.cell? ⟨mb, 11, none⟩ = some (Value.slice aq1 d.quotas.length cq) := cell_of_row _ _ 11 _ _ _ HM9.out
          have hmb9 : mb < v9.heap.size := (Array.getElem?_eq_some_iff.1 HM9.out).1
          go_wp2_with fail
          go_meet
          refine ⟨(.slice at1 d.tiers.length ct), (.slice ap1 d.places.length cp), (.slice na (d.quotas.length + 1) nc), (.slice ab1 d.barred.length cb), ?_, ⟨(by rw [HEQ.out]; exact set_own (HOW.out.owns HD4.out.tiers (fun _ _ h => h)) (fun e => by have := ownR_blk (HOW.out.owns HD4.out.tiers (fun _ _ h => h)) HM9.out (by decide); exact this e)), (by rw [HEQ.out]; exact set_own (HOW.out.owns HD4.out.places (fun _ _ h => h)) (fun e => by have := ownR_blk (HOW.out.owns HD4.out.places (fun _ _ h => h)) HM9.out (by decide); exact this e)), (by rw [HEQ.out]; show World.ownsRow _ _ _ _ _ (d.quotas ++ [_]).length (qrow (d.quotas ++ [_])); rw [List.length_append, qrow_app]; exact set_own (ownR_base HB.out (by have := HSD.out; have := HW4.out.size; have := HO.out.size; omega)) (fun e => by have := ownR_blk HB.out HM9.out (by decide); exact this e)), (by rw [HEQ.out]; exact set_own (HOW.out.owns HD4.out.bars (fun _ _ h => h)) (fun e => by have := ownR_blk (HOW.out.owns HD4.out.bars (fun _ _ h => h)) HM9.out (by decide); exact this e))⟩, ?_⟩
          ·refine (heap_setCell_same v9 mb 11 _ _ _ HM9.out).trans ?_
           rw [HEQ.out]; rfl
          ·exact (HW4.out.trans HOW.out).setCell (.inr (by have := HMB.out; show wr.heap.size ≤ mb; omega)) _
       case rest =>
        obtain ⟨ut, up, uq, ub, hmr, hmd, hO5⟩ := hcut
        obtain ⟨bt1, dt, rfl⟩ := slice_of_own hmd.tiers
        obtain ⟨bp1, dp, rfl⟩ := slice_of_own hmd.places
        obtain ⟨bq1, dq, rfl⟩ := slice_of_own hmd.quotas
        obtain ⟨bb1, db, rfl⟩ := slice_of_own hmd.bars
        have HM5 := Lib.hid hmr
        have HD5 := Lib.hid hmd
        have HO5 := Lib.hid hO5
        have HR5 := Lib.hid (row_still hO5 HR.out)
        have HE5 := Lib.hid (HD.out.only hO5 (fun _ _ h => h))
        have HZ5 := Lib.hid (row_still hO5 HZr.out)
        have HMT := Lib.hid (show MkTry (k + 1) 0 m from HMM.out ▸ moreL_try HMO.out.try' _ H6x.out)
        have HLT2 := Lib.hid (show k + 1 ≤ 14 from by have := H14.out; omega)
        rw [HMM.out] at HNX
        clear hmr hmd hO5 c1 HX4 HR4 HZ4 HD4 HM4 HW4
        obtain ⟨e0, e1, e2, e3, e4, e5, e6, e7, e8, e9, e10⟩ := PlS.of HZ5.out
        have hmb5 : mb < wc.heap.size := (Array.getElem?_eq_some_iff.1 HM5.out).1
        have hbr5 : b < wc.heap.size := (Array.getElem?_eq_some_iff.1 HR5.out).1
        have hB5 : B < wc.heap.size := (Array.getElem?_eq_some_iff.1 HZ5.out).1
        clear hmb4 hxg4 hbr4 hB4 hbr hBr
        have HTN := Lib.hid HNX.out
        as_aux_lemma =>
         cases hw : p.wild
         ·rw [hw] at e10
          have HWI := Lib.hid hw
          have HPR := Lib.hid (rprint13_any m (.slice bt1 m.tiers.length dt) (.slice bp1 m.places.length dp) (.slice bq1 m.quotas.length dq) (.slice bb1 m.barred.length db) w1.heap.size wc HD5.out HMT.out.short HMT.out.nums (by have h1 := HMT.out.len; have h2 := HMT.out.bar; have h3 := HLT2.out; omega))
          have HPS := Lib.hid (print_some (d := m))
          clear hw
          have m0 : wc.cell? ⟨mb, 0, none⟩ = some (Value.string m.name) := cell_of_row _ _ 0 _ _ _ HM5.out
          have m1 : wc.cell? ⟨mb, 1, none⟩ = some (Value.int .i64 m.kind) := cell_of_row _ _ 1 _ _ _ HM5.out
          have m2 : wc.cell? ⟨mb, 2, none⟩ = some (Value.int .i64 m.round) := cell_of_row _ _ 2 _ _ _ HM5.out
          have m3 : wc.cell? ⟨mb, 3, none⟩ = some (Value.int .i64 m.price) := cell_of_row _ _ 3 _ _ _ HM5.out
          have m4 : wc.cell? ⟨mb, 4, none⟩ = some (Value.int .i64 m.pool) := cell_of_row _ _ 4 _ _ _ HM5.out
          have m5 : wc.cell? ⟨mb, 5, none⟩ = some (Value.int .i64 m.pick) := cell_of_row _ _ 5 _ _ _ HM5.out
          have m6 : wc.cell? ⟨mb, 6, none⟩ = some (Value.slice bt1 m.tiers.length dt) := cell_of_row _ _ 6 _ _ _ HM5.out
          have m7 : wc.cell? ⟨mb, 7, none⟩ = some (Value.bool m.roll) := cell_of_row _ _ 7 _ _ _ HM5.out
          have m8 : wc.cell? ⟨mb, 8, none⟩ = some (Value.slice bp1 m.places.length dp) := cell_of_row _ _ 8 _ _ _ HM5.out
          have m9 : wc.cell? ⟨mb, 9, none⟩ = some (Value.int .i64 m.cls) := cell_of_row _ _ 9 _ _ _ HM5.out
          have m10 : wc.cell? ⟨mb, 10, none⟩ = some (Value.int .i64 m.size) := cell_of_row _ _ 10 _ _ _ HM5.out
          have m11 : wc.cell? ⟨mb, 11, none⟩ = some (Value.slice bq1 m.quotas.length dq) := cell_of_row _ _ 11 _ _ _ HM5.out
          have m12 : wc.cell? ⟨mb, 12, none⟩ = some (Value.slice bb1 m.barred.length db) := cell_of_row _ _ 12 _ _ _ HM5.out
          go_wp2_with fail
          refine HPR.out.mono ?_
          rintro e w6 ⟨rfl, hO6⟩
          have HO6 := Lib.hid (HO5.out.trans hO6)
          have HR6 := Lib.hid (row_still hO6 HR5.out)
          have HM6 := Lib.hid (row_still hO6 HM5.out)
          have HD6 := Lib.hid (HD5.out.only hO6 (fun _ _ h => h))
          have HE6 := Lib.hid (HE5.out.only hO6 (fun _ _ h => h))
          clear hO6 HPR m0 m1 m2 m3 m4 m5 m6 m7 m8 m9 m10 m11 m12 e0 e1 e2 e3 e4 e5 e6 e7 e8 e9 e10
          have hmb6 : mb < w6.heap.size := (Array.getElem?_eq_some_iff.1 HM6.out).1
          have hb6 : b < w6.heap.size := (Array.getElem?_eq_some_iff.1 HR6.out).1
          by_cases hr : rightZ m = true
          ·have q : ((printZ m).toList == []) = false := by
            rw [beq_eq_false_iff_ne]
            intro e
            exact HPS.out.2 hr (ba_ext (by rw [← ByteArray.toList_eq, e]; rfl))
           have HTK := Lib.hid (show linesZ p (k + 1) = m by rw [HTN.out]; unfold takeP; rw [if_pos (by rw [hr]; simp)])
           generalize printZ m = pz at *
           clear hr
           go_wp2_with (first
            | (refine wpList_load_row rfl 33 _ rfl mb rfl 33 (drCells m (.slice bt1 m.tiers.length dt) (.slice bp1 m.places.length dp) (.slice bq1 m.quotas.length dq) (.slice bb1 m.barred.length db)) (0, 0) _ HM6.out Tryz.underlying33 rfl Tryz.infoDr ?_)
            | (refine wpList_store_row rfl 33 _ _ rfl b (drCells m (.slice bt1 m.tiers.length dt) (.slice bp1 m.places.length dp) (.slice bq1 m.quotas.length dq) (.slice bb1 m.barred.length db)) rfl rfl 33 _ HR6.out Tryz.infoDr rfl (cells_one _ _ _ _ _ _ _ _ _ _ _ _ _) ?_))
           go_roundw
           case rel => exact ⟨k + 1, (.slice bt1 m.tiers.length dt), (.slice bp1 m.places.length dp), (.slice bq1 m.quotas.length dq), (.slice bb1 m.barred.length db), by go_num, by have := HLT.out; have := H14.out; omega, by rw [HTK.out]; exact setRow_heap _ _ _ _ _ _ HR6.out, by rw [HTK.out]; exact own_rows HD6.out (setRow_heap _ _ _ _ _ _ HR6.out) HR6.out, (HO.out.trans HO6.out).setRow HBL.out _⟩
           case measure => simp [intOf]; have := H14.out; omega
          ·have q : ((printZ m).toList == []) = true := by
            have : printZ m = ByteArray.empty := by unfold printZ; rw [if_neg hr]
            rw [this, ByteArray.toList_eq]; rfl
           have HTK := Lib.hid (show linesZ p (k + 1) = d by rw [HTN.out]; unfold takeP; rw [if_neg (by rw [HWI.out]; simpa using hr)])
           generalize printZ m = pz at *
           clear hr
           go_wp2_with fail
           go_roundw
           case rel => exact ⟨k + 1, (.slice at1 d.tiers.length ct), (.slice ap1 d.places.length cp), (.slice aq1 d.quotas.length cq), (.slice ab1 d.barred.length cb), by go_num, by have := HLT.out; have := H14.out; omega, by rw [HTK.out]; exact HR6.out, by rw [HTK.out]; exact HE6.out, HO.out.trans HO6.out⟩
           case measure => simp [intOf]; have := H14.out; omega
         ·rw [hw] at e10
          have HTK := Lib.hid (show linesZ p (k + 1) = m by rw [HTN.out]; unfold takeP; rw [hw]; rfl)
          clear hw
          go_wp2_with (first
           | (refine wpList_load_row rfl 33 _ rfl mb rfl 33 (drCells m (.slice bt1 m.tiers.length dt) (.slice bp1 m.places.length dp) (.slice bq1 m.quotas.length dq) (.slice bb1 m.barred.length db)) (0, 0) _ HM5.out Tryz.underlying33 rfl Tryz.infoDr ?_)
           | (refine wpList_store_row rfl 33 _ _ rfl b (drCells m (.slice bt1 m.tiers.length dt) (.slice bp1 m.places.length dp) (.slice bq1 m.quotas.length dq) (.slice bb1 m.barred.length db)) rfl rfl 33 _ HR5.out Tryz.infoDr rfl (cells_one _ _ _ _ _ _ _ _ _ _ _ _ _) ?_))
          go_roundw
          case rel => exact ⟨k + 1, (.slice bt1 m.tiers.length dt), (.slice bp1 m.places.length dp), (.slice bq1 m.quotas.length dq), (.slice bb1 m.barred.length db), by go_num, by have := HLT.out; have := H14.out; omega, by rw [HTK.out]; exact setRow_heap _ _ _ _ _ _ HR5.out, by rw [HTK.out]; exact own_rows HD5.out (setRow_heap _ _ _ _ _ _ HR5.out) HR5.out, (HO.out.trans HO5.out).setRow HBL.out _⟩
          case measure => simp [intOf]; have := H14.out; omega
      ·obtain rfl : k = 14 := by omega
       have j1 : ((14 : Nat) : Int) < p.lines.length := by omega
       have HE := Lib.hid (show min p.lines.length 14 = 14 by omega)
       clear hlt hk h14
       go_wp2_with fail
       go_meet
       rw [HE.out]
       exact ⟨_, _, _, _, rfl, HR.out, HD.out, HO.out⟩
     ·obtain rfl : k = p.lines.length := by omega
      have j1 : ¬ (p.lines.length : Int) < p.lines.length := by omega
      have HE := Lib.hid (show min p.lines.length 14 = p.lines.length by omega)
      clear hlt hk
      go_wp2_with fail
      go_meet
      rw [HE.out]
      exact ⟨_, _, _, _, rfl, HR.out, HD.out, HO.out⟩
   case rest =>
    obtain ⟨vt, vp, vq, vx, rfl, hrow, hown, hO⟩ := hcut
    have HR2 := Lib.hid hrow
    have HD2 := Lib.hid hown
    have HO2 := Lib.hid hO
    have HD0 := Lib.hid (lines_ok p H64.out (min p.lines.length 14) (by omega))
    have HB0 := Lib.hid (fun k (h : k ≤ p.barred.length) => bars_ok p H64.out HD0.out k h)
    have HBN := Lib.hid (fun (k : Nat) (h : k < p.barred.length) => bars_next p (linesZ p (min p.lines.length 14)) h)
    have HMZ := Lib.hid (show makeZ p = barsZ p (linesZ p (min p.lines.length 14)) (min p.barred.length 45) from rfl)
    have HN14 := Lib.hid (show min p.lines.length 14 ≤ 14 by omega)
    clear hrow hown hO HD0
    have HB00 := Lib.hid (show barsZ p (linesZ p (min p.lines.length 14)) 0 = linesZ p (min p.lines.length 14) from rfl)
    generalize linesZ p (min p.lines.length 14) = D0 at *
    generalize min p.lines.length 14 = n0 at *
    go_upto_block 4 with (fail)
    go_cut [3] (fun v wx => ∃ vt vp vq vx, v = .pointer (some ⟨b, 0, none⟩) ∧ wx.heap[b]? = some (.cells (drCells (makeZ p) vt vp vq vx) 33 (0, 0)) ∧ DrOwn w1.heap.size wx (makeZ p) vt vp vq vx ∧ Only (fun _ => False) w1 wx)
    case first =>
     go_wp2_with fail
     go_loopw [7] (fun iv wr => ∃ (k : Nat) (vt vp vq vx : Value), iv = .int .i64 k ∧ k ≤ min p.barred.length 45 ∧ wr.heap[b]? = some (.cells (drCells (barsZ p D0 k) vt vp vq vx) 33 (0, 0)) ∧ DrOwn w1.heap.size wr (barsZ p D0 k) vt vp vq vx ∧ Only (fun _ => False) w1 wr) (fun iv _ => 45 - (intOf iv).toNat)
     case atStart => exact ⟨0, vt, vp, vq, vx, rfl, Nat.zero_le _, by rw [HB00.out]; exact HR2.out, by rw [HB00.out]; exact HD2.out, HO2.out⟩
     case round =>
      obtain ⟨k, vt, vp, vq, vx, rfl, hk, hrow, hown, hO⟩ := hrel
      obtain ⟨at1, ct, rfl⟩ := slice_of_own hown.tiers
      obtain ⟨ap1, cp, rfl⟩ := slice_of_own hown.places
      obtain ⟨aq1, cq, rfl⟩ := slice_of_own hown.quotas
      obtain ⟨ab1, cb, rfl⟩ := slice_of_own hown.bars
      obtain ⟨abb, cbb, hvb⟩ := HPL.out.bars.slice
      have HVB := Lib.hid hvb
      have HPB := Lib.hid HPL.out.bars
      have HR := Lib.hid hrow
      have HD := Lib.hid hown
      have HO := Lib.hid hO
      have HZr := Lib.hid (row_still hO HZ0.out)
      have HK := Lib.hid hk
      have HMO := Lib.hid (HB0.out k (by omega))
      clear hrow hown hO
      obtain ⟨e0, e1, e2, e3, e4, e5, e6, e7, e8, e9, e10⟩ := PlS.of HZr.out
      rw [hvb] at e9 HPB
      clear hvb
      have hbr : b < wr.heap.size := (Array.getElem?_eq_some_iff.1 HR.out).1
      have hBr : B < wr.heap.size := (Array.getElem?_eq_some_iff.1 HZr.out).1
      have j0 : 0 ≤ (k : Int) := by omega
      by_cases hlt : k < p.barred.length
      ·by_cases h45 : k < 45
       ·have j1 : (k : Int) < p.barred.length := by omega
        have j2 : (k : Int) < 45 := by omega
        obtain ⟨pb, po, hal, hxb, _, hcb1, hcb2, hx0⟩ := HPB.out.cellAt hlt
        subst hal
        have HOw := Lib.hid (HW1.out.trans HO.out)
        have x0c := HOw.out.cell hx0 id
        have HNX := Lib.hid (HBN.out k hlt)
        have H6x := Lib.hid (H64.out.barred _ (List.getElem_mem hlt))
        have HXE := Lib.hid (show p.barred[k] = ptAt p.barred k by unfold ptAt; simp [List.getD, hlt])
        rw [HXE.out] at HNX H6x
        have HLT := Lib.hid hlt
        have H45 := Lib.hid h45
        have hxr : pb < wr.heap.size := by have := HOw.out.size; omega
        clear hx0 hxb h45 HXE
        generalize ptAt p.barred k = x0 at *
        obtain ⟨d, hd⟩ : ∃ d, barsZ p D0 k = d := ⟨_, rfl⟩
        rw [hd] at HR HD HNX HMO
        clear hd hlt hk
        go_upto_region 27 with (first
         | (refine wpList_load_row rfl 33 _ rfl b rfl 33 (drCells d (.slice at1 d.tiers.length ct) (.slice ap1 d.places.length cp) (.slice aq1 d.quotas.length cq) (.slice ab1 d.barred.length cb)) (0, 0) _ HR.out Tryz.underlying33 rfl Tryz.infoDr ?_)
         | (refine wpList_store_row rfl 33 _ _ rfl wr.heap.size (drCells d (.slice at1 d.tiers.length ct) (.slice ap1 d.places.length cp) (.slice aq1 d.quotas.length cq) (.slice ab1 d.barred.length cb)) rfl rfl 33 _ (heap_alloc_last wr _) Tryz.infoDr rfl (cells_one _ _ _ _ _ _ _ _ _ _ _ _ _) ?_; rw [World.setRow_alloc_new]))
        have HM4 := Lib.hid (heap_alloc_last wr (.cells (drCells d (.slice at1 d.tiers.length ct) (.slice ap1 d.places.length cp) (.slice aq1 d.quotas.length cq) (.slice ab1 d.barred.length cb)) 33))
        have HW4 := Lib.hid ((Only.refl (fun _ => False) wr).alloc (.cells (drCells d (.slice at1 d.tiers.length ct) (.slice ap1 d.places.length cp) (.slice aq1 d.quotas.length cq) (.slice ab1 d.barred.length cb)) 33))
        have e9c4 := HW4.out.cell e9 id
        have x0c4 := HW4.out.cell x0c id
        generalize World.alloc wr _ = w4 at *
        obtain ⟨mb, hmb⟩ : ∃ n, wr.heap.size = n := ⟨_, rfl⟩
        have hor := HO.out.size
        have HMB := Lib.hid (show wr.heap.size ≤ mb ∧ w1.heap.size ≤ mb from by omega)
        rw [hmb] at HM4 ⊢
        have HR4 := Lib.hid (row_still HW4.out HR.out)
        have HZ4 := Lib.hid (row_still HW4.out HZr.out)
        have HD4 := Lib.hid (HD.out.only HW4.out (fun _ _ h => h))
        have hmb4 : mb < w4.heap.size := (Array.getElem?_eq_some_iff.1 HM4.out).1
        have hbr4 : b < w4.heap.size := (Array.getElem?_eq_some_iff.1 HR4.out).1
        have hB4 : B < w4.heap.size := (Array.getElem?_eq_some_iff.1 HZ4.out).1
        have HL4 := Lib.hid (show d.tiers.length ≤ 100 ∧ d.places.length ≤ 100 ∧ d.quotas.length ≤ 100 ∧ d.barred.length ≤ 100 from by have h1 := HMO.out.len; have h2 := HMO.out.bar; have h3 := H45.out; have h4 := HN14.out; omega)
        clear hmb hor e0 e1 e2 e3 e4 e5 e6 e7 e8 e9 e10 x0c
        obtain ⟨m, hm⟩ : ∃ m, moreB p d x0 = m := ⟨_, rfl⟩
        have HMM := Lib.hid hm
        clear hm
        dsimp only [Act.put]
        go_cut [] (fun wx => ∃ ut up uq ub, wx.heap[mb]? = some (.cells (drCells m ut up uq ub) 33 (0, 0)) ∧ DrOwn w1.heap.size wx m ut up uq ub ∧ Only (fun _ => False) wr wx)
        case first =>
         as_aux_lemma =>
          have HEQ := Lib.hid (show m = { d with barred := d.barred ++ [nbZ p.wild x0] } by rw [← HMM.out]; rfl)
          have HLN := Lib.hid (show d.barred.length ≤ 100 by have := HL4.out; omega)
          obtain ⟨i0, hi, hz0, hz1, hz2⟩ := info_parts Tryz.infoI
          have HI := Lib.hid hi
          have HI0 := Lib.hid hz0
          have HI1 := Lib.hid hz1
          have HI2 := Lib.hid hz2
          clear hi hz0 hz1 hz2
          refine wp_region_split2 13 (by kernel_rfl) (by kernel_rfl) (wpAny_of_held (S := fun W => Only (fun _ => False) w4.drew W) _ _ _ _ ?_)
          simp only [List.take_succ_cons, List.take_zero]
          change wpAnyH _ _ _ _ _ _ _ _ w4.drew
          have HKS := Lib.hid (show ∀ W, Only (fun _ => False) w4.drew W → PlS B p vl vb W ∧ W.cell? ⟨b, 12, none⟩ = some (Value.slice ab1 d.barred.length cb) ∧ W.cell? ⟨pb, po + k, none⟩ = some (.int .i64 x0) ∧ W.cell? ⟨B, 9, none⟩ = some (.slice (some ⟨pb, po, none⟩) p.barred.length cbb) ∧ W.cell? ⟨B, 10, none⟩ = some (.bool p.wild) from fun W hW => ⟨PlS.only (PlS.of (row_still (Only.refl _ w4).drew HZ4.out)) hW, hW.cell (cell_of_row w4.drew b 12 _ _ _ HR4.out) id, hW.cell (show w4.drew.cell? ⟨pb, po + k, none⟩ = some (.int .i64 x0) from x0c4) id, hW.cell (show w4.drew.cell? ⟨B, 9, none⟩ = some (.slice (some ⟨pb, po, none⟩) p.barred.length cbb) from e9c4) id, hW.cell (cell_of_row w4.drew B 10 _ _ _ HZ4.out) id⟩)
          have HT := Lib.hid (owns_drew HD4.out.bars)
          have hHeld : Only (fun _ => False) w4.drew w4.drew := Only.refl _ _
          have HOX := Lib.hid hHeld
          have hsd : w4.drew.heap.size = w4.heap.size := rfl
          obtain ⟨wd, hwd⟩ : ∃ wd, w4.drew = wd := ⟨_, rfl⟩
          rw [hwd] at HKS HT hHeld HOX hsd ⊢
          have HSD := Lib.hid hsd
          clear hsd
          refine' wpAnyH_take (i := 1) (v := _) rfl (by kernel_rfl) (by kernel_rfl) (by kernel_rfl) (fun _ _ _ h => h) (Or.inl ⟨by rfl, ?hy4x1⟩) hHeld ?r4x1
          case hy4x1 => (intro w hSw; obtain ⟨⟨s0, s1, s2, s3, s4, s5, s6, s7, s8, -, s10⟩, d0, y0, y1, y2⟩ := HKS.out _ hSw; go_simp; with_reducible rfl)
          try simp only [Act.put, List.getElem_toArray, List.getElem_cons_zero, List.getElem_cons_succ, List.setIfInBounds_toArray, List.set_cons_zero, List.set_cons_succ]
          refine' wpAnyH_take (i := 2) (v := _) rfl (by kernel_rfl) (by kernel_rfl) (by kernel_rfl) (fun _ _ _ h => h) (Or.inl ⟨by rfl, ?hy4x2⟩) hHeld ?r4x2
          case hy4x2 => (intro w hSw; obtain ⟨⟨s0, s1, s2, s3, s4, s5, s6, s7, s8, -, s10⟩, d0, y0, y1, y2⟩ := HKS.out _ hSw; go_simp; with_reducible rfl)
          try simp only [Act.put, List.getElem_toArray, List.getElem_cons_zero, List.getElem_cons_succ, List.setIfInBounds_toArray, List.set_cons_zero, List.set_cons_succ]
          refine' wpAnyH_take (i := 4) (v := _) rfl (by kernel_rfl) (by kernel_rfl) (by kernel_rfl) (fun _ _ _ h => h) (Or.inl ⟨by rfl, ?hy4x4⟩) hHeld ?r4x4
          case hy4x4 => (intro w hSw; obtain ⟨⟨s0, s1, s2, s3, s4, s5, s6, s7, s8, -, s10⟩, d0, y0, y1, y2⟩ := HKS.out _ hSw; go_simp; with_reducible rfl)
          try simp only [Act.put, List.getElem_toArray, List.getElem_cons_zero, List.getElem_cons_succ, List.setIfInBounds_toArray, List.set_cons_zero, List.set_cons_succ]
          refine' wpAnyH_take (i := 5) (v := _) rfl (by kernel_rfl) (by kernel_rfl) (by kernel_rfl) (fun _ _ _ h => h) (Or.inl ⟨by rfl, ?hy4x5⟩) hHeld ?r4x5
          case hy4x5 => (intro w hSw; obtain ⟨⟨s0, s1, s2, s3, s4, s5, s6, s7, s8, -, s10⟩, d0, y0, y1, y2⟩ := HKS.out _ hSw; go_simp; with_reducible rfl)
          try simp only [Act.put, List.getElem_toArray, List.getElem_cons_zero, List.getElem_cons_succ, List.setIfInBounds_toArray, List.set_cons_zero, List.set_cons_succ]
          refine' wpAnyH_take (i := 6) (v := _) rfl (by kernel_rfl) (by kernel_rfl) (by kernel_rfl) (fun _ _ _ h => h) (Or.inl ⟨by rfl, ?hy4x6⟩) hHeld ?r4x6
          case hy4x6 => (intro w hSw; obtain ⟨⟨s0, s1, s2, s3, s4, s5, s6, s7, s8, -, s10⟩, d0, y0, y1, y2⟩ := HKS.out _ hSw; go_simp; with_reducible rfl)
          try simp only [Act.put, List.getElem_toArray, List.getElem_cons_zero, List.getElem_cons_succ, List.setIfInBounds_toArray, List.set_cons_zero, List.set_cons_succ]
          refine' wpAnyH_take (i := 7) (v := _) rfl (by kernel_rfl) (by kernel_rfl) (by kernel_rfl) (fun _ _ _ h => h) (Or.inl ⟨by rfl, ?hy4x7⟩) hHeld ?r4x7
          case hy4x7 => (intro w hSw; obtain ⟨⟨s0, s1, s2, s3, s4, s5, s6, s7, s8, -, s10⟩, d0, y0, y1, y2⟩ := HKS.out _ hSw; go_simp; with_reducible rfl)
          try simp only [Act.put, List.getElem_toArray, List.getElem_cons_zero, List.getElem_cons_succ, List.setIfInBounds_toArray, List.set_cons_zero, List.set_cons_succ]
          refine' wpAnyH_take (i := 8) (v := _) rfl (by kernel_rfl) (by kernel_rfl) (by kernel_rfl) (fun _ _ _ h => h) (Or.inl ⟨by rfl, ?hy4x8⟩) hHeld ?r4x8
          case hy4x8 => (intro w hSw; obtain ⟨⟨s0, s1, s2, s3, s4, s5, s6, s7, s8, -, s10⟩, d0, y0, y1, y2⟩ := HKS.out _ hSw; go_simp; with_reducible rfl)
          try simp only [Act.put, List.getElem_toArray, List.getElem_cons_zero, List.getElem_cons_succ, List.setIfInBounds_toArray, List.set_cons_zero, List.set_cons_succ]
          refine' wpAnyH_take (i := 9) (v := _) rfl (by kernel_rfl) (by kernel_rfl) (by kernel_rfl) (fun _ _ _ h => h) (Or.inl ⟨by rfl, ?hy4x9⟩) hHeld ?r4x9
          case hy4x9 => (intro w hSw; obtain ⟨⟨s0, s1, s2, s3, s4, s5, s6, s7, s8, -, s10⟩, d0, y0, y1, y2⟩ := HKS.out _ hSw; go_simp; with_reducible rfl)
          try simp only [Act.put, List.getElem_toArray, List.getElem_cons_zero, List.getElem_cons_succ, List.setIfInBounds_toArray, List.set_cons_zero, List.set_cons_succ]
          refine wpAnyH_ready (rs := [0]) (by kernel_rfl) (by simp) ?_
          refine AllReadyH.cons rfl (fun K hK => ?_) AllReadyH.nil
          go_simp
          have HST := Lib.hid ((Only.refl (fun _ => False) wd).alloc (.cells #[] 3))
          have HE := Lib.hid (World.ownsRow_made (e := 3) (base := wd.heap.size) (size := 1) wd #[] 0 (Nat.le_refl _) (Nat.zero_le _) rfl)
          have HOX := Lib.hid (HOX.out.trans HST.out)
          have HT := Lib.hid (HST.out.owns HT.out (fun _ _ h => h))
          refine hK.out _ _ HOX.out (fun hHeld => ?_)
          clear hK K
          try simp only [Act.put, List.getElem_toArray, List.getElem_cons_zero, List.getElem_cons_succ, List.setIfInBounds_toArray, List.set_cons_zero, List.set_cons_succ]
          generalize (wd.alloc (.cells #[] 3)) = v1 at *
          obtain ⟨gd, hgd⟩ : ∃ n, wd.heap.size = n := ⟨_, rfl⟩
          rw [hgd] at HE HSD ⊢
          have HGD := Lib.hid hgd
          clear hgd
          clear HST
          refine wpAnyH_ready (rs := [3]) (by kernel_rfl) (by simp) ?_
          refine AllReadyH.cons rfl (fun K hK => ?_) AllReadyH.nil
          have hsz1 := HOX.out.size
          refine step_append_row rfl _ _ 24 rfl gd w1.heap.size 3 i0 _ 1 8 Tryz.underlying24 HI.out HI0.out HI1.out HI2.out rfl (by decide) _ 0 [] (by rfl) HE.out _ d.barred.length (irow d.barred) (by rfl) HT.out (irow_oneR _) (by have := HLN.out; unfold maxLen; omega) (by have := HLN.out; omega) (by have := HGD.out; omega) ?_
          intro u1 v2 hown hgrow
          rw [Nat.zero_add, List.nil_append] at hown
          have HA := Lib.hid hown
          have HOX := Lib.hid (HOX.out.trans' (S := fun _ => False) ((Only.refl _ _).grown hgrow (fun i e _ => e)) (fun i hi e => by have := ownR_ge HE.out e; have := HGD.out; omega))
          clear HE HT hown hgrow hsz1
          refine hK.out _ _ HOX.out (fun hHeld => ?_)
          clear hK K
          try simp only [Act.put, List.getElem_toArray, List.getElem_cons_zero, List.getElem_cons_succ, List.setIfInBounds_toArray, List.set_cons_zero, List.set_cons_succ]
          refine wpAnyH_ready (rs := [10]) (by kernel_rfl) (by simp) ?_
          refine AllReadyH.cons rfl (fun K hK => ?_) AllReadyH.nil
          go_simp
          refine (number_any13 p _ _ x0 _).mono ?_
          rintro e v3 ⟨rfl, hST⟩
          have HOX := Lib.hid (HOX.out.trans hST)
          have HA := Lib.hid (hST.owns HA.out (fun _ _ h => h))
          refine hK.out _ _ HOX.out (fun hHeld => ?_)
          clear hK K
          try simp only [Act.put, List.getElem_toArray, List.getElem_cons_zero, List.getElem_cons_succ, List.setIfInBounds_toArray, List.set_cons_zero, List.set_cons_succ]
          clear hST
          refine wpAnyH_ready (rs := [11]) (by kernel_rfl) (by simp) ?_
          refine AllReadyH.cons rfl (fun K hK => ?_) AllReadyH.nil
          go_simp
          have HST := Lib.hid ((Only.refl (fun _ => False) v3).alloc (.cells #[.int .i64 (nbZ p.wild x0)] 3))
          have HN := Lib.hid (show (v3.alloc (.cells #[.int .i64 (nbZ p.wild x0)] 3)).ownsRow v3.heap.size 3 1 (.slice (some ⟨v3.heap.size, 0, none⟩) 1 1) 1 [.int .i64 (nbZ p.wild x0)] from own_newN v3 3 1 1 [.int .i64 (nbZ p.wild x0)] rfl (by decide))
          have HOX := Lib.hid (HOX.out.trans HST.out)
          have HA := Lib.hid (HST.out.owns HA.out (fun _ _ h => h))
          refine hK.out _ _ HOX.out (fun hHeld => ?_)
          clear hK K
          try simp only [Act.put, List.getElem_toArray, List.getElem_cons_zero, List.getElem_cons_succ, List.setIfInBounds_toArray, List.set_cons_zero, List.set_cons_succ]
          generalize (v3.alloc _) = v8 at *
          generalize v3.heap.size = g8 at *
          clear HST
          refine wpAnyH_ready (rs := [12]) (by kernel_rfl) (by simp) ?_
          refine AllReadyH.cons rfl (fun K hK => ?_) AllReadyH.nil
          have hsz1 := HOX.out.size
          refine step_append_row rfl _ _ 24 rfl gd g8 3 i0 _ 1 8 Tryz.underlying24 HI.out HI0.out HI1.out HI2.out rfl (by decide) _ d.barred.length (irow d.barred) (by rfl) HA.out _ 1 [.int .i64 (nbZ p.wild x0)] (by rfl) HN.out (one_oneR _ rfl) (by have := HLN.out; unfold maxLen; omega) (by have := HLN.out; omega) (by have := HGD.out; omega) ?_
          intro u2 v9 hown hgrow
          obtain ⟨na, nc, rfl⟩ := slice_of_own hown
          have HB := Lib.hid hown
          have HOX := Lib.hid (HOX.out.trans' (S := fun _ => False) ((Only.refl _ _).grown hgrow (fun i e _ => e)) (fun i hi e => by have := ownR_ge HA.out e; have := HGD.out; omega))
          clear HA HN hown hgrow hsz1
          refine hK.out _ _ HOX.out (fun hHeld => ?_)
          clear hK K
          try simp only [Act.put, List.getElem_toArray, List.getElem_cons_zero, List.getElem_cons_succ, List.setIfInBounds_toArray, List.set_cons_zero, List.set_cons_succ]
          refine wpAnyH_done (by kernel_rfl) ?_ _
          simp only [headPost, List.drop_succ_cons, List.drop_zero]
          have HOW := Lib.hid (((Only.refl (fun _ => False) w4).drew).trans (hwd ▸ HOX.out))
          clear hHeld HKS HOX
          have HM9 := Lib.hid (row_still HOW.out HM4.out)
          have f12 : v9.frozen? ⟨mb, 12, none⟩ = false := frozen_of_row _ _ _ _ _ HM9.out
          have m12 : v9.cell? ⟨mb, 12, none⟩ = some (Value.slice ab1 d.barred.length cb) := cell_of_row _ _ 12 _ _ _ HM9.out
          have hmb9 : mb < v9.heap.size := (Array.getElem?_eq_some_iff.1 HM9.out).1
          go_wp2_with fail
          go_meet
          refine ⟨(.slice at1 d.tiers.length ct), (.slice ap1 d.places.length cp), (.slice aq1 d.quotas.length cq), (.slice na (d.barred.length + 1) nc), ?_, ⟨(by rw [HEQ.out]; exact set_own (HOW.out.owns HD4.out.tiers (fun _ _ h => h)) (fun e => by have := ownR_blk (HOW.out.owns HD4.out.tiers (fun _ _ h => h)) HM9.out (by decide); exact this e)), (by rw [HEQ.out]; exact set_own (HOW.out.owns HD4.out.places (fun _ _ h => h)) (fun e => by have := ownR_blk (HOW.out.owns HD4.out.places (fun _ _ h => h)) HM9.out (by decide); exact this e)), (by rw [HEQ.out]; exact set_own (HOW.out.owns HD4.out.quotas (fun _ _ h => h)) (fun e => by have := ownR_blk (HOW.out.owns HD4.out.quotas (fun _ _ h => h)) HM9.out (by decide); exact this e)), (by rw [HEQ.out]; show World.ownsRow _ _ _ _ _ (d.barred ++ [_]).length (irow (d.barred ++ [_])); rw [List.length_append, irow_app]; exact set_own (ownR_base HB.out (by have := HSD.out; have := HW4.out.size; have := HO.out.size; omega)) (fun e => by have := ownR_blk HB.out HM9.out (by decide); exact this e))⟩, ?_⟩
          ·refine (heap_setCell_same v9 mb 12 _ _ _ HM9.out).trans ?_
           rw [HEQ.out]; rfl
          ·exact (HW4.out.trans HOW.out).setCell (.inr (by have := HMB.out; show wr.heap.size ≤ mb; omega)) _
        case rest =>
         obtain ⟨ut, up, uq, ub, hmr, hmd, hO5⟩ := hcut
         obtain ⟨bt1, dt, rfl⟩ := slice_of_own hmd.tiers
         obtain ⟨bp1, dp, rfl⟩ := slice_of_own hmd.places
         obtain ⟨bq1, dq, rfl⟩ := slice_of_own hmd.quotas
         obtain ⟨bb1, db, rfl⟩ := slice_of_own hmd.bars
         have HM5 := Lib.hid hmr
         have HD5 := Lib.hid hmd
         have HO5 := Lib.hid hO5
         have HR5 := Lib.hid (row_still hO5 HR.out)
         have HE5 := Lib.hid (HD.out.only hO5 (fun _ _ h => h))
         have HZ5 := Lib.hid (row_still hO5 HZr.out)
         have HMT := Lib.hid (show MkTry n0 (k + 1) m from HMM.out ▸ moreB_try HMO.out.try' _ H6x.out)
         have HLT2 := Lib.hid (show n0 ≤ 14 ∧ k + 1 ≤ 45 from by have := H45.out; have := HN14.out; omega)
         rw [HMM.out] at HNX
         clear hmr hmd hO5 HR4 HZ4 HD4 HM4 HW4 e9c4 x0c4
         obtain ⟨e0, e1, e2, e3, e4, e5, e6, e7, e8, e9, e10⟩ := PlS.of HZ5.out
         have hmb5 : mb < wc.heap.size := (Array.getElem?_eq_some_iff.1 HM5.out).1
         have hbr5 : b < wc.heap.size := (Array.getElem?_eq_some_iff.1 HR5.out).1
         have hB5 : B < wc.heap.size := (Array.getElem?_eq_some_iff.1 HZ5.out).1
         clear hmb4 hbr4 hB4 hbr hBr
         have HTN := Lib.hid HNX.out
         as_aux_lemma =>
          cases hw : p.wild
          ·rw [hw] at e10
           have HWI := Lib.hid hw
           have HPR := Lib.hid (rprint13_any m (.slice bt1 m.tiers.length dt) (.slice bp1 m.places.length dp) (.slice bq1 m.quotas.length dq) (.slice bb1 m.barred.length db) w1.heap.size wc HD5.out HMT.out.short HMT.out.nums (by have h1 := HMT.out.len; have h2 := HMT.out.bar; have h3 := HLT2.out; omega))
           have HPS := Lib.hid (print_some (d := m))
           clear hw
           have m0 : wc.cell? ⟨mb, 0, none⟩ = some (Value.string m.name) := cell_of_row _ _ 0 _ _ _ HM5.out
           have m1 : wc.cell? ⟨mb, 1, none⟩ = some (Value.int .i64 m.kind) := cell_of_row _ _ 1 _ _ _ HM5.out
           have m2 : wc.cell? ⟨mb, 2, none⟩ = some (Value.int .i64 m.round) := cell_of_row _ _ 2 _ _ _ HM5.out
           have m3 : wc.cell? ⟨mb, 3, none⟩ = some (Value.int .i64 m.price) := cell_of_row _ _ 3 _ _ _ HM5.out
           have m4 : wc.cell? ⟨mb, 4, none⟩ = some (Value.int .i64 m.pool) := cell_of_row _ _ 4 _ _ _ HM5.out
           have m5 : wc.cell? ⟨mb, 5, none⟩ = some (Value.int .i64 m.pick) := cell_of_row _ _ 5 _ _ _ HM5.out
           have m6 : wc.cell? ⟨mb, 6, none⟩ = some (Value.slice bt1 m.tiers.length dt) := cell_of_row _ _ 6 _ _ _ HM5.out
           have m7 : wc.cell? ⟨mb, 7, none⟩ = some (Value.bool m.roll) := cell_of_row _ _ 7 _ _ _ HM5.out
           have m8 : wc.cell? ⟨mb, 8, none⟩ = some (Value.slice bp1 m.places.length dp) := cell_of_row _ _ 8 _ _ _ HM5.out
           have m9 : wc.cell? ⟨mb, 9, none⟩ = some (Value.int .i64 m.cls) := cell_of_row _ _ 9 _ _ _ HM5.out
           have m10 : wc.cell? ⟨mb, 10, none⟩ = some (Value.int .i64 m.size) := cell_of_row _ _ 10 _ _ _ HM5.out
           have m11 : wc.cell? ⟨mb, 11, none⟩ = some (Value.slice bq1 m.quotas.length dq) := cell_of_row _ _ 11 _ _ _ HM5.out
           have m12 : wc.cell? ⟨mb, 12, none⟩ = some (Value.slice bb1 m.barred.length db) := cell_of_row _ _ 12 _ _ _ HM5.out
           go_wp2_with fail
           refine HPR.out.mono ?_
           rintro e w6 ⟨rfl, hO6⟩
           have HO6 := Lib.hid (HO5.out.trans hO6)
           have HR6 := Lib.hid (row_still hO6 HR5.out)
           have HM6 := Lib.hid (row_still hO6 HM5.out)
           have HD6 := Lib.hid (HD5.out.only hO6 (fun _ _ h => h))
           have HE6 := Lib.hid (HE5.out.only hO6 (fun _ _ h => h))
           clear hO6 HPR m0 m1 m2 m3 m4 m5 m6 m7 m8 m9 m10 m11 m12 e0 e1 e2 e3 e4 e5 e6 e7 e8 e9 e10
           have hmb6 : mb < w6.heap.size := (Array.getElem?_eq_some_iff.1 HM6.out).1
           have hb6 : b < w6.heap.size := (Array.getElem?_eq_some_iff.1 HR6.out).1
           by_cases hr : rightZ m = true
           ·have q : ((printZ m).toList == []) = false := by
             rw [beq_eq_false_iff_ne]
             intro e
             exact HPS.out.2 hr (ba_ext (by rw [← ByteArray.toList_eq, e]; rfl))
            have HTK := Lib.hid (show barsZ p D0 (k + 1) = m by rw [HTN.out]; unfold takeP; rw [if_pos (by rw [hr]; simp)])
            generalize printZ m = pz at *
            clear hr
            go_wp2_with (first
             | (refine wpList_load_row rfl 33 _ rfl mb rfl 33 (drCells m (.slice bt1 m.tiers.length dt) (.slice bp1 m.places.length dp) (.slice bq1 m.quotas.length dq) (.slice bb1 m.barred.length db)) (0, 0) _ HM6.out Tryz.underlying33 rfl Tryz.infoDr ?_)
             | (refine wpList_store_row rfl 33 _ _ rfl b (drCells m (.slice bt1 m.tiers.length dt) (.slice bp1 m.places.length dp) (.slice bq1 m.quotas.length dq) (.slice bb1 m.barred.length db)) rfl rfl 33 _ HR6.out Tryz.infoDr rfl (cells_one _ _ _ _ _ _ _ _ _ _ _ _ _) ?_))
            go_roundw
            case rel => exact ⟨k + 1, (.slice bt1 m.tiers.length dt), (.slice bp1 m.places.length dp), (.slice bq1 m.quotas.length dq), (.slice bb1 m.barred.length db), by go_num, by have := HLT.out; have := H45.out; omega, by rw [HTK.out]; exact setRow_heap _ _ _ _ _ _ HR6.out, by rw [HTK.out]; exact own_rows HD6.out (setRow_heap _ _ _ _ _ _ HR6.out) HR6.out, (HO.out.trans HO6.out).setRow HBL.out _⟩
            case measure => simp [intOf]; have := H45.out; omega
           ·have q : ((printZ m).toList == []) = true := by
             have : printZ m = ByteArray.empty := by unfold printZ; rw [if_neg hr]
             rw [this, ByteArray.toList_eq]; rfl
            have HTK := Lib.hid (show barsZ p D0 (k + 1) = d by rw [HTN.out]; unfold takeP; rw [if_neg (by rw [HWI.out]; simpa using hr)])
            generalize printZ m = pz at *
            clear hr
            go_wp2_with fail
            go_roundw
            case rel => exact ⟨k + 1, (.slice at1 d.tiers.length ct), (.slice ap1 d.places.length cp), (.slice aq1 d.quotas.length cq), (.slice ab1 d.barred.length cb), by go_num, by have := HLT.out; have := H45.out; omega, by rw [HTK.out]; exact HR6.out, by rw [HTK.out]; exact HE6.out, HO.out.trans HO6.out⟩
            case measure => simp [intOf]; have := H45.out; omega
          ·rw [hw] at e10
           have HTK := Lib.hid (show barsZ p D0 (k + 1) = m by rw [HTN.out]; unfold takeP; rw [hw]; rfl)
           clear hw
           go_wp2_with (first
            | (refine wpList_load_row rfl 33 _ rfl mb rfl 33 (drCells m (.slice bt1 m.tiers.length dt) (.slice bp1 m.places.length dp) (.slice bq1 m.quotas.length dq) (.slice bb1 m.barred.length db)) (0, 0) _ HM5.out Tryz.underlying33 rfl Tryz.infoDr ?_)
            | (refine wpList_store_row rfl 33 _ _ rfl b (drCells m (.slice bt1 m.tiers.length dt) (.slice bp1 m.places.length dp) (.slice bq1 m.quotas.length dq) (.slice bb1 m.barred.length db)) rfl rfl 33 _ HR5.out Tryz.infoDr rfl (cells_one _ _ _ _ _ _ _ _ _ _ _ _ _) ?_))
           go_roundw
           case rel => exact ⟨k + 1, (.slice bt1 m.tiers.length dt), (.slice bp1 m.places.length dp), (.slice bq1 m.quotas.length dq), (.slice bb1 m.barred.length db), by go_num, by have := HLT.out; have := H45.out; omega, by rw [HTK.out]; exact setRow_heap _ _ _ _ _ _ HR5.out, by rw [HTK.out]; exact own_rows HD5.out (setRow_heap _ _ _ _ _ _ HR5.out) HR5.out, (HO.out.trans HO5.out).setRow HBL.out _⟩
           case measure => simp [intOf]; have := H45.out; omega
       ·obtain rfl : k = 45 := by omega
        have j1 : ((45 : Nat) : Int) < p.barred.length := by omega
        have HE := Lib.hid (show makeZ p = barsZ p D0 45 by rw [HMZ.out]; congr 1; omega)
        clear hlt hk h45
        go_wp2_with fail
        go_meet
        rw [HE.out]
        exact ⟨_, _, _, _, rfl, HR.out, HD.out, HO.out⟩
      ·obtain rfl : k = p.barred.length := by omega
       have j1 : ¬ (p.barred.length : Int) < p.barred.length := by omega
       have HE := Lib.hid (show makeZ p = barsZ p D0 p.barred.length by rw [HMZ.out]; congr 1; omega)
       clear hlt hk
       go_wp2_with fail
       go_meet
       rw [HE.out]
       exact ⟨_, _, _, _, rfl, HR.out, HD.out, HO.out⟩
    case rest =>
     obtain ⟨vt, vp, vq, vx, rfl, hrow, hown, hO⟩ := hcut
     obtain ⟨at1, ct, rfl⟩ := slice_of_own hown.tiers
     obtain ⟨ap1, cp, rfl⟩ := slice_of_own hown.places
     obtain ⟨aq1, cq, rfl⟩ := slice_of_own hown.quotas
     obtain ⟨ab1, cb, rfl⟩ := slice_of_own hown.bars
     have HR9 := Lib.hid hrow
     have HD9 := Lib.hid hown
     have HO9 := Lib.hid hO
     have HP9 := Lib.hid (row_still hO HP0.out)
     clear hrow hown hO
     go_wp2_with (first
      | (refine wpList_load_row rfl 33 _ rfl b rfl 33 (drCells (makeZ p) (.slice at1 (makeZ p).tiers.length ct) (.slice ap1 (makeZ p).places.length cp) (.slice aq1 (makeZ p).quotas.length cq) (.slice ab1 (makeZ p).barred.length cb)) (0, 0) _ HR9.out Tryz.underlying33 rfl Tryz.infoDr ?_)
      | (refine wpList_store_row rfl 33 _ _ rfl (B + 1) (drCells (makeZ p) (.slice at1 (makeZ p).tiers.length ct) (.slice ap1 (makeZ p).places.length cp) (.slice aq1 (makeZ p).quotas.length cq) (.slice ab1 (makeZ p).barred.length cb)) rfl rfl 33 _ HP9.out Tryz.infoDr rfl (cells_one _ _ _ _ _ _ _ _ _ _ _ _ _) ?_))
     exact bodyPost_ret (v := .agg (drCells (makeZ p) (.slice at1 (makeZ p).tiers.length ct) (.slice ap1 (makeZ p).places.length cp) (.slice aq1 (makeZ p).quotas.length cq) (.slice ab1 (makeZ p).barred.length cb))) (results_cell_row rfl _ _ (B + 1) 33 (drCells (makeZ p) (.slice at1 (makeZ p).tiers.length ct) (.slice ap1 (makeZ p).places.length cp) (.slice aq1 (makeZ p).quotas.length cq) (.slice ab1 (makeZ p).barred.length cb)) (0, 0) _ rfl (setRow_heap _ _ _ _ _ _ HP9.out) Tryz.underlying33 rfl Tryz.infoDr) rfl ⟨(.slice at1 (makeZ p).tiers.length ct), (.slice ap1 (makeZ p).places.length cp), (.slice aq1 (makeZ p).quotas.length cq), (.slice ab1 (makeZ p).barred.length cb), rfl, DrOwn.base (base' := w.heap.size) (own_rows HD9.out (setRow_heap _ _ _ _ _ _ HP9.out) HP9.out) (show w.heap.size ≤ w1.heap.size by omega), (HW1.out.trans HO9.out).setRow (by rw [hB]; omega) _⟩
end Go.Proofs.YteikkpiginfbkaaGreatDoor
