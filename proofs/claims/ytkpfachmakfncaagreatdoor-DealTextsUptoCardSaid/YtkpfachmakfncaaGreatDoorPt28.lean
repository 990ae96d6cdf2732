/-
  The walk of the law DealTexts.
-/
import Derived.Test.YtkpfachmakfncaaGreatDoorPt27
import Derived.Test.YtkpfachmakfncaaGreatDoorPt23
import Derived.Test.YtkpfachmakfncaaGreatDoorPt17
import Derived.Test.YtkpfachmakfncaaGreatDoorPt19
import Derived.Test.YtkpfachmakfncaaGreatDoorPt18
namespace Go.Proofs.YtkpfachmakfncaaGreatDoor
open Go.RowKit

/-- The dealing that the law makes. -/
structure XAt (w wr : World) (B : Nat) (vc vb : Value) (L : List Int) (p : Int) (X : List ByteArray) : Prop where
  blk : wr.heap[B]? = some (.cells #[vc, .int .i64 p, vb] 25 (0, 0))
  cm : wr.ownsRow w.heap.size 3 1 vc L.length (irow L)
  ne : ∀ g, vc.ownBlock = some g → g ≠ B
  apart : ∀ g, vc.ownBlock = some g → vb.ownBlock ≠ some g
  own : wr.ownsRow (B + 1) 9 1 vb X.length (srowS X)
  low : w.heap.size ≤ B
  only : Only (fun _ => False) w wr
theorem XAt.later {w wr wz : World} {B : Nat} {vc vb : Value} {L : List Int} {p : Int} {X : List ByteArray} (h : XAt w wr B vc vb L p X) (hO : Only (fun _ => False) wr wz) : XAt w wz B vc vb L p X :=
  ⟨row_still hO h.blk, hO.owns h.cm (fun _ _ h => h), h.ne, h.apart, hO.owns h.own (fun _ _ h => h), h.low, h.only.trans hO⟩
theorem XAt.slices {w wr : World} {B : Nat} {vc vb : Value} {L : List Int} {p : Int} {X : List ByteArray} (h : XAt w wr B vc vb L p X) : ∃ a k b l, vc = .slice a L.length k ∧ vb = .slice b X.length l := by
  obtain ⟨a, k, e1⟩ := slice_of_own h.cm
  obtain ⟨b, l, e2⟩ := slice_of_own h.own
  exact ⟨a, k, b, l, e1, e2⟩
theorem XAt.at {w wr : World} {B : Nat} {vc vb : Value} {L : List Int} {p : Int} {X : List ByteArray} (h : XAt w wr B vc vb L p X) (hL : L.length ≤ 1000000) (hX : X.length ≤ 1000000) : DlAt wr vc (.int .i64 p) vb ⟨L, p, X⟩ :=
  ⟨pts_of_own h.cm (Nat.le_trans hL (by decide)), rfl, strs_of_own h.own (Nat.le_trans hX (by decide))⟩
theorem XAt.box {w wr wz w1 : World} {B k : Nat} {vc vb : Value} {L : List Int} {p : Int} {X : List ByteArray} {s : ByteArray} (h : XAt w wr B vc vb L p X) (hk : X.length = k) {g cap : Nat} (hO0 : Only (fun _ => False) wr wz)
    (hown : w1.ownsRow (B + 1) 9 1 (.slice (some ⟨g, 0, none⟩) (k + 1) cap) (k + 1) (srowS X ++ [.string s])) (hg : wz.grownBy w1 vb.ownBlock) (hat : vb.ownBlock = some g ∨ g = wz.heap.size) :
    w1.heap[B]? = some (.cells #[vc, .int .i64 p, vb] 25 (0, 0)) ∧ XAt w (w1.setCell ⟨B, 2, none⟩ (.slice (some ⟨g, 0, none⟩) (k + 1) cap)) B vc (.slice (some ⟨g, 0, none⟩) (k + 1) cap) L p (X ++ [s]) := by
  subst hk
  have hlt := (Array.getElem?_eq_some_iff.1 h.blk).1
  have hO : Only (fun i => vb.ownBlock = some i) wz w1 := (Only.refl _ _).grown hg (fun i e _ => e)
  have hne : vb.ownBlock ≠ some B := fun e => by have := own_low' h.own e; omega
  have hblk : w1.heap[B]? = some (.cells #[vc, .int .i64 p, vb] 25 (0, 0)) := (hO.block B (by have := hO0.size; omega) hne).trans ((hO0.block B hlt (fun h => h)).trans h.blk)
  have hgb : (Value.slice (some ⟨g, 0, none⟩) (X.length + 1) cap).ownBlock = some g := rfl
  have hgl : B + 1 ≤ g := own_low' hown hgb
  refine ⟨hblk, (heap_set3 hblk _).2, ?_, h.ne, ?_, ?_, h.low, ?_⟩
  · exact ownsRow_setCell_other (hO.owns (hO0.owns h.cm (fun _ _ h => h)) (fun i hi e => h.apart i hi e)) (fun e => h.ne B e rfl) _
  · intro i hi he
    rw [hgb] at he
    obtain rfl : g = i := by simpa using he
    rcases hat with hat | hat
    · exact h.apart g hi hat
    · have := (own_lt h.cm hi).1; have := hO0.size; omega
  · rw [List.length_append, List.length_singleton, srowS_append]
    exact ownsRow_setCell_other hown (by rw [hgb]; simp; omega) _
  · refine ((h.only.trans hO0).trans' hO (fun i hi e => ?_)).setCell (.inr (by show w.heap.size ≤ B; exact h.low)) _
    have := own_low' h.own e; have := h.low; omega
def cut5 (d : Dl) : Dl := ⟨d.cm.take 5, d.pt, (d.bx.take 5).map (fun b => b.extract 0 (min b.size 20))⟩
theorem run_append_zero {w : World} (base : Nat) (t ty e : TypeId) (i : TypeInfo) (size : Nat) (ht : Tryz.prog.underlying t = some (.slice e)) (hi : Tryz.prog.info? e = some i)
    (v : Value) (n : Nat) (xs : List Value) (hown : w.ownsRow base e size v n xs) (c : Nat) :
    (Builtin.append_ #[t, t] ty #[v, .slice none 0 c]).run Tryz.prog w = .ok v w := by
  rcases hown.2 with ⟨rfl, rfl⟩ | ⟨g, cap, cur, rfl, _, _, hnc, _⟩
  · simp [Builtin.append_, run_underlying ht, sizeOf, typeInfo, hi, Builtin.lenOf, Builtin.firstCells]
  · simp [Builtin.append_, run_underlying ht, sizeOf, typeInfo, hi, Builtin.lenOf, Builtin.firstCells, hnc, storeCells]
/-- append([]int{}, l[:m]...) -/
theorem run_append_cm {w : World} {a0 : Option Addr} {k0 m base : Nat} {L : List Int} (ty : TypeId) (hL : PtsAt w.heap.size w (.slice a0 L.length k0) L) (hm : m ≤ L.length) (hm5 : m ≤ 5) {v : Value} (hown : w.ownsRow base 3 1 v 0 []) (hb : base ≤ w.heap.size) :
    ∃ v' w', (Builtin.append_ #[22, 22] ty #[v, .slice a0 m k0]).run Tryz.prog w = .ok v' w' ∧ w'.ownsRow base 3 1 v' m (irow (L.take m)) ∧ Only (fun i => v.ownBlock = some i) w w' ∧ (v'.ownBlock = v.ownBlock ∨ v'.ownBlock = some w.heap.size) := by
  obtain ⟨i0, hi0, hz0, hz1, hz2⟩ := info_parts Tryz.infoI
  have hll : (irow (L.take m)).length = m * 1 := by rw [irow_length, List.length_take]; omega
  have h1 : ∀ u ∈ irow (L.take m), u.oneCell' = true := fun u hu => by unfold irow at hu; rw [List.mem_map] at hu; obtain ⟨z, _, rfl⟩ := hu; rfl
  have some_ : ∀ ad, a0 = some ad → (∀ j u, (irow (L.take m))[j]? = some u → w.cell? (ad.add j) = some u) → ∃ v' w', (Builtin.append_ #[22, 22] ty #[v, .slice a0 m k0]).run Tryz.prog w = .ok v' w' ∧ w'.ownsRow base 3 1 v' m (irow (L.take m)) ∧ Only (fun i => v.ownBlock = some i) w w' ∧ (v'.ownBlock = v.ownBlock ∨ v'.ownBlock = some w.heap.size) := by
    intro ad e hc
    subst e
    obtain ⟨v', w', hr, ho, hg, _, h5⟩ := run_append_own_at (P := Tryz.prog) w base 22 ty 3 i0 _ 1 8 Tryz.underlying22 hi0 hz0 hz1 hz2 rfl (by decide) v 0 [] hown ad m k0 _ hll hc h1 (by unfold maxLen; omega) (by omega) hb
    rw [Nat.zero_add, List.nil_append] at ho
    exact ⟨v', w', hr, ho, (Only.refl _ _).grown hg (fun i e _ => e), h5⟩
  rcases hL with ⟨a, c, e1, e2⟩ | ⟨b, off, cap, e1, hb2, hc1, hc2, hcell⟩
  · subst e2
    obtain rfl : m = 0 := Nat.le_zero.1 hm
    cases a0 with
    | none => exact ⟨v, w, run_append_zero base _ ty _ i0 1 Tryz.underlying22 hi0 v 0 [] hown k0, hown, Only.refl _ _, .inl rfl⟩
    | some ad => exact some_ ad rfl (fun j u hu => by simp [irow] at hu)
  · obtain ⟨rfl, _, rfl⟩ : a0 = some ⟨b, off, none⟩ ∧ True ∧ k0 = cap := by simpa using e1
    refine some_ _ rfl (fun j u hu => ?_)
    have hj : j < m := by have := (List.getElem?_eq_some_iff.1 hu).1; rw [hll] at this; omega
    have e : (irow (L.take m))[j]? = some (.int .i64 (ptAt L j)) := by
      unfold irow ptAt
      rw [List.getElem?_map, List.getElem?_take_of_lt hj]
      have : j < L.length := by omega
      simp [List.getD, this]
    rw [e] at hu
    have hadd : (⟨b, off, none⟩ : Addr).add j = ⟨b, off + j, none⟩ := by unfold Addr.add; split <;> simp_all
    rw [hadd, ← hu]
    exact hcell j (by omega)
theorem step_append_cm {w : World} {ops : Array Oper} {o : Oper} {a : Act} {K : Act → World → Prop} {Q : Exit → Act → World → Prop} {E : Prop} (hgd : o.guard = none) (s x : Operand) {a0 : Option Addr} {k0 m base : Nat} {L : List Int}
    (ho : o.op = .call { callee := .builtin .append, args := #[s, x], argTypes := #[22, 22] }) {v : Value} (hs : a.eval s = v) (hx : a.eval x = .slice a0 m k0)
    (hL : PtsAt w.heap.size w (.slice a0 L.length k0) L) (hm : m ≤ L.length) (hm5 : m ≤ 5) (hown : w.ownsRow base 3 1 v 0 []) (hb : base ≤ w.heap.size)
    (h : ∀ v' w', w'.ownsRow base 3 1 v' m (irow (L.take m)) → Only (fun i => v.ownBlock = some i) w w' → (v'.ownBlock = v.ownBlock ∨ v'.ownBlock = some w.heap.size) → K (a.put o.dst v') w') :
    if Region.wanted o (yielded ops a.tmps) = true then Oper.wp Tryz.prog o a w K Q else E := by
  have hw : Region.wanted o (yielded ops a.tmps) = true := by simp [Region.wanted, hgd]
  rw [if_pos hw]
  obtain ⟨v', w', hr, h2, h3, h4⟩ := run_append_cm o.type hL hm hm5 hown hb
  unfold Oper.wp execOp
  simp only [ho, resolve, invoke, builtin, Sem.run_bind, Sem.run_pure, Result.andThen_ok, List.map_toArray, List.map_cons, List.map_nil, hs, hx, hr]
  exact h v' w' h2 h3 h4
theorem xat_made {w wx : World} {B : Nat} {v : Value} {L : List Int} {p : Int} (hO : Only (fun _ => False) w wx) (hB : wx.heap[B]? = some (.cells #[.slice none 0 0, .int .i64 0, .slice none 0 0] 25 (0, 0))) (hlow : w.heap.size ≤ B)
    (hown : wx.ownsRow w.heap.size 3 1 v L.length (irow L)) (hne : ∀ g, v.ownBlock = some g → g ≠ B) : XAt w (wx.setRow B #[v, .int .i64 p, .slice none 0 0]) B v (.slice none 0 0) L p [] :=
  ⟨setRow_heap _ _ _ _ _ _ hB, (setRow_only wx B _).owns hown (fun g hg e => hne g hg e), hne, fun g _ h => by simp [Value.ownBlock] at h, World.ownsRow_nil _ _ _ _, hlow, hO.setRow hlow _⟩
theorem sixT_of {W : World} {g N : Nat} {t0 t1 t2 t3 t4 t5 : ByteArray} {T : TypeId} (h : W.heap[g]? = some (.cells #[.string t0, .string t1, .string t2, .string t3, .string t4, .string t5] T (0, 0)))
    (h0 : t0.size ≤ N) (h1 : t1.size ≤ N) (h2 : t2.size ≤ N) (h3 : t3.size ≤ N) (h4 : t4.size ≤ N) (h5 : t5.size ≤ N) : ∀ k, k < 6 → ∃ t : ByteArray, W.cell? ⟨g, k, none⟩ = some (.string t) ∧ t.size ≤ N
  | 0, _ => ⟨_, cell_of_row _ _ 0 _ _ _ h, h0⟩
  | 1, _ => ⟨_, cell_of_row _ _ 1 _ _ _ h, h1⟩
  | 2, _ => ⟨_, cell_of_row _ _ 2 _ _ _ h, h2⟩
  | 3, _ => ⟨_, cell_of_row _ _ 3 _ _ _ h, h3⟩
  | 4, _ => ⟨_, cell_of_row _ _ 4 _ _ _ h, h4⟩
  | 5, _ => ⟨_, cell_of_row _ _ 5 _ _ _ h, h5⟩
theorem readsD_len {s : ByteArray} {d : Dl} {b : Bool} (h : ReadsD s d b) : d.cm.length ≤ s.size + 1 ∧ d.bx.length ≤ s.size + 1 := by
  cases b with
  | false =>
    obtain ⟨rfl, _⟩ := h.2 rfl
    exact ⟨Nat.zero_le _, Nat.zero_le _⟩
  | true =>
    have h1 := wd_len (h.1 rfl).1
    have h2 := wordsB_len s
    have h3 := Lib.countB_le ⟨#[32]⟩ (by decide) s.size s (Nat.le_refl _)
    omega
set_option maxRecDepth 100000 in
set_option maxHeartbeats 8000000 in
theorem dt_walk (a0 a2 : Option Addr) (k0 k2 : Nat) (d : Dl) (raw : ByteArray) (q0 q1 q2 : Int) (w : World) (hD : DlAt w (.slice a0 d.cm.length k0) (.int .i64 d.pt) (.slice a2 d.bx.length k2) d)
    (hp : IntsW d.cm ∧ -9223372036854775808 ≤ d.pt ∧ d.pt ≤ 9223372036854775807) (hk0 : d.cm.length ≤ k0 ∧ k0 ≤ 9223372036854775807) (hk2 : d.bx.length ≤ k2 ∧ k2 ≤ 9223372036854775807) (hraw : raw.size ≤ 1800000) (hG : GlobT w) :
    Calls Tryz.prog 3 #[.agg #[.slice a0 d.cm.length k0, .int .i64 d.pt, .slice a2 d.bx.length k2], .string raw, .agg #[.int .i64 q0, .int .i64 q1, .int .i64 q2]] w fun e w' => e = .returned (.bool true) ∧ Below w.heap.size w w' := by
  obtain ⟨i0, hi0, hz0, hz1, hz2⟩ := info_parts Tryz.infoI
  obtain ⟨j0, hj0, hy0, hy1, hy2⟩ := info_parts Tryz.infoS1
  have hA := ((Only.refl (fun _ => False) w).alloc (.cells #[.slice a0 d.cm.length k0, .int .i64 d.pt, .slice a2 d.bx.length k2] 25)).alloc (.cells #[.int .i64 q0, .int .i64 q1, .int .i64 q2] 26)
  have hzd := row_still ((Only.refl (fun _ => False) (w.alloc (.cells #[.slice a0 d.cm.length k0, .int .i64 d.pt, .slice a2 d.bx.length k2] 25))).alloc (.cells #[.int .i64 q0, .int .i64 q1, .int .i64 q2] 26)) (heap_alloc_last w (.cells #[.slice a0 d.cm.length k0, .int .i64 d.pt, .slice a2 d.bx.length k2] 25))
  have hzq := heap_alloc_last (w.alloc (.cells #[.slice a0 d.cm.length k0, .int .i64 d.pt, .slice a2 d.bx.length k2] 25)) (.cells #[.int .i64 q0, .int .i64 q1, .int .i64 q2] 26)
  simp only [World.size_alloc] at hzq
  have HA := Lib.hid hA
  have HZD := Lib.hid hzd
  have HZQ := Lib.hid hzq
  have HGW := Lib.hid (fun W (hO : Only (fun _ => False) w W) => hG.only hO)
  have HDW := Lib.hid (fun W (hO : Only (fun _ => False) w W) => hD.only hO)
  clear hA hzd hzq hG hD
  go_enter Tryz.func3, Tryz.ntmps3
  go_wp2_with fail
  refine (sanity7_any _ (HGW.out _ HA.out).glob).mono ?_
  rintro e w1 ⟨rfl, hO1⟩
  have HO1 := Lib.hid (HA.out.trans hO1)
  have HZD := Lib.hid (row_still hO1 HZD.out)
  have HZQ := Lib.hid (row_still hO1 HZQ.out)
  clear hO1 HA
  go_upto_region 2 with fail
  have HD1 := Lib.hid (HDW.out w1 HO1.out)
  have hw1 : w.heap.size + 1 < w1.heap.size := (Array.getElem?_eq_some_iff.1 HZQ.out).1
  have e0 : w1.cell? ⟨w.heap.size, 0, none⟩ = some (.slice a0 d.cm.length k0) := cell_of_row _ _ 0 _ _ _ HZD.out
  have e1 : w1.cell? ⟨w.heap.size, 1, none⟩ = some (.int .i64 d.pt) := cell_of_row _ _ 1 _ _ _ HZD.out
  obtain ⟨hk0a, hk0b⟩ := hk0
  obtain ⟨m5, hm5⟩ : ∃ m, m = min d.cm.length 5 := ⟨_, rfl⟩
  have HM5 := Lib.hid hm5
  have hmin : min (d.cm.length : Int) 5 = (m5 : Int) := by omega
  have r1 : 0 ≤ (m5 : Int) := by omega
  have r2 : m5 ≤ d.cm.length := by omega
  have r3 : (m5 : Int) ≤ k0 := by omega
  have r4 : m5 ≤ 5 := by omega
  have HTK := Lib.hid (show d.cm.take m5 = d.cm.take 5 by
    rcases Nat.le_total d.cm.length 5 with h | h
    · rw [List.take_of_length_le (show d.cm.length ≤ m5 by omega), List.take_of_length_le h]
    · rw [show m5 = 5 by omega])
  have HTL := Lib.hid (show (d.cm.take 5).length = m5 by rw [List.length_take]; omega)
  clear hm5
  go_cut [8] from 23 to 34 (fun v8 wx => ∃ (B : Nat) (vc : Value), v8 = .pointer (some ⟨B, 0, none⟩) ∧ XAt w1 wx B vc (.slice none 0 0) (d.cm.take 5) d.pt [])
  case first =>
    refine wp_region_split 13 (by kernel_rfl) (by kernel_rfl) (wpAny_of_held (S := fun W => W.cell? ⟨w.heap.size, 0, none⟩ = some (.slice a0 d.cm.length k0) ∧ W.cell? ⟨w.heap.size, 1, none⟩ = some (.int .i64 d.pt)) _ _ _ _ ?_)
    simp only [List.take_succ_cons, List.take_zero]
    change wpAnyH _ _ _ _ _ _ _ _ w1.drew
    have hHeld : w1.drew.cell? ⟨w.heap.size, 0, none⟩ = some (.slice a0 d.cm.length k0) ∧ w1.drew.cell? ⟨w.heap.size, 1, none⟩ = some (.int .i64 d.pt) := ⟨e0, e1⟩
    refine' wpAnyH_take (i := 0) (v := _) rfl (by kernel_rfl) (by kernel_rfl) (by kernel_rfl) (fun _ _ _ h => h) (Or.inl ⟨by rfl, ?hya0⟩) hHeld ?ra0
    case hya0 => (intro w hSw; obtain ⟨s0, s1⟩ := hSw; go_simp; with_reducible rfl)
    simp only [Act.put, List.getElem_toArray, List.getElem_cons_zero, List.setIfInBounds_toArray, List.set_cons_zero, List.set_cons_succ]
    refine' wpAnyH_take (i := 1) (v := _) rfl (by kernel_rfl) (by kernel_rfl) (by kernel_rfl) (fun _ _ _ h => h) (Or.inl ⟨by rfl, ?hya1⟩) hHeld ?ra1
    case hya1 => (intro w hSw; obtain ⟨s0, s1⟩ := hSw; go_simp; with_reducible rfl)
    simp only [Act.put, List.getElem_toArray, List.getElem_cons_zero, List.getElem_cons_succ, List.setIfInBounds_toArray, List.set_cons_zero, List.set_cons_succ]
    refine' wpAnyH_take (i := 3) (v := _) rfl (by kernel_rfl) (by kernel_rfl) (by kernel_rfl) (fun _ _ _ h => h) (Or.inl ⟨by rfl, ?hya3⟩) hHeld ?ra3
    case hya3 => (intro w hSw; obtain ⟨s0, s1⟩ := hSw; go_simp; with_reducible rfl)
    simp only [Act.put, List.getElem_toArray, List.getElem_cons_zero, List.getElem_cons_succ, List.setIfInBounds_toArray, List.set_cons_zero, List.set_cons_succ]
    refine' wpAnyH_take (i := 4) (v := _) rfl (by kernel_rfl) (by kernel_rfl) (by kernel_rfl) (fun _ _ _ h => h) (Or.inl ⟨by rfl, ?hya4⟩) hHeld ?ra4
    case hya4 => (intro w hSw; obtain ⟨s0, s1⟩ := hSw; go_simp; with_reducible rfl)
    simp only [Act.put, List.getElem_toArray, List.getElem_cons_zero, List.getElem_cons_succ, List.setIfInBounds_toArray, List.set_cons_zero, List.set_cons_succ]
    refine' wpAnyH_take (i := 5) (v := _) rfl (by kernel_rfl) (by kernel_rfl) (by kernel_rfl) (fun _ _ _ h => h) (Or.inl ⟨by rfl, ?hya5⟩) hHeld ?ra5
    case hya5 => (intro w hSw; obtain ⟨s0, s1⟩ := hSw; go_simp; with_reducible rfl)
    simp only [Act.put, List.getElem_toArray, List.getElem_cons_zero, List.getElem_cons_succ, List.setIfInBounds_toArray, List.set_cons_zero, List.set_cons_succ]
    refine' wpAnyH_take (i := 6) (v := _) rfl (by kernel_rfl) (by kernel_rfl) (by kernel_rfl) (fun _ _ _ h => h) (Or.inl ⟨by rfl, ?hya6⟩) hHeld ?ra6
    case hya6 => (intro w hSw; obtain ⟨s0, s1⟩ := hSw; go_simp; with_reducible rfl)
    simp only [Act.put, List.getElem_toArray, List.getElem_cons_zero, List.getElem_cons_succ, List.setIfInBounds_toArray, List.set_cons_zero, List.set_cons_succ]
    refine' wpAnyH_take (i := 7) (v := _) rfl (by kernel_rfl) (by kernel_rfl) (by kernel_rfl) (fun _ _ _ h => h) (Or.inl ⟨by rfl, ?hya7⟩) hHeld ?ra7
    case hya7 => (intro w hSw; obtain ⟨s0, s1⟩ := hSw; go_simp; with_reducible rfl)
    simp only [Act.put, List.getElem_toArray, List.getElem_cons_zero, List.getElem_cons_succ, List.setIfInBounds_toArray, List.set_cons_zero, List.set_cons_succ]
    refine' wpAnyH_take (i := 8) (v := _) rfl (by kernel_rfl) (by kernel_rfl) (by kernel_rfl) (fun _ _ _ h => h) (Or.inl ⟨by rfl, ?hya8⟩) hHeld ?ra8
    case hya8 => (intro w hSw; obtain ⟨s0, s1⟩ := hSw; go_simp; with_reducible rfl)
    simp only [Act.put, List.getElem_toArray, List.getElem_cons_zero, List.getElem_cons_succ, List.setIfInBounds_toArray, List.set_cons_zero, List.set_cons_succ]
    refine' wpAnyH_take (i := 9) (v := _) rfl (by kernel_rfl) (by kernel_rfl) (by kernel_rfl) (fun _ _ _ h => h) (Or.inl ⟨by rfl, ?hya9⟩) hHeld ?ra9
    case hya9 => (intro w hSw; obtain ⟨s0, s1⟩ := hSw; go_simp; with_reducible rfl)
    simp only [Act.put, List.getElem_toArray, List.getElem_cons_zero, List.getElem_cons_succ, List.setIfInBounds_toArray, List.set_cons_zero, List.set_cons_succ]
    refine wpAnyH_ready (rs := [2, 12]) (by kernel_rfl) (by simp) ?_
    refine AllReadyH.cons rfl (fun K hK => ?_) (AllReadyH.cons rfl (fun K hK => ?_) AllReadyH.nil)
    · go_simp
      have HOX := Lib.hid (show Only (fun _ => False) w1 (w1.alloc (.cells #[] 3)).drew from ((Only.refl _ w1).alloc _).drew)
      have held : ((w1.alloc (.cells #[] 3)).drew).cell? ⟨w.heap.size, 0, none⟩ = some (.slice a0 d.cm.length k0) ∧ ((w1.alloc (.cells #[] 3)).drew).cell? ⟨w.heap.size, 1, none⟩ = some (.int .i64 d.pt) := ⟨HOX.out.cell e0 id, HOX.out.cell e1 id⟩
      have HOW := Lib.hid (show World.ownsRow ((w1.alloc (.cells #[] 3)).drew) w1.heap.size 3 1 (.slice (some ⟨w1.heap.size, 0, none⟩) 0 0) 0 [] from ((Only.refl (fun _ => False) _).drew).owns (own_emptyD w1 w1.heap.size 3 1 (Nat.le_refl _)) (fun _ _ h => h))
      have HEW := Lib.hid (show w1.heap.size ≤ w1.heap.size from Nat.le_refl _)
      have HEL := Lib.hid (show w1.heap.size < ((w1.alloc (.cells #[] 3)).drew).heap.size by simp)
      refine hK.out _ _ held (fun hHeld => ?_)
      clear hK K held
      try simp only [Act.put, List.getElem_toArray, List.getElem_cons_zero, List.getElem_cons_succ, List.setIfInBounds_toArray, List.set_cons_zero, List.set_cons_succ]
      generalize (w1.alloc (.cells #[] 3)).drew = v1 at *
      have HOY := Lib.hid HOX.out.size
      refine wpAnyH_ready (rs := [10, 12]) (by kernel_rfl) (by simp) ?_
      refine AllReadyH.cons rfl (fun K hK => ?_) (AllReadyH.cons rfl (fun K hK => ?_) AllReadyH.nil)
      · refine step_append_cm rfl _ _ rfl (v := .slice (some ⟨w1.heap.size, 0, none⟩) 0 0) (by rfl) (by rfl) (HD1.out.cm.only HOX.out) r2 r4 HOW.out HOY.out ?_
        intro va v2 hva hvo hat
        obtain ⟨aa, ca, rfl⟩ := slice_of_own hva
        have hgE : ∀ i, (Value.slice (some ⟨w1.heap.size, 0, none⟩) 0 0).ownBlock = some i → i = w1.heap.size := fun i e => by simpa [Value.ownBlock] using e.symm
        have HOX2 := Lib.hid (HOX.out.trans' hvo (fun i e hi => by have := hgE i hi; have := HEW.out; omega))
        have held : v2.cell? ⟨w.heap.size, 0, none⟩ = some (.slice a0 d.cm.length k0) ∧ v2.cell? ⟨w.heap.size, 1, none⟩ = some (.int .i64 d.pt) := ⟨HOX2.out.cell e0 id, HOX2.out.cell e1 id⟩
        have HVO := Lib.hid hva
        clear HOX
        have HOX := Lib.hid HOX2.out
        refine hK.out _ _ held (fun hHeld => ?_)
        clear hK K held hva hvo hat HOX2 hgE
        try simp only [Act.put, List.getElem_toArray, List.getElem_cons_zero, List.getElem_cons_succ, List.setIfInBounds_toArray, List.set_cons_zero, List.set_cons_succ]
        have HOY := Lib.hid HOX.out.size
        refine' wpAnyH_take (i := 11) (v := _) rfl (by kernel_rfl) (by kernel_rfl) (by kernel_rfl) (fun _ _ _ h => h) (Or.inl ⟨by rfl, ?hyb3⟩) hHeld ?rb3
        case hyb3 => (intro w hSw; obtain ⟨s0, s1⟩ := hSw; go_simp; with_reducible rfl)
        simp only [Act.put, List.getElem_toArray, List.getElem_cons_zero, List.getElem_cons_succ, List.setIfInBounds_toArray, List.set_cons_zero, List.set_cons_succ]
        refine wpAnyH_ready (rs := [12]) (by kernel_rfl) (by simp) ?_
        refine AllReadyH.cons rfl (fun K hK => ?_) AllReadyH.nil
        go_simp
        have HOX := Lib.hid (show Only (fun _ => False) w1 (v2.alloc (.cells #[.slice none 0 0, .int .i64 0, .slice none 0 0] 25)) from HOX.out.alloc _)
        have held : ((v2.alloc (.cells #[.slice none 0 0, .int .i64 0, .slice none 0 0] 25))).cell? ⟨w.heap.size, 0, none⟩ = some (.slice a0 d.cm.length k0) ∧ ((v2.alloc (.cells #[.slice none 0 0, .int .i64 0, .slice none 0 0] 25))).cell? ⟨w.heap.size, 1, none⟩ = some (.int .i64 d.pt) := ⟨HOX.out.cell e0 id, HOX.out.cell e1 id⟩
        have HNE := Lib.hid (show ∀ g, (Value.slice aa m5 ca).ownBlock = some g → g ≠ v2.heap.size from fun g hg e => by have := (own_lt HVO.out hg).1; omega)
        have HVO := Lib.hid (((Only.refl (fun _ => False) v2).alloc (.cells #[.slice none 0 0, .int .i64 0, .slice none 0 0] 25)).owns HVO.out (fun _ _ h => h))
        have HZB := Lib.hid (show ((v2.alloc (.cells #[.slice none 0 0, .int .i64 0, .slice none 0 0] 25))).heap[v2.heap.size]? = some (.cells #[.slice none 0 0, .int .i64 0, .slice none 0 0] 25 (0, 0)) from (heap_alloc_last v2 _))
        have HBW := Lib.hid (show w1.heap.size ≤ v2.heap.size from HOY.out)
        have HBL := Lib.hid (show v2.heap.size < ((v2.alloc (.cells #[.slice none 0 0, .int .i64 0, .slice none 0 0] 25))).heap.size from (Array.getElem?_eq_some_iff.1 HZB.out).1)
        refine hK.out _ _ held (fun hHeld => ?_)
        clear hK K held
        try simp only [Act.put, List.getElem_toArray, List.getElem_cons_zero, List.getElem_cons_succ, List.setIfInBounds_toArray, List.set_cons_zero, List.set_cons_succ]
        generalize (v2.alloc (.cells #[.slice none 0 0, .int .i64 0, .slice none 0 0] 25)) = v4 at *
        have HOY := Lib.hid HOX.out.size
        refine wpAnyH_done (by kernel_rfl) ?_ _
        simp only [headPost, List.drop_succ_cons, List.drop_zero]
        clear hHeld
        go_wp2_with (first | (refine wpList_store_row rfl 25 _ _ rfl v2.heap.size #[.slice aa m5 ca, .int .i64 d.pt, .slice none 0 0] rfl rfl 25 _ HZB.out Tryz.infoD rfl (dl_one _ _ _ _ _ _ _) ?_))
        go_meet
        exact ⟨v2.heap.size, .slice aa m5 ca, rfl, xat_made HOX.out HZB.out HBW.out (by rw [HTL.out, ← HTK.out]; exact HVO.out) HNE.out⟩
      · go_simp
        have HOX := Lib.hid (show Only (fun _ => False) w1 (v1.alloc (.cells #[.slice none 0 0, .int .i64 0, .slice none 0 0] 25)) from HOX.out.alloc _)
        have held : ((v1.alloc (.cells #[.slice none 0 0, .int .i64 0, .slice none 0 0] 25))).cell? ⟨w.heap.size, 0, none⟩ = some (.slice a0 d.cm.length k0) ∧ ((v1.alloc (.cells #[.slice none 0 0, .int .i64 0, .slice none 0 0] 25))).cell? ⟨w.heap.size, 1, none⟩ = some (.int .i64 d.pt) := ⟨HOX.out.cell e0 id, HOX.out.cell e1 id⟩
        have HEB := Lib.hid (show w1.heap.size ≠ v1.heap.size from by have := HEL.out; omega)
        have HOW := Lib.hid (((Only.refl (fun _ => False) v1).alloc (.cells #[.slice none 0 0, .int .i64 0, .slice none 0 0] 25)).owns HOW.out (fun _ _ h => h))
        have HZB := Lib.hid (show ((v1.alloc (.cells #[.slice none 0 0, .int .i64 0, .slice none 0 0] 25))).heap[v1.heap.size]? = some (.cells #[.slice none 0 0, .int .i64 0, .slice none 0 0] 25 (0, 0)) from (heap_alloc_last v1 _))
        have HBW := Lib.hid (show w1.heap.size ≤ v1.heap.size from HOY.out)
        have HBL := Lib.hid (show v1.heap.size < ((v1.alloc (.cells #[.slice none 0 0, .int .i64 0, .slice none 0 0] 25))).heap.size from (Array.getElem?_eq_some_iff.1 HZB.out).1)
        refine hK.out _ _ held (fun hHeld => ?_)
        clear hK K held
        try simp only [Act.put, List.getElem_toArray, List.getElem_cons_zero, List.getElem_cons_succ, List.setIfInBounds_toArray, List.set_cons_zero, List.set_cons_succ]
        generalize (v1.alloc (.cells #[.slice none 0 0, .int .i64 0, .slice none 0 0] 25)) = v5 at *
        have HOY := Lib.hid HOX.out.size
        refine wpAnyH_ready (rs := [10]) (by kernel_rfl) (by simp) ?_
        refine AllReadyH.cons rfl (fun K hK => ?_) AllReadyH.nil
        refine step_append_cm rfl _ _ rfl (v := .slice (some ⟨w1.heap.size, 0, none⟩) 0 0) (by rfl) (by rfl) (HD1.out.cm.only HOX.out) r2 r4 HOW.out HOY.out ?_
        intro va v6 hva hvo hat
        obtain ⟨aa, ca, rfl⟩ := slice_of_own hva
        have hgE : ∀ i, (Value.slice (some ⟨w1.heap.size, 0, none⟩) 0 0).ownBlock = some i → i = w1.heap.size := fun i e => by simpa [Value.ownBlock] using e.symm
        have HOX2 := Lib.hid (HOX.out.trans' hvo (fun i e hi => by have := hgE i hi; have := HEW.out; omega))
        have held : v6.cell? ⟨w.heap.size, 0, none⟩ = some (.slice a0 d.cm.length k0) ∧ v6.cell? ⟨w.heap.size, 1, none⟩ = some (.int .i64 d.pt) := ⟨HOX2.out.cell e0 id, HOX2.out.cell e1 id⟩
        have HVO := Lib.hid hva
        have HZB := Lib.hid ((hvo.block v1.heap.size HBL.out (fun e => HEB.out (hgE _ e).symm)).trans HZB.out)
        have HNE := Lib.hid (show ∀ g, (Value.slice aa m5 ca).ownBlock = some g → g ≠ v1.heap.size from fun g hg e => by
          rcases hat with hat | hat
          · exact HEB.out ((hgE g (hat ▸ hg)).symm.trans e)
          · rw [hat] at hg; simp at hg; have := HBL.out; omega)
        clear HOX
        have HOX := Lib.hid HOX2.out
        refine hK.out _ _ held (fun hHeld => ?_)
        clear hK K held hva hvo hat HOX2 hgE
        try simp only [Act.put, List.getElem_toArray, List.getElem_cons_zero, List.getElem_cons_succ, List.setIfInBounds_toArray, List.set_cons_zero, List.set_cons_succ]
        have HOY := Lib.hid HOX.out.size
        refine' wpAnyH_take (i := 11) (v := _) rfl (by kernel_rfl) (by kernel_rfl) (by kernel_rfl) (fun _ _ _ h => h) (Or.inl ⟨by rfl, ?hyb7⟩) hHeld ?rb7
        case hyb7 => (intro w hSw; obtain ⟨s0, s1⟩ := hSw; go_simp; with_reducible rfl)
        simp only [Act.put, List.getElem_toArray, List.getElem_cons_zero, List.getElem_cons_succ, List.setIfInBounds_toArray, List.set_cons_zero, List.set_cons_succ]
        refine wpAnyH_done (by kernel_rfl) ?_ _
        simp only [headPost, List.drop_succ_cons, List.drop_zero]
        clear hHeld
        go_wp2_with (first | (refine wpList_store_row rfl 25 _ _ rfl v1.heap.size #[.slice aa m5 ca, .int .i64 d.pt, .slice none 0 0] rfl rfl 25 _ HZB.out Tryz.infoD rfl (dl_one _ _ _ _ _ _ _) ?_))
        go_meet
        exact ⟨v1.heap.size, .slice aa m5 ca, rfl, xat_made HOX.out HZB.out HBW.out (by rw [HTL.out, ← HTK.out]; exact HVO.out) HNE.out⟩
    · go_simp
      have HOX := Lib.hid (show Only (fun _ => False) w1 (w1.alloc (.cells #[.slice none 0 0, .int .i64 0, .slice none 0 0] 25)).drew from ((Only.refl _ w1).alloc _).drew)
      have held : ((w1.alloc (.cells #[.slice none 0 0, .int .i64 0, .slice none 0 0] 25)).drew).cell? ⟨w.heap.size, 0, none⟩ = some (.slice a0 d.cm.length k0) ∧ ((w1.alloc (.cells #[.slice none 0 0, .int .i64 0, .slice none 0 0] 25)).drew).cell? ⟨w.heap.size, 1, none⟩ = some (.int .i64 d.pt) := ⟨HOX.out.cell e0 id, HOX.out.cell e1 id⟩
      have HZB := Lib.hid (show ((w1.alloc (.cells #[.slice none 0 0, .int .i64 0, .slice none 0 0] 25)).drew).heap[w1.heap.size]? = some (.cells #[.slice none 0 0, .int .i64 0, .slice none 0 0] 25 (0, 0)) from row_still ((Only.refl (fun _ => False) _).drew) (heap_alloc_last w1 _))
      have HBW := Lib.hid (show w1.heap.size ≤ w1.heap.size from Nat.le_refl _)
      have HBL := Lib.hid (show w1.heap.size < ((w1.alloc (.cells #[.slice none 0 0, .int .i64 0, .slice none 0 0] 25)).drew).heap.size from (Array.getElem?_eq_some_iff.1 HZB.out).1)
      refine hK.out _ _ held (fun hHeld => ?_)
      clear hK K held
      try simp only [Act.put, List.getElem_toArray, List.getElem_cons_zero, List.getElem_cons_succ, List.setIfInBounds_toArray, List.set_cons_zero, List.set_cons_succ]
      generalize (w1.alloc (.cells #[.slice none 0 0, .int .i64 0, .slice none 0 0] 25)).drew = v8 at *
      have HOY := Lib.hid HOX.out.size
      refine wpAnyH_ready (rs := [2]) (by kernel_rfl) (by simp) ?_
      refine AllReadyH.cons rfl (fun K hK => ?_) AllReadyH.nil
      go_simp
      have HOX := Lib.hid (show Only (fun _ => False) w1 (v8.alloc (.cells #[] 3)) from HOX.out.alloc _)
      have held : ((v8.alloc (.cells #[] 3))).cell? ⟨w.heap.size, 0, none⟩ = some (.slice a0 d.cm.length k0) ∧ ((v8.alloc (.cells #[] 3))).cell? ⟨w.heap.size, 1, none⟩ = some (.int .i64 d.pt) := ⟨HOX.out.cell e0 id, HOX.out.cell e1 id⟩
      have HOW := Lib.hid (show World.ownsRow ((v8.alloc (.cells #[] 3))) w1.heap.size 3 1 (.slice (some ⟨v8.heap.size, 0, none⟩) 0 0) 0 [] from (own_emptyD v8 w1.heap.size 3 1 (HOY.out)))
      have HEW := Lib.hid (show w1.heap.size ≤ v8.heap.size from HOY.out)
      have HEL := Lib.hid (show v8.heap.size < ((v8.alloc (.cells #[] 3))).heap.size by simp)
      have HEB := Lib.hid (show v8.heap.size ≠ w1.heap.size from by have := HBL.out; omega)
      have HZB := Lib.hid (row_still ((Only.refl (fun _ => False) v8).alloc (.cells #[] 3)) HZB.out)
      have HBL := Lib.hid (show w1.heap.size < ((v8.alloc (.cells #[] 3))).heap.size from (Array.getElem?_eq_some_iff.1 HZB.out).1)
      refine hK.out _ _ held (fun hHeld => ?_)
      clear hK K held
      try simp only [Act.put, List.getElem_toArray, List.getElem_cons_zero, List.getElem_cons_succ, List.setIfInBounds_toArray, List.set_cons_zero, List.set_cons_succ]
      generalize (v8.alloc (.cells #[] 3)) = v9 at *
      have HOY := Lib.hid HOX.out.size
      refine wpAnyH_ready (rs := [10]) (by kernel_rfl) (by simp) ?_
      refine AllReadyH.cons rfl (fun K hK => ?_) AllReadyH.nil
      refine step_append_cm rfl _ _ rfl (v := .slice (some ⟨v8.heap.size, 0, none⟩) 0 0) (by rfl) (by rfl) (HD1.out.cm.only HOX.out) r2 r4 HOW.out HOY.out ?_
      intro va v10 hva hvo hat
      obtain ⟨aa, ca, rfl⟩ := slice_of_own hva
      have hgE : ∀ i, (Value.slice (some ⟨v8.heap.size, 0, none⟩) 0 0).ownBlock = some i → i = v8.heap.size := fun i e => by simpa [Value.ownBlock] using e.symm
      have HOX2 := Lib.hid (HOX.out.trans' hvo (fun i e hi => by have := hgE i hi; have := HEW.out; omega))
      have held : v10.cell? ⟨w.heap.size, 0, none⟩ = some (.slice a0 d.cm.length k0) ∧ v10.cell? ⟨w.heap.size, 1, none⟩ = some (.int .i64 d.pt) := ⟨HOX2.out.cell e0 id, HOX2.out.cell e1 id⟩
      have HVO := Lib.hid hva
      have HZB := Lib.hid ((hvo.block w1.heap.size HBL.out (fun e => HEB.out (hgE _ e).symm)).trans HZB.out)
      have HNE := Lib.hid (show ∀ g, (Value.slice aa m5 ca).ownBlock = some g → g ≠ w1.heap.size from fun g hg e => by
        rcases hat with hat | hat
        · exact HEB.out ((hgE g (hat ▸ hg)).symm.trans e)
        · rw [hat] at hg; simp at hg; have := HBL.out; omega)
      clear HOX
      have HOX := Lib.hid HOX2.out
      refine hK.out _ _ held (fun hHeld => ?_)
      clear hK K held hva hvo hat HOX2 hgE
      try simp only [Act.put, List.getElem_toArray, List.getElem_cons_zero, List.getElem_cons_succ, List.setIfInBounds_toArray, List.set_cons_zero, List.set_cons_succ]
      have HOY := Lib.hid HOX.out.size
      refine' wpAnyH_take (i := 11) (v := _) rfl (by kernel_rfl) (by kernel_rfl) (by kernel_rfl) (fun _ _ _ h => h) (Or.inl ⟨by rfl, ?hyb11⟩) hHeld ?rb11
      case hyb11 => (intro w hSw; obtain ⟨s0, s1⟩ := hSw; go_simp; with_reducible rfl)
      simp only [Act.put, List.getElem_toArray, List.getElem_cons_zero, List.getElem_cons_succ, List.setIfInBounds_toArray, List.set_cons_zero, List.set_cons_succ]
      refine wpAnyH_done (by kernel_rfl) ?_ _
      simp only [headPost, List.drop_succ_cons, List.drop_zero]
      clear hHeld
      go_wp2_with (first | (refine wpList_store_row rfl 25 _ _ rfl w1.heap.size #[.slice aa m5 ca, .int .i64 d.pt, .slice none 0 0] rfl rfl 25 _ HZB.out Tryz.infoD rfl (dl_one _ _ _ _ _ _ _) ?_))
      go_meet
      exact ⟨w1.heap.size, .slice aa m5 ca, rfl, xat_made HOX.out HZB.out HBW.out (by rw [HTL.out, ← HTK.out]; exact HVO.out) HNE.out⟩
  case rest =>
    obtain ⟨B, vc, rfl, hX⟩ := hcut
    generalize wc = w2 at *
    have HX0 := Lib.hid hX
    obtain ⟨hk2a, hk2b⟩ := hk2
    obtain ⟨mb, hmb⟩ : ∃ m, m = min d.bx.length 5 := ⟨_, rfl⟩
    have hminb : min (d.bx.length : Int) 5 = (mb : Int) := by omega
    have t1 : 0 ≤ (mb : Int) := by omega
    have t2 : mb ≤ d.bx.length := by omega
    have t3 : (mb : Int) ≤ k2 := by omega
    have t4 : mb ≤ 5 := by omega
    have HTB := Lib.hid (show d.bx.take mb = d.bx.take 5 by
      rcases Nat.le_total d.bx.length 5 with h | h
      · rw [List.take_of_length_le (show d.bx.length ≤ mb by omega), List.take_of_length_le h]
      · rw [show mb = 5 by omega])
    have f2 : w2.cell? ⟨w.heap.size, 2, none⟩ = some (.slice a2 d.bx.length k2) := cell_of_row _ _ 2 _ _ _ (row_still hX.only HZD.out)
    clear hX hmb e0 e1 hmin r1 r3
    go_wp2_with fail
    go_loopw [43] (fun iv wr => ∃ (k : Nat) (vb : Value) (X : List ByteArray), iv = .int .i64 k ∧ k ≤ mb ∧ X.length = k ∧ X = (d.bx.take k).map (fun b => b.extract 0 (min b.size 20)) ∧ XAt w1 wr B vc vb (d.cm.take 5) d.pt X) (fun iv _ => mb - (intOf iv).toNat)
    case atStart => exact ⟨0, _, [], rfl, Nat.zero_le _, rfl, rfl, HX0.out⟩
    case round =>
      clear HX0 f2
      obtain ⟨k, vb, X, rfl, hk, hXl, hXe, hX⟩ := hrel
      have HX := Lib.hid hX
      have HXL := Lib.hid hXl
      have HXE := Lib.hid hXe
      clear hX hXl hXe
      by_cases hlt : k < mb
      · obtain ⟨bc, oc, rfl, hb, hcp1, hcp2, hcell⟩ := strs_cellAt (HDW.out wr (HO1.out.trans HX.out.only)).bx (show k < d.bx.length by omega)
        have HSTEP := Lib.hid (show (d.bx.take (k + 1)).map (fun b => b.extract 0 (min b.size 20)) = (d.bx.take k).map (fun b => b.extract 0 (min b.size 20)) ++ [(sAt d.bx k).extract 0 (min (sAt d.bx k).size 20)] by
          rw [take_step (show k < d.bx.length by omega) ByteArray.empty, List.map_append]
          rfl)
        generalize sAt d.bx k = sb at *
        obtain ⟨mc, hmc⟩ : ∃ m, m = min sb.size 20 := ⟨_, rfl⟩
        rw [← hmc] at HSTEP
        have hminc : min (sb.size : Int) 20 = (mc : Int) := by omega
        have u1 : 0 ≤ (mc : Int) := by omega
        have u2 : (mc : Int) ≤ sb.size := by omega
        have i6 : (k : Int) < mb := by omega
        have i7 : 0 ≤ (k : Int) := by omega
        clear hmc hk
        go_wp2_with fail
        obtain ⟨ac, cc, hvc⟩ := slice_of_own HX.out.own
        rw [HXL.out] at hvc
        subst hvc
        generalize hvc : Value.slice ac k cc = vb at *
        have HVC := Lib.hid hvc
        clear hvc
        have HOWB := Lib.hid (show wr.ownsRow (B + 1) 9 1 vb k (srowS X) by have h := HX.out.own; rw [HXL.out] at h; exact h)
        have hBl := (Array.getElem?_eq_some_iff.1 HX.out.blk).1
        have HN0 := Lib.hid (show some B ≠ vb.ownBlock from fun e => by have := own_low' HX.out.own e.symm; omega)
        refine wp_region_split 9 (by kernel_rfl) (by kernel_rfl) (wpAny_of_held (S := fun w' => w'.cell? ⟨B, 2, none⟩ = some vb) _ _ _ _ ?_)
        simp only [List.take_succ_cons, List.take_zero]
        change wpAnyH _ _ _ _ _ _ _ _ wr.drew
        have hHeld : wr.drew.cell? ⟨B, 2, none⟩ = some vb := cell_of_row _ _ 2 _ _ _ HX.out.blk
        refine' wpAnyH_take (i := 0) (v := _) rfl (by kernel_rfl) (by kernel_rfl) (by kernel_rfl) (fun _ _ _ h => h) (Or.inl ⟨by rfl, ?hyc0⟩) hHeld ?rc0
        case hyc0 => (intro w hSw; have s0 := hSw; go_simp; with_reducible rfl)
        simp only [Act.put, List.getElem_toArray, List.getElem_cons_zero, List.setIfInBounds_toArray, List.set_cons_zero, List.set_cons_succ]
        refine' wpAnyH_take (i := 1) (v := _) rfl (by kernel_rfl) (by kernel_rfl) (by kernel_rfl) (fun _ _ _ h => h) (Or.inl ⟨by rfl, ?hyc1⟩) hHeld ?rc1
        case hyc1 => (intro w hSw; have s0 := hSw; go_simp; with_reducible rfl)
        simp only [Act.put, List.getElem_toArray, List.getElem_cons_zero, List.getElem_cons_succ, List.setIfInBounds_toArray, List.set_cons_zero, List.set_cons_succ]
        refine' wpAnyH_take (i := 2) (v := _) rfl (by kernel_rfl) (by kernel_rfl) (by kernel_rfl) (fun _ _ _ h => h) (Or.inl ⟨by rfl, ?hyc2⟩) hHeld ?rc2
        case hyc2 => (intro w hSw; have s0 := hSw; go_simp; with_reducible rfl)
        simp only [Act.put, List.getElem_toArray, List.getElem_cons_zero, List.getElem_cons_succ, List.setIfInBounds_toArray, List.set_cons_zero, List.set_cons_succ]
        refine' wpAnyH_take (i := 3) (v := _) rfl (by kernel_rfl) (by kernel_rfl) (by kernel_rfl) (fun _ _ _ h => h) (Or.inl ⟨by rfl, ?hyc3⟩) hHeld ?rc3
        case hyc3 => (intro w hSw; have s0 := hSw; go_simp; with_reducible rfl)
        simp only [Act.put, List.getElem_toArray, List.getElem_cons_zero, List.getElem_cons_succ, List.setIfInBounds_toArray, List.set_cons_zero, List.set_cons_succ]
        refine' wpAnyH_take (i := 4) (v := _) rfl (by kernel_rfl) (by kernel_rfl) (by kernel_rfl) (fun _ _ _ h => h) (Or.inl ⟨by rfl, ?hyc4⟩) hHeld ?rc4
        case hyc4 => (intro w hSw; have s0 := hSw; go_simp; with_reducible rfl)
        simp only [Act.put, List.getElem_toArray, List.getElem_cons_zero, List.getElem_cons_succ, List.setIfInBounds_toArray, List.set_cons_zero, List.set_cons_succ]
        refine' wpAnyH_take (i := 5) (v := _) rfl (by kernel_rfl) (by kernel_rfl) (by kernel_rfl) (fun _ _ _ h => h) (Or.inl ⟨by rfl, ?hyc5⟩) hHeld ?rc5
        case hyc5 => (intro w hSw; have s0 := hSw; go_simp; with_reducible rfl)
        simp only [Act.put, List.getElem_toArray, List.getElem_cons_zero, List.getElem_cons_succ, List.setIfInBounds_toArray, List.set_cons_zero, List.set_cons_succ]
        refine' wpAnyH_take (i := 6) (v := _) rfl (by kernel_rfl) (by kernel_rfl) (by kernel_rfl) (fun _ _ _ h => h) (Or.inl ⟨by rfl, ?hyc6⟩) hHeld ?rc6
        case hyc6 => (intro w hSw; have s0 := hSw; go_simp; with_reducible rfl)
        simp only [Act.put, List.getElem_toArray, List.getElem_cons_zero, List.getElem_cons_succ, List.setIfInBounds_toArray, List.set_cons_zero, List.set_cons_succ]
        refine wpAnyH_ready (rs := [7]) (by kernel_rfl) (by simp) ?_
        refine AllReadyH.cons rfl (fun K hK => ?_) AllReadyH.nil
        go_simp
        have HOA := Lib.hid (show Only (fun _ => False) wr (wr.alloc (.cells #[.string (sb.extract 0 mc)] 9)).drew from ((Only.refl _ wr).alloc _).drew)
        refine hK.out _ _ (HOA.out.cell hHeld (fun h => h)) (fun hHeld => ?_)
        clear hK K
        try simp only [Act.put, List.getElem_toArray, List.getElem_cons_zero, List.getElem_cons_succ, List.setIfInBounds_toArray, List.set_cons_zero, List.set_cons_succ]
        refine wpAnyH_ready (rs := [8]) (by kernel_rfl) (by simp) ?_
        refine AllReadyH.cons rfl (fun K hK => ?_) AllReadyH.nil
        refine step_append_lies _ rfl _ _ 23 rfl (B + 1) 9 j0 _ 1 16 Tryz.underlying23 hj0 hy0 hy1 hy2 rfl (by decide) vb k (srowS X) rfl (HOA.out.owns HOWB.out (fun _ _ h => h)) ⟨wr.heap.size, 0, none⟩ 1 1 [.string (sb.extract 0 mc)] rfl rfl (World.news_of_block (cs := #[.string (sb.extract 0 mc)]) (t := 9) (fr := (0, 0)) (heap_alloc_new wr _)) (one_str _) (by decide) (by unfold maxLen; omega) (by omega) (by simp; omega) _ rfl ?_
        intro g cap w5 hown1 hgrow hat hlt1
        refine hK.out _ _ (hgrow.cell (HOA.out.cell (cell_of_row _ _ 2 _ _ _ HX.out.blk) (fun h => h)) HN0.out) (fun hHeld => ?_)
        clear hK K
        refine wpAnyH_done (by kernel_rfl) ?_ _
        simp only [headPost, Act.put, List.getElem_toArray, List.getElem_cons_zero, List.getElem_cons_succ, List.setIfInBounds_toArray, List.set_cons_zero, List.set_cons_succ, List.drop_succ_cons, List.drop_zero]
        obtain ⟨hbl, hxn⟩ := HX.out.box HXL.out HOA.out hown1 hgrow hat
        have HXN := Lib.hid hxn
        have c1 := cell_of_row _ _ 2 _ _ _ hbl
        have f1 := frozen_of_row _ _ 2 _ _ hbl
        have l1 := (Array.getElem?_eq_some_iff.1 hbl).1
        clear hown1 hgrow hat hxn hbl hHeld hcell
        go_wp2
        go_roundw
        case rel => exact ⟨k + 1, _, X ++ [sb.extract 0 mc], by go_num, by omega, by rw [List.length_append, HXL.out]; rfl, by rw [HSTEP.out, ← HXE.out], HXN.out⟩
        case measure => simp [intOf]; omega
      · obtain rfl : k = mb := by omega
        have hp' := mem_ptAt hp.1
        obtain ⟨_, hp0, hp1⟩ := hp
        have HV5 := Lib.hid (show ∀ v ∈ d.cm.take 5, R64 v from fun v hv => hp' v (List.mem_of_mem_take hv))
        have HY5 := Lib.hid (show ∀ y ∈ X, y.size ≤ 20 from fun y hy => by
          rw [HXE.out, List.mem_map] at hy
          obtain ⟨b, _, rfl⟩ := hy
          rw [ByteArray.size_extract]
          omega)
        have HTL := Lib.hid HTL.out
        clear HTK HD1 hp' HTB HXE
        generalize d.cm.take 5 = L5 at *
        obtain ⟨a5, c5, ab, cb, rfl, rfl⟩ := HX.out.slices
        have hLl := HTL.out
        have hYl := HXL.out
        have HDL := Lib.hid (fun W (hO : Only (fun _ => False) wr W) => (HX.out.later hO).at (by omega) (by omega))
        have HR5 := Lib.hid (show DlR ⟨L5, d.pt, X⟩ from ⟨HV5.out, hp0, hp1⟩)
        have HIW := Lib.hid (intsW_R64 HV5.out)
        have HYS := Lib.hid (fun i => Nat.le_trans (sAt_le HY5.out i) (show 20 ≤ 2000000 by decide))
        have hsz : (textB ⟨L5, d.pt, X⟩).size ≤ 400 ∧ 5 ≤ (textB ⟨L5, d.pt, X⟩).size := by
          have e : (textB ⟨L5, d.pt, X⟩).size = (textL ⟨L5, d.pt, X⟩).length := (Array.length_toList (xs := (textB ⟨L5, d.pt, X⟩).data)).symm
          rw [e, textL_at]
          have h1 := dAt1_len L5.length (by omega)
          have h2 := numsB_len L5 HV5.out
          have h3 := numB_len d.pt hp0 hp1
          have h4 := boxesB_lenN 20 X HY5.out
          have h5 : 5 ≤ (dAt1 L5.length).length := by unfold dAt1 dAt0; simp
          unfold dAt4 dAt3 dAt2
          simp only [List.length_append]
          omega
        have HTX := Lib.hid (fun W (hO : Only (fun _ => False) wr W) => textW_any a5 ab c5 cb ⟨L5, d.pt, X⟩ W (HDL.out W hO) (by show L5.length ≤ _; omega) (by show X.length ≤ _; omega) ⟨HIW.out, hp0, hp1⟩ HYS.out (HGW.out W (HO1.out.trans (HX.out.only.trans hO))).glob)
        have HTR := Lib.hid (fun W (hO : Only (fun _ => False) wr W) => rtext7_any a5 ab c5 cb ⟨L5, d.pt, X⟩ W (HDL.out W hO) (by show L5.length ≤ _; omega) (by show X.length ≤ _; omega) ⟨HIW.out, hp0, hp1⟩ HYS.out)
        obtain ⟨s, hs⟩ : ∃ s, textB ⟨L5, d.pt, X⟩ = s := ⟨_, rfl⟩
        have HRS := Lib.hid (fun (d' : Dl) (b' : Bool) (h : ReadsD s d' b') => readsD_same h (readsD_yes (p := ⟨L5, d.pt, X⟩) ⟨hs.symm, HR5.out⟩))
        rw [hs] at HTX HTR hsz
        have HBX := Lib.hid HX.out.blk
        have HOX := Lib.hid (HO1.out.trans HX.out.only)
        obtain ⟨hs1, hs5⟩ := hsz
        have HLY := Lib.hid (show L5.length ≤ 5 ∧ X.length ≤ 5 from ⟨by omega, by omega⟩)
        clear hs hLl hYl hk hlt
        go_wp2_with (first | (refine wpList_load_row rfl 25 _ rfl B rfl 25 #[.slice a5 L5.length c5, .int .i64 d.pt, .slice ab X.length cb] (0, 0) _ HBX.out Tryz.underlying25 rfl Tryz.infoD ?_))
        refine (HTX.out wr (Only.refl _ _)).mono ?_
        rintro e w3 ⟨rfl, hO3⟩
        have HO3 := Lib.hid hO3
        clear hO3
        go_wp2_with fail
        refine (dread_any s w3 (by omega) (HGW.out w3 (HOX.out.trans HO3.out))).mono ?_
        rintro e w4 ⟨b0, b2, d', ok, rfl, hdo, hrd, hO4⟩
        obtain ⟨rfl, rfl⟩ := HRS.out _ _ hrd
        have HO4 := Lib.hid (HO3.out.trans hO4)
        have HDO := Lib.hid hdo
        obtain ⟨a6, c6, rfl⟩ := slice_of_own hdo.cm
        obtain ⟨a7, c7, rfl⟩ := slice_of_own hdo.bx
        clear hdo hrd hO4
        have HBB := Lib.hid (heap_alloc_last w4 (.cells #[.slice a6 L5.length c6, .int .i64 d.pt, .slice a7 X.length c7] 25))
        have HA5 := Lib.hid ((Only.refl (fun _ => False) w4).alloc (.cells #[.slice a6 L5.length c6, .int .i64 d.pt, .slice a7 X.length c7] 25))
        have HO5 := Lib.hid (HO4.out.trans HA5.out)
        have HBX5 := Lib.hid (row_still HO5.out HBX.out)
        go_wp2_with (first | (refine wpList_store_row rfl 25 _ _ rfl w4.heap.size #[.slice a6 L5.length c6, .int .i64 d.pt, .slice a7 X.length c7] rfl rfl 25 _ (heap_alloc_last w4 _) Tryz.infoD rfl (dl_one _ _ _ _ _ _ _) ?_; rw [World.setRow_alloc_new]) | (refine wpList_load_row rfl 25 _ rfl B rfl 25 #[.slice a5 L5.length c5, .int .i64 d.pt, .slice ab X.length cb] (0, 0) _ HBX5.out Tryz.underlying25 rfl Tryz.infoD ?_))
        generalize w4.alloc (.cells #[.slice a6 L5.length c6, .int .i64 d.pt, .slice a7 X.length c7] 25) = w5 at *
        refine (HTR.out w5 HO5.out).mono ?_
        rintro e w6 ⟨rfl, hO6⟩
        have HO6 := Lib.hid (HO5.out.trans hO6)
        have HBX6 := Lib.hid (row_still hO6 HBX5.out)
        have HBB6 := Lib.hid (row_still hO6 HBB.out)
        have HSM := Lib.hid (rsame7_eq a6 a7 a5 ab c6 c7 c5 cb ⟨L5, d.pt, X⟩ w6 ((HDO.out.at (show L5.length ≤ _ by have := HLY.out.1; omega) (show X.length ≤ _ by have := HLY.out.2; omega)).only (HA5.out.trans hO6)) (HDL.out w6 HO6.out) (show L5.length ≤ _ by have := HLY.out.1; omega) (show X.length ≤ _ by have := HLY.out.2; omega))
        have m1 : (s.toList != s.toList) = false := by simp
        have m2 : (s.toList == s.toList) = true := by simp
        have m3 : ((s.size : Int) == 0) = false := by rw [beq_eq_false_iff_ne]; omega
        have m4 : ¬ (s.size : Int) = 0 := by omega
        clear hO6
        have x0 : _ = some (Value.slice a5 L5.length c5) := cell_of_row _ _ 0 _ _ _ HBX6.out
        have x1 : _ = some (Value.int .i64 d.pt) := cell_of_row _ _ 1 _ _ _ HBX6.out
        have x2 : _ = some (Value.slice ab X.length cb) := cell_of_row _ _ 2 _ _ _ HBX6.out
        have y0 : _ = some (Value.slice a6 L5.length c6) := cell_of_row _ _ 0 _ _ _ HBB6.out
        have y1 : _ = some (Value.int .i64 d.pt) := cell_of_row _ _ 1 _ _ _ HBB6.out
        have y2 : _ = some (Value.slice a7 X.length c7) := cell_of_row _ _ 2 _ _ _ HBB6.out
        go_wp2_with (first | (refine wpList_load_row rfl 25 _ rfl B rfl 25 #[.slice a5 L5.length c5, .int .i64 d.pt, .slice ab X.length cb] (0, 0) _ HBX6.out Tryz.underlying25 rfl Tryz.infoD ?_) | (refine wpList_load_row rfl 25 _ rfl w4.heap.size rfl 25 #[.slice a6 L5.length c6, .int .i64 d.pt, .slice a7 X.length c7] (0, 0) _ HBB6.out Tryz.underlying25 rfl Tryz.infoD ?_))
        refine HSM.out.mono ?_
        rintro e w7 ⟨rfl, hO7⟩
        have HO7 := Lib.hid (HO6.out.trans hO7)
        have HZQ7 := Lib.hid (row_still (HX.out.only.trans HO7.out) HZQ.out)
        clear hO7 x0 x1 x2 y0 y1 y2
        have g0 : _ = some (Value.int .i64 q0) := cell_of_row _ _ 0 _ _ _ HZQ7.out
        go_wp2_with fail
        refine (rmod1_any q0 s.size w7 (by omega) (by omega)).mono ?_
        rintro e wd ⟨rfl, rfl⟩
        obtain ⟨at0, hat⟩ : ∃ at0 : Nat, q0 % (s.size : Int) = at0 := Int.eq_ofNat_of_zero_le (Int.emod_nonneg _ (by omega))
        have hal : at0 < s.size := by have := Int.emod_lt_of_pos q0 (show (0 : Int) < s.size by omega); omega
        rw [hat]
        obtain ⟨cu, hcu⟩ : ∃ cu : Nat, q1 % 2 = cu := Int.eq_ofNat_of_zero_le (Int.emod_nonneg _ (by decide))
        have hcu2 : cu < 2 := by have := Int.emod_lt_of_pos q1 (show (0 : Int) < 2 by decide); omega
        have HMD := Lib.hid (fun W => rmod1_any q1 2 W (by decide) (by decide))
        rw [hcu] at HMD
        clear hcu g0 hat
        go_upto_region 13 with fail
        have g1 : w7.cell? ⟨w.heap.size + 1, 1, none⟩ = some (Value.int .i64 q1) := cell_of_row _ _ 1 _ _ _ HZQ7.out
        have g2 : w7.cell? ⟨w.heap.size + 1, 2, none⟩ = some (Value.int .i64 q2) := cell_of_row _ _ 2 _ _ _ HZQ7.out
        have hq7 : w.heap.size + 1 < w7.heap.size := (Array.getElem?_eq_some_iff.1 HZQ7.out).1
        have hcv := run_convert_bytes_arg (P := Tryz.prog) (w7.alloc (.cells #[.int .u8 (IntKind.u8.wrap q2)] 5)).drew 33 5 Tryz.underlying33 Tryz.underlying5 w7.heap.size 0 1 1 [IntKind.u8.wrap q2] rfl (fun j hj => by
          obtain rfl : j = 0 := by omega
          rw [Nat.zero_add]
          exact (World.cell?_alloc_new _ _ _ _).trans rfl) 9 Tryz.underlying9
        have hx1 : (strOfNums [IntKind.u8.wrap q2]).size = 1 := by rw [strOfNums_size]; rfl
        generalize hXX : strOfNums [IntKind.u8.wrap q2] = XX at *
        have z6 : (s.extract 0 at0).size ≤ 400 := by rw [ByteArray.size_extract]; omega
        have z7 : (s.extract (at0 + cu) s.size).size ≤ 400 := by rw [ByteArray.size_extract]; omega
        have z8 : (s.extract 0 at0 ++ XX).size ≤ 401 := by rw [ByteArray.size_append]; omega
        have z0 : 0 ≤ (at0 : Int) := by omega
        have z1 : (at0 : Int) ≤ s.size := by omega
        have z2 : IntKind.i64.wrap ((at0 : Int) + cu) = at0 + cu := IntWalk.i64_in _ (by omega)
        have z3 : 0 ≤ (at0 : Int) + cu := by omega
        have z4 : (at0 : Int) + cu ≤ s.size := by omega
        have z5 : ((at0 : Int) + cu).toNat = at0 + cu := by omega
        have HKQ := Lib.hid (show ∀ W, Only (fun _ => False) w7 W → W.cell? ⟨w.heap.size + 1, 1, none⟩ = some (Value.int .i64 q1) ∧ W.cell? ⟨w.heap.size + 1, 2, none⟩ = some (Value.int .i64 q2) ∧ Only (fun _ => False) w7 W from fun W hW => ⟨hW.cell g1 id, hW.cell g2 id, hW⟩)
        have z9 : ¬ (9223372036854775807 < min at0 s.size + 1) := by omega
        have z10 : ¬ (9223372036854775807 < min at0 s.size + 1 + (s.size - (at0 + cu))) := by omega
        have HB13 := Lib.hid (show (s.extract 0 at0 ++ XX ++ s.extract (at0 + cu) s.size).size ≤ 900 by rw [ByteArray.size_append]; omega)
        have HW13 := Lib.hid (show Only (fun _ => False) w7 (w7.alloc (.cells #[.int .u8 (IntKind.u8.wrap q2)] 5)).drew from ((Only.refl _ w7).alloc _).drew)
        go_cut [15] from 89 to 105 (fun v15 wx => ∃ t : ByteArray, v15 = .string t ∧ t.size ≤ 900 ∧ Only (fun _ => False) w7 wx)
        case first =>
          refine wp_region_split 17 (by kernel_rfl) (by kernel_rfl) (wpAny_of_held (S := fun W => W.cell? ⟨w.heap.size + 1, 1, none⟩ = some (Value.int .i64 q1) ∧ W.cell? ⟨w.heap.size + 1, 2, none⟩ = some (Value.int .i64 q2)) _ _ _ _ ?_)
          simp only [List.take_succ_cons, List.take_zero]
          change wpAnyH _ _ _ _ _ _ _ _ w7.drew
          have hHeld : w7.drew.cell? ⟨w.heap.size + 1, 1, none⟩ = some (Value.int .i64 q1) ∧ w7.drew.cell? ⟨w.heap.size + 1, 2, none⟩ = some (Value.int .i64 q2) := ⟨g1, g2⟩
          refine' wpAnyH_take (i := 0) (v := _) rfl (by kernel_rfl) (by kernel_rfl) (by kernel_rfl) (fun _ _ _ h => h) (Or.inl ⟨by rfl, ?hye0⟩) hHeld ?re0
          case hye0 => (intro w hSw; obtain ⟨s0, s1⟩ := hSw; go_simp; with_reducible rfl)
          simp only [Act.put, List.getElem_toArray, List.getElem_cons_zero, List.setIfInBounds_toArray, List.set_cons_zero, List.set_cons_succ]
          refine' wpAnyH_take (i := 1) (v := _) rfl (by kernel_rfl) (by kernel_rfl) (by kernel_rfl) (fun _ _ _ h => h) (Or.inl ⟨by rfl, ?hye1⟩) hHeld ?re1
          case hye1 => (intro w hSw; obtain ⟨s0, s1⟩ := hSw; go_simp; with_reducible rfl)
          simp only [Act.put, List.getElem_toArray, List.getElem_cons_zero, List.getElem_cons_succ, List.setIfInBounds_toArray, List.set_cons_zero, List.set_cons_succ]
          refine' wpAnyH_take (i := 2) (v := _) rfl (by kernel_rfl) (by kernel_rfl) (by kernel_rfl) (fun _ _ _ h => h) (Or.inl ⟨by rfl, ?hye2⟩) hHeld ?re2
          case hye2 => (intro w hSw; obtain ⟨s0, s1⟩ := hSw; go_simp; with_reducible rfl)
          simp only [Act.put, List.getElem_toArray, List.getElem_cons_zero, List.getElem_cons_succ, List.setIfInBounds_toArray, List.set_cons_zero, List.set_cons_succ]
          refine' wpAnyH_take (i := 3) (v := _) rfl (by kernel_rfl) (by kernel_rfl) (by kernel_rfl) (fun _ _ _ h => h) (Or.inl ⟨by rfl, ?hye3⟩) hHeld ?re3
          case hye3 => (intro w hSw; obtain ⟨s0, s1⟩ := hSw; go_simp; with_reducible rfl)
          simp only [Act.put, List.getElem_toArray, List.getElem_cons_zero, List.getElem_cons_succ, List.setIfInBounds_toArray, List.set_cons_zero, List.set_cons_succ]
          refine' wpAnyH_take (i := 4) (v := _) rfl (by kernel_rfl) (by kernel_rfl) (by kernel_rfl) (fun _ _ _ h => h) (Or.inl ⟨by rfl, ?hye4⟩) hHeld ?re4
          case hye4 => (intro w hSw; obtain ⟨s0, s1⟩ := hSw; go_simp; with_reducible rfl)
          simp only [Act.put, List.getElem_toArray, List.getElem_cons_zero, List.getElem_cons_succ, List.setIfInBounds_toArray, List.set_cons_zero, List.set_cons_succ]
          refine' wpAnyH_take (i := 5) (v := _) rfl (by kernel_rfl) (by kernel_rfl) (by kernel_rfl) (fun _ _ _ h => h) (Or.inl ⟨by rfl, ?hye5⟩) hHeld ?re5
          case hye5 => (intro w hSw; obtain ⟨s0, s1⟩ := hSw; go_simp; with_reducible rfl)
          simp only [Act.put, List.getElem_toArray, List.getElem_cons_zero, List.getElem_cons_succ, List.setIfInBounds_toArray, List.set_cons_zero, List.set_cons_succ]
          refine' wpAnyH_take (i := 9) (v := _) rfl (by kernel_rfl) (by kernel_rfl) (by kernel_rfl) (fun _ _ _ h => h) (Or.inl ⟨by rfl, ?hye9⟩) hHeld ?re9
          case hye9 => (intro w hSw; obtain ⟨s0, s1⟩ := hSw; go_simp; with_reducible rfl)
          simp only [Act.put, List.getElem_toArray, List.getElem_cons_zero, List.getElem_cons_succ, List.setIfInBounds_toArray, List.set_cons_zero, List.set_cons_succ]
          refine' wpAnyH_take (i := 10) (v := _) rfl (by kernel_rfl) (by kernel_rfl) (by kernel_rfl) (fun _ _ _ h => h) (Or.inl ⟨by rfl, ?hye10⟩) hHeld ?re10
          case hye10 => (intro w hSw; obtain ⟨s0, s1⟩ := hSw; go_simp; with_reducible rfl)
          simp only [Act.put, List.getElem_toArray, List.getElem_cons_zero, List.getElem_cons_succ, List.setIfInBounds_toArray, List.set_cons_zero, List.set_cons_succ]
          refine' wpAnyH_take (i := 11) (v := _) rfl (by kernel_rfl) (by kernel_rfl) (by kernel_rfl) (fun _ _ _ h => h) (Or.inl ⟨by rfl, ?hye11⟩) hHeld ?re11
          case hye11 => (intro w hSw; obtain ⟨s0, s1⟩ := hSw; go_simp; with_reducible rfl)
          simp only [Act.put, List.getElem_toArray, List.getElem_cons_zero, List.getElem_cons_succ, List.setIfInBounds_toArray, List.set_cons_zero, List.set_cons_succ]
          refine' wpAnyH_take (i := 12) (v := _) rfl (by kernel_rfl) (by kernel_rfl) (by kernel_rfl) (fun _ _ _ h => h) (Or.inl ⟨by rfl, ?hye12⟩) hHeld ?re12
          case hye12 => (intro w hSw; obtain ⟨s0, s1⟩ := hSw; go_simp; with_reducible rfl)
          simp only [Act.put, List.getElem_toArray, List.getElem_cons_zero, List.getElem_cons_succ, List.setIfInBounds_toArray, List.set_cons_zero, List.set_cons_succ]
          refine wpAnyH_ready (rs := [6, 13]) (by kernel_rfl) (by simp) ?_
          refine AllReadyH.cons rfl (fun K hK => ?_) (AllReadyH.cons rfl (fun K hK => ?_) AllReadyH.nil)
          · go_simp
            refine hK.out _ _ ⟨HW13.out.cell g1 id, HW13.out.cell g2 id⟩ (fun hHeld => ?_)
            clear hK K
            try simp only [Act.put, List.getElem_toArray, List.getElem_cons_zero, List.getElem_cons_succ, List.setIfInBounds_toArray, List.set_cons_zero, List.set_cons_succ]
            refine wpAnyH_ready (rs := [7, 13]) (by kernel_rfl) (by simp) ?_
            refine AllReadyH.cons rfl (fun K hK => ?_) (AllReadyH.cons rfl (fun K hK => ?_) AllReadyH.nil)
            · go_simp
              refine hK.out _ _ hHeld (fun hHeld => ?_)
              clear hK K
              try simp only [Act.put, List.getElem_toArray, List.getElem_cons_zero, List.getElem_cons_succ, List.setIfInBounds_toArray, List.set_cons_zero, List.set_cons_succ]
              refine' wpAnyH_take (i := 8) (v := _) rfl (by kernel_rfl) (by kernel_rfl) (by kernel_rfl) (fun _ _ _ h => h) (Or.inl ⟨by rfl, ?hyf2x8⟩) hHeld ?rf2x8
              case hyf2x8 => (intro w hSw; obtain ⟨s0, s1⟩ := hSw; go_simp; with_reducible rfl)
              simp only [Act.put, List.getElem_toArray, List.getElem_cons_zero, List.getElem_cons_succ, List.setIfInBounds_toArray, List.set_cons_zero, List.set_cons_succ]
              refine wpAnyH_ready (rs := [13]) (by kernel_rfl) (by simp) ?_
              refine AllReadyH.cons rfl (fun K hK => ?_) AllReadyH.nil
              go_simp
              refine (HMD.out _).mono ?_
              rintro e wd ⟨rfl, rfl⟩
              refine hK.out _ _ hHeld (fun hHeld => ?_)
              clear hK K
              try simp only [Act.put, List.getElem_toArray, List.getElem_cons_zero, List.getElem_cons_succ, List.setIfInBounds_toArray, List.set_cons_zero, List.set_cons_succ]
              refine' wpAnyH_take (i := 14) (v := _) rfl (by kernel_rfl) (by kernel_rfl) (by kernel_rfl) (fun _ _ _ h => h) (Or.inl ⟨by rfl, ?hyf3x14⟩) hHeld ?rf3x14
              case hyf3x14 => (intro w hSw; obtain ⟨s0, s1⟩ := hSw; go_simp; with_reducible rfl)
              simp only [Act.put, List.getElem_toArray, List.getElem_cons_zero, List.getElem_cons_succ, List.setIfInBounds_toArray, List.set_cons_zero, List.set_cons_succ]
              refine' wpAnyH_take (i := 15) (v := _) rfl (by kernel_rfl) (by kernel_rfl) (by kernel_rfl) (fun _ _ _ h => h) (Or.inl ⟨by rfl, ?hyf3x15⟩) hHeld ?rf3x15
              case hyf3x15 => (intro w hSw; obtain ⟨s0, s1⟩ := hSw; go_simp; with_reducible rfl)
              simp only [Act.put, List.getElem_toArray, List.getElem_cons_zero, List.getElem_cons_succ, List.setIfInBounds_toArray, List.set_cons_zero, List.set_cons_succ]
              refine' wpAnyH_take (i := 16) (v := _) rfl (by kernel_rfl) (by kernel_rfl) (by kernel_rfl) (fun _ _ _ h => h) (Or.inl ⟨by rfl, ?hyf3x16⟩) hHeld ?rf3x16
              case hyf3x16 => (intro w hSw; obtain ⟨s0, s1⟩ := hSw; go_simp; with_reducible rfl)
              simp only [Act.put, List.getElem_toArray, List.getElem_cons_zero, List.getElem_cons_succ, List.setIfInBounds_toArray, List.set_cons_zero, List.set_cons_succ]
              refine wpAnyH_done (by kernel_rfl) ?_ _
              simp only [headPost, List.drop_succ_cons, List.drop_zero]
              go_wp2_with fail
              go_meet
              exact ⟨_, rfl, HB13.out, HW13.out⟩
            · go_simp
              refine (HMD.out _).mono ?_
              rintro e wd ⟨rfl, rfl⟩
              refine hK.out _ _ hHeld (fun hHeld => ?_)
              clear hK K
              try simp only [Act.put, List.getElem_toArray, List.getElem_cons_zero, List.getElem_cons_succ, List.setIfInBounds_toArray, List.set_cons_zero, List.set_cons_succ]
              refine' wpAnyH_take (i := 14) (v := _) rfl (by kernel_rfl) (by kernel_rfl) (by kernel_rfl) (fun _ _ _ h => h) (Or.inl ⟨by rfl, ?hyf4x14⟩) hHeld ?rf4x14
              case hyf4x14 => (intro w hSw; obtain ⟨s0, s1⟩ := hSw; go_simp; with_reducible rfl)
              simp only [Act.put, List.getElem_toArray, List.getElem_cons_zero, List.getElem_cons_succ, List.setIfInBounds_toArray, List.set_cons_zero, List.set_cons_succ]
              refine' wpAnyH_take (i := 15) (v := _) rfl (by kernel_rfl) (by kernel_rfl) (by kernel_rfl) (fun _ _ _ h => h) (Or.inl ⟨by rfl, ?hyf4x15⟩) hHeld ?rf4x15
              case hyf4x15 => (intro w hSw; obtain ⟨s0, s1⟩ := hSw; go_simp; with_reducible rfl)
              simp only [Act.put, List.getElem_toArray, List.getElem_cons_zero, List.getElem_cons_succ, List.setIfInBounds_toArray, List.set_cons_zero, List.set_cons_succ]
              refine wpAnyH_ready (rs := [7]) (by kernel_rfl) (by simp) ?_
              refine AllReadyH.cons rfl (fun K hK => ?_) AllReadyH.nil
              go_simp
              refine hK.out _ _ hHeld (fun hHeld => ?_)
              clear hK K
              try simp only [Act.put, List.getElem_toArray, List.getElem_cons_zero, List.getElem_cons_succ, List.setIfInBounds_toArray, List.set_cons_zero, List.set_cons_succ]
              refine' wpAnyH_take (i := 8) (v := _) rfl (by kernel_rfl) (by kernel_rfl) (by kernel_rfl) (fun _ _ _ h => h) (Or.inl ⟨by rfl, ?hyf5x8⟩) hHeld ?rf5x8
              case hyf5x8 => (intro w hSw; obtain ⟨s0, s1⟩ := hSw; go_simp; with_reducible rfl)
              simp only [Act.put, List.getElem_toArray, List.getElem_cons_zero, List.getElem_cons_succ, List.setIfInBounds_toArray, List.set_cons_zero, List.set_cons_succ]
              refine' wpAnyH_take (i := 16) (v := _) rfl (by kernel_rfl) (by kernel_rfl) (by kernel_rfl) (fun _ _ _ h => h) (Or.inl ⟨by rfl, ?hyf5x16⟩) hHeld ?rf5x16
              case hyf5x16 => (intro w hSw; obtain ⟨s0, s1⟩ := hSw; go_simp; with_reducible rfl)
              simp only [Act.put, List.getElem_toArray, List.getElem_cons_zero, List.getElem_cons_succ, List.setIfInBounds_toArray, List.set_cons_zero, List.set_cons_succ]
              refine wpAnyH_done (by kernel_rfl) ?_ _
              simp only [headPost, List.drop_succ_cons, List.drop_zero]
              go_wp2_with fail
              go_meet
              exact ⟨_, rfl, HB13.out, HW13.out⟩
          · go_simp
            refine (HMD.out _).mono ?_
            rintro e wd ⟨rfl, rfl⟩
            refine hK.out _ _ hHeld (fun hHeld => ?_)
            clear hK K
            try simp only [Act.put, List.getElem_toArray, List.getElem_cons_zero, List.getElem_cons_succ, List.setIfInBounds_toArray, List.set_cons_zero, List.set_cons_succ]
            refine' wpAnyH_take (i := 14) (v := _) rfl (by kernel_rfl) (by kernel_rfl) (by kernel_rfl) (fun _ _ _ h => h) (Or.inl ⟨by rfl, ?hyf6x14⟩) hHeld ?rf6x14
            case hyf6x14 => (intro w hSw; obtain ⟨s0, s1⟩ := hSw; go_simp; with_reducible rfl)
            simp only [Act.put, List.getElem_toArray, List.getElem_cons_zero, List.getElem_cons_succ, List.setIfInBounds_toArray, List.set_cons_zero, List.set_cons_succ]
            refine' wpAnyH_take (i := 15) (v := _) rfl (by kernel_rfl) (by kernel_rfl) (by kernel_rfl) (fun _ _ _ h => h) (Or.inl ⟨by rfl, ?hyf6x15⟩) hHeld ?rf6x15
            case hyf6x15 => (intro w hSw; obtain ⟨s0, s1⟩ := hSw; go_simp; with_reducible rfl)
            simp only [Act.put, List.getElem_toArray, List.getElem_cons_zero, List.getElem_cons_succ, List.setIfInBounds_toArray, List.set_cons_zero, List.set_cons_succ]
            refine wpAnyH_ready (rs := [6]) (by kernel_rfl) (by simp) ?_
            refine AllReadyH.cons rfl (fun K hK => ?_) AllReadyH.nil
            go_simp
            refine hK.out _ _ ⟨HW13.out.cell g1 id, HW13.out.cell g2 id⟩ (fun hHeld => ?_)
            clear hK K
            try simp only [Act.put, List.getElem_toArray, List.getElem_cons_zero, List.getElem_cons_succ, List.setIfInBounds_toArray, List.set_cons_zero, List.set_cons_succ]
            refine wpAnyH_ready (rs := [7]) (by kernel_rfl) (by simp) ?_
            refine AllReadyH.cons rfl (fun K hK => ?_) AllReadyH.nil
            go_simp
            refine hK.out _ _ hHeld (fun hHeld => ?_)
            clear hK K
            try simp only [Act.put, List.getElem_toArray, List.getElem_cons_zero, List.getElem_cons_succ, List.setIfInBounds_toArray, List.set_cons_zero, List.set_cons_succ]
            refine' wpAnyH_take (i := 8) (v := _) rfl (by kernel_rfl) (by kernel_rfl) (by kernel_rfl) (fun _ _ _ h => h) (Or.inl ⟨by rfl, ?hyf8x8⟩) hHeld ?rf8x8
            case hyf8x8 => (intro w hSw; obtain ⟨s0, s1⟩ := hSw; go_simp; with_reducible rfl)
            simp only [Act.put, List.getElem_toArray, List.getElem_cons_zero, List.getElem_cons_succ, List.setIfInBounds_toArray, List.set_cons_zero, List.set_cons_succ]
            refine' wpAnyH_take (i := 16) (v := _) rfl (by kernel_rfl) (by kernel_rfl) (by kernel_rfl) (fun _ _ _ h => h) (Or.inl ⟨by rfl, ?hyf8x16⟩) hHeld ?rf8x16
            case hyf8x16 => (intro w hSw; obtain ⟨s0, s1⟩ := hSw; go_simp; with_reducible rfl)
            simp only [Act.put, List.getElem_toArray, List.getElem_cons_zero, List.getElem_cons_succ, List.setIfInBounds_toArray, List.set_cons_zero, List.set_cons_succ]
            refine wpAnyH_done (by kernel_rfl) ?_ _
            simp only [headPost, List.drop_succ_cons, List.drop_zero]
            go_wp2_with fail
            go_meet
            exact ⟨_, rfl, HB13.out, HW13.out⟩
        case rest =>
          obtain ⟨t, rfl, hts, hO13⟩ := hcut
          generalize wc = w8 at *
          have HW8 := Lib.hid (HOX.out.trans (HO7.out.trans hO13))
          clear hO13 hcv hXX hx1 z8 z9 z10 HB13 HW13 HKQ g1 g2 HMD
          have k1 : ¬ (9223372036854775807 < s.size + raw.size) := by omega
          have k2 : ¬ (9223372036854775807 < s.size + 1) := by omega
          have k3 : ¬ (9223372036854775807 < 1 + s.size) := by omega
          have y1 : (s ++ raw).size ≤ 1850000 := by rw [ByteArray.size_append]; omega
          have y2 : (s ++ (⟨#[32]⟩ : ByteArray)).size ≤ 1850000 := by rw [ByteArray.size_append]; show _ + 1 ≤ _; omega
          have y3 : ((⟨#[32]⟩ : ByteArray) ++ s).size ≤ 1850000 := by rw [ByteArray.size_append]; show 1 + _ ≤ _; omega
          go_wp2_with fail
          have hz9 := heap_alloc_last w8 (.cells #[.string t, .string raw, .string (s ++ raw), .string (s.extract 0 at0), .string (s ++ (⟨#[32]⟩ : ByteArray)), .string ((⟨#[32]⟩ : ByteArray) ++ s)] 9)
          have hA9 := (Only.refl (fun _ => False) w8).alloc (.cells #[.string t, .string raw, .string (s ++ raw), .string (s.extract 0 at0), .string (s ++ (⟨#[32]⟩ : ByteArray)), .string ((⟨#[32]⟩ : ByteArray) ++ s)] 9)
          have HT9 := Lib.hid (sixT_of hz9 (by omega) (by omega) y1 (by omega) y2 y3)
          have HW9 := Lib.hid (HW8.out.trans hA9)
          have hlt9 : w8.heap.size < (w8.alloc (.cells #[.string t, .string raw, .string (s ++ raw), .string (s.extract 0 at0), .string (s ++ (⟨#[32]⟩ : ByteArray)), .string ((⟨#[32]⟩ : ByteArray) ++ s)] 9)).heap.size := by rw [World.size_alloc]; exact Nat.lt_succ_self _
          clear hz9 hA9 y1 y2 y3 k1 k2 k3
          generalize w8.alloc (.cells #[.string t, .string raw, .string (s ++ raw), .string (s.extract 0 at0), .string (s ++ (⟨#[32]⟩ : ByteArray)), .string ((⟨#[32]⟩ : ByteArray) ++ s)] 9) = w9 at *
          go_loopw [120] (fun iv wr => ∃ k : Nat, k ≤ 6 ∧ iv = .int .i64 k ∧ Only (fun _ => False) w9 wr) (fun iv _ => 6 - (intOf iv).toNat)
          case atStart => exact ⟨0, Nat.zero_le _, rfl, Only.refl _ w9⟩
          case round =>
            obtain ⟨j, hj, rfl, hO⟩ := hrel
            by_cases hlt : j < 6
            · obtain ⟨tx, hc, hT⟩ := HT9.out j hlt
              have hcr := hO.cell hc id
              have HOr := Lib.hid (HW9.out.trans hO)
              have HO := Lib.hid hO
              have i0' : 0 ≤ (j : Int) := by omega
              have i1' : (j : Int) < 6 := by omega
              have hbl := World.block_lt_of_cell? _ _ hcr
              clear hO hc
              go_wp2_with fail
              refine (dread_any tx _ (by omega) (HGW.out _ HOr.out)).mono ?_
              rintro e w10 ⟨b0, b2, d1, ok1, rfl, hd1, hr1, hO10⟩
              obtain ⟨a6, c6, rfl⟩ := slice_of_own hd1.cm
              obtain ⟨a7, c7, rfl⟩ := slice_of_own hd1.bx
              have HR1 := Lib.hid hr1
              have hl1 := readsD_len hr1
              have HA10 := Lib.hid (hO10.trans ((Only.refl (fun _ => False) w10).alloc (.cells #[.slice a6 d1.cm.length c6, .int .i64 d1.pt, .slice a7 d1.bx.length c7] 25)))
              have HX10 := Lib.hid (heap_alloc_last w10 (.cells #[.slice a6 d1.cm.length c6, .int .i64 d1.pt, .slice a7 d1.bx.length c7] 25))
              have HD10 := Lib.hid ((hd1.at (by omega) (by omega)).only ((Only.refl (fun _ => False) w10).alloc (.cells #[.slice a6 d1.cm.length c6, .int .i64 d1.pt, .slice a7 d1.bx.length c7] 25)))
              clear hr1 hO10 hcr hd1
              go_wp2_with (first | (refine wpList_store_row rfl 25 _ _ rfl w10.heap.size #[.slice a6 d1.cm.length c6, .int .i64 d1.pt, .slice a7 d1.bx.length c7] rfl rfl 25 _ (heap_alloc_last w10 _) Tryz.infoD rfl (dl_one _ _ _ _ _ _ _) ?_; rw [World.setRow_alloc_new]))
              generalize w10.alloc (.cells #[.slice a6 d1.cm.length c6, .int .i64 d1.pt, .slice a7 d1.bx.length c7] 25) = w11 at *
              refine (rread7_any tx w11 (by omega)).mono ?_
              rintro e w12 ⟨g0, g2, d2, ok2, rfl, hd2, hr2, hO12⟩
              obtain ⟨rfl, rfl⟩ := readsD_same HR1.out hr2
              obtain ⟨a8, c8, rfl⟩ := slice_of_own hd2.cm
              obtain ⟨a9, c9, rfl⟩ := slice_of_own hd2.bx
              have HA12 := Lib.hid (hO12.trans ((Only.refl (fun _ => False) w12).alloc (.cells #[.slice a8 d1.cm.length c8, .int .i64 d1.pt, .slice a9 d1.bx.length c9] 25)))
              have HX12 := Lib.hid (row_still HA12.out HX10.out)
              have HY12 := Lib.hid (heap_alloc_last w12 (.cells #[.slice a8 d1.cm.length c8, .int .i64 d1.pt, .slice a9 d1.bx.length c9] 25))
              have HSM := Lib.hid (rsame7_eq a6 a7 a8 a9 c6 c7 c8 c9 d1 _ (HD10.out.only HA12.out) ((hd2.at (by omega) (by omega)).only ((Only.refl (fun _ => False) w12).alloc (.cells #[.slice a8 d1.cm.length c8, .int .i64 d1.pt, .slice a9 d1.bx.length c9] 25))) (by omega) (by omega))
              have HOZ := Lib.hid (HO.out.trans (HA10.out.trans HA12.out))
              clear hr2 hO12 hd2 HR1 HD10 HX10
              have m1 : (ok1 != ok1) = false := by cases ok1 <;> rfl
              have x0 : _ = some (Value.slice a6 d1.cm.length c6) := cell_of_row _ _ 0 _ _ _ HX12.out
              have x1 : _ = some (Value.int .i64 d1.pt) := cell_of_row _ _ 1 _ _ _ HX12.out
              have x2 : _ = some (Value.slice a7 d1.bx.length c7) := cell_of_row _ _ 2 _ _ _ HX12.out
              have v0 : _ = some (Value.slice a8 d1.cm.length c8) := cell_of_row _ _ 0 _ _ _ HY12.out
              have v1 : _ = some (Value.int .i64 d1.pt) := cell_of_row _ _ 1 _ _ _ HY12.out
              have v2 : _ = some (Value.slice a9 d1.bx.length c9) := cell_of_row _ _ 2 _ _ _ HY12.out
              go_wp2_with (first | (refine wpList_store_row rfl 25 _ _ rfl w12.heap.size #[.slice a8 d1.cm.length c8, .int .i64 d1.pt, .slice a9 d1.bx.length c9] rfl rfl 25 _ (heap_alloc_last w12 _) Tryz.infoD rfl (dl_one _ _ _ _ _ _ _) ?_; rw [World.setRow_alloc_new]))
              refine HSM.out.mono ?_
              rintro e w13 ⟨rfl, hO13⟩
              have HOF := Lib.hid (HOZ.out.trans hO13)
              clear hO13 x0 x1 x2 v0 v1 v2
              go_wp2_with fail
              go_roundw
              case rel => exact ⟨j + 1, by omega, by go_num, HOF.out⟩
              case measure => simp [intOf]; omega
            · obtain rfl : j = 6 := by omega
              have i1' : ¬ ((6 : Nat) : Int) < 6 := by omega
              have HOF := Lib.hid (HW9.out.trans hO)
              clear hO
              go_wp2
              go_ret
              exact ⟨rfl, HOF.out.below (Nat.le_refl _) (fun _ _ h => h)⟩
end Go.Proofs.YtkpfachmakfncaaGreatDoor
