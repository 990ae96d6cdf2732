/-
  The walk of bent.
-/
import Derived.Test.YtalclldccnichaaGreatWtG
namespace Go.Proofs.YtalclldccnichaaGreat
open Go.RowKit

/-- The parts of dealings that bent takes. -/
structure BtIn (w : World) (base : Nat) (v : Value) (qs : List (Value × Dl × Value)) : Prop where
  ds : DsOwn base w v qs
  low : base ≤ w.heap.size
  len1 : 1 ≤ qs.length
  len2 : qs.length ≤ 100
  each : ∀ q ∈ qs, 1 ≤ q.2.1.cm.length ∧ q.2.1.cm.length ≤ 100 ∧ 1 ≤ q.2.1.bx.length ∧ q.2.1.bx.length ≤ 100

theorem new_only {A w1 : World} {o : Obj} {g n c : Nat} (hg : (A.alloc o).grownBy w1 (Value.slice (some ⟨g, 0, none⟩) n c).ownBlock) (hle : A.heap.size ≤ g) : Only (fun _ => False) A w1 :=
  ((Only.refl (fun _ => False) A).alloc o).trans' ((Only.refl (fun k => k = g) _).grown hg (fun k e _ => by simpa [Value.ownBlock] using e.symm)) (fun i hi e => by omega)
theorem own_form {w : World} {base e size n : Nat} {v : Value} {xs : List Value} (h : w.ownsRow base e size v n xs) (hn : 0 < n) : ∃ g cap, v = .slice (some ⟨g, 0, none⟩) n cap ∧ g < w.heap.size ∧ n ≤ cap ∧ cap ≤ 9223372036854775807 ∧ base ≤ g := by
  rcases h.2 with ⟨_, h0⟩ | ⟨g, cap, cur, rfl, hb, hg, hcap, hcap2, _⟩
  · omega
  · unfold maxLen at hcap2
    exact ⟨g, cap, rfl, (Array.getElem?_eq_some_iff.1 hg).1, hcap, by omega, hb⟩
theorem own_cap2 {w : World} {base e n cap size : Nat} {a : Option Addr} {xs : List Value} (h : w.ownsRow base e size (.slice a n cap) n xs) (hn : 0 < n) : n ≤ cap ∧ cap ≤ 9223372036854775807 := by
  obtain ⟨g, cap', hv, _, h1, h2, _⟩ := own_form h hn
  simp only [Value.slice.injEq] at hv
  obtain ⟨_, _, rfl⟩ := hv
  exact ⟨h1, h2⟩
theorem own_cellD {w : World} {base n g cap i : Nat} {qs : List (Value × Dl × Value)} (h : w.ownsRow base 72 3 (.slice (some ⟨g, 0, none⟩) n cap) n (rowD qs)) (hi : i < qs.length) :
    w.cell? ⟨g, i * 3, none⟩ = some qs[i].1 ∧ w.cell? ⟨g, i * 3 + 1, none⟩ = some (.int .i64 qs[i].2.1.pt) ∧ w.cell? ⟨g, i * 3 + 2, none⟩ = some qs[i].2.2 := by
  have hadd : ∀ j, (⟨g, 0, none⟩ : Addr).add j = ⟨g, j, none⟩ := fun j => by unfold Addr.add; split <;> simp_all
  have hc := h.cells (g := g) rfl
  have h1 := rowD_at qs i hi
  refine ⟨?_, ?_, ?_⟩
  · rw [← hadd]; exact hc _ _ h1.1
  · rw [← hadd]; exact hc _ _ h1.2.1
  · rw [← hadd]; exact hc _ _ h1.2.2
/-- The state of bent before the boxes are copied. -/
structure B5 (w : World) (X : Nat) (wr : World) (q0 q1 q2 : Int) (vo vc cv x2 : Value) (pt : Int) (qs : List (Value × Dl × Value)) (l : List Mb) (cs : List Int) : Prop where
  q : wr.heap[w.heap.size]? = some (.cells #[.int .i64 q0, .int .i64 q1, .int .i64 q2] 23 (0, 0))
  out : wr.ownsRow (w.heap.size + 1) 72 3 vo qs.length (rowD qs)
  crew : wr.ownsRow (w.heap.size + 1) 68 3 vc l.length (mrow l)
  blk : wr.heap[X]? = some (.cells #[cv, .int .i64 pt, x2] 72 (0, 0))
  cm : wr.ownsRow (w.heap.size + 1) 3 1 cv cs.length (irow cs)
  ne : vo.ownBlock ≠ some X
  low : w.heap.size < X
  only : Only (fun _ => False) w wr
theorem own_take {w : World} {base e n g cap size : Nat} {xs : List Value} (h : w.ownsRow base e size (.slice (some ⟨g, 0, none⟩) n cap) n xs) (m : Nat) (hm : m ≤ n) : w.ownsRow base e size (.slice (some ⟨g, 0, none⟩) m cap) m (xs.take (m * size)) := by
  have hms : m * size ≤ n * size := Nat.mul_le_mul_right _ hm
  refine ⟨by rw [List.length_take, h.1]; omega, ?_⟩
  rcases h.2 with ⟨hn, _⟩ | ⟨g', cap', cur, hv, hb, hg, hcap, hcap2, hsz, htk⟩
  · simp at hn
  · simp only [Value.slice.injEq, Option.some.injEq, Addr.mk.injEq, and_true, true_and] at hv
    obtain ⟨rfl, rfl⟩ := hv
    refine .inr ⟨g, cap, cur, rfl, hb, hg, by omega, hcap2, hsz, ?_⟩
    rw [← htk, List.take_take, Nat.min_eq_left hms]
theorem rowD_take : ∀ (qs : List (Value × Dl × Value)) (m : Nat), (rowD qs).take (m * 3) = rowD (qs.take m)
  | [], m => by simp [rowD]
  | q :: qs, 0 => by simp [rowD]
  | q :: qs, m + 1 => by
    have e : ∀ (x : Value × Dl × Value) (l : List (Value × Dl × Value)), rowD (x :: l) = x.1 :: .int .i64 x.2.1.pt :: x.2.2 :: rowD l := fun x l => by simp [rowD]
    rw [List.take_succ_cons, e, e, ← rowD_take qs m, show (m + 1) * 3 = m * 3 + 1 + 1 + 1 by omega]
    simp only [List.take_succ_cons]
theorem DsOwn.take {base : Nat} {W : World} {g cap : Nat} {qs : List (Value × Dl × Value)} (h : DsOwn base W (.slice (some ⟨g, 0, none⟩) qs.length cap) qs) (m : Nat) (hm : m ≤ qs.length) : DsOwn base W (.slice (some ⟨g, 0, none⟩) m cap) (qs.take m) := by
  refine ⟨?_, fun q hq => h.each q (List.mem_of_mem_take hq)⟩
  have := own_take h.own m hm
  rw [rowD_take] at this
  rw [List.length_take, Nat.min_eq_left hm]
  exact this
/-- Dealings that are short, as a list. -/
theorem DsOwn.fin {base : Nat} {W : World} {v : Value} {qs : List (Value × Dl × Value)} (h : DsOwn base W v qs) (m : Nat) (hm : qs.length ≤ m ∧ m ≤ 1000) (hs : ∀ q ∈ qs, q.2.1.cm.length ≤ 1000 ∧ q.2.1.bx.length ≤ 1000) : DlsAt W v (qs.map (·.2.1)) ∧ DlsS (qs.map (·.2.1)) := by
  refine ⟨h.dls (fun q hq => by have := hs q hq; omega), by rw [List.length_map]; omega, fun j hj => ?_⟩
  rw [List.length_map] at hj
  have hd : dlAt (qs.map (·.2.1)) j = qs[j].2.1 := by simp [dlAt, List.getD, hj]
  rw [hd]
  have := hs _ (List.getElem_mem hj)
  omega
/-- One dealing is put in the place of another. -/
theorem DsOwn.put {base : Nat} {W : World} {g cap ii n : Nat} {cv bv : Value} {D : Dl} {qs : List (Value × Dl × Value)} (h : DsOwn base W (.slice (some ⟨g, 0, none⟩) n cap) qs) (hn : qs.length = n) (hx : DlOwn base W cv bv D) (hi : ii < n) :
    DsOwn base (((W.setCell ⟨g, ii * 3, none⟩ cv).setCell ⟨g, ii * 3 + 1, none⟩ (.int .i64 D.pt)).setCell ⟨g, ii * 3 + 2, none⟩ bv) (.slice (some ⟨g, 0, none⟩) n cap) (qs.set ii (cv, D, bv)) ∧ Only (fun k => k = g) W (((W.setCell ⟨g, ii * 3, none⟩ cv).setCell ⟨g, ii * 3 + 1, none⟩ (.int .i64 D.pt)).setCell ⟨g, ii * 3 + 2, none⟩ bv) := by
  subst hn
  have hO : Only (fun k => k = g) W (((W.setCell ⟨g, ii * 3, none⟩ cv).setCell ⟨g, ii * 3 + 1, none⟩ (.int .i64 D.pt)).setCell ⟨g, ii * 3 + 2, none⟩ bv) := (((Only.refl (fun k => k = g) W).setCell (p := ⟨g, ii * 3, none⟩) (.inl rfl) _).setCell (p := ⟨g, ii * 3 + 1, none⟩) (.inl rfl) _).setCell (p := ⟨g, ii * 3 + 2, none⟩) (.inl rfl) _
  have hg : ∀ {e s m : Nat} {u : Value} {xs : List Value}, W.ownsRow base e s u m xs → e ≠ 72 → ∀ k, u.ownBlock = some k → ¬ k = g := fun hu he k hk e => own_ne_ty hu h.own he k hk (by rw [e]; rfl)
  refine ⟨⟨?_, fun q hq => ?_⟩, hO⟩
  · have := own_set' (j := ii * 3 + 2) (own_set' (j := ii * 3 + 1) (own_set' (j := ii * 3) h.own cv) (.int .i64 D.pt)) bv
    rw [rowD_set qs ii cv bv D hi] at this
    rw [List.length_set]
    exact this
  · rcases List.mem_or_eq_of_mem_set hq with hq | rfl
    · exact ⟨hO.owns (h.each q hq).cm (hg (h.each q hq).cm (by decide)), hO.owns (h.each q hq).bx (hg (h.each q hq).bx (by decide))⟩
    · exact ⟨hO.owns hx.cm (hg hx.cm (by decide)), hO.owns hx.bx (hg hx.bx (by decide))⟩
theorem bent_fin {w W : World} {base b g cap n ii : Nat} {cv bv vc v7 : Value} {D : Dl} {qs : List (Value × Dl × Value)} {l l2 : List Mb} (hO : Only (fun _ => False) w W) (hge : w.heap.size ≤ g) (hDS : DsOwn base W (.slice (some ⟨g, 0, none⟩) n cap) qs) (hn : qs.length = n) (hDX : DlOwn base W cv bv D) (hi : ii < n)
    (hcr : W.ownsRow b 68 3 vc l.length (mrow l)) (hw : MbsW l2) (hv : ∀ W', MbsAt W' vc l → MbsAt W' v7 l2) (hs : n ≤ 1000 ∧ ∀ q ∈ qs, q.2.1.cm.length ≤ 1000 ∧ q.2.1.bx.length ≤ 1000) (hd : D.cm.length ≤ 1000 ∧ D.bx.length ≤ 1000) :
    BentPost w (.returned (.tuple #[.slice (some ⟨g, 0, none⟩) n cap, v7])) (((W.setCell ⟨g, ii * 3, none⟩ cv).setCell ⟨g, ii * 3 + 1, none⟩ (.int .i64 D.pt)).setCell ⟨g, ii * 3 + 2, none⟩ bv) := by
  obtain ⟨h1, h2⟩ := hDS.put hn hDX hi
  obtain ⟨h3, h4⟩ := h1.fin 1000 (by rw [List.length_set]; omega) (fun q hq => by
    rcases List.mem_or_eq_of_mem_set hq with hq | rfl
    · exact hs.2 q hq
    · exact hd)
  refine ⟨hO.trans' h2 (fun i hi e => by omega), _, _, _, l2, rfl, h3, h4, hv _ (mbs_of_own (h2.owns hcr (fun k hk e => own_ne_ty hcr hDS.own (by decide) k hk (by rw [e]; rfl)))), hw⟩
theorem BentPost.more {w W W' : World} {e : Ending} (h : BentPost w e W) (hO : Only (fun _ => False) W W') : BentPost w e W' := by
  obtain ⟨h1, v6, v7, ds, l, h2, h3, h4, h5, h6⟩ := h
  exact ⟨h1.trans hO, v6, v7, ds, l, h2, h3.only hO, h4, h5.only hO, h6⟩
theorem DsOwn.spots {base : Nat} {W : World} {g cap n ii : Nat} {qs : List (Value × Dl × Value)} (h : DsOwn base W (.slice (some ⟨g, 0, none⟩) n cap) qs) (hn : qs.length = n) (hi : ii < n) :
    (∃ a x c, W.cell? ⟨g, ii * 3, none⟩ = some a ∧ W.cell? ⟨g, ii * 3 + 1, none⟩ = some x ∧ W.cell? ⟨g, ii * 3 + 2, none⟩ = some c) ∧ (∀ j, W.frozen? ⟨g, j, none⟩ = false) ∧ g < W.heap.size ∧ n ≤ cap ∧ cap ≤ 9223372036854775807 := by
  subst hn
  obtain ⟨h1, h2, h3⟩ := own_cellD h.own hi
  obtain ⟨cur, hg⟩ := own_ty h.own (show (Value.slice (some ⟨g, 0, none⟩) qs.length cap).ownBlock = some g from rfl)
  obtain ⟨h4, h5⟩ := own_cap2 h.own (by omega)
  exact ⟨⟨_, _, _, h1, h2, h3⟩, fun j => frozen_of_row _ _ j _ _ hg, own_lt0 hg, h4, h5⟩
theorem mbs_drop {W : World} {g cc : Nat} {l : List Mb} (hl : 1 ≤ l.length) (h : MbsAt W (.slice (some ⟨g, 0, none⟩) l.length cc) l) : (cc = 1 → MbsAt W (.slice (some ⟨g, 0, none⟩) (l.length - 1) (cc - 1)) (l.drop 1)) ∧ (cc ≠ 1 → MbsAt W (.slice (some ⟨g, 3, none⟩) (l.length - 1) (cc - 1)) (l.drop 1)) := by
  rcases h with ⟨_, _, e, h0⟩ | ⟨b, off, cap, hv, hb, h1, h2, hc⟩
  · rw [h0] at hl; simp at hl
  · simp only [Value.slice.injEq, Option.some.injEq, Addr.mk.injEq, and_true, true_and] at hv
    obtain ⟨⟨rfl, rfl⟩, rfl⟩ := hv
    refine ⟨fun e => .inl ⟨_, _, by rw [show l.length - 1 = 0 by omega], List.eq_nil_of_length_eq_zero (by rw [List.length_drop]; omega)⟩, fun e => .inr ⟨g, 3, cc - 1, by rw [List.length_drop], hb, by rw [List.length_drop]; omega, by omega, fun j hj => ?_⟩⟩
    rw [List.length_drop] at hj
    have hm : mbAt (l.drop 1) j = mbAt l (j + 1) := by unfold mbAt; simp [List.getD]
    have := hc (j + 1) (by omega)
    rw [hm, show 3 + j * 3 = 0 + (j + 1) * 3 by omega]
    exact this
theorem MbsW.drop {l : List Mb} (h : MbsW l) : MbsW (l.drop 1) := ⟨fun j => by
  have hm : mbAt (l.drop 1) j = mbAt l (j + 1) := by unfold mbAt; simp [List.getD]
  rw [hm]; exact h.wf (j + 1)⟩
theorem mrow_set : ∀ (l : List Mb) (m : Nat) (x : Int), m < l.length → (mrow l).set (m * 3 + 1) (.int .i64 x) = mrow (l.set m ⟨(mbAt l m).id, x, (mbAt l m).pb⟩)
  | q :: l, 0, x, _ => by simp [mrow, mbAt]
  | q :: l, m + 1, x, h => by
    have ih := mrow_set l m x (by simpa using h)
    have e : ∀ (y : Mb) (k : List Mb), mrow (y :: k) = .int .i64 y.id :: .int .i64 y.wt :: .int .i64 y.pb :: mrow k := fun y k => by simp [mrow]
    have em : mbAt (q :: l) (m + 1) = mbAt l m := by simp [mbAt]
    rw [List.set_cons_succ, e, e, em, ← ih, show (m + 1) * 3 + 1 = m * 3 + 1 + 1 + 1 + 1 by omega]
    simp only [List.set_cons_succ]
theorem MbsW.set {l : List Mb} (h : MbsW l) (m : Nat) (x : Int) (hx : -9223372036854775808 ≤ x ∧ x ≤ 9223372036854775807) : MbsW (l.set m ⟨(mbAt l m).id, x, (mbAt l m).pb⟩) := ⟨fun j => by
  by_cases e : m = j
  · subst e
    by_cases hm : m < l.length
    · have : mbAt (l.set m ⟨(mbAt l m).id, x, (mbAt l m).pb⟩) m = ⟨(mbAt l m).id, x, (mbAt l m).pb⟩ := by simp [mbAt, List.getD, hm]
      rw [this]; exact ⟨(h.wf m).1, hx⟩
    · have : mbAt (l.set m ⟨(mbAt l m).id, x, (mbAt l m).pb⟩) m = ⟨0, 0, 0⟩ := by simp [mbAt, List.getD, hm]
      rw [this]; decide
  · have : mbAt (l.set m ⟨(mbAt l m).id, x, (mbAt l m).pb⟩) j = mbAt l j := by simp [mbAt, List.getD, e]
    rw [this]; exact h.wf j⟩
theorem own_cellM {w : World} {base n g cap i : Nat} {l : List Mb} (h : w.ownsRow base 68 3 (.slice (some ⟨g, 0, none⟩) n cap) n (mrow l)) (hi : i < l.length) :
    w.cell? ⟨g, i * 3, none⟩ = some (.int .i64 (mbAt l i).id) ∧ w.cell? ⟨g, i * 3 + 1, none⟩ = some (.int .i64 (mbAt l i).wt) ∧ w.frozen? ⟨g, i * 3 + 1, none⟩ = false ∧ g < w.heap.size := by
  have hadd : ∀ j, (⟨g, 0, none⟩ : Addr).add j = ⟨g, j, none⟩ := fun j => by unfold Addr.add; split <;> simp_all
  have hc := h.cells (g := g) rfl
  have h1 := mrow_at l i hi
  obtain ⟨cur, hg⟩ := own_ty h (show (Value.slice (some ⟨g, 0, none⟩) n cap).ownBlock = some g from rfl)
  refine ⟨?_, ?_, frozen_of_row _ _ _ _ _ hg, own_lt0 hg⟩
  · rw [← hadd]; exact hc _ _ h1.1
  · rw [← hadd]; exact hc _ _ h1.2.1
theorem srowS_one (l : List ByteArray) : ∀ u ∈ srowS l, u.oneCell' = true := by
  intro u hu
  obtain ⟨s, _, rfl⟩ := List.mem_map.1 hu
  rfl
theorem srowS_len (l : List ByteArray) : (srowS l).length = l.length := by unfold srowS; simp

set_option maxRecDepth 100000 in
set_option maxHeartbeats 4000000 in
theorem bent_any (base : Nat) (dv sv : Value) (qs : List (Value × Dl × Value)) (l : List Mb) (q0 q1 q2 : Int) (w : World) (hI : BtIn w base dv qs) (hM : MbsAt w sv l) (hw : MbsW l) (hl1 : 1 ≤ l.length) (hl2 : l.length ≤ 13) (hwt : ∀ j, (mbAt l j).wt ≤ 1000) :
    Calls Tryz.prog 14 #[dv, sv, .agg #[.int .i64 q0, .int .i64 q1, .int .i64 q2]] w (BentPost w) := by
  obtain ⟨i0, hi0, hz0, hz1, hz2⟩ := info_parts Tryz.infoI
  obtain ⟨j0, hj0, hy0, hy1, hy2⟩ := info_parts Tryz.infoDl
  obtain ⟨m0, hm0, hx0, hx1, hx2⟩ := info_parts Tryz.infoM
  obtain ⟨s0, hs0, hu0, hu1, hu2⟩ := info_parts Tryz.infoS1
  obtain ⟨gd, cd, hdv⟩ : ∃ gd cd, dv = .slice (some ⟨gd, 0, none⟩) qs.length cd := by
    rcases hI.ds.own.2 with ⟨_, h0⟩ | ⟨g, cap, cur, h, _⟩
    · have := hI.len1; omega
    · exact ⟨g, cap, h⟩
  subst hdv
  obtain ⟨bm, om, cm, rfl, hbm, hcm1, hcm2, hmc⟩ : ∃ b off c, sv = .slice (some ⟨b, off, none⟩) l.length c ∧ b < w.heap.size ∧ l.length ≤ c ∧ c ≤ 9223372036854775807 ∧ ∀ j, j < l.length → w.cell? ⟨b, off + j * 3, none⟩ = some (.int .i64 (mbAt l j).id) ∧ w.cell? ⟨b, off + j * 3 + 1, none⟩ = some (.int .i64 (mbAt l j).wt) ∧ w.cell? ⟨b, off + j * 3 + 2, none⟩ = some (.int .i64 (mbAt l j).pb) := by
    rcases hM with ⟨_, _, _, h0⟩ | ⟨b, off, cap, hv, hb, h1, h2, hc⟩
    · rw [h0] at hl1; simp at hl1
    · exact ⟨b, off, cap, hv, hb, h1, h2, hc⟩
  have hq1 := hI.len1
  have hq2 := hI.len2
  have HI := Lib.hid hI
  have HMN := Lib.hid (fun (w' : World) (hO : Only (fun _ => False) w w') => mbs_news (w := w') (b := bm) (off := om) (l := l) (fun j hj => ⟨hO.cell (hmc j hj).1 id, hO.cell (hmc j hj).2.1 id, hO.cell (hmc j hj).2.2 id⟩))
  have HDN := Lib.hid (fun (w' : World) (hO : Only (fun _ => False) w w') => (hO.owns hI.ds.own (fun _ _ h => h)).cells (g := gd) rfl)
  have HONE := Lib.hid (rowD_one (qs := qs) (fun q hq => by
    obtain ⟨_, _, e1⟩ := slice_of_own (hI.ds.each q hq).cm
    obtain ⟨_, _, e2⟩ := slice_of_own (hI.ds.each q hq).bx
    rw [e1, e2]; exact ⟨rfl, rfl⟩))
  have HWT := Lib.hid hwt
  have HW := Lib.hid hw
  clear hI hM hmc hwt hw
  have HO0 := Lib.hid ((Only.refl (fun _ => False) w).alloc (.cells #[.int .i64 q0, .int .i64 q1, .int .i64 q2] 23))
  have HQ0 := Lib.hid (heap_alloc_last w (.cells #[.int .i64 q0, .int .i64 q1, .int .i64 q2] 23))
  have hsz0 : (w.alloc (.cells #[.int .i64 q0, .int .i64 q1, .int .i64 q2] 23)).heap.size = w.heap.size + 1 := World.size_alloc _ _
  have hE1 := own_empty (w.alloc (.cells #[.int .i64 q0, .int .i64 q1, .int .i64 q2] 23)) (w.heap.size + 1) 72 3 (by omega)
  rw [hsz0] at hE1
  have hsz1 : w.heap.size + 1 ≤ ((w.alloc (.cells #[.int .i64 q0, .int .i64 q1, .int .i64 q2] 23)).alloc (.cells #[] 72)).heap.size := by rw [World.size_alloc, hsz0]; omega
  have HSZ1 := Lib.hid hsz1
  clear hsz0 hsz1
  go_enter Tryz.func14, Tryz.ntmps14
  go_wp2_with (at_builtin; refine wpList_append_lies _ rfl _ _ 32 rfl (w.heap.size + 1) 72 j0 _ 3 56 Tryz.underlying32 hj0 hy0 hy1 hy2 rfl (by decide) _ 0 [] rfl hE1 ⟨gd, 0, none⟩ qs.length cd (rowD qs) rfl (rowD_len qs) ?c0 HONE.out ?c4 ?c1 ?c2 ?c3 _ rfl ?_)
  case c0 => exact HDN.out _ (HO0.out.alloc _)
  case c4 => omega
  case c1 => unfold maxLen; omega
  case c2 => omega
  case c3 => exact HSZ1.out
  intro go co w1 ho1 hg1 ha1 hgl1
  have HO1 := Lib.hid (HO0.out.trans (new_only hg1 (by rw [World.size_alloc]; exact Nat.le_refl _)))
  have HQ1 := Lib.hid (row_still (new_only hg1 (by rw [World.size_alloc]; exact Nat.le_refl _)) HQ0.out)
  have HOUT := Lib.hid ho1
  have hs1 := own_lt0 HQ1.out
  have hE2 := own_empty w1 (w.heap.size + 1) 68 3 (by omega)
  clear ho1 hg1 ha1 hE1 HO0 HQ0
  go_wp2_with (at_builtin; refine wpList_append_lies _ rfl _ _ 25 rfl (w.heap.size + 1) 68 m0 _ 3 24 Tryz.underlying25 hm0 hx0 hx1 hx2 rfl (by decide) _ 0 [] rfl hE2 ⟨bm, om, none⟩ l.length cm (mrow l) rfl (mrow_len l) ?d0 (mrow_one l) ?d4 ?d1 ?d2 ?d3 _ rfl ?_)
  case d0 => exact HMN.out _ (HO1.out.alloc _)
  case d4 => omega
  case d1 => unfold maxLen; omega
  case d2 => omega
  case d3 => rw [World.size_alloc]; omega
  intro gc cc w2 ho2 hg2 ha2 hgl2
  have HN2 := Lib.hid (new_only hg2 (Nat.le_refl _))
  have HO2 := Lib.hid (HO1.out.trans HN2.out)
  have HQ2 := Lib.hid (row_still HN2.out HQ1.out)
  have HOUT2 := Lib.hid (HN2.out.owns HOUT.out (fun _ _ h => h))
  have HCR2 := Lib.hid ho2
  have hs2 := own_lt0 HQ2.out
  have hgo : go < w2.heap.size := Nat.lt_of_lt_of_le hgl1 HN2.out.size
  clear ho2 hg2 ha2 hE2 HN2 HOUT HQ1
  have e0 := cell_of_row _ _ 0 _ _ _ HQ2.out
  obtain ⟨ii, hii⟩ : ∃ ii : Nat, q0 % (qs.length : Int) = ii := ⟨(q0 % (qs.length : Int)).toNat, by have := emod_self_lt q0 qs.length (by omega); omega⟩
  have hiq : ii < qs.length := by have := emod_self_lt q0 qs.length (by omega); omega
  have HII := Lib.hid hii
  obtain ⟨d0, d1, d2⟩ := own_cellD HOUT2.out hiq
  have hmem : qs[ii] ∈ qs := List.getElem_mem hiq
  obtain ⟨ce1, ce2, ce3, ce4⟩ := HI.out.each _ hmem
  have HEC := Lib.hid (HI.out.ds.each _ hmem)
  obtain ⟨hco1, hco2⟩ := own_cap2 HOUT2.out (by omega)
  generalize qs[ii] = q at *
  obtain ⟨x0, D, x2⟩ := q
  dsimp only at d0 d1 d2 ce1 ce2 ce3 ce4 HEC
  obtain ⟨g0, k0, rfl, hg0, hk1, hk2, _⟩ := own_form HEC.out.cm (by omega)
  obtain ⟨g2, k2, rfl, hg2, hk3, hk4, _⟩ := own_form HEC.out.bx (by omega)
  clear hmem hii
  go_wp2_with fail
  refine (rmod2_any q0 qs.length w2 (by omega) (by omega)).mono ?_
  rintro e w2' ⟨rfl, rfl⟩
  rw [HII.out]
  have i1 : (ii : Int) < qs.length := by omega
  have i2 : 0 ≤ (ii : Int) := by omega
  have HX := Lib.hid (heap_alloc_last w2 (.cells #[.slice (some ⟨g0, 0, none⟩) D.cm.length k0, .int .i64 D.pt, .slice (some ⟨g2, 0, none⟩) D.bx.length k2] 72))
  have HO3 := Lib.hid (HO2.out.alloc (.cells #[.slice (some ⟨g0, 0, none⟩) D.cm.length k0, .int .i64 D.pt, .slice (some ⟨g2, 0, none⟩) D.bx.length k2] 72))
  have hE3 := own_empty (w2.alloc (.cells #[.slice (some ⟨g0, 0, none⟩) D.cm.length k0, .int .i64 D.pt, .slice (some ⟨g2, 0, none⟩) D.bx.length k2] 72)) (w.heap.size + 1) 3 1 (by rw [World.size_alloc]; omega)
  rw [World.size_alloc] at hE3
  have HCN := Lib.hid (fun (w' : World) (hO : Only (fun _ => False) w w') => (hO.owns HEC.out.cm (fun _ _ h => h)).cells (g := g0) rfl)
  have HBN := Lib.hid (fun (w' : World) (hO : Only (fun _ => False) w w') => (hO.owns HEC.out.bx (fun _ _ h => h)).cells (g := g2) rfl)
  clear e0
  go_wp2_with (at_builtin; refine wpList_append_lies _ rfl _ _ 22 rfl (w.heap.size + 1) 3 i0 _ 1 8 Tryz.underlying22 hi0 hz0 hz1 hz2 rfl (by decide) _ 0 [] rfl hE3 ⟨g0, 0, none⟩ D.cm.length k0 (irow D.cm) rfl (by rw [irow_length, Nat.mul_one]) ?e0 (irow_ones _) ?e4 ?e1 ?e2 ?e3 _ rfl ?_)
  case e0 => exact HCN.out _ (HO3.out.alloc _)
  case e4 => omega
  case e1 => unfold maxLen; omega
  case e2 => omega
  case e3 => rw [World.size_alloc, World.size_alloc]; omega
  intro g5 c5 w5 ho5 hg5 ha5 hgl5
  have HN5 := Lib.hid (new_only hg5 (by rw [World.size_alloc]; exact Nat.le_refl _))
  have hX5 := row_still HN5.out HX.out
  have hO5s : Only (fun k => k = w2.heap.size) w5 (w5.setCell ⟨w2.heap.size, 0, none⟩ (.slice (some ⟨g5, 0, none⟩) D.cm.length c5)) := (Only.refl (fun k => k = w2.heap.size) w5).setCell (p := ⟨w2.heap.size, 0, none⟩) (.inl rfl) _
  have HN3 := Lib.hid (((Only.refl (fun _ => False) w2).alloc (.cells #[.slice (some ⟨g0, 0, none⟩) D.cm.length k0, .int .i64 D.pt, .slice (some ⟨g2, 0, none⟩) D.bx.length k2] 72)).trans HN5.out)
  have HB5 := Lib.hid (show B5 w w2.heap.size (w5.setCell ⟨w2.heap.size, 0, none⟩ (.slice (some ⟨g5, 0, none⟩) D.cm.length c5)) q0 q1 q2 (.slice (some ⟨go, 0, none⟩) qs.length co) (.slice (some ⟨gc, 0, none⟩) l.length cc) (.slice (some ⟨g5, 0, none⟩) D.cm.length c5) (.slice (some ⟨g2, 0, none⟩) D.bx.length k2) D.pt qs l D.cm from by
    refine ⟨?_, ?_, ?_, ?_, ?_, ?_, by omega, ?_⟩
    · exact (hO5s.block w.heap.size (by have := HN3.out.size; omega) (fun e => by omega)).trans (row_still HN3.out HQ2.out)
    · exact hO5s.owns (HN3.out.owns HOUT2.out (fun _ _ h => h)) (fun k hk e => by have := (own_lt HOUT2.out hk).1; omega)
    · exact hO5s.owns (HN3.out.owns HCR2.out (fun _ _ h => h)) (fun k hk e => by have := (own_lt HCR2.out hk).1; omega)
    · exact heap_setCell_same _ _ 0 _ _ _ hX5
    · have hn := own_ne_blk ho5 hX5 (by decide)
      have h5 := hO5s.owns ho5 (fun k hk e => hn (by rw [hk, show k = _ from e]))
      exact h5
    · intro e
      have := (own_lt HOUT2.out e).1; omega
    · exact (HO2.out.trans HN3.out).trans' hO5s (fun i hi e => by omega))
  have c0 := cell_of_row _ _ 0 _ _ _ hX5
  have f0 := frozen_of_row _ _ 0 _ _ hX5
  have l5 := own_lt0 hX5
  clear ho5 hg5 ha5 hX5 hO5s HN5 HN3 HX HO3 hE3 d0 d1 d2 HOUT2 HCR2 HQ2 hgo hs2
  generalize w2.heap.size = X at *
  go_upto_region 6 with fail
  have HBN5 := Lib.hid (HBN.out _ (HB5.out.only.alloc (.cells #[] 9)))
  have hE4 := own_empty (w5.setCell ⟨X, 0, none⟩ (.slice (some ⟨g5, 0, none⟩) D.cm.length c5)) (w.heap.size + 1) 9 1 (by have := own_lt0 HB5.out.q; omega)
  have e2 := cell_of_row _ _ 2 _ _ _ HB5.out.blk
  have l6 := own_lt0 HB5.out.blk
  have hsz6 := own_lt0 HB5.out.q
  clear c0 f0 l5
  generalize w5.setCell ⟨X, 0, none⟩ (.slice (some ⟨g5, 0, none⟩) D.cm.length c5) = w6 at *
  go_wp2_with (at_builtin; refine wpList_append_lies _ rfl _ _ 70 rfl (w.heap.size + 1) 9 s0 _ 1 16 Tryz.underlying70 hs0 hu0 hu1 hu2 rfl (by decide) _ 0 [] rfl hE4 ⟨g2, 0, none⟩ D.bx.length k2 (srowS D.bx) rfl (by rw [srowS_len, Nat.mul_one]) HBN5.out (srowS_one _) ?f4 ?f1 ?f2 ?f3 _ rfl ?_)
  case f4 => omega
  case f1 => unfold maxLen; omega
  case f2 => omega
  case f3 => rw [World.size_alloc]; omega
  intro g7 c7 w7 ho7 hg7 ha7 hgl7
  have HN7 := Lib.hid (new_only hg7 (Nat.le_refl _))
  have hX7 := row_still HN7.out HB5.out.blk
  have hO7s : Only (fun k => k = X) w7 (w7.setCell ⟨X, 2, none⟩ (.slice (some ⟨g7, 0, none⟩) D.bx.length c7)) := (Only.refl (fun k => k = X) w7).setCell (p := ⟨X, 2, none⟩) (.inl rfl) _
  have HBT := Lib.hid (show BtAt w (w7.setCell ⟨X, 2, none⟩ (.slice (some ⟨g7, 0, none⟩) D.bx.length c7)) q0 q1 q2 (.slice (some ⟨go, 0, none⟩) qs.length co) (.slice (some ⟨gc, 0, none⟩) l.length cc) X (.slice (some ⟨g5, 0, none⟩) D.cm.length c5) (.slice (some ⟨g7, 0, none⟩) D.bx.length c7) D.pt qs l D.cm D.bx from by
    have hlow := HB5.out.low
    refine ⟨?_, ?_, ?_, ?_, ?_, ?_, HB5.out.ne, hlow, ?_⟩
    · exact (hO7s.block w.heap.size (by have := HN7.out.size; omega) (fun e => by omega)).trans (row_still HN7.out HB5.out.q)
    · exact hO7s.owns (HN7.out.owns HB5.out.out (fun _ _ h => h)) (fun k hk e => HB5.out.ne (by rw [hk, show k = X from e]))
    · exact hO7s.owns (HN7.out.owns HB5.out.crew (fun _ _ h => h)) (fun k hk e => own_ne_blk HB5.out.crew HB5.out.blk (by decide) (by rw [hk, show k = X from e]))
    · exact heap_setCell_same _ _ 2 _ _ _ hX7
    · exact hO7s.owns (HN7.out.owns HB5.out.cm (fun _ _ h => h)) (fun k hk e => own_ne_blk HB5.out.cm HB5.out.blk (by decide) (by rw [hk, show k = X from e]))
    · exact hO7s.owns ho7 (fun k hk e => own_ne_blk ho7 hX7 (by decide) (by rw [hk, show k = X from e]))
    · exact (HB5.out.only.trans HN7.out).trans' hO7s (fun i hi e => by omega))
  have c2 := cell_of_row _ _ 2 _ _ _ hX7
  have f2 := frozen_of_row _ _ 2 _ _ hX7
  have l7 := own_lt0 hX7
  clear ho7 hg7 ha7 hX7 hO7s HN7 hE4 e2 l6 hsz6 HB5 HBN5
  go_upto_region 7 with fail
  clear c2 f2 l7
  have b1 := cell_of_row _ _ 1 _ _ _ HBT.out.q
  have b2 := cell_of_row _ _ 2 _ _ _ HBT.out.q
  have y0 := cell_of_row _ _ 0 _ _ _ HBT.out.blk
  have lq := own_lt0 HBT.out.q
  have lX := own_lt0 HBT.out.blk
  generalize w7.setCell ⟨X, 2, none⟩ (.slice (some ⟨g7, 0, none⟩) D.bx.length c7) = w8 at *
  have hmx : max (D.cm.length : Int) 1 = D.cm.length := by omega
  obtain ⟨jj, hjj⟩ : ∃ jj : Nat, q2 % (D.cm.length : Int) = jj := ⟨(q2 % (D.cm.length : Int)).toNat, by have := emod_self_lt q2 D.cm.length (by omega); omega⟩
  have hjl : jj < D.cm.length := by have := emod_self_lt q2 D.cm.length (by omega); omega
  have HJJ := Lib.hid hjj
  have HM8 := Lib.hid (fun w => rmod2_any q1 8 w (by decide) (by decide))
  have HMJ := Lib.hid (fun w => rmod2_any q2 D.cm.length w (by omega) (by omega))
  rw [HJJ.out] at HMJ
  clear hjj
  go_wp2_with fail
  refine (HMJ.out _).mono ?_
  rintro e w8' ⟨rfl, rfl⟩
  go_wp2_with fail
  refine (HM8.out _).mono ?_
  rintro e w8' ⟨rfl, rfl⟩
  clear hmx b1
  have hk0 := emod_self_lt q1 8 (by decide)
  have HDS := Lib.hid (show DsOwn base w8 (.slice (some ⟨go, 0, none⟩) qs.length co) qs from ⟨own_base HBT.out.out (by have := HI.out.low; omega), fun q hq => ⟨HBT.out.only.owns (HI.out.ds.each q hq).cm (fun _ _ h => h), HBT.out.only.owns (HI.out.ds.each q hq).bx (fun _ _ h => h)⟩⟩)
  have HDX := Lib.hid (show DlOwn base w8 (.slice (some ⟨g5, 0, none⟩) D.cm.length c5) (.slice (some ⟨g7, 0, none⟩) D.bx.length c7) D from ⟨own_base HBT.out.cm (by have := HI.out.low; omega), own_base HBT.out.bx (by have := HI.out.low; omega)⟩)
  have HEA := Lib.hid HI.out.each
  have HLB := Lib.hid (show base ≤ w.heap.size + 1 by have := HI.out.low; omega)
  have HDE := Lib.hid HI.out.ds.each
  clear HI HM8 HMJ HMN HDN HONE HEC HCN HBN
  generalize q1 % 8 = kz at *
  obtain rfl | rfl | rfl | rfl | rfl | rfl | rfl | rfl : kz = 0 ∨ kz = 1 ∨ kz = 2 ∨ kz = 3 ∨ kz = 4 ∨ kz = 5 ∨ kz = 6 ∨ kz = 7 := by omega
  · obtain ⟨hc51, hc52⟩ := own_cap2 HDX.out.cm (by omega)
    have y01 := cell_of_row _ _ 1 _ _ _ HBT.out.blk
    have y02 := cell_of_row _ _ 2 _ _ _ HBT.out.blk
    obtain ⟨p1, _, _, p4, p5⟩ := own_at HDX.out.cm rfl hjl
    have HM5 := Lib.hid (fun w => rmod2_any q2 5 w (by decide) (by decide))
    have hm5 := emod_self_lt q2 5 (by decide)
    have HFIN := Lib.hid (show ∀ zz, BentPost w (.returned (.tuple #[.slice (some ⟨go, 0, none⟩) qs.length co, .slice (some ⟨gc, 0, none⟩) l.length cc])) ((((((w8.setCell ⟨g5, jj, none⟩ (.int .i64 zz)).setCell ⟨go, ii * 3, none⟩ (.slice (some ⟨g5, 0, none⟩) D.cm.length c5)).setCell ⟨go, ii * 3 + 1, none⟩ (.int .i64 D.pt)).setCell ⟨go, ii * 3 + 2, none⟩ (.slice (some ⟨g7, 0, none⟩) D.bx.length c7)).alloc (.cells #[.int .i64 0, .int .i64 1, .int .i64 2305843009213691578, .int .i64 4, .int .i64 2305843009213691583] 3)).drew) from fun zz => by
      have hO9 : Only (fun k => k = g5) w8 (w8.setCell ⟨g5, jj, none⟩ (.int .i64 zz)) := (Only.refl (fun k => k = g5) w8).setCell (p := ⟨g5, jj, none⟩) (.inl rfl) _
      have hkg : ∀ {b e s m : Nat} {u : Value} {xs : List Value}, w8.ownsRow b e s u m xs → e ≠ 3 → ∀ k, u.ownBlock = some k → ¬ k = g5 := fun hu he k hk e => own_ne_ty hu HBT.out.cm he k hk (by rw [e]; rfl)
      have hcm9 := own_set (j := jj) HDX.out.cm (.int .i64 zz) hjl
      rw [irow_set] at hcm9
      have hg5 := own_low' HBT.out.cm (show _ = some g5 from rfl)
      refine BentPost.more (bent_fin (D := ⟨D.cm.set jj zz, D.pt, D.bx⟩) (l := l) (l2 := l) (base := base) (HBT.out.only.trans' hO9 (fun i hi e => by omega)) (by have := own_low' HBT.out.out (show _ = some go from rfl); omega) ⟨hO9.owns HDS.out.own (hkg HDS.out.own (by decide)), fun q hq => ⟨hO9.owns (HDS.out.each q hq).cm (fun k hk e => by have := (own_lt (HDE.out q hq).cm hk).1; omega), hO9.owns (HDS.out.each q hq).bx (hkg (HDS.out.each q hq).bx (by decide))⟩⟩ rfl ⟨by show World.ownsRow _ _ _ _ _ (D.cm.set jj zz).length (irow (D.cm.set jj zz)); rw [List.length_set]; exact hcm9, hO9.owns HDX.out.bx (hkg HDX.out.bx (by decide))⟩ hiq (hO9.owns HBT.out.crew (hkg HBT.out.crew (by decide))) HW.out (fun _ h => h) ⟨by omega, fun q hq => by have := HEA.out q hq; omega⟩ ⟨by show (D.cm.set jj zz).length ≤ _; rw [List.length_set]; omega, by show D.bx.length ≤ _; omega⟩) (((Only.refl _ _).alloc _).drew))
    obtain ⟨⟨sa, sx, sc, t0, t1, t2⟩, tf, tl, tc1, tc2⟩ := HDS.out.spots rfl hiq
    have hgg : go ≠ g5 := fun e => own_ne_ty HBT.out.out HBT.out.cm (by decide) go rfl (by rw [e]; rfl)
    have hXg : X ≠ g5 := fun e => own_ne_blk HBT.out.cm HBT.out.blk (by decide) (by rw [e]; rfl)
    have hqg : w.heap.size ≠ g5 := fun e => own_ne_blk HBT.out.cm HBT.out.q (by decide) (by rw [e]; rfl)
    have f0 := tf (ii * 3)
    have f1 := tf (ii * 3 + 1)
    have f2 := tf (ii * 3 + 2)
    have lX8 := own_lt0 HBT.out.blk
    have lq8 := own_lt0 HBT.out.q
    have i5 : (0 : Int) < D.cm.length := by omega
    have i6 : (jj : Int) < D.cm.length := by omega
    have i7 : 0 ≤ (jj : Int) := by omega
    have HTS := Lib.hid (show ∀ w', Only (fun _ => False) w8 w' → w'.cell? ⟨X, 0, none⟩ = some (.slice (some ⟨g5, 0, none⟩) D.cm.length c5) ∧ w'.cell? ⟨w.heap.size, 2, none⟩ = some (.int .i64 q2) from fun w' h => ⟨h.cell y0 id, h.cell b2 id⟩)
    have HT2 := Lib.hid (show ∀ zz, (((w8.setCell ⟨g5, jj, none⟩ (.int .i64 zz)).alloc (.cells #[.int .i64 0, .int .i64 1, .int .i64 2305843009213691578, .int .i64 4, .int .i64 2305843009213691583] 3)).drew).cell? ⟨X, 0, none⟩ = some (.slice (some ⟨g5, 0, none⟩) D.cm.length c5) ∧ (((w8.setCell ⟨g5, jj, none⟩ (.int .i64 zz)).alloc (.cells #[.int .i64 0, .int .i64 1, .int .i64 2305843009213691578, .int .i64 4, .int .i64 2305843009213691583] 3)).drew).cell? ⟨w.heap.size, 2, none⟩ = some (.int .i64 q2) from fun zz => by
      have hO9 : Only (fun k => k = g5) w8 (((w8.setCell ⟨g5, jj, none⟩ (.int .i64 zz)).alloc (.cells #[.int .i64 0, .int .i64 1, .int .i64 2305843009213691578, .int .i64 4, .int .i64 2305843009213691583] 3)).drew) := (((Only.refl (fun k => k = g5) w8).setCell (p := ⟨g5, jj, none⟩) (.inl rfl) _).alloc _).drew
      exact ⟨hO9.cell y0 hXg, hO9.cell b2 hqg⟩)
    clear HBT HDS HDX HEA tf
    go_upto_region 11 with fail
    generalize q2 % 5 = m5 at *
    obtain rfl | rfl | rfl | rfl | rfl : m5 = 0 ∨ m5 = 1 ∨ m5 = 2 ∨ m5 = 3 ∨ m5 = 4 := by omega
    · refine wp_region_split 10 (by kernel_rfl) (by kernel_rfl) (wpAny_of_held (S := fun w' => w'.cell? ⟨X, 0, none⟩ = some (.slice (some ⟨g5, 0, none⟩) D.cm.length c5) ∧ w'.cell? ⟨w.heap.size, 2, none⟩ = some (.int .i64 q2)) _ _ _ _ ?_)
      simp only [List.take_succ_cons, List.take_zero]
      change wpAnyH _ _ _ _ _ _ _ _ w8.drew
      have hHeld : w8.drew.cell? ⟨X, 0, none⟩ = some (.slice (some ⟨g5, 0, none⟩) D.cm.length c5) ∧ w8.drew.cell? ⟨w.heap.size, 2, none⟩ = some (.int .i64 q2) := ⟨y0, b2⟩
      refine' wpAnyH_take (i := 0) (v := _) rfl (by kernel_rfl) (by kernel_rfl) (by kernel_rfl) (fun _ _ _ h => h) (Or.inl ⟨by rfl, ?hya0⟩) hHeld ?ra0
      case hya0 => (intro w hSw; obtain ⟨s0, s1⟩ := hSw; go_simp; with_reducible rfl)
      try simp only [Act.put, List.getElem_toArray, List.getElem_cons_zero, List.setIfInBounds_toArray, List.set_cons_zero, List.set_cons_succ]
      refine' wpAnyH_take (i := 1) (v := _) rfl (by kernel_rfl) (by kernel_rfl) (by kernel_rfl) (fun _ _ _ h => h) (Or.inl ⟨by rfl, ?hya1⟩) hHeld ?ra1
      case hya1 => (intro w hSw; obtain ⟨s0, s1⟩ := hSw; go_simp; with_reducible rfl)
      try simp only [Act.put, List.getElem_toArray, List.getElem_cons_zero, List.getElem_cons_succ, List.setIfInBounds_toArray, List.set_cons_zero, List.set_cons_succ]
      refine' wpAnyH_take (i := 2) (v := _) rfl (by kernel_rfl) (by kernel_rfl) (by kernel_rfl) (fun _ _ _ h => h) (Or.inl ⟨by rfl, ?hya2⟩) hHeld ?ra2
      case hya2 => (intro w hSw; obtain ⟨s0, s1⟩ := hSw; go_simp; with_reducible rfl)
      try simp only [Act.put, List.getElem_toArray, List.getElem_cons_zero, List.getElem_cons_succ, List.setIfInBounds_toArray, List.set_cons_zero, List.set_cons_succ]
      refine' wpAnyH_take (i := 4) (v := _) rfl (by kernel_rfl) (by kernel_rfl) (by kernel_rfl) (fun _ _ _ h => h) (Or.inl ⟨by rfl, ?hya4⟩) hHeld ?ra4
      case hya4 => (intro w hSw; obtain ⟨s0, s1⟩ := hSw; go_simp; with_reducible rfl)
      try simp only [Act.put, List.getElem_toArray, List.getElem_cons_zero, List.getElem_cons_succ, List.setIfInBounds_toArray, List.set_cons_zero, List.set_cons_succ]
      refine' wpAnyH_take (i := 5) (v := _) rfl (by kernel_rfl) (by kernel_rfl) (by kernel_rfl) (fun _ _ _ h => h) (Or.inl ⟨by rfl, ?hya5⟩) hHeld ?ra5
      case hya5 => (intro w hSw; obtain ⟨s0, s1⟩ := hSw; go_simp; with_reducible rfl)
      try simp only [Act.put, List.getElem_toArray, List.getElem_cons_zero, List.getElem_cons_succ, List.setIfInBounds_toArray, List.set_cons_zero, List.set_cons_succ]
      refine wpAnyH_ready (rs := [3, 6]) (by kernel_rfl) (by simp) ?_
      refine AllReadyH.cons rfl (fun K hK => ?_) (AllReadyH.cons rfl (fun K hK => ?_) AllReadyH.nil)
      · go_simp
        refine hK.out _ _ (HTS.out _ (((Only.refl _ w8).alloc _).drew)) (fun hHeld => ?_)
        clear hK K
        try simp only [Act.put, List.getElem_toArray, List.getElem_cons_zero, List.getElem_cons_succ, List.setIfInBounds_toArray, List.set_cons_zero, List.set_cons_succ]
        refine wpAnyH_ready (rs := [6]) (by kernel_rfl) (by simp) ?_
        refine AllReadyH.cons rfl (fun K hK => ?_) AllReadyH.nil
        go_simp
        refine (HM5.out _).mono ?_
        rintro e w' ⟨rfl, rfl⟩
        refine hK.out _ _ (by assumption) (fun hHeld => ?_)
        clear hK K
        try simp only [Act.put, List.getElem_toArray, List.getElem_cons_zero, List.getElem_cons_succ, List.setIfInBounds_toArray, List.set_cons_zero, List.set_cons_succ]
        refine' wpAnyH_take (i := 7) (v := _) rfl (by kernel_rfl) (by kernel_rfl) (by kernel_rfl) (fun _ _ _ h => h) (Or.inl ⟨by rfl, ?hyax7⟩) hHeld ?rax7
        case hyax7 => (intro w hSw; obtain ⟨s0, s1⟩ := hSw; go_simp; with_reducible rfl)
        try simp only [Act.put, List.getElem_toArray, List.getElem_cons_zero, List.getElem_cons_succ, List.setIfInBounds_toArray, List.set_cons_zero, List.set_cons_succ]
        refine wpAnyH_ready (rs := [8]) (by kernel_rfl) (by simp) ?_
        refine AllReadyH.cons rfl (fun K hK => ?_) AllReadyH.nil
        go_simp
        refine hK.out _ _ (by assumption) (fun hHeld => ?_)
        clear hK K
        try simp only [Act.put, List.getElem_toArray, List.getElem_cons_zero, List.getElem_cons_succ, List.setIfInBounds_toArray, List.set_cons_zero, List.set_cons_succ]
        refine' wpAnyH_take (i := 9) (v := _) rfl (by kernel_rfl) (by kernel_rfl) (by kernel_rfl) (fun _ _ _ h => h) (Or.inl ⟨by rfl, ?hyax9⟩) hHeld ?rax9
        case hyax9 => (intro w hSw; obtain ⟨s0, s1⟩ := hSw; go_simp; with_reducible rfl)
        try simp only [Act.put, List.getElem_toArray, List.getElem_cons_zero, List.getElem_cons_succ, List.setIfInBounds_toArray, List.set_cons_zero, List.set_cons_succ]
        refine wpAnyH_done (by kernel_rfl) ?_ _
        simp only [headPost, List.drop_succ_cons, List.drop_zero]
        clear HTS
        go_wp2
        go_ret2
        exact HFIN.out _
      · go_simp
        refine (HM5.out _).mono ?_
        rintro e w' ⟨rfl, rfl⟩
        refine hK.out _ _ (by assumption) (fun hHeld => ?_)
        clear hK K
        try simp only [Act.put, List.getElem_toArray, List.getElem_cons_zero, List.getElem_cons_succ, List.setIfInBounds_toArray, List.set_cons_zero, List.set_cons_succ]
        refine wpAnyH_ready (rs := [3]) (by kernel_rfl) (by simp) ?_
        refine AllReadyH.cons rfl (fun K hK => ?_) AllReadyH.nil
        go_simp
        refine hK.out _ _ (HTS.out _ (((Only.refl _ w8).alloc _).drew)) (fun hHeld => ?_)
        clear hK K
        try simp only [Act.put, List.getElem_toArray, List.getElem_cons_zero, List.getElem_cons_succ, List.setIfInBounds_toArray, List.set_cons_zero, List.set_cons_succ]
        refine' wpAnyH_take (i := 7) (v := _) rfl (by kernel_rfl) (by kernel_rfl) (by kernel_rfl) (fun _ _ _ h => h) (Or.inl ⟨by rfl, ?hyay7⟩) hHeld ?ray7
        case hyay7 => (intro w hSw; obtain ⟨s0, s1⟩ := hSw; go_simp; with_reducible rfl)
        try simp only [Act.put, List.getElem_toArray, List.getElem_cons_zero, List.getElem_cons_succ, List.setIfInBounds_toArray, List.set_cons_zero, List.set_cons_succ]
        refine wpAnyH_ready (rs := [8]) (by kernel_rfl) (by simp) ?_
        refine AllReadyH.cons rfl (fun K hK => ?_) AllReadyH.nil
        go_simp
        refine hK.out _ _ (by assumption) (fun hHeld => ?_)
        clear hK K
        try simp only [Act.put, List.getElem_toArray, List.getElem_cons_zero, List.getElem_cons_succ, List.setIfInBounds_toArray, List.set_cons_zero, List.set_cons_succ]
        refine' wpAnyH_take (i := 9) (v := _) rfl (by kernel_rfl) (by kernel_rfl) (by kernel_rfl) (fun _ _ _ h => h) (Or.inl ⟨by rfl, ?hyay9⟩) hHeld ?ray9
        case hyay9 => (intro w hSw; obtain ⟨s0, s1⟩ := hSw; go_simp; with_reducible rfl)
        try simp only [Act.put, List.getElem_toArray, List.getElem_cons_zero, List.getElem_cons_succ, List.setIfInBounds_toArray, List.set_cons_zero, List.set_cons_succ]
        refine wpAnyH_done (by kernel_rfl) ?_ _
        simp only [headPost, List.drop_succ_cons, List.drop_zero]
        clear HTS
        go_wp2
        go_ret2
        exact HFIN.out _
    · refine wp_region_split 10 (by kernel_rfl) (by kernel_rfl) (wpAny_of_held (S := fun w' => w'.cell? ⟨X, 0, none⟩ = some (.slice (some ⟨g5, 0, none⟩) D.cm.length c5) ∧ w'.cell? ⟨w.heap.size, 2, none⟩ = some (.int .i64 q2)) _ _ _ _ ?_)
      simp only [List.take_succ_cons, List.take_zero]
      change wpAnyH _ _ _ _ _ _ _ _ w8.drew
      have hHeld : w8.drew.cell? ⟨X, 0, none⟩ = some (.slice (some ⟨g5, 0, none⟩) D.cm.length c5) ∧ w8.drew.cell? ⟨w.heap.size, 2, none⟩ = some (.int .i64 q2) := ⟨y0, b2⟩
      refine' wpAnyH_take (i := 0) (v := _) rfl (by kernel_rfl) (by kernel_rfl) (by kernel_rfl) (fun _ _ _ h => h) (Or.inl ⟨by rfl, ?hyb0⟩) hHeld ?rb0
      case hyb0 => (intro w hSw; obtain ⟨s0, s1⟩ := hSw; go_simp; with_reducible rfl)
      try simp only [Act.put, List.getElem_toArray, List.getElem_cons_zero, List.setIfInBounds_toArray, List.set_cons_zero, List.set_cons_succ]
      refine' wpAnyH_take (i := 1) (v := _) rfl (by kernel_rfl) (by kernel_rfl) (by kernel_rfl) (fun _ _ _ h => h) (Or.inl ⟨by rfl, ?hyb1⟩) hHeld ?rb1
      case hyb1 => (intro w hSw; obtain ⟨s0, s1⟩ := hSw; go_simp; with_reducible rfl)
      try simp only [Act.put, List.getElem_toArray, List.getElem_cons_zero, List.getElem_cons_succ, List.setIfInBounds_toArray, List.set_cons_zero, List.set_cons_succ]
      refine' wpAnyH_take (i := 2) (v := _) rfl (by kernel_rfl) (by kernel_rfl) (by kernel_rfl) (fun _ _ _ h => h) (Or.inl ⟨by rfl, ?hyb2⟩) hHeld ?rb2
      case hyb2 => (intro w hSw; obtain ⟨s0, s1⟩ := hSw; go_simp; with_reducible rfl)
      try simp only [Act.put, List.getElem_toArray, List.getElem_cons_zero, List.getElem_cons_succ, List.setIfInBounds_toArray, List.set_cons_zero, List.set_cons_succ]
      refine' wpAnyH_take (i := 4) (v := _) rfl (by kernel_rfl) (by kernel_rfl) (by kernel_rfl) (fun _ _ _ h => h) (Or.inl ⟨by rfl, ?hyb4⟩) hHeld ?rb4
      case hyb4 => (intro w hSw; obtain ⟨s0, s1⟩ := hSw; go_simp; with_reducible rfl)
      try simp only [Act.put, List.getElem_toArray, List.getElem_cons_zero, List.getElem_cons_succ, List.setIfInBounds_toArray, List.set_cons_zero, List.set_cons_succ]
      refine' wpAnyH_take (i := 5) (v := _) rfl (by kernel_rfl) (by kernel_rfl) (by kernel_rfl) (fun _ _ _ h => h) (Or.inl ⟨by rfl, ?hyb5⟩) hHeld ?rb5
      case hyb5 => (intro w hSw; obtain ⟨s0, s1⟩ := hSw; go_simp; with_reducible rfl)
      try simp only [Act.put, List.getElem_toArray, List.getElem_cons_zero, List.getElem_cons_succ, List.setIfInBounds_toArray, List.set_cons_zero, List.set_cons_succ]
      refine wpAnyH_ready (rs := [3, 6]) (by kernel_rfl) (by simp) ?_
      refine AllReadyH.cons rfl (fun K hK => ?_) (AllReadyH.cons rfl (fun K hK => ?_) AllReadyH.nil)
      · go_simp
        refine hK.out _ _ (HTS.out _ (((Only.refl _ w8).alloc _).drew)) (fun hHeld => ?_)
        clear hK K
        try simp only [Act.put, List.getElem_toArray, List.getElem_cons_zero, List.getElem_cons_succ, List.setIfInBounds_toArray, List.set_cons_zero, List.set_cons_succ]
        refine wpAnyH_ready (rs := [6]) (by kernel_rfl) (by simp) ?_
        refine AllReadyH.cons rfl (fun K hK => ?_) AllReadyH.nil
        go_simp
        refine (HM5.out _).mono ?_
        rintro e w' ⟨rfl, rfl⟩
        refine hK.out _ _ (by assumption) (fun hHeld => ?_)
        clear hK K
        try simp only [Act.put, List.getElem_toArray, List.getElem_cons_zero, List.getElem_cons_succ, List.setIfInBounds_toArray, List.set_cons_zero, List.set_cons_succ]
        refine' wpAnyH_take (i := 7) (v := _) rfl (by kernel_rfl) (by kernel_rfl) (by kernel_rfl) (fun _ _ _ h => h) (Or.inl ⟨by rfl, ?hybx7⟩) hHeld ?rbx7
        case hybx7 => (intro w hSw; obtain ⟨s0, s1⟩ := hSw; go_simp; with_reducible rfl)
        try simp only [Act.put, List.getElem_toArray, List.getElem_cons_zero, List.getElem_cons_succ, List.setIfInBounds_toArray, List.set_cons_zero, List.set_cons_succ]
        refine wpAnyH_ready (rs := [8]) (by kernel_rfl) (by simp) ?_
        refine AllReadyH.cons rfl (fun K hK => ?_) AllReadyH.nil
        go_simp
        refine hK.out _ _ (by assumption) (fun hHeld => ?_)
        clear hK K
        try simp only [Act.put, List.getElem_toArray, List.getElem_cons_zero, List.getElem_cons_succ, List.setIfInBounds_toArray, List.set_cons_zero, List.set_cons_succ]
        refine' wpAnyH_take (i := 9) (v := _) rfl (by kernel_rfl) (by kernel_rfl) (by kernel_rfl) (fun _ _ _ h => h) (Or.inl ⟨by rfl, ?hybx9⟩) hHeld ?rbx9
        case hybx9 => (intro w hSw; obtain ⟨s0, s1⟩ := hSw; go_simp; with_reducible rfl)
        try simp only [Act.put, List.getElem_toArray, List.getElem_cons_zero, List.getElem_cons_succ, List.setIfInBounds_toArray, List.set_cons_zero, List.set_cons_succ]
        refine wpAnyH_done (by kernel_rfl) ?_ _
        simp only [headPost, List.drop_succ_cons, List.drop_zero]
        clear HTS
        go_wp2
        go_ret2
        exact HFIN.out _
      · go_simp
        refine (HM5.out _).mono ?_
        rintro e w' ⟨rfl, rfl⟩
        refine hK.out _ _ (by assumption) (fun hHeld => ?_)
        clear hK K
        try simp only [Act.put, List.getElem_toArray, List.getElem_cons_zero, List.getElem_cons_succ, List.setIfInBounds_toArray, List.set_cons_zero, List.set_cons_succ]
        refine wpAnyH_ready (rs := [3]) (by kernel_rfl) (by simp) ?_
        refine AllReadyH.cons rfl (fun K hK => ?_) AllReadyH.nil
        go_simp
        refine hK.out _ _ (HTS.out _ (((Only.refl _ w8).alloc _).drew)) (fun hHeld => ?_)
        clear hK K
        try simp only [Act.put, List.getElem_toArray, List.getElem_cons_zero, List.getElem_cons_succ, List.setIfInBounds_toArray, List.set_cons_zero, List.set_cons_succ]
        refine' wpAnyH_take (i := 7) (v := _) rfl (by kernel_rfl) (by kernel_rfl) (by kernel_rfl) (fun _ _ _ h => h) (Or.inl ⟨by rfl, ?hyby7⟩) hHeld ?rby7
        case hyby7 => (intro w hSw; obtain ⟨s0, s1⟩ := hSw; go_simp; with_reducible rfl)
        try simp only [Act.put, List.getElem_toArray, List.getElem_cons_zero, List.getElem_cons_succ, List.setIfInBounds_toArray, List.set_cons_zero, List.set_cons_succ]
        refine wpAnyH_ready (rs := [8]) (by kernel_rfl) (by simp) ?_
        refine AllReadyH.cons rfl (fun K hK => ?_) AllReadyH.nil
        go_simp
        refine hK.out _ _ (by assumption) (fun hHeld => ?_)
        clear hK K
        try simp only [Act.put, List.getElem_toArray, List.getElem_cons_zero, List.getElem_cons_succ, List.setIfInBounds_toArray, List.set_cons_zero, List.set_cons_succ]
        refine' wpAnyH_take (i := 9) (v := _) rfl (by kernel_rfl) (by kernel_rfl) (by kernel_rfl) (fun _ _ _ h => h) (Or.inl ⟨by rfl, ?hyby9⟩) hHeld ?rby9
        case hyby9 => (intro w hSw; obtain ⟨s0, s1⟩ := hSw; go_simp; with_reducible rfl)
        try simp only [Act.put, List.getElem_toArray, List.getElem_cons_zero, List.getElem_cons_succ, List.setIfInBounds_toArray, List.set_cons_zero, List.set_cons_succ]
        refine wpAnyH_done (by kernel_rfl) ?_ _
        simp only [headPost, List.drop_succ_cons, List.drop_zero]
        clear HTS
        go_wp2
        go_ret2
        exact HFIN.out _
    · refine wp_region_split 10 (by kernel_rfl) (by kernel_rfl) (wpAny_of_held (S := fun w' => w'.cell? ⟨X, 0, none⟩ = some (.slice (some ⟨g5, 0, none⟩) D.cm.length c5) ∧ w'.cell? ⟨w.heap.size, 2, none⟩ = some (.int .i64 q2)) _ _ _ _ ?_)
      simp only [List.take_succ_cons, List.take_zero]
      change wpAnyH _ _ _ _ _ _ _ _ w8.drew
      have hHeld : w8.drew.cell? ⟨X, 0, none⟩ = some (.slice (some ⟨g5, 0, none⟩) D.cm.length c5) ∧ w8.drew.cell? ⟨w.heap.size, 2, none⟩ = some (.int .i64 q2) := ⟨y0, b2⟩
      refine' wpAnyH_take (i := 0) (v := _) rfl (by kernel_rfl) (by kernel_rfl) (by kernel_rfl) (fun _ _ _ h => h) (Or.inl ⟨by rfl, ?hyc0⟩) hHeld ?rc0
      case hyc0 => (intro w hSw; obtain ⟨s0, s1⟩ := hSw; go_simp; with_reducible rfl)
      try simp only [Act.put, List.getElem_toArray, List.getElem_cons_zero, List.setIfInBounds_toArray, List.set_cons_zero, List.set_cons_succ]
      refine' wpAnyH_take (i := 1) (v := _) rfl (by kernel_rfl) (by kernel_rfl) (by kernel_rfl) (fun _ _ _ h => h) (Or.inl ⟨by rfl, ?hyc1⟩) hHeld ?rc1
      case hyc1 => (intro w hSw; obtain ⟨s0, s1⟩ := hSw; go_simp; with_reducible rfl)
      try simp only [Act.put, List.getElem_toArray, List.getElem_cons_zero, List.getElem_cons_succ, List.setIfInBounds_toArray, List.set_cons_zero, List.set_cons_succ]
      refine' wpAnyH_take (i := 2) (v := _) rfl (by kernel_rfl) (by kernel_rfl) (by kernel_rfl) (fun _ _ _ h => h) (Or.inl ⟨by rfl, ?hyc2⟩) hHeld ?rc2
      case hyc2 => (intro w hSw; obtain ⟨s0, s1⟩ := hSw; go_simp; with_reducible rfl)
      try simp only [Act.put, List.getElem_toArray, List.getElem_cons_zero, List.getElem_cons_succ, List.setIfInBounds_toArray, List.set_cons_zero, List.set_cons_succ]
      refine' wpAnyH_take (i := 4) (v := _) rfl (by kernel_rfl) (by kernel_rfl) (by kernel_rfl) (fun _ _ _ h => h) (Or.inl ⟨by rfl, ?hyc4⟩) hHeld ?rc4
      case hyc4 => (intro w hSw; obtain ⟨s0, s1⟩ := hSw; go_simp; with_reducible rfl)
      try simp only [Act.put, List.getElem_toArray, List.getElem_cons_zero, List.getElem_cons_succ, List.setIfInBounds_toArray, List.set_cons_zero, List.set_cons_succ]
      refine' wpAnyH_take (i := 5) (v := _) rfl (by kernel_rfl) (by kernel_rfl) (by kernel_rfl) (fun _ _ _ h => h) (Or.inl ⟨by rfl, ?hyc5⟩) hHeld ?rc5
      case hyc5 => (intro w hSw; obtain ⟨s0, s1⟩ := hSw; go_simp; with_reducible rfl)
      try simp only [Act.put, List.getElem_toArray, List.getElem_cons_zero, List.getElem_cons_succ, List.setIfInBounds_toArray, List.set_cons_zero, List.set_cons_succ]
      refine wpAnyH_ready (rs := [3, 6]) (by kernel_rfl) (by simp) ?_
      refine AllReadyH.cons rfl (fun K hK => ?_) (AllReadyH.cons rfl (fun K hK => ?_) AllReadyH.nil)
      · go_simp
        refine hK.out _ _ (HTS.out _ (((Only.refl _ w8).alloc _).drew)) (fun hHeld => ?_)
        clear hK K
        try simp only [Act.put, List.getElem_toArray, List.getElem_cons_zero, List.getElem_cons_succ, List.setIfInBounds_toArray, List.set_cons_zero, List.set_cons_succ]
        refine wpAnyH_ready (rs := [6]) (by kernel_rfl) (by simp) ?_
        refine AllReadyH.cons rfl (fun K hK => ?_) AllReadyH.nil
        go_simp
        refine (HM5.out _).mono ?_
        rintro e w' ⟨rfl, rfl⟩
        refine hK.out _ _ (by assumption) (fun hHeld => ?_)
        clear hK K
        try simp only [Act.put, List.getElem_toArray, List.getElem_cons_zero, List.getElem_cons_succ, List.setIfInBounds_toArray, List.set_cons_zero, List.set_cons_succ]
        refine' wpAnyH_take (i := 7) (v := _) rfl (by kernel_rfl) (by kernel_rfl) (by kernel_rfl) (fun _ _ _ h => h) (Or.inl ⟨by rfl, ?hycx7⟩) hHeld ?rcx7
        case hycx7 => (intro w hSw; obtain ⟨s0, s1⟩ := hSw; go_simp; with_reducible rfl)
        try simp only [Act.put, List.getElem_toArray, List.getElem_cons_zero, List.getElem_cons_succ, List.setIfInBounds_toArray, List.set_cons_zero, List.set_cons_succ]
        refine wpAnyH_ready (rs := [8]) (by kernel_rfl) (by simp) ?_
        refine AllReadyH.cons rfl (fun K hK => ?_) AllReadyH.nil
        go_simp
        refine hK.out _ _ (by assumption) (fun hHeld => ?_)
        clear hK K
        try simp only [Act.put, List.getElem_toArray, List.getElem_cons_zero, List.getElem_cons_succ, List.setIfInBounds_toArray, List.set_cons_zero, List.set_cons_succ]
        refine' wpAnyH_take (i := 9) (v := _) rfl (by kernel_rfl) (by kernel_rfl) (by kernel_rfl) (fun _ _ _ h => h) (Or.inl ⟨by rfl, ?hycx9⟩) hHeld ?rcx9
        case hycx9 => (intro w hSw; obtain ⟨s0, s1⟩ := hSw; go_simp; with_reducible rfl)
        try simp only [Act.put, List.getElem_toArray, List.getElem_cons_zero, List.getElem_cons_succ, List.setIfInBounds_toArray, List.set_cons_zero, List.set_cons_succ]
        refine wpAnyH_done (by kernel_rfl) ?_ _
        simp only [headPost, List.drop_succ_cons, List.drop_zero]
        clear HTS
        go_wp2
        go_ret2
        exact HFIN.out _
      · go_simp
        refine (HM5.out _).mono ?_
        rintro e w' ⟨rfl, rfl⟩
        refine hK.out _ _ (by assumption) (fun hHeld => ?_)
        clear hK K
        try simp only [Act.put, List.getElem_toArray, List.getElem_cons_zero, List.getElem_cons_succ, List.setIfInBounds_toArray, List.set_cons_zero, List.set_cons_succ]
        refine wpAnyH_ready (rs := [3]) (by kernel_rfl) (by simp) ?_
        refine AllReadyH.cons rfl (fun K hK => ?_) AllReadyH.nil
        go_simp
        refine hK.out _ _ (HTS.out _ (((Only.refl _ w8).alloc _).drew)) (fun hHeld => ?_)
        clear hK K
        try simp only [Act.put, List.getElem_toArray, List.getElem_cons_zero, List.getElem_cons_succ, List.setIfInBounds_toArray, List.set_cons_zero, List.set_cons_succ]
        refine' wpAnyH_take (i := 7) (v := _) rfl (by kernel_rfl) (by kernel_rfl) (by kernel_rfl) (fun _ _ _ h => h) (Or.inl ⟨by rfl, ?hycy7⟩) hHeld ?rcy7
        case hycy7 => (intro w hSw; obtain ⟨s0, s1⟩ := hSw; go_simp; with_reducible rfl)
        try simp only [Act.put, List.getElem_toArray, List.getElem_cons_zero, List.getElem_cons_succ, List.setIfInBounds_toArray, List.set_cons_zero, List.set_cons_succ]
        refine wpAnyH_ready (rs := [8]) (by kernel_rfl) (by simp) ?_
        refine AllReadyH.cons rfl (fun K hK => ?_) AllReadyH.nil
        go_simp
        refine hK.out _ _ (by assumption) (fun hHeld => ?_)
        clear hK K
        try simp only [Act.put, List.getElem_toArray, List.getElem_cons_zero, List.getElem_cons_succ, List.setIfInBounds_toArray, List.set_cons_zero, List.set_cons_succ]
        refine' wpAnyH_take (i := 9) (v := _) rfl (by kernel_rfl) (by kernel_rfl) (by kernel_rfl) (fun _ _ _ h => h) (Or.inl ⟨by rfl, ?hycy9⟩) hHeld ?rcy9
        case hycy9 => (intro w hSw; obtain ⟨s0, s1⟩ := hSw; go_simp; with_reducible rfl)
        try simp only [Act.put, List.getElem_toArray, List.getElem_cons_zero, List.getElem_cons_succ, List.setIfInBounds_toArray, List.set_cons_zero, List.set_cons_succ]
        refine wpAnyH_done (by kernel_rfl) ?_ _
        simp only [headPost, List.drop_succ_cons, List.drop_zero]
        clear HTS
        go_wp2
        go_ret2
        exact HFIN.out _
    · refine wp_region_split 10 (by kernel_rfl) (by kernel_rfl) (wpAny_of_held (S := fun w' => w'.cell? ⟨X, 0, none⟩ = some (.slice (some ⟨g5, 0, none⟩) D.cm.length c5) ∧ w'.cell? ⟨w.heap.size, 2, none⟩ = some (.int .i64 q2)) _ _ _ _ ?_)
      simp only [List.take_succ_cons, List.take_zero]
      change wpAnyH _ _ _ _ _ _ _ _ w8.drew
      have hHeld : w8.drew.cell? ⟨X, 0, none⟩ = some (.slice (some ⟨g5, 0, none⟩) D.cm.length c5) ∧ w8.drew.cell? ⟨w.heap.size, 2, none⟩ = some (.int .i64 q2) := ⟨y0, b2⟩
      refine' wpAnyH_take (i := 0) (v := _) rfl (by kernel_rfl) (by kernel_rfl) (by kernel_rfl) (fun _ _ _ h => h) (Or.inl ⟨by rfl, ?hyd0⟩) hHeld ?rd0
      case hyd0 => (intro w hSw; obtain ⟨s0, s1⟩ := hSw; go_simp; with_reducible rfl)
      try simp only [Act.put, List.getElem_toArray, List.getElem_cons_zero, List.setIfInBounds_toArray, List.set_cons_zero, List.set_cons_succ]
      refine' wpAnyH_take (i := 1) (v := _) rfl (by kernel_rfl) (by kernel_rfl) (by kernel_rfl) (fun _ _ _ h => h) (Or.inl ⟨by rfl, ?hyd1⟩) hHeld ?rd1
      case hyd1 => (intro w hSw; obtain ⟨s0, s1⟩ := hSw; go_simp; with_reducible rfl)
      try simp only [Act.put, List.getElem_toArray, List.getElem_cons_zero, List.getElem_cons_succ, List.setIfInBounds_toArray, List.set_cons_zero, List.set_cons_succ]
      refine' wpAnyH_take (i := 2) (v := _) rfl (by kernel_rfl) (by kernel_rfl) (by kernel_rfl) (fun _ _ _ h => h) (Or.inl ⟨by rfl, ?hyd2⟩) hHeld ?rd2
      case hyd2 => (intro w hSw; obtain ⟨s0, s1⟩ := hSw; go_simp; with_reducible rfl)
      try simp only [Act.put, List.getElem_toArray, List.getElem_cons_zero, List.getElem_cons_succ, List.setIfInBounds_toArray, List.set_cons_zero, List.set_cons_succ]
      refine' wpAnyH_take (i := 4) (v := _) rfl (by kernel_rfl) (by kernel_rfl) (by kernel_rfl) (fun _ _ _ h => h) (Or.inl ⟨by rfl, ?hyd4⟩) hHeld ?rd4
      case hyd4 => (intro w hSw; obtain ⟨s0, s1⟩ := hSw; go_simp; with_reducible rfl)
      try simp only [Act.put, List.getElem_toArray, List.getElem_cons_zero, List.getElem_cons_succ, List.setIfInBounds_toArray, List.set_cons_zero, List.set_cons_succ]
      refine' wpAnyH_take (i := 5) (v := _) rfl (by kernel_rfl) (by kernel_rfl) (by kernel_rfl) (fun _ _ _ h => h) (Or.inl ⟨by rfl, ?hyd5⟩) hHeld ?rd5
      case hyd5 => (intro w hSw; obtain ⟨s0, s1⟩ := hSw; go_simp; with_reducible rfl)
      try simp only [Act.put, List.getElem_toArray, List.getElem_cons_zero, List.getElem_cons_succ, List.setIfInBounds_toArray, List.set_cons_zero, List.set_cons_succ]
      refine wpAnyH_ready (rs := [3, 6]) (by kernel_rfl) (by simp) ?_
      refine AllReadyH.cons rfl (fun K hK => ?_) (AllReadyH.cons rfl (fun K hK => ?_) AllReadyH.nil)
      · go_simp
        refine hK.out _ _ (HTS.out _ (((Only.refl _ w8).alloc _).drew)) (fun hHeld => ?_)
        clear hK K
        try simp only [Act.put, List.getElem_toArray, List.getElem_cons_zero, List.getElem_cons_succ, List.setIfInBounds_toArray, List.set_cons_zero, List.set_cons_succ]
        refine wpAnyH_ready (rs := [6]) (by kernel_rfl) (by simp) ?_
        refine AllReadyH.cons rfl (fun K hK => ?_) AllReadyH.nil
        go_simp
        refine (HM5.out _).mono ?_
        rintro e w' ⟨rfl, rfl⟩
        refine hK.out _ _ (by assumption) (fun hHeld => ?_)
        clear hK K
        try simp only [Act.put, List.getElem_toArray, List.getElem_cons_zero, List.getElem_cons_succ, List.setIfInBounds_toArray, List.set_cons_zero, List.set_cons_succ]
        refine' wpAnyH_take (i := 7) (v := _) rfl (by kernel_rfl) (by kernel_rfl) (by kernel_rfl) (fun _ _ _ h => h) (Or.inl ⟨by rfl, ?hydx7⟩) hHeld ?rdx7
        case hydx7 => (intro w hSw; obtain ⟨s0, s1⟩ := hSw; go_simp; with_reducible rfl)
        try simp only [Act.put, List.getElem_toArray, List.getElem_cons_zero, List.getElem_cons_succ, List.setIfInBounds_toArray, List.set_cons_zero, List.set_cons_succ]
        refine wpAnyH_ready (rs := [8]) (by kernel_rfl) (by simp) ?_
        refine AllReadyH.cons rfl (fun K hK => ?_) AllReadyH.nil
        go_simp
        refine hK.out _ _ (by assumption) (fun hHeld => ?_)
        clear hK K
        try simp only [Act.put, List.getElem_toArray, List.getElem_cons_zero, List.getElem_cons_succ, List.setIfInBounds_toArray, List.set_cons_zero, List.set_cons_succ]
        refine' wpAnyH_take (i := 9) (v := _) rfl (by kernel_rfl) (by kernel_rfl) (by kernel_rfl) (fun _ _ _ h => h) (Or.inl ⟨by rfl, ?hydx9⟩) hHeld ?rdx9
        case hydx9 => (intro w hSw; obtain ⟨s0, s1⟩ := hSw; go_simp; with_reducible rfl)
        try simp only [Act.put, List.getElem_toArray, List.getElem_cons_zero, List.getElem_cons_succ, List.setIfInBounds_toArray, List.set_cons_zero, List.set_cons_succ]
        refine wpAnyH_done (by kernel_rfl) ?_ _
        simp only [headPost, List.drop_succ_cons, List.drop_zero]
        clear HTS
        go_wp2
        go_ret2
        exact HFIN.out _
      · go_simp
        refine (HM5.out _).mono ?_
        rintro e w' ⟨rfl, rfl⟩
        refine hK.out _ _ (by assumption) (fun hHeld => ?_)
        clear hK K
        try simp only [Act.put, List.getElem_toArray, List.getElem_cons_zero, List.getElem_cons_succ, List.setIfInBounds_toArray, List.set_cons_zero, List.set_cons_succ]
        refine wpAnyH_ready (rs := [3]) (by kernel_rfl) (by simp) ?_
        refine AllReadyH.cons rfl (fun K hK => ?_) AllReadyH.nil
        go_simp
        refine hK.out _ _ (HTS.out _ (((Only.refl _ w8).alloc _).drew)) (fun hHeld => ?_)
        clear hK K
        try simp only [Act.put, List.getElem_toArray, List.getElem_cons_zero, List.getElem_cons_succ, List.setIfInBounds_toArray, List.set_cons_zero, List.set_cons_succ]
        refine' wpAnyH_take (i := 7) (v := _) rfl (by kernel_rfl) (by kernel_rfl) (by kernel_rfl) (fun _ _ _ h => h) (Or.inl ⟨by rfl, ?hydy7⟩) hHeld ?rdy7
        case hydy7 => (intro w hSw; obtain ⟨s0, s1⟩ := hSw; go_simp; with_reducible rfl)
        try simp only [Act.put, List.getElem_toArray, List.getElem_cons_zero, List.getElem_cons_succ, List.setIfInBounds_toArray, List.set_cons_zero, List.set_cons_succ]
        refine wpAnyH_ready (rs := [8]) (by kernel_rfl) (by simp) ?_
        refine AllReadyH.cons rfl (fun K hK => ?_) AllReadyH.nil
        go_simp
        refine hK.out _ _ (by assumption) (fun hHeld => ?_)
        clear hK K
        try simp only [Act.put, List.getElem_toArray, List.getElem_cons_zero, List.getElem_cons_succ, List.setIfInBounds_toArray, List.set_cons_zero, List.set_cons_succ]
        refine' wpAnyH_take (i := 9) (v := _) rfl (by kernel_rfl) (by kernel_rfl) (by kernel_rfl) (fun _ _ _ h => h) (Or.inl ⟨by rfl, ?hydy9⟩) hHeld ?rdy9
        case hydy9 => (intro w hSw; obtain ⟨s0, s1⟩ := hSw; go_simp; with_reducible rfl)
        try simp only [Act.put, List.getElem_toArray, List.getElem_cons_zero, List.getElem_cons_succ, List.setIfInBounds_toArray, List.set_cons_zero, List.set_cons_succ]
        refine wpAnyH_done (by kernel_rfl) ?_ _
        simp only [headPost, List.drop_succ_cons, List.drop_zero]
        clear HTS
        go_wp2
        go_ret2
        exact HFIN.out _
    · refine wp_region_split 10 (by kernel_rfl) (by kernel_rfl) (wpAny_of_held (S := fun w' => w'.cell? ⟨X, 0, none⟩ = some (.slice (some ⟨g5, 0, none⟩) D.cm.length c5) ∧ w'.cell? ⟨w.heap.size, 2, none⟩ = some (.int .i64 q2)) _ _ _ _ ?_)
      simp only [List.take_succ_cons, List.take_zero]
      change wpAnyH _ _ _ _ _ _ _ _ w8.drew
      have hHeld : w8.drew.cell? ⟨X, 0, none⟩ = some (.slice (some ⟨g5, 0, none⟩) D.cm.length c5) ∧ w8.drew.cell? ⟨w.heap.size, 2, none⟩ = some (.int .i64 q2) := ⟨y0, b2⟩
      refine' wpAnyH_take (i := 0) (v := _) rfl (by kernel_rfl) (by kernel_rfl) (by kernel_rfl) (fun _ _ _ h => h) (Or.inl ⟨by rfl, ?hye0⟩) hHeld ?re0
      case hye0 => (intro w hSw; obtain ⟨s0, s1⟩ := hSw; go_simp; with_reducible rfl)
      try simp only [Act.put, List.getElem_toArray, List.getElem_cons_zero, List.setIfInBounds_toArray, List.set_cons_zero, List.set_cons_succ]
      refine' wpAnyH_take (i := 1) (v := _) rfl (by kernel_rfl) (by kernel_rfl) (by kernel_rfl) (fun _ _ _ h => h) (Or.inl ⟨by rfl, ?hye1⟩) hHeld ?re1
      case hye1 => (intro w hSw; obtain ⟨s0, s1⟩ := hSw; go_simp; with_reducible rfl)
      try simp only [Act.put, List.getElem_toArray, List.getElem_cons_zero, List.getElem_cons_succ, List.setIfInBounds_toArray, List.set_cons_zero, List.set_cons_succ]
      refine' wpAnyH_take (i := 2) (v := _) rfl (by kernel_rfl) (by kernel_rfl) (by kernel_rfl) (fun _ _ _ h => h) (Or.inl ⟨by rfl, ?hye2⟩) hHeld ?re2
      case hye2 => (intro w hSw; obtain ⟨s0, s1⟩ := hSw; go_simp; with_reducible rfl)
      try simp only [Act.put, List.getElem_toArray, List.getElem_cons_zero, List.getElem_cons_succ, List.setIfInBounds_toArray, List.set_cons_zero, List.set_cons_succ]
      refine' wpAnyH_take (i := 4) (v := _) rfl (by kernel_rfl) (by kernel_rfl) (by kernel_rfl) (fun _ _ _ h => h) (Or.inl ⟨by rfl, ?hye4⟩) hHeld ?re4
      case hye4 => (intro w hSw; obtain ⟨s0, s1⟩ := hSw; go_simp; with_reducible rfl)
      try simp only [Act.put, List.getElem_toArray, List.getElem_cons_zero, List.getElem_cons_succ, List.setIfInBounds_toArray, List.set_cons_zero, List.set_cons_succ]
      refine' wpAnyH_take (i := 5) (v := _) rfl (by kernel_rfl) (by kernel_rfl) (by kernel_rfl) (fun _ _ _ h => h) (Or.inl ⟨by rfl, ?hye5⟩) hHeld ?re5
      case hye5 => (intro w hSw; obtain ⟨s0, s1⟩ := hSw; go_simp; with_reducible rfl)
      try simp only [Act.put, List.getElem_toArray, List.getElem_cons_zero, List.getElem_cons_succ, List.setIfInBounds_toArray, List.set_cons_zero, List.set_cons_succ]
      refine wpAnyH_ready (rs := [3, 6]) (by kernel_rfl) (by simp) ?_
      refine AllReadyH.cons rfl (fun K hK => ?_) (AllReadyH.cons rfl (fun K hK => ?_) AllReadyH.nil)
      · go_simp
        refine hK.out _ _ (HTS.out _ (((Only.refl _ w8).alloc _).drew)) (fun hHeld => ?_)
        clear hK K
        try simp only [Act.put, List.getElem_toArray, List.getElem_cons_zero, List.getElem_cons_succ, List.setIfInBounds_toArray, List.set_cons_zero, List.set_cons_succ]
        refine wpAnyH_ready (rs := [6]) (by kernel_rfl) (by simp) ?_
        refine AllReadyH.cons rfl (fun K hK => ?_) AllReadyH.nil
        go_simp
        refine (HM5.out _).mono ?_
        rintro e w' ⟨rfl, rfl⟩
        refine hK.out _ _ (by assumption) (fun hHeld => ?_)
        clear hK K
        try simp only [Act.put, List.getElem_toArray, List.getElem_cons_zero, List.getElem_cons_succ, List.setIfInBounds_toArray, List.set_cons_zero, List.set_cons_succ]
        refine' wpAnyH_take (i := 7) (v := _) rfl (by kernel_rfl) (by kernel_rfl) (by kernel_rfl) (fun _ _ _ h => h) (Or.inl ⟨by rfl, ?hyex7⟩) hHeld ?rex7
        case hyex7 => (intro w hSw; obtain ⟨s0, s1⟩ := hSw; go_simp; with_reducible rfl)
        try simp only [Act.put, List.getElem_toArray, List.getElem_cons_zero, List.getElem_cons_succ, List.setIfInBounds_toArray, List.set_cons_zero, List.set_cons_succ]
        refine wpAnyH_ready (rs := [8]) (by kernel_rfl) (by simp) ?_
        refine AllReadyH.cons rfl (fun K hK => ?_) AllReadyH.nil
        go_simp
        refine hK.out _ _ (by assumption) (fun hHeld => ?_)
        clear hK K
        try simp only [Act.put, List.getElem_toArray, List.getElem_cons_zero, List.getElem_cons_succ, List.setIfInBounds_toArray, List.set_cons_zero, List.set_cons_succ]
        refine' wpAnyH_take (i := 9) (v := _) rfl (by kernel_rfl) (by kernel_rfl) (by kernel_rfl) (fun _ _ _ h => h) (Or.inl ⟨by rfl, ?hyex9⟩) hHeld ?rex9
        case hyex9 => (intro w hSw; obtain ⟨s0, s1⟩ := hSw; go_simp; with_reducible rfl)
        try simp only [Act.put, List.getElem_toArray, List.getElem_cons_zero, List.getElem_cons_succ, List.setIfInBounds_toArray, List.set_cons_zero, List.set_cons_succ]
        refine wpAnyH_done (by kernel_rfl) ?_ _
        simp only [headPost, List.drop_succ_cons, List.drop_zero]
        clear HTS
        go_wp2
        go_ret2
        exact HFIN.out _
      · go_simp
        refine (HM5.out _).mono ?_
        rintro e w' ⟨rfl, rfl⟩
        refine hK.out _ _ (by assumption) (fun hHeld => ?_)
        clear hK K
        try simp only [Act.put, List.getElem_toArray, List.getElem_cons_zero, List.getElem_cons_succ, List.setIfInBounds_toArray, List.set_cons_zero, List.set_cons_succ]
        refine wpAnyH_ready (rs := [3]) (by kernel_rfl) (by simp) ?_
        refine AllReadyH.cons rfl (fun K hK => ?_) AllReadyH.nil
        go_simp
        refine hK.out _ _ (HTS.out _ (((Only.refl _ w8).alloc _).drew)) (fun hHeld => ?_)
        clear hK K
        try simp only [Act.put, List.getElem_toArray, List.getElem_cons_zero, List.getElem_cons_succ, List.setIfInBounds_toArray, List.set_cons_zero, List.set_cons_succ]
        refine' wpAnyH_take (i := 7) (v := _) rfl (by kernel_rfl) (by kernel_rfl) (by kernel_rfl) (fun _ _ _ h => h) (Or.inl ⟨by rfl, ?hyey7⟩) hHeld ?rey7
        case hyey7 => (intro w hSw; obtain ⟨s0, s1⟩ := hSw; go_simp; with_reducible rfl)
        try simp only [Act.put, List.getElem_toArray, List.getElem_cons_zero, List.getElem_cons_succ, List.setIfInBounds_toArray, List.set_cons_zero, List.set_cons_succ]
        refine wpAnyH_ready (rs := [8]) (by kernel_rfl) (by simp) ?_
        refine AllReadyH.cons rfl (fun K hK => ?_) AllReadyH.nil
        go_simp
        refine hK.out _ _ (by assumption) (fun hHeld => ?_)
        clear hK K
        try simp only [Act.put, List.getElem_toArray, List.getElem_cons_zero, List.getElem_cons_succ, List.setIfInBounds_toArray, List.set_cons_zero, List.set_cons_succ]
        refine' wpAnyH_take (i := 9) (v := _) rfl (by kernel_rfl) (by kernel_rfl) (by kernel_rfl) (fun _ _ _ h => h) (Or.inl ⟨by rfl, ?hyey9⟩) hHeld ?rey9
        case hyey9 => (intro w hSw; obtain ⟨s0, s1⟩ := hSw; go_simp; with_reducible rfl)
        try simp only [Act.put, List.getElem_toArray, List.getElem_cons_zero, List.getElem_cons_succ, List.setIfInBounds_toArray, List.set_cons_zero, List.set_cons_succ]
        refine wpAnyH_done (by kernel_rfl) ?_ _
        simp only [headPost, List.drop_succ_cons, List.drop_zero]
        clear HTS
        go_wp2
        go_ret2
        exact HFIN.out _
  · have hown2 := HBT.out.cm.alloc (.cells #[.int .i64 1] 3)
    have hA : Only (fun _ => False) w8 (w8.alloc (.cells #[.int .i64 1] 3)) := (Only.refl _ w8).alloc _
    have hs8 := own_lt0 HBT.out.q
    have yc := cell_of_row _ _ 0 _ _ _ HBT.out.blk
    have HLOW := Lib.hid (show base ≤ w.heap.size + 1 from HLB.out)
    go_wp2_with (at_builtin; refine wpList_append_lies _ rfl _ _ 22 rfl (w.heap.size + 1) 3 i0 _ 1 8 Tryz.underlying22 hi0 hz0 hz1 hz2 rfl (by decide) _ D.cm.length (irow D.cm) rfl hown2 ⟨w8.heap.size, 0, none⟩ 1 1 [.int .i64 1] rfl rfl (World.news_of_block (cs := #[.int .i64 1]) (t := 3) (fr := (0, 0)) (heap_alloc_new w8 _)) (one_int _) (by decide) ?ch1 ?ch2 ?ch3 _ rfl ?_)
    case ch1 => unfold maxLen; omega
    case ch2 => omega
    case ch3 => rw [World.size_alloc]; omega
    intro g9 c9 w9 ho9 hg9 ha9 hgl9
    have hG : Only (fun k => (Value.slice (some ⟨g5, 0, none⟩) D.cm.length c5).ownBlock = some k) (w8.alloc (.cells #[.int .i64 1] 3)) w9 := (Only.refl _ _).grown hg9 (fun k e _ => e)
    have hk9 : ∀ {b e s m : Nat} {u : Value} {xs : List Value}, w8.ownsRow b e s u m xs → e ≠ 3 → w9.ownsRow b e s u m xs := fun hu he => hG.owns (hA.owns hu (fun _ _ h => h)) (fun k hk e => own_ne_ty hu HBT.out.cm he k hk e)
    have hX9 := (hG.block X (by have := own_lt0 HBT.out.blk; rw [World.size_alloc]; omega) (own_ne_blk HBT.out.cm HBT.out.blk (by decide))).trans (row_still hA HBT.out.blk)
    have hO9 : Only (fun k => k = X) w9 (w9.setCell ⟨X, 0, none⟩ (.slice (some ⟨g9, 0, none⟩) (D.cm.length + 1) c9)) := (Only.refl (fun k => k = X) w9).setCell (p := ⟨X, 0, none⟩) (.inl rfl) _
    have hb9 := heap_setCell_same w9 X 0 _ _ (.slice (some ⟨g9, 0, none⟩) (D.cm.length + 1) c9) hX9
    have hkX : ∀ {b e s m : Nat} {u : Value} {xs : List Value}, w9.ownsRow b e s u m xs → e ≠ 72 → ∀ k, u.ownBlock = some k → ¬ k = X := fun hu he k hk e => own_ne_blk hu hX9 he (by rw [hk, e])
    have hOw : Only (fun _ => False) w w9 := (HBT.out.only.trans hA).trans' hG (fun i hi e => by have := own_low' HBT.out.cm e; omega)
    have hds9 : DsOwn base w9 (.slice (some ⟨go, 0, none⟩) qs.length co) qs := ⟨own_base (hk9 HBT.out.out (by decide)) HLOW.out, fun q hq => ⟨hOw.owns (HDE.out q hq).cm (fun _ _ h => h), hOw.owns (HDE.out q hq).bx (fun _ _ h => h)⟩⟩
    have HFIN := Lib.hid (show BentPost w (.returned (.tuple #[.slice (some ⟨go, 0, none⟩) qs.length co, .slice (some ⟨gc, 0, none⟩) l.length cc])) ((((w9.setCell ⟨X, 0, none⟩ (.slice (some ⟨g9, 0, none⟩) (D.cm.length + 1) c9)).setCell ⟨go, ii * 3, none⟩ (.slice (some ⟨g9, 0, none⟩) (D.cm.length + 1) c9)).setCell ⟨go, ii * 3 + 1, none⟩ (.int .i64 D.pt)).setCell ⟨go, ii * 3 + 2, none⟩ (.slice (some ⟨g7, 0, none⟩) D.bx.length c7)) from
      bent_fin (D := ⟨D.cm ++ [1], D.pt, D.bx⟩) (l := l) (l2 := l) (base := base) (hOw.trans' hO9 (fun i hi e => by have := HBT.out.low; omega)) (by have := own_low' HBT.out.out (show _ = some go from rfl); omega) ⟨hO9.owns hds9.own (fun k hk e => HBT.out.ne (by rw [hk, show k = X from e])), fun q hq => ⟨hO9.owns (hds9.each q hq).cm (hkX (hds9.each q hq).cm (by decide)), hO9.owns (hds9.each q hq).bx (hkX (hds9.each q hq).bx (by decide))⟩⟩ rfl ⟨by show World.ownsRow _ _ _ _ _ (D.cm ++ [1]).length (irow (D.cm ++ [1])); rw [List.length_append, List.length_singleton, irow_append]; exact own_base (hO9.owns ho9 (hkX ho9 (by decide))) HLOW.out, own_base (hO9.owns (hk9 HBT.out.bx (by decide)) (hkX (hk9 HBT.out.bx (by decide)) (by decide))) HLOW.out⟩ hiq (hO9.owns (hk9 HBT.out.crew (by decide)) (hkX (hk9 HBT.out.crew (by decide)) (by decide))) HW.out (fun _ h => h) ⟨by omega, fun q hq => by have := HEA.out q hq; omega⟩ ⟨by first | (show D.cm.length ≤ _; omega) | (show (D.cm ++ [1]).length ≤ _; rw [List.length_append, List.length_singleton]; omega), by first | (show D.bx.length ≤ _; omega) | (show (D.bx ++ [(⟨#[]⟩ : ByteArray)]).length ≤ _; rw [List.length_append, List.length_singleton]; omega)⟩)
    obtain ⟨⟨sa, sx, sc, t0, t1, t2⟩, tf, tl, tc1, tc2⟩ := hds9.spots rfl hiq
    have hgX : go ≠ X := fun e => HBT.out.ne (by rw [← e]; rfl)
    have u0 := hO9.cell t0 hgX
    have u1 := hO9.cell t1 hgX
    have u2 := hO9.cell t2 hgX
    have f0 := tf (ii * 3)
    have f1 := tf (ii * 3 + 1)
    have f2 := tf (ii * 3 + 2)
    have fx := frozen_of_row _ _ 0 _ _ hX9
    have cx := cell_of_row _ _ 0 _ _ _ hX9
    have lx := own_lt0 hX9
    have z0 := cell_of_row _ _ 0 _ _ _ hb9
    have z1 := cell_of_row _ _ 1 _ _ _ hb9
    have z2 := cell_of_row _ _ 2 _ _ _ hb9
    clear HBT HDS HDX HEA tf hO9 hkX hG hk9 hX9 hb9 hds9 ho9 hg9 ha9 hown2 hA hOw y0 yc
    go_wp2
    go_ret2
    exact HFIN.out
  · have hown2 := HBT.out.bx.alloc (.cells #[.string ⟨#[]⟩] 9)
    have hA : Only (fun _ => False) w8 (w8.alloc (.cells #[.string ⟨#[]⟩] 9)) := (Only.refl _ w8).alloc _
    have hs8 := own_lt0 HBT.out.q
    have yc := cell_of_row _ _ 2 _ _ _ HBT.out.blk
    have HLOW := Lib.hid (show base ≤ w.heap.size + 1 from HLB.out)
    go_wp2_with (at_builtin; refine wpList_append_lies _ rfl _ _ 70 rfl (w.heap.size + 1) 9 s0 _ 1 16 Tryz.underlying70 hs0 hu0 hu1 hu2 rfl (by decide) _ D.bx.length (srowS D.bx) rfl hown2 ⟨w8.heap.size, 0, none⟩ 1 1 [.string ⟨#[]⟩] rfl rfl (World.news_of_block (cs := #[.string ⟨#[]⟩]) (t := 9) (fr := (0, 0)) (heap_alloc_new w8 _)) (one_str _) (by decide) ?dh1 ?dh2 ?dh3 _ rfl ?_)
    case dh1 => unfold maxLen; omega
    case dh2 => omega
    case dh3 => rw [World.size_alloc]; omega
    intro g9 c9 w9 ho9 hg9 ha9 hgl9
    have hG : Only (fun k => (Value.slice (some ⟨g7, 0, none⟩) D.bx.length c7).ownBlock = some k) (w8.alloc (.cells #[.string ⟨#[]⟩] 9)) w9 := (Only.refl _ _).grown hg9 (fun k e _ => e)
    have hk9 : ∀ {b e s m : Nat} {u : Value} {xs : List Value}, w8.ownsRow b e s u m xs → e ≠ 9 → w9.ownsRow b e s u m xs := fun hu he => hG.owns (hA.owns hu (fun _ _ h => h)) (fun k hk e => own_ne_ty hu HBT.out.bx he k hk e)
    have hX9 := (hG.block X (by have := own_lt0 HBT.out.blk; rw [World.size_alloc]; omega) (own_ne_blk HBT.out.bx HBT.out.blk (by decide))).trans (row_still hA HBT.out.blk)
    have hO9 : Only (fun k => k = X) w9 (w9.setCell ⟨X, 2, none⟩ (.slice (some ⟨g9, 0, none⟩) (D.bx.length + 1) c9)) := (Only.refl (fun k => k = X) w9).setCell (p := ⟨X, 2, none⟩) (.inl rfl) _
    have hb9 := heap_setCell_same w9 X 2 _ _ (.slice (some ⟨g9, 0, none⟩) (D.bx.length + 1) c9) hX9
    have hkX : ∀ {b e s m : Nat} {u : Value} {xs : List Value}, w9.ownsRow b e s u m xs → e ≠ 72 → ∀ k, u.ownBlock = some k → ¬ k = X := fun hu he k hk e => own_ne_blk hu hX9 he (by rw [hk, e])
    have hOw : Only (fun _ => False) w w9 := (HBT.out.only.trans hA).trans' hG (fun i hi e => by have := own_low' HBT.out.bx e; omega)
    have hds9 : DsOwn base w9 (.slice (some ⟨go, 0, none⟩) qs.length co) qs := ⟨own_base (hk9 HBT.out.out (by decide)) HLOW.out, fun q hq => ⟨hOw.owns (HDE.out q hq).cm (fun _ _ h => h), hOw.owns (HDE.out q hq).bx (fun _ _ h => h)⟩⟩
    have HFIN := Lib.hid (show BentPost w (.returned (.tuple #[.slice (some ⟨go, 0, none⟩) qs.length co, .slice (some ⟨gc, 0, none⟩) l.length cc])) ((((w9.setCell ⟨X, 2, none⟩ (.slice (some ⟨g9, 0, none⟩) (D.bx.length + 1) c9)).setCell ⟨go, ii * 3, none⟩ (.slice (some ⟨g5, 0, none⟩) D.cm.length c5)).setCell ⟨go, ii * 3 + 1, none⟩ (.int .i64 D.pt)).setCell ⟨go, ii * 3 + 2, none⟩ (.slice (some ⟨g9, 0, none⟩) (D.bx.length + 1) c9)) from
      bent_fin (D := ⟨D.cm, D.pt, D.bx ++ [(⟨#[]⟩ : ByteArray)]⟩) (l := l) (l2 := l) (base := base) (hOw.trans' hO9 (fun i hi e => by have := HBT.out.low; omega)) (by have := own_low' HBT.out.out (show _ = some go from rfl); omega) ⟨hO9.owns hds9.own (fun k hk e => HBT.out.ne (by rw [hk, show k = X from e])), fun q hq => ⟨hO9.owns (hds9.each q hq).cm (hkX (hds9.each q hq).cm (by decide)), hO9.owns (hds9.each q hq).bx (hkX (hds9.each q hq).bx (by decide))⟩⟩ rfl ⟨own_base (hO9.owns (hk9 HBT.out.cm (by decide)) (hkX (hk9 HBT.out.cm (by decide)) (by decide))) HLOW.out, by show World.ownsRow _ _ _ _ _ (D.bx ++ [(⟨#[]⟩ : ByteArray)]).length (srowS (D.bx ++ [(⟨#[]⟩ : ByteArray)])); rw [List.length_append, List.length_singleton, srowS_append]; exact own_base (hO9.owns ho9 (hkX ho9 (by decide))) HLOW.out⟩ hiq (hO9.owns (hk9 HBT.out.crew (by decide)) (hkX (hk9 HBT.out.crew (by decide)) (by decide))) HW.out (fun _ h => h) ⟨by omega, fun q hq => by have := HEA.out q hq; omega⟩ ⟨by first | (show D.cm.length ≤ _; omega) | (show (D.cm ++ [1]).length ≤ _; rw [List.length_append, List.length_singleton]; omega), by first | (show D.bx.length ≤ _; omega) | (show (D.bx ++ [(⟨#[]⟩ : ByteArray)]).length ≤ _; rw [List.length_append, List.length_singleton]; omega)⟩)
    obtain ⟨⟨sa, sx, sc, t0, t1, t2⟩, tf, tl, tc1, tc2⟩ := hds9.spots rfl hiq
    have hgX : go ≠ X := fun e => HBT.out.ne (by rw [← e]; rfl)
    have u0 := hO9.cell t0 hgX
    have u1 := hO9.cell t1 hgX
    have u2 := hO9.cell t2 hgX
    have f0 := tf (ii * 3)
    have f1 := tf (ii * 3 + 1)
    have f2 := tf (ii * 3 + 2)
    have fx := frozen_of_row _ _ 2 _ _ hX9
    have cx := cell_of_row _ _ 2 _ _ _ hX9
    have lx := own_lt0 hX9
    have z0 := cell_of_row _ _ 0 _ _ _ hb9
    have z1 := cell_of_row _ _ 1 _ _ _ hb9
    have z2 := cell_of_row _ _ 2 _ _ _ hb9
    clear HBT HDS HDX HEA tf hO9 hkX hG hk9 hX9 hb9 hds9 ho9 hg9 ha9 hown2 hA hOw y0 yc
    go_wp2
    go_ret2
    exact HFIN.out
  · have hXb := HBT.out.blk
    have cv' : True := trivial
    have hO9 : Only (fun k => k = X) w8 (w8.setCell ⟨X, 0, none⟩ (.slice (some ⟨g5, 0, none⟩) jj c5)) := (Only.refl (fun k => k = X) w8).setCell (p := ⟨X, 0, none⟩) (.inl rfl) _
    have hb9 := heap_setCell_same w8 X 0 _ _ (.slice (some ⟨g5, 0, none⟩) jj c5) hXb
    have hkX : ∀ {b e s m : Nat} {u : Value} {xs : List Value}, w8.ownsRow b e s u m xs → e ≠ 72 → ∀ k, u.ownBlock = some k → ¬ k = X := fun hu he k hk e => own_ne_blk hu hXb he (by rw [hk, e])
    have HFIN := Lib.hid (show BentPost w (.returned (.tuple #[.slice (some ⟨go, 0, none⟩) qs.length co, .slice (some ⟨gc, 0, none⟩) l.length cc])) ((((w8.setCell ⟨X, 0, none⟩ (.slice (some ⟨g5, 0, none⟩) jj c5)).setCell ⟨go, ii * 3, none⟩ (.slice (some ⟨g5, 0, none⟩) jj c5)).setCell ⟨go, ii * 3 + 1, none⟩ (.int .i64 D.pt)).setCell ⟨go, ii * 3 + 2, none⟩ (.slice (some ⟨g7, 0, none⟩) D.bx.length c7)) from by
      have hcm2 := own_take HDX.out.cm jj (by omega)
      rw [Nat.mul_one] at hcm2
      have hir : (irow D.cm).take jj = irow (D.cm.take jj) := by unfold irow; rw [List.map_take]
      rw [hir] at hcm2
      refine bent_fin (D := ⟨D.cm.take jj, D.pt, D.bx⟩) (l := l) (l2 := l) (base := base) (HBT.out.only.trans' hO9 (fun i hi e => by have := HBT.out.low; omega)) (by have := own_low' HBT.out.out (show _ = some go from rfl); omega) ⟨hO9.owns HDS.out.own (fun k hk e => HBT.out.ne (by rw [hk, show k = X from e])), fun q hq => ⟨hO9.owns (HDS.out.each q hq).cm (hkX (HDS.out.each q hq).cm (by decide)), hO9.owns (HDS.out.each q hq).bx (hkX (HDS.out.each q hq).bx (by decide))⟩⟩ rfl ⟨?_, hO9.owns HDX.out.bx (hkX HDX.out.bx (by decide))⟩ hiq (hO9.owns HBT.out.crew (hkX HBT.out.crew (by decide))) HW.out (fun _ h => h) ⟨by omega, fun q hq => by have := HEA.out q hq; omega⟩ ⟨by rw [List.length_take]; omega, by show D.bx.length ≤ _; omega⟩
      show World.ownsRow _ _ _ _ _ (D.cm.take jj).length (irow (D.cm.take jj))
      rw [List.length_take, Nat.min_eq_left (by omega)]
      exact hO9.owns hcm2 (hkX hcm2 (by decide)))
    obtain ⟨⟨sa, sx, sc, t0, t1, t2⟩, tf, tl, tc1, tc2⟩ := HDS.out.spots rfl hiq
    have hgX : go ≠ X := fun e => HBT.out.ne (by rw [← e]; rfl)
    have t0' := hO9.cell t0 hgX
    have t1' := hO9.cell t1 hgX
    have t2' := hO9.cell t2 hgX
    have f0 := tf (ii * 3)
    have f1 := tf (ii * 3 + 1)
    have f2 := tf (ii * 3 + 2)
    have f0x := frozen_of_row _ _ 0 _ _ hXb
    have y9 := cell_of_row _ _ 0 _ _ _ hb9
    have y91 := cell_of_row _ _ 1 _ _ _ hb9
    have y92 := cell_of_row _ _ 2 _ _ _ hb9
    obtain ⟨hc51, hc52⟩ := own_cap2 HDX.out.cm (by omega)
    have j1 : (jj : Int) ≤ c5 := by omega
    have j2 : jj ≤ c5 := by omega
    clear HBT HDS HDX HEA hO9 hXb hb9 hkX tf cv'
    go_wp2
    go_ret2
    exact HFIN.out
  · obtain ⟨mm, hmm⟩ : ∃ mm : Nat, q2 % (l.length : Int) = mm := ⟨(q2 % (l.length : Int)).toNat, by have := emod_self_lt q2 l.length (by omega); omega⟩
    have hml : mm < l.length := by have := emod_self_lt q2 l.length (by omega); omega
    have HMM := Lib.hid (fun w => rmod2_any q2 l.length w (by omega) (by omega))
    rw [hmm] at HMM
    have hO9 : Only (fun k => k = gc) w8 (w8.setCell ⟨gc, mm * 3 + 1, none⟩ (.int .i64 ((mbAt l mm).wt + 1))) := (Only.refl (fun k => k = gc) w8).setCell (p := ⟨gc, mm * 3 + 1, none⟩) (.inl rfl) _
    have hkg : ∀ {b e s m : Nat} {u : Value} {xs : List Value}, w8.ownsRow b e s u m xs → e ≠ 68 → ∀ k, u.ownBlock = some k → ¬ k = gc := fun hu he k hk e => own_ne_ty hu HBT.out.crew he k hk (by rw [e]; rfl)
    have hwt := HWT.out mm
    have hwf := (HW.out.wf mm).2
    have HFIN := Lib.hid (show BentPost w (.returned (.tuple #[.slice (some ⟨go, 0, none⟩) qs.length co, .slice (some ⟨gc, 0, none⟩) l.length cc])) ((((w8.setCell ⟨gc, mm * 3 + 1, none⟩ (.int .i64 ((mbAt l mm).wt + 1))).setCell ⟨go, ii * 3, none⟩ (.slice (some ⟨g5, 0, none⟩) D.cm.length c5)).setCell ⟨go, ii * 3 + 1, none⟩ (.int .i64 D.pt)).setCell ⟨go, ii * 3 + 2, none⟩ (.slice (some ⟨g7, 0, none⟩) D.bx.length c7)) from by
      have hcr := own_set' (j := mm * 3 + 1) HBT.out.crew (.int .i64 ((mbAt l mm).wt + 1))
      rw [mrow_set l mm _ hml] at hcr
      refine bent_fin (D := D) (l := l.set mm ⟨(mbAt l mm).id, (mbAt l mm).wt + 1, (mbAt l mm).pb⟩) (l2 := l.set mm ⟨(mbAt l mm).id, (mbAt l mm).wt + 1, (mbAt l mm).pb⟩) (base := base) (HBT.out.only.trans' hO9 (fun i hi e => by have := own_low' HBT.out.crew (show _ = some gc from rfl); omega)) (by have := own_low' HBT.out.out (show _ = some go from rfl); omega) ⟨hO9.owns HDS.out.own (hkg HDS.out.own (by decide)), fun q hq => ⟨hO9.owns (HDS.out.each q hq).cm (hkg (HDS.out.each q hq).cm (by decide)), hO9.owns (HDS.out.each q hq).bx (hkg (HDS.out.each q hq).bx (by decide))⟩⟩ rfl ⟨hO9.owns HDX.out.cm (hkg HDX.out.cm (by decide)), hO9.owns HDX.out.bx (hkg HDX.out.bx (by decide))⟩ hiq (by rw [List.length_set]; exact hcr) (HW.out.set mm _ (by omega)) (fun _ h => h) ⟨by omega, fun q hq => by have := HEA.out q hq; omega⟩ ⟨by omega, by omega⟩)
    obtain ⟨⟨sa, sx, sc, t0, t1, t2⟩, tf, tl, tc1, tc2⟩ := HDS.out.spots rfl hiq
    have hgX : go ≠ X := fun e => HBT.out.ne (by rw [← e]; rfl)
    have f0 := tf (ii * 3)
    have f1 := tf (ii * 3 + 1)
    have f2 := tf (ii * 3 + 2)
    obtain ⟨m1, m2, m3, m4⟩ := own_cellM HBT.out.crew hml
    have hgg : go ≠ gc := fun e => own_ne_ty HDS.out.own HBT.out.crew (by decide) go rfl (by rw [e]; rfl)
    have hXg : X ≠ gc := fun e => own_ne_blk HBT.out.crew HBT.out.blk (by decide) (by rw [e]; rfl)
    have u0 := hO9.cell t0 hgg
    have u1 := hO9.cell t1 hgg
    have u2 := hO9.cell t2 hgg
    have y01 := cell_of_row _ _ 1 _ _ _ HBT.out.blk
    have y02 := cell_of_row _ _ 2 _ _ _ HBT.out.blk
    have z0 := hO9.cell y0 hXg
    have z1 := hO9.cell y01 hXg
    have z2 := hO9.cell y02 hXg
    obtain ⟨hcc1, hcc2⟩ := own_cap2 HBT.out.crew (by omega)
    have j1 : (mm : Int) < l.length := by omega
    have j2 : 0 ≤ (mm : Int) := by omega
    generalize (mbAt l mm).wt = wt at *
    generalize (mbAt l mm).id = id0 at *
    clear HBT HDS HDX HEA tf hO9 hkg hmm
    go_wp2_with fail
    refine (HMM.out _).mono ?_
    rintro e w8' ⟨rfl, rfl⟩
    go_wp2
    go_ret2
    exact HFIN.out
  · have HFIN := Lib.hid (show ∀ v7, (∀ W', MbsAt W' (.slice (some ⟨gc, 0, none⟩) l.length cc) l → MbsAt W' v7 (l.drop 1)) → BentPost w (.returned (.tuple #[.slice (some ⟨go, 0, none⟩) qs.length co, v7])) (((w8.setCell ⟨go, ii * 3, none⟩ (.slice (some ⟨g5, 0, none⟩) D.cm.length c5)).setCell ⟨go, ii * 3 + 1, none⟩ (.int .i64 D.pt)).setCell ⟨go, ii * 3 + 2, none⟩ (.slice (some ⟨g7, 0, none⟩) D.bx.length c7)) from fun v7 h7 =>
      bent_fin (D := D) (l := l) (l2 := l.drop 1) (base := base) HBT.out.only (by have := own_low' HBT.out.out (show _ = some go from rfl); omega) HDS.out rfl HDX.out hiq HBT.out.crew HW.out.drop h7 ⟨by omega, fun q hq => by have := HEA.out q hq; omega⟩ ⟨by omega, by omega⟩)
    obtain ⟨⟨sa, sx, sc, t0, t1, t2⟩, tf, tl, tc1, tc2⟩ := HDS.out.spots rfl hiq
    have hgX : go ≠ X := fun e => HBT.out.ne (by rw [← e]; rfl)
    have f0 := tf (ii * 3)
    have f1 := tf (ii * 3 + 1)
    have f2 := tf (ii * 3 + 2)
    have y01 := cell_of_row _ _ 1 _ _ _ HBT.out.blk
    have y02 := cell_of_row _ _ 2 _ _ _ HBT.out.blk
    obtain ⟨hcc1, hcc2⟩ := own_cap2 HBT.out.crew (by omega)
    have HLL := Lib.hid hl1
    have j1 : (1 : Int) ≤ l.length := by omega
    clear HBT HDS HDX HEA tf
    by_cases hcc : cc = 1
    · have HF := Lib.hid (HFIN.out (.slice (some ⟨gc, 0, none⟩) 0 0) (fun W' h => by
        have h2 := (mbs_drop HLL.out h).1 hcc
        rw [show l.length - 1 = 0 by omega, show cc - 1 = 0 by omega] at h2
        exact h2))
      subst hcc
      clear HFIN
      go_wp2
      go_ret2
      exact HF.out
    · have HF := Lib.hid (HFIN.out (.slice (some ⟨gc, 3, none⟩) (l.length - 1) (cc - 1)) (fun W' h => (mbs_drop HLL.out h).2 hcc))
      clear HFIN
      go_wp2
      go_ret2
      exact HF.out
  · have hown2 := HBT.out.out.alloc (.cells #[.slice (some ⟨g5, 0, none⟩) D.cm.length c5, .int .i64 D.pt, .slice (some ⟨g7, 0, none⟩) D.bx.length c7] 72)
    have hA : Only (fun _ => False) w8 (w8.alloc (.cells #[.slice (some ⟨g5, 0, none⟩) D.cm.length c5, .int .i64 D.pt, .slice (some ⟨g7, 0, none⟩) D.bx.length c7] 72)) := (Only.refl _ w8).alloc _
    have hs8 := own_lt0 HBT.out.q
    have y01 := cell_of_row _ _ 1 _ _ _ HBT.out.blk
    have y02 := cell_of_row _ _ 2 _ _ _ HBT.out.blk
    have HLOW := Lib.hid (show base ≤ w.heap.size + 1 from HLB.out)
    go_wp2_with (at_builtin; refine wpList_append_lies _ rfl _ _ 32 rfl (w.heap.size + 1) 72 j0 _ 3 56 Tryz.underlying32 hj0 hy0 hy1 hy2 rfl (by decide) _ qs.length (rowD qs) rfl hown2 ⟨w8.heap.size, 0, none⟩ 1 1 [.slice (some ⟨g5, 0, none⟩) D.cm.length c5, .int .i64 D.pt, .slice (some ⟨g7, 0, none⟩) D.bx.length c7] rfl rfl (World.news_of_block (cs := #[.slice (some ⟨g5, 0, none⟩) D.cm.length c5, .int .i64 D.pt, .slice (some ⟨g7, 0, none⟩) D.bx.length c7]) (t := 72) (fr := (0, 0)) (heap_alloc_new w8 _)) (by simp [Value.oneCell']) (by decide) ?gh1 ?gh2 ?gh3 _ rfl ?_)
    case gh1 => unfold maxLen; omega
    case gh2 => omega
    case gh3 => rw [World.size_alloc]; omega
    intro g9 c9 w9 ho9 hg9 ha9 hgl9
    have hG : Only (fun k => (Value.slice (some ⟨go, 0, none⟩) qs.length co).ownBlock = some k) (w8.alloc (.cells #[.slice (some ⟨g5, 0, none⟩) D.cm.length c5, .int .i64 D.pt, .slice (some ⟨g7, 0, none⟩) D.bx.length c7] 72)) w9 := (Only.refl _ _).grown hg9 (fun k e _ => e)
    have hk9 : ∀ {b e s m : Nat} {u : Value} {xs : List Value}, w8.ownsRow b e s u m xs → e ≠ 72 → w9.ownsRow b e s u m xs := fun hu he => hG.owns (hA.owns hu (fun _ _ h => h)) (fun k hk e => own_ne_ty hu HBT.out.out he k hk e)
    have hX9 := (hG.block X (by have := own_lt0 HBT.out.blk; rw [World.size_alloc]; omega) HBT.out.ne).trans (row_still hA HBT.out.blk)
    have hOw : Only (fun _ => False) w w9 := (HBT.out.only.trans hA).trans' hG (fun i hi e => by have := own_low' HBT.out.out e; omega)
    have hdx9 : DlOwn base w9 (.slice (some ⟨g5, 0, none⟩) D.cm.length c5) (.slice (some ⟨g7, 0, none⟩) D.bx.length c7) D := ⟨own_base (hk9 HBT.out.cm (by decide)) HLOW.out, own_base (hk9 HBT.out.bx (by decide)) HLOW.out⟩
    have hds9 : DsOwn base w9 (.slice (some ⟨g9, 0, none⟩) (qs.length + 1) c9) (qs ++ [((.slice (some ⟨g5, 0, none⟩) D.cm.length c5), D, (.slice (some ⟨g7, 0, none⟩) D.bx.length c7))]) := by
      refine ⟨?_, fun q hq => ?_⟩
      · rw [List.length_append, List.length_singleton, rowD_append]; exact own_base ho9 HLOW.out
      · rcases List.mem_append.1 hq with hq | hq
        · exact ⟨hOw.owns (HDE.out q hq).cm (fun _ _ h => h), hOw.owns (HDE.out q hq).bx (fun _ _ h => h)⟩
        · rw [List.mem_singleton] at hq; subst hq; exact hdx9
    have hnn : (qs ++ [((Value.slice (some ⟨g5, 0, none⟩) D.cm.length c5), D, (Value.slice (some ⟨g7, 0, none⟩) D.bx.length c7))]).length = qs.length + 1 := by rw [List.length_append, List.length_singleton]
    have HFIN := Lib.hid (show BentPost w (.returned (.tuple #[.slice (some ⟨g9, 0, none⟩) (qs.length + 1) c9, .slice (some ⟨gc, 0, none⟩) l.length cc])) (((w9.setCell ⟨g9, ii * 3, none⟩ (.slice (some ⟨g5, 0, none⟩) D.cm.length c5)).setCell ⟨g9, ii * 3 + 1, none⟩ (.int .i64 D.pt)).setCell ⟨g9, ii * 3 + 2, none⟩ (.slice (some ⟨g7, 0, none⟩) D.bx.length c7)) from
      bent_fin (D := D) (l := l) (l2 := l) (base := base) hOw (by have := own_low' ho9 (show _ = some g9 from rfl); omega) hds9 hnn hdx9 (by omega) (hk9 HBT.out.crew (by decide)) HW.out (fun _ h => h) ⟨by omega, fun q hq => by
        rcases List.mem_append.1 hq with hq | hq
        · have := HEA.out q hq; omega
        · rw [List.mem_singleton] at hq; subst hq; exact ⟨by show D.cm.length ≤ _; omega, by show D.bx.length ≤ _; omega⟩⟩ ⟨by omega, by omega⟩)
    obtain ⟨⟨sa, sx, sc, t0, t1, t2⟩, tf, tl, tc1, tc2⟩ := hds9.spots hnn (show ii < qs.length + 1 by omega)
    have f0 := tf (ii * 3)
    have f1 := tf (ii * 3 + 1)
    have f2 := tf (ii * 3 + 2)
    have z0 := cell_of_row _ _ 0 _ _ _ hX9
    have z1 := cell_of_row _ _ 1 _ _ _ hX9
    have z2 := cell_of_row _ _ 2 _ _ _ hX9
    have lx := own_lt0 hX9
    have j1 : (ii : Int) < (qs.length : Int) + 1 := by omega
    have j2 : ii < qs.length + 1 := by omega
    clear HBT HDS HDX HEA tf hG hk9 hX9 hds9 hdx9 ho9 hg9 ha9 hown2 hA hOw y0 y01 y02 hnn
    go_wp2
    go_ret2
    exact HFIN.out
  · have HPOST := Lib.hid (show BentPost w (.returned (.tuple #[.slice (some ⟨go, 0, none⟩) ii co, .slice (some ⟨gc, 0, none⟩) l.length cc])) w8 from by
      obtain ⟨h1, h2⟩ := (HDS.out.take ii (by omega)).fin 101 (by rw [List.length_take]; omega) (fun q hq => by have := HEA.out q (List.mem_of_mem_take hq); omega)
      exact ⟨HBT.out.only, _, _, _, l, rfl, h1, h2, mbs_of_own HBT.out.crew, HW.out⟩)
    have j1 : (ii : Int) ≤ co := by omega
    have j2 : ii ≤ co := by omega
    clear HBT HDS HDX HEA
    go_wp2
    go_ret2
    exact HPOST.out
end Go.Proofs.YtalclldccnichaaGreat
