/-
  The walk of the reference's Next.
-/
import Derived.Test.YteblaedfjifdhaaRef2
namespace Go.Proofs.Yteblaedfjifdhaa
open Go.RowKit

set_option maxHeartbeats 400000 in
theorem rnext_empty (b c : Nat) (a : Option Addr) (w : World) (h : w.cell? ⟨b, 2, none⟩ = some (.slice a 0 c)) :
    Calls Try.prog 20 #[.pointer (some ⟨b, 0, none⟩)] w fun e w' => e = .returned (.tuple #[zeroMsg, .int .i64 0, .bool false]) ∧ Only (fun _ => False) w w' := by
  have hbl : b < w.heap.size := World.block_lt_of_cell? w _ h
  go_enter Try.func20, Try.ntmps20
  go_wp2
  refine bodyPost_ret (by simp [results, Try.results20, go_sem]; rfl) rfl ⟨rfl, (Only.refl _ w).alloc _⟩

theorem rnext_nil (F : Nat → Prop) (b : Nat) (R : RS) (w : World) (h : RefAt w F b R) (hL : R.L = []) :
    Calls Try.prog 20 #[.pointer (some ⟨b, 0, none⟩)] w fun e w' => e = .returned (.tuple #[.agg #[.int .i64 0, .int .i64 0, .string ByteArray.empty], .int .i64 0, .bool false]) ∧ RLeft w F b R w' := by
  obtain ⟨sv, lv, gv, h⟩ := h
  have hcps := h.cps
  rw [hL] at hcps
  obtain ⟨a, c, rfl⟩ := slice_of_own hcps
  refine (rnext_empty b c a w h.cells.2.2.1).mono ?_
  rintro e w' ⟨rfl, hO⟩
  exact ⟨rfl, F, ⟨sv, _, gv, h.frame hO (fun _ _ h => h)⟩, fun k hk => .inl hk, hO.mono (fun _ _ h => h.elim)⟩

def RNexted (w : World) (F : Nat → Prop) (b : Nat) (R : RS) (e : Ending) (w' : World) : Prop :=
  ∃ x L', e = .returned (.tuple #[x.msg, .int .i64 x.tm, .bool true]) ∧ R.L.Perm (x :: L') ∧ (∀ y ∈ L', ltB y x = false) ∧ RLeft w F b { R with L := L' } w'

def restL (L : List Wt) (i : Nat) : List Wt := L.take i ++ L.drop (i + 1)
theorem restL_perm (L : List Wt) (i : Nat) (h : i < L.length) : L.Perm (el L i :: restL L i) := by
  have h1 : L = L.take i ++ (el L i :: L.drop (i + 1)) := by
    have : el L i = L[i] := by simp [el, h]
    rw [this, List.getElem_cons_drop, List.take_append_drop]
  conv => lhs; rw [h1]
  exact List.perm_middle
theorem restL_length (L : List Wt) (i : Nat) (h : i < L.length) : (restL L i).length = i + (L.length - (i + 1)) := by
  simp [restL]; omega
theorem restL_min (L : List Wt) (i : Nat) (hm : ∀ j, j < L.length → ltB (el L j) (el L i) = false) : ∀ y ∈ restL L i, ltB y (el L i) = false := by
  intro y hy
  have hy' : y ∈ L := by
    rcases List.mem_append.1 hy with h | h
    · exact List.mem_of_mem_take h
    · exact List.mem_of_mem_drop h
  obtain ⟨j, hj, rfl⟩ := List.getElem_of_mem hy'
  have := hm j hj
  simpa [el, hj] using this
theorem row_drop (q : List Wt) (n : Nat) : row (q.drop n) = (row q).drop (n * 5) := by
  have h : row q = row (q.take n) ++ row (q.drop n) := by rw [← row_append, List.take_append_drop]
  rcases Nat.lt_or_ge n q.length with hn | hn
  · conv => rhs; rw [h]
    have hl : (row (q.take n)).length = n * 5 := by rw [row_length, List.length_take]; omega
    have h2 : (row (q.take n)).drop (n * 5) = [] := List.drop_eq_nil_of_le (by omega)
    rw [List.drop_append_of_le_length (by omega), h2, List.nil_append]
  · rw [List.drop_eq_nil_of_le hn, List.drop_eq_nil_of_le (by rw [row_length]; omega)]; rfl
theorem row_one' (q : List Wt) : ∀ u ∈ row q, u.oneCell' = true := by
  induction q with
  | nil => intro u hu; simp [row] at hu
  | cons x q ih =>
    intro u hu
    rw [row, List.mem_append] at hu
    rcases hu with h | h
    · exact x.one u h
    · exact ih u h

theorem addr_add (g o j : Nat) : (⟨g, o, none⟩ : Addr).add j = ⟨g, o + j, none⟩ := by unfold Addr.add; split <;> simp_all
theorem addr_add0 (g j : Nat) : (⟨g, 0, none⟩ : Addr).add j = ⟨g, j, none⟩ := by rw [addr_add, Nat.zero_add]

/-- n.L is written anew; behind it the result's block alone is written. -/
theorem RefIs.nexted {w w2 w4 : World} {F : Nat → Prop} {b B : Nat} {R : RS} {sv lv gv v : Value} {L' : List Wt} (h : RefIs w F b R sv lv gv) (hO : Only (fun _ => False) w w2) (hown : w2.ownsRow B 78 5 v L'.length (row L')) (hB : w.heap.size < B)
    (hO4 : Only (fun k => k = w.heap.size) (w2.setCell ⟨b, 2, none⟩ v) w4) : RLeft w F b { R with L := L' } w4 := by
  have h2 := h.frame hO (fun _ _ h => h)
  have hwb := h.lt b h.fb
  have hOb : Only (fun k => k = b) w2 (w2.setCell ⟨b, 2, none⟩ v) := (Only.refl (fun k => k = b) w2).setCell (.inl rfl) _
  have hv : ∀ k, v.ownBlock = some k → B ≤ k ∧ k < w2.heap.size := fun k e => hown.lt k e
  have hs2 := hO.size
  have hs3 : (w2.setCell ⟨b, 2, none⟩ v).heap.size = w2.heap.size := by simp
  have hs4 := hO4.size
  have hblk3 : (w2.setCell ⟨b, 2, none⟩ v).heap[b]? = some (.cells (refCells { R with L := L' } sv v gv) 67 (0, 0)) := by
    rw [heap_setCell_same w2 b 2 _ 67 _ h2.blk]; rfl
  have nb : ∀ k, F k → ¬ k = w.heap.size := fun k hk => by have := h.lt k hk; omega
  refine ⟨fun k => F k ∨ v.ownBlock = some k, ⟨sv, v, gv, ?_, hO4.owns (hOb.owns h2.scr (fun k e => (h.fs k e).2.1)) (fun k e => nb k (h.fs k e).1), ?_, hO4.owns (hOb.owns h2.grs (fun k e => (h.fg k e).2.1)) (fun k e => nb k (h.fg k e).1), .inl h.fb, fun k e => ?_, fun k e => ?_, fun k e => ?_, ?_⟩, ?_, ?_⟩
  · rw [hO4.block b (by omega) (nb b h.fb)]; exact hblk3
  · have := hO4.owns (hOb.owns hown (fun k e e' => by have := (hv k e).1; omega)) (fun k e e' => by have := (hv k e).1; omega)
    exact ⟨this.1, by
      rcases this.2 with h | ⟨g, cap, cur, h1, _, h3⟩
      · exact .inl h
      · exact .inr ⟨g, cap, cur, h1, Nat.zero_le _, h3⟩⟩
  · obtain ⟨p, q, r⟩ := h.fs k e
    exact ⟨.inl p, q, fun e' => by have := (hv k e').1; have := h.lt k p; omega⟩
  · exact ⟨.inr e, by have := (hv k e).1; omega⟩
  · obtain ⟨p, q, r⟩ := h.fg k e
    exact ⟨.inl p, q, fun e' => by have := (hv k e').1; have := h.lt k p; omega⟩
  · rintro k (hk | hk)
    · have := h.lt k hk; omega
    · have := (hv k hk).2; omega
  · rintro k (hk | hk)
    · exact .inl hk
    · right; have := (hv k hk).1; omega
  · refine ((hO.mono (fun _ _ h => h.elim)).trans' hOb (fun i hi e => ?_)).trans' hO4 (fun i hi e => ?_)
    · rw [e]; exact h.fb
    · omega

set_option maxRecDepth 100000 in
set_option maxHeartbeats 2000000 in
theorem rnext_some (F : Nat → Prop) (b : Nat) (R : RS) (w : World) (h : RefAt w F b R) (hne : R.L ≠ []) (hlen : R.L.length ≤ 1000000) :
    Calls Try.prog 20 #[.pointer (some ⟨b, 0, none⟩)] w (RNexted w F b R) := by
  obtain ⟨sv, lv, gv, h⟩ := h
  have hpos : 0 < R.L.length := List.length_pos_iff.2 hne
  obtain ⟨g, cap, rfl, _, _⟩ := h.cps.form hpos
  have hq := h.cps
  have hcap : R.L.length ≤ cap ∧ cap ≤ maxLen := by
    rcases h.cps.2 with ⟨h', _⟩ | ⟨g', cap', cur, h', _, hg, h1, h2, _, htake⟩
    · simp at h'
    · simp only [Value.slice.injEq, Option.some.injEq, Addr.mk.injEq, and_true, true_and] at h'
      obtain ⟨rfl, rfl⟩ := h'
      exact ⟨h1, h2⟩
  obtain ⟨hc1, hc2⟩ := hcap
  unfold maxLen at hc2
  have hbl := h.lt b h.fb
  have hgl : g < w.heap.size := h.lt g (h.fl g rfl).1
  obtain ⟨c0, c1, c2, c3, c4⟩ := h.cells
  have f2 := frozen_of_row w b 2 _ 67 h.blk
  have hlb : ((R.L.length : Int) == 0) = false := beq_eq_false_iff_ne.2 (by omega)
  have HCE := Lib.hid (fun (i k : Nat) (hi : i < R.L.length) (hk : k < 5) => show w.cell? ⟨g, i * 5 + k, none⟩ = (el R.L i).cells[k]? by
    rw [hq.cellAt _ (by omega), row_get R.L i k hi hk])
  have HR := Lib.hid h
  clear h hq hne c0 c1 c3 c4
  go_enter Try.func20, Try.ntmps20
  go_wp2_with fail
  go_loopw [5, 6] (fun vb vk wr => ∃ bs k : Nat, vb = .int .i64 bs ∧ vk = .int .i64 k ∧ bs < k ∧ k ≤ R.L.length ∧ (∀ j, j < k → ltB (el R.L j) (el R.L bs) = false) ∧ wr.heap[w.heap.size]? = some (.cells #[.int .i64 0, .int .i64 0, .string ByteArray.empty] 31 (0, 0)) ∧ Only (fun _ => False) w wr) (fun _ vk _ => R.L.length - (intOf vk).toNat)
  case atStart => exact ⟨0, 1, rfl, rfl, by omega, hpos, fun j hj => by rw [show j = 0 by omega]; exact ltB_irr _, heap_alloc_new w _, (Only.refl _ w).alloc _⟩
  case round =>
    obtain ⟨bs, k, rfl, rfl, hbk, hk, hmin, hbz, hO⟩ := hrel
    have hkk : ∀ i j, i < R.L.length → j < 5 → wr.cell? ⟨g, i * 5 + j, none⟩ = (el R.L i).cells[j]? := fun i j hi hj => by
      have h1 := HCE.out i j hi hj
      have h2 : (el R.L i).cells[j]? = some ((el R.L i).cells[j]'hj) := List.getElem?_eq_getElem hj
      rw [h2] at h1 ⊢
      exact hO.cell h1 (fun h => h)
    have c2r := hO.cell c2 (fun h => h)
    have hsz := hO.size
    have hsz2 := (Array.getElem?_eq_some_iff.1 hbz).1
    have hgl' : g < wr.heap.size := by omega
    have hbl' : b < wr.heap.size := by omega
    have HMIN := Lib.hid hmin
    have HO := Lib.hid hO
    have HBZ := Lib.hid hbz
    have HKK := Lib.hid hkk
    clear hmin hO hbz hkk
    by_cases hlt : k < R.L.length
    · have k3 := HKK.out k 3 hlt (by omega)
      have k4 := HKK.out k 4 hlt (by omega)
      have b3 := HKK.out bs 3 (by omega) (by omega)
      have b4 := HKK.out bs 4 (by omega) (by omega)
      simp only [Wt.cells, List.getElem?_cons_zero, List.getElem?_cons_succ] at k3 k4 b3 b4
      have HYES := Lib.hid (show ltB (el R.L k) (el R.L bs) = true → ∀ j, j < k + 1 → ltB (el R.L j) (el R.L k) = false from fun hy j hj => by
        by_cases e : j = k
        · rw [e]; exact ltB_irr _
        · have h1 := HMIN.out j (by omega)
          rw [ltB_false] at h1 ⊢
          rw [ltB_true] at hy
          omega)
      have HNO := Lib.hid (show ltB (el R.L k) (el R.L bs) = false → ∀ j, j < k + 1 → ltB (el R.L j) (el R.L bs) = false from fun hy j hj => by
        by_cases e : j = k
        · rw [e]; exact hy
        · exact HMIN.out j (by omega))
      obtain ⟨tk, h1⟩ : ∃ t, (el R.L k).tm = t := ⟨_, rfl⟩
      obtain ⟨nk, h2⟩ : ∃ t, (el R.L k).nm = t := ⟨_, rfl⟩
      obtain ⟨tb, h3⟩ : ∃ t, (el R.L bs).tm = t := ⟨_, rfl⟩
      obtain ⟨nb, h4⟩ : ∃ t, (el R.L bs).nm = t := ⟨_, rfl⟩
      rw [h1] at k3
      rw [h2] at k4
      rw [h3] at b3
      rw [h4] at b4
      have HT := Lib.hid (show (tk < tb ∨ (tk = tb ∧ nk < nb)) → ltB (el R.L k) (el R.L bs) = true from fun h => ltB_true.2 (by rw [h1, h2, h3, h4]; exact h))
      have HF := Lib.hid (show (tb < tk ∨ (tk = tb ∧ nb ≤ nk)) → ltB (el R.L k) (el R.L bs) = false from fun h => ltB_false.2 (by rw [h1, h2, h3, h4]; exact h))
      clear h1 h2 h3 h4
      by_cases t1 : tk < tb
      · have d1 : decide (tk < tb) = true := decide_eq_true t1
        go_wp2_with fail
        go_quiet (fail)
        go_wp2
        go_roundw
        case rel => exact ⟨k, k + 1, rfl, by go_num, by omega, by omega, HYES.out (HT.out (.inl t1)), HBZ.out, HO.out.drewN _⟩
        case measure => simp [intOf]; omega
      · have d1 : decide (tk < tb) = false := decide_eq_false t1
        by_cases t2 : tk = tb
        · subst t2
          have d2 : (tk == tk) = true := by simp
          by_cases t3 : nk < nb
          · have d3 : decide (nk < nb) = true := decide_eq_true t3
            go_wp2_with fail
            go_quiet (fail)
            go_wp2
            go_roundw
            case rel => exact ⟨k, k + 1, rfl, by go_num, by omega, by omega, HYES.out (HT.out (by first | exact .inr ⟨rfl, t3⟩ | exact .inr ⟨trivial, t3⟩)), HBZ.out, HO.out.drewN _⟩
            case measure => simp [intOf]; omega
          · have d3 : decide (nk < nb) = false := decide_eq_false t3
            go_wp2_with fail
            go_quiet (fail)
            go_wp2
            go_roundw
            case rel => exact ⟨bs, k + 1, rfl, by go_num, by omega, by omega, HNO.out (HF.out (by first | exact .inr ⟨rfl, by omega⟩ | exact .inr ⟨trivial, by omega⟩)), HBZ.out, HO.out.drewN _⟩
            case measure => simp [intOf]; omega
        · have d2 : (tk == tb) = false := beq_eq_false_iff_ne.2 t2
          go_wp2_with fail
          go_quiet (fail)
          go_wp2
          go_roundw
          case rel => exact ⟨bs, k + 1, rfl, by go_num, by omega, by omega, HNO.out (HF.out (.inl (by omega))), HBZ.out, HO.out.drewN _⟩
          case measure => simp [intOf]; omega
    · have x0 := HKK.out bs 0 (by omega) (by omega)
      have x1 := HKK.out bs 1 (by omega) (by omega)
      have x2 := HKK.out bs 2 (by omega) (by omega)
      have x3 := HKK.out bs 3 (by omega) (by omega)
      have x4 := HKK.out bs 4 (by omega) (by omega)
      simp only [Wt.cells, List.getElem?_cons_zero, List.getElem?_cons_succ, Nat.add_zero] at x0 x1 x2 x3 x4
      have hke : k = R.L.length := by omega
      have HMN := Lib.hid (restL_min R.L bs (fun j hj => HMIN.out j (by omega)))
      have HPM := Lib.hid (restL_perm R.L bs (by omega))
      have HRW := Lib.hid (fun (j : Nat) (u : Value) (hu : (row R.L)[j]? = some u) => show wr.cell? ⟨g, j, none⟩ = some u from by
        have hj : j < R.L.length * 5 := by rw [← row_length]; exact (List.getElem?_eq_some_iff.1 hu).1
        have h1 : w.cell? ⟨g, j, none⟩ = some u := by rw [HR.out.cps.cellAt _ hj]; exact hu
        exact HO.out.cell h1 (fun h => h))
      obtain ⟨x, hx⟩ : ∃ x, el R.L bs = x := ⟨_, rfl⟩
      rw [hx] at x0 x1 x2 x3 x4
      have HX := Lib.hid hx
      clear hke HMIN hx
      obtain ⟨i0, hi, hz0, hz1, hz2⟩ := info_parts Try.info78
      have hbn : bs < R.L.length := by omega
      go_wp2_with (at_builtin; refine wpList_append_own _ rfl _ _ 65 rfl (wr.heap.size + 1) 78 i0 _ 5 48 Try.underlying65 hi hz0 hz1 hz2 rfl (by decide) _ 0 [] rfl (World.ownsRow_nil _ _ _ _) ⟨g, 0, none⟩ bs cap (row (R.L.take bs)) rfl ?d1 ?d2 (row_one' _) ?d3 ?d4 (by simp) ?_)
      case d1 => rw [row_length, List.length_take]; congr 1; omega
      case d2 =>
        intro j u hu
        rw [row_take] at hu
        have hj : j < bs * 5 := by
          have := (List.getElem?_eq_some_iff.1 hu).1
          rw [List.length_take] at this; omega
        rw [List.getElem?_take_of_lt hj] at hu
        have := HRW.out j u hu
        have e : (⟨g, 0, none⟩ : Addr).add j = ⟨g, j, none⟩ := addr_add0 g j
        rw [e]
        exact cell_later ((Below.refl _ wr).alloc (Nat.le_refl _) _) this
      case d3 => unfold maxLen; omega
      case d4 => omega
      intro v1 w1 hown1 hgrow1 _
      have hO1 : Only (fun _ => False) (wr.alloc (.cells #[.int .i64 x.fr, .int .i64 x.to, .string x.tx, .int .i64 x.tm, .int .i64 x.nm] 78)) w1 := (Only.refl _ _).grown hgrow1 (fun k e _ => by simp [Value.ownBlock] at e)
      have hOr : Only (fun _ => False) wr w1 := ((Only.refl _ wr).alloc _).trans hO1
      have hs1 := hO1.size
      rw [World.size_alloc] at hs1
      obtain ⟨va, vc, rfl⟩ := slice_of_own hown1
      have c2s := hOr.cell c2r (fun h => h)
      have hv1 : ∀ k, (Value.slice va bs vc).ownBlock = some k → wr.heap.size + 1 ≤ k := fun k e => (hown1.lt k e).1
      have hb1 : b < w1.heap.size := by omega
      have HOR := Lib.hid hOr
      have HO1 := Lib.hid hO1
      have HV1 := Lib.hid hv1
      have HW1 := Lib.hid hown1
      have f2r := frozen_of_row w1 b 2 _ 67 ((HR.out.frame HO.out (fun _ _ h => h)).frame hOr (fun _ _ h => h)).blk
      clear hOr hO1 hv1 hown1 hgrow1 x0 x1 x2 x3 x4 c2r
      by_cases hcb : cap = bs + 1
      · have hcl : R.L.length = bs + 1 := by omega
        have hcb1 : cap ≤ bs + 1 := by omega
        have hcb2 : bs + 1 ≤ cap := by omega
        clear hcb hcl
        go_wp2_with (at_builtin; refine wpList_append_own _ rfl _ _ 65 rfl (wr.heap.size + 1) 78 i0 _ 5 48 Try.underlying65 hi hz0 hz1 hz2 rfl (by decide) _ bs (row (R.L.take bs)) rfl HW1.out _ _ _ (row (R.L.drop (bs + 1))) rfl ?e1 ?e2 (row_one' _) ?e3 ?e4 (by omega) ?_)
        case e1 => rw [row_length, List.length_drop]
        case e2 =>
          intro j u hu
          exfalso
          rw [List.drop_eq_nil_of_le (by omega)] at hu
          simp [row] at hu
        case e3 => unfold maxLen; omega
        case e4 => omega
        intro v2 w2 hown2 hgrow2 _
        obtain ⟨va2, vc2, rfl⟩ := slice_of_own hown2
        have hO2 : Only (fun k => (Value.slice va bs vc).ownBlock = some k) w1 w2 := (Only.refl _ _).grown hgrow2 (fun k e _ => e)
        have hs2 := hO2.size
        have hblkc : w2.heap[wr.heap.size]? = some (.cells #[.int .i64 x.fr, .int .i64 x.to, .string x.tx, .int .i64 x.tm, .int .i64 x.nm] 78 (0, 0)) := by
          rw [hO2.block _ (by omega) (fun e => by have := HV1.out _ e; omega), HO1.out.block _ (by simp) (fun h => h)]
          exact heap_alloc_new wr _
        have hblkr : w2.heap[w.heap.size]? = some (.cells #[.int .i64 0, .int .i64 0, .string ByteArray.empty] 31 (0, 0)) := by
          rw [hO2.block _ (by omega) (fun e => by have := HV1.out _ e; omega), HOR.out.block _ (by omega) (fun h => h)]
          exact HBZ.out
        have c2t := hO2.cell c2s (fun e => by have := HV1.out b e; omega)
        have f2t := frozen_of_row w2 b 2 _ 67 (((HR.out.frame HO.out (fun _ _ h => h)).frame HOR.out (fun _ _ h => h)).frame hO2 (fun k hk e => by have := HV1.out _ e; have := HR.out.lt k hk; omega)).blk
        have hOw : Only (fun _ => False) w w2 := (HO.out.trans HOR.out).trans' hO2 (fun i hi e => by have := HV1.out _ e; omega)
        have hlr := restL_length R.L bs hbn
        have hown3 : w2.ownsRow (wr.heap.size + 1) 78 5 (.slice va2 (bs + (R.L.length - (bs + 1))) vc2) (restL R.L bs).length (row (restL R.L bs)) := by
          rw [hlr, restL, row_append]; exact hown2
        have HW3 := Lib.hid hown3
        have HOW := Lib.hid hOw
        have hO3 : Only (fun k => k = b) w2 (w2.setCell ⟨b, 2, none⟩ (.slice va2 (bs + (R.L.length - (bs + 1))) vc2)) := (Only.refl (fun k => k = b) w2).setCell (.inl rfl) _
        have hblkc3 : (w2.setCell ⟨b, 2, none⟩ (.slice va2 (bs + (R.L.length - (bs + 1))) vc2)).heap[wr.heap.size]? = some (.cells #[.int .i64 x.fr, .int .i64 x.to, .string x.tx, .int .i64 x.tm, .int .i64 x.nm] 78 (0, 0)) := by
          rw [hO3.block _ (by omega) (by omega)]; exact hblkc
        have hblkr3 : (w2.setCell ⟨b, 2, none⟩ (.slice va2 (bs + (R.L.length - (bs + 1))) vc2)).heap[w.heap.size]? = some (.cells #[.int .i64 0, .int .i64 0, .string ByteArray.empty] 31 (0, 0)) := by
          rw [hO3.block _ (by omega) (by omega)]; exact hblkr
        have HBC := Lib.hid hblkc3
        have HBR := Lib.hid hblkr3
        have HFIN := Lib.hid (fun w4 h4 => HR.out.nexted (w4 := w4) HOW.out HW3.out (by omega) h4)
        have z3 : b < w2.heap.size := by omega
        clear hown2 hgrow2 hO2 hblkc hblkr hOw hown3 c2s hlr hO3 hblkc3 hblkr3 HOW HW3
        go_wp2
        generalize w2.setCell ⟨b, 2, none⟩ (.slice va2 (bs + (R.L.length - (bs + 1))) vc2) = w3 at *
        have y0 := cell_of_row w3 wr.heap.size 0 _ 78 (0, 0) HBC.out
        have y1 := cell_of_row w3 wr.heap.size 1 _ 78 (0, 0) HBC.out
        have y2 := cell_of_row w3 wr.heap.size 2 _ 78 (0, 0) HBC.out
        have y3 := cell_of_row w3 wr.heap.size 3 _ 78 (0, 0) HBC.out
        have r0 := cell_of_row w3 w.heap.size 0 _ 31 (0, 0) HBR.out
        have r1 := cell_of_row w3 w.heap.size 1 _ 31 (0, 0) HBR.out
        have r2 := cell_of_row w3 w.heap.size 2 _ 31 (0, 0) HBR.out
        have q0 := frozen_of_row w3 w.heap.size 0 _ 31 HBR.out
        have q1 := frozen_of_row w3 w.heap.size 1 _ 31 HBR.out
        have q2 := frozen_of_row w3 w.heap.size 2 _ 31 HBR.out
        simp at y0 y1 y2 y3 r0 r1 r2
        have z1 := (Array.getElem?_eq_some_iff.1 HBR.out).1
        have z2 := (Array.getElem?_eq_some_iff.1 HBC.out).1
        have hne3 : w.heap.size ≠ wr.heap.size := by omega
        go_region
        all_goals
          go_wp2
          refine bodyPost_ret (v := .tuple #[x.msg, .int .i64 x.tm, .bool true]) (by simp [results, Try.results20, go_sem, r0, r1, r2, Wt.msg]) rfl ⟨x, restL R.L bs, rfl, by rw [← HX.out]; exact HPM.out, by rw [← HX.out]; exact HMN.out, ?_⟩
          refine HFIN.out _ ?_
          exact ((((Only.refl (fun k => k = w.heap.size) w3).setCell (.inl rfl) _).setCell (.inl rfl) _).setCell (.inl rfl) _).drew
      · have hcb' : bs + 1 < cap := by omega
        go_wp2_with (at_builtin; refine wpList_append_own _ rfl _ _ 65 rfl (wr.heap.size + 1) 78 i0 _ 5 48 Try.underlying65 hi hz0 hz1 hz2 rfl (by decide) _ bs (row (R.L.take bs)) rfl HW1.out _ _ _ (row (R.L.drop (bs + 1))) rfl ?f1 ?f2 (row_one' _) ?f3 ?f4 (by omega) ?_)
        case f1 => rw [row_length, List.length_drop]
        case f2 =>
          intro j u hu
          rw [row_drop, List.getElem?_drop] at hu
          rw [addr_add]
          exact HOR.out.cell (HRW.out _ u hu) (fun h => h)
        case f3 => unfold maxLen; omega
        case f4 => omega
        intro v2 w2 hown2 hgrow2 _
        obtain ⟨va2, vc2, rfl⟩ := slice_of_own hown2
        have hO2 : Only (fun k => (Value.slice va bs vc).ownBlock = some k) w1 w2 := (Only.refl _ _).grown hgrow2 (fun k e _ => e)
        have hs2 := hO2.size
        have hblkc : w2.heap[wr.heap.size]? = some (.cells #[.int .i64 x.fr, .int .i64 x.to, .string x.tx, .int .i64 x.tm, .int .i64 x.nm] 78 (0, 0)) := by
          rw [hO2.block _ (by omega) (fun e => by have := HV1.out _ e; omega), HO1.out.block _ (by simp) (fun h => h)]
          exact heap_alloc_new wr _
        have hblkr : w2.heap[w.heap.size]? = some (.cells #[.int .i64 0, .int .i64 0, .string ByteArray.empty] 31 (0, 0)) := by
          rw [hO2.block _ (by omega) (fun e => by have := HV1.out _ e; omega), HOR.out.block _ (by omega) (fun h => h)]
          exact HBZ.out
        have c2t := hO2.cell c2s (fun e => by have := HV1.out b e; omega)
        have f2t := frozen_of_row w2 b 2 _ 67 (((HR.out.frame HO.out (fun _ _ h => h)).frame HOR.out (fun _ _ h => h)).frame hO2 (fun k hk e => by have := HV1.out _ e; have := HR.out.lt k hk; omega)).blk
        have hOw : Only (fun _ => False) w w2 := (HO.out.trans HOR.out).trans' hO2 (fun i hi e => by have := HV1.out _ e; omega)
        have hlr := restL_length R.L bs hbn
        have hown3 : w2.ownsRow (wr.heap.size + 1) 78 5 (.slice va2 (bs + (R.L.length - (bs + 1))) vc2) (restL R.L bs).length (row (restL R.L bs)) := by
          rw [hlr, restL, row_append]; exact hown2
        have HW3 := Lib.hid hown3
        have HOW := Lib.hid hOw
        have hO3 : Only (fun k => k = b) w2 (w2.setCell ⟨b, 2, none⟩ (.slice va2 (bs + (R.L.length - (bs + 1))) vc2)) := (Only.refl (fun k => k = b) w2).setCell (.inl rfl) _
        have hblkc3 : (w2.setCell ⟨b, 2, none⟩ (.slice va2 (bs + (R.L.length - (bs + 1))) vc2)).heap[wr.heap.size]? = some (.cells #[.int .i64 x.fr, .int .i64 x.to, .string x.tx, .int .i64 x.tm, .int .i64 x.nm] 78 (0, 0)) := by
          rw [hO3.block _ (by omega) (by omega)]; exact hblkc
        have hblkr3 : (w2.setCell ⟨b, 2, none⟩ (.slice va2 (bs + (R.L.length - (bs + 1))) vc2)).heap[w.heap.size]? = some (.cells #[.int .i64 0, .int .i64 0, .string ByteArray.empty] 31 (0, 0)) := by
          rw [hO3.block _ (by omega) (by omega)]; exact hblkr
        have HBC := Lib.hid hblkc3
        have HBR := Lib.hid hblkr3
        have HFIN := Lib.hid (fun w4 h4 => HR.out.nexted (w4 := w4) HOW.out HW3.out (by omega) h4)
        have z3 : b < w2.heap.size := by omega
        clear hown2 hgrow2 hO2 hblkc hblkr hOw hown3 c2s hlr hO3 hblkc3 hblkr3 HOW HW3
        go_wp2
        generalize w2.setCell ⟨b, 2, none⟩ (.slice va2 (bs + (R.L.length - (bs + 1))) vc2) = w3 at *
        have y0 := cell_of_row w3 wr.heap.size 0 _ 78 (0, 0) HBC.out
        have y1 := cell_of_row w3 wr.heap.size 1 _ 78 (0, 0) HBC.out
        have y2 := cell_of_row w3 wr.heap.size 2 _ 78 (0, 0) HBC.out
        have y3 := cell_of_row w3 wr.heap.size 3 _ 78 (0, 0) HBC.out
        have r0 := cell_of_row w3 w.heap.size 0 _ 31 (0, 0) HBR.out
        have r1 := cell_of_row w3 w.heap.size 1 _ 31 (0, 0) HBR.out
        have r2 := cell_of_row w3 w.heap.size 2 _ 31 (0, 0) HBR.out
        have q0 := frozen_of_row w3 w.heap.size 0 _ 31 HBR.out
        have q1 := frozen_of_row w3 w.heap.size 1 _ 31 HBR.out
        have q2 := frozen_of_row w3 w.heap.size 2 _ 31 HBR.out
        simp at y0 y1 y2 y3 r0 r1 r2
        have z1 := (Array.getElem?_eq_some_iff.1 HBR.out).1
        have z2 := (Array.getElem?_eq_some_iff.1 HBC.out).1
        have hne3 : w.heap.size ≠ wr.heap.size := by omega
        go_region
        all_goals
          go_wp2
          refine bodyPost_ret (v := .tuple #[x.msg, .int .i64 x.tm, .bool true]) (by simp [results, Try.results20, go_sem, r0, r1, r2, Wt.msg]) rfl ⟨x, restL R.L bs, rfl, by rw [← HX.out]; exact HPM.out, by rw [← HX.out]; exact HMN.out, ?_⟩
          refine HFIN.out _ ?_
          exact ((((Only.refl (fun k => k = w.heap.size) w3).setCell (.inl rfl) _).setCell (.inl rfl) _).setCell (.inl rfl) _).drew
end Go.Proofs.Yteblaedfjifdhaa
