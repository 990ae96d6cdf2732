/-
  Package weight: Begin.
-/
import Derived.Test.YtalclldccnichaaGreatWtC
import Derived.Laws.OwnMore
namespace Go.Proofs.YtalclldccnichaaGreat
open Go.RowKit

/-- The product of commitments. -/
def prodTo (ds : List Dl) (j : Nat) : Nat → Int
  | 0 => 1
  | k + 1 => prodTo ds j k * ptAt (dlAt ds k).cm j % 2305843009213691579
def colTo (ds : List Dl) (nd : Nat) : Nat → List Int
  | 0 => zerosL nd
  | j + 1 => (colTo ds nd j).set j (prodTo ds j ds.length)
theorem colTo_len (ds : List Dl) (nd : Nat) : ∀ j, (colTo ds nd j).length = nd
  | 0 => zerosL_len nd
  | j + 1 => by rw [colTo, List.length_set, colTo_len ds nd j]
theorem colTo_in (ds : List Dl) (nd : Nat) : ∀ j i, i < j → i < nd → ptAt (colTo ds nd j) i = prodTo ds i ds.length
  | j + 1, i, h, h2 => by
    rw [colTo, ptAt_set]
    by_cases e : j = i
    · subst e; rw [if_pos ⟨rfl, by rw [colTo_len]; exact h2⟩]
    · rw [if_neg (fun c => e c.1), colTo_in ds nd j i (by omega) h2]
def nOf (l : List Mb) : Nat := (sumTo l l.length).toNat
/-- Do dealings fit members? -/
def begB (l : List Mb) (ds : List Dl) : Bool := rightB l && (decide (1 ≤ ds.length) && fitB ds (nOf l) (ndOf l))
theorem right_parts {l : List Mb} (h : rightB l = true) : (1 ≤ l.length ∧ l.length ≤ 13) ∧ mbOk l l.length = true ∧ sumTo l l.length ≤ 60 := by
  unfold rightB at h
  simp only [Bool.and_eq_true, decide_eq_true_eq] at h
  exact ⟨h.1, h.2.1, h.2.2⟩
theorem grid_points {l : List Mb} (h : rightB l = true) : ∀ k, k ≤ l.length → ((gridTo (pointsOf l) k : Nat) : Int) = sumTo l k
  | 0, _ => rfl
  | k + 1, hk => by
    have hw := (mbOk_wt l l.length (right_parts h).2.1).1 k (by omega)
    rw [gridTo, sumTo, pointsOf_at l k (by omega), rowsAt_len, ← grid_points h k (by omega)]
    omega
theorem right_sum {l : List Mb} (h : rightB l = true) : (∀ k, k ≤ l.length → gridTo (pointsOf l) k ≤ 1000000) ∧ gridN (pointsOf l) = nOf l ∧ 1 ≤ nOf l ∧ nOf l ≤ 60 ∧ needZ (nOf l) = ndOf l ∧ 1 ≤ ndOf l ∧ ndOf l ≤ nOf l ∧ totZ l = nOf l := by
  obtain ⟨⟨h1, h2⟩, h3, h4⟩ := right_parts h
  have hs := (mbOk_wt l l.length h3).2
  have hp := sumTo_pos l l.length h3
  have hg := grid_points h
  have hn : (nOf l : Int) = sumTo l l.length := by unfold nOf; have := hs l.length (Nat.le_refl _); omega
  have hnd : needZ (nOf l) = ndOf l := by
    unfold ndOf
    rw [hn]
    have : 0 ≤ needZ (sumTo l l.length) := by unfold needZ mostZ; split <;> (try split) <;> omega
    omega
  have hnb : 1 ≤ needZ (nOf l) ∧ needZ (nOf l) ≤ nOf l := by
    rw [hn]
    unfold needZ mostZ
    rw [if_neg (by omega), if_neg (by omega)]
    omega
  refine ⟨fun k hk => ?_, ?_, by omega, by omega, hnd, by omega, by omega, ?_⟩
  · have := hg k hk; have := hs k hk; omega
  · unfold gridN; rw [pointsOf_len]; have := hg l.length (Nat.le_refl _); omega
  · unfold totZ; rw [if_pos h]; omega
theorem points_ne {l : List Mb} (h : rightB l = true) (j : Nat) (hj : j < (pointsOf l).length) : 0 < ((pointsOf l).getD j []).length := by
  rw [pointsOf_len] at hj
  rw [pointsOf_at l j hj, rowsAt_len]
  have := ((mbOk_wt l l.length (right_parts h).2.1).1 j hj).1
  omega
/-- A block of empty slices is written: rows elsewhere stay. -/
theorem grid_kept {A B : World} {g : Nat} {v : Value} {rows : List (List Int)} (hO : Only (fun k => k = g) A B) (hg : ∀ o z, A.cell? ⟨g, o, none⟩ ≠ some (.int .i64 z)) (hg2 : ∀ o a n c, A.cell? ⟨g, o, none⟩ = some (.slice a n c) → n = 0)
    (hne : ∀ j, j < rows.length → 0 < (rows.getD j []).length) (h : GridAt A v rows) : GridAt B v rows := by
  rcases h with h | ⟨b, off, cap, e, hb, h1, h2, hc⟩
  · exact .inl h
  · refine .inr ⟨b, off, cap, e, Nat.lt_of_lt_of_le hb hO.size, h1, h2, fun j hj => ?_⟩
    obtain ⟨u, hu, hp⟩ := hc j hj
    refine ⟨u, hO.cell hu (fun e => ?_), pts_kept hO hg hp⟩
    obtain ⟨a, c, rfl⟩ := hp.slice
    have := hg2 (off + j) _ _ _ (by rw [← show b = g from e]; exact hu)
    have := hne j hj
    omega
theorem keys_empty {w : World} {g : Nat} {t : TypeId} (h : w.heap[g]? = some (.cells #[.slice none 0 0, .slice none 0 0] t (0, 0))) : (∀ o z, w.cell? ⟨g, o, none⟩ ≠ some (.int .i64 z)) ∧ ∀ o a n c, w.cell? ⟨g, o, none⟩ = some (.slice a n c) → n = 0 := by
  refine ⟨fun o z e => ?_, fun o a n c e => ?_⟩
  · rw [cell_of_row _ _ o _ _ _ h] at e
    match o with
    | 0 => simp at e
    | 1 => simp at e
    | o + 2 => simp at e
  · rw [cell_of_row _ _ o _ _ _ h] at e
    match o with
    | 0 => simp at e; omega
    | 1 => simp at e; omega
    | o + 2 => simp at e
theorem own_made (w : World) (n : Nat) (hn : n ≤ 1000000) : (w.alloc (.cells (madeCells #[.int .i64 0] n) 3)).ownsRow w.heap.size 3 1 (.slice (some ⟨w.heap.size, 0, none⟩) n n) (zerosL n).length (irow (zerosL n)) := by
  rw [zerosL_len]
  refine ⟨by rw [irow_length, zerosL_len, Nat.mul_one], .inr ⟨w.heap.size, n, _, rfl, Nat.le_refl _, heap_alloc_last w _, Nat.le_refl _, by unfold maxLen; omega, by rw [size_madeCells, Nat.mul_one], ?_⟩⟩
  rw [toList_madeCells_one, Nat.mul_one, List.take_of_length_le (by simp)]
  unfold irow zerosL
  rw [List.map_replicate]
theorem fit_at (ds : List Dl) (n nd : Nat) (h : fitB ds n nd = true) (k : Nat) (hk : k < ds.length) : (dlAt ds k).cm.length = nd := by
  unfold fitB at h
  rw [List.all_eq_true] at h
  have h1 := h ds[k] (List.getElem_mem hk)
  simp only [Bool.and_eq_true, decide_eq_true_eq] at h1
  have : dlAt ds k = ds[k] := by simp [dlAt, List.getD, hk]
  rw [this]; exact h1.2
/-- The commitments that are being made, in the block behind w2. -/
structure CbAt (w2 wr : World) (nd : Nat) (L : List Int) : Prop where
  own : wr.ownsRow w2.heap.size 3 1 (.slice (some ⟨w2.heap.size, 0, none⟩) nd nd) L.length (irow L)
  only : Only (fun _ => False) w2 wr
theorem CbAt.frame {w2 wr w' : World} {nd : Nat} {L : List Int} (h : CbAt w2 wr nd L) (hO : Only (fun _ => False) wr w') : CbAt w2 w' nd L := ⟨hO.owns h.own (fun _ _ h => h), h.only.trans hO⟩
theorem CbAt.put {w2 wr : World} {nd j : Nat} {L : List Int} {z : Int} (h : CbAt w2 wr nd L) (hn : L.length = nd) (hj : j < nd) : CbAt w2 (wr.setCell ⟨w2.heap.size, j, none⟩ (.int .i64 z)) nd (L.set j z) := by
  subst hn
  refine ⟨?_, h.only.setCell (.inr (Nat.le_refl _)) _⟩
  rw [List.length_set, ← irow_set]
  exact own_set h.own _ hj
/-- What Begin leaves. -/
def BegPost (w : World) (l : List Mb) (ds : List Dl) (e : Ending) (w' : World) : Prop :=
  Only (fun _ => False) w w' ∧ ((begB l ds = true ∧ ∃ vc vp, e = .returned (.tuple #[.agg #[vc, vp], .bool true]) ∧ w'.ownsRow (w.heap.size + 1) 3 1 vc (colTo ds (ndOf l) (ndOf l)).length (irow (colTo ds (ndOf l) (ndOf l))) ∧ GridAt w' vp (pointsOf l)) ∨
    (begB l ds = false ∧ e = .returned (.tuple #[.agg #[.slice none 0 0, .slice none 0 0], .bool false])))

set_option maxRecDepth 100000 in
set_option maxHeartbeats 2000000 in
theorem begin_is (sv dv : Value) (l : List Mb) (ds : List Dl) (w : World) (hM : MbsAt w sv l) (hw : MbsW l) (hD : DlsAt w dv ds) (hS : DlsS ds) :
    Calls Tryz.prog 9 #[sv, dv] w (BegPost w l ds) := by
  obtain ⟨i0, hi0, hz0, hz1, hz2⟩ := info_parts Tryz.infoI
  obtain ⟨ad, cd, rfl⟩ := hD.slice
  obtain ⟨am, cm, rfl⟩ := hM.slice
  have hA := (Only.refl (fun _ => False) w).alloc (.cells #[.slice none 0 0, .slice none 0 0] 28)
  have HA := Lib.hid hA
  have HD := Lib.hid (hD.only hA)
  have HZ0 := Lib.hid (heap_alloc_last w (.cells #[.slice none 0 0, .slice none 0 0] 28))
  have HP := Lib.hid (points_any _ l _ hw (hM.only hA))
  have HS := Lib.hid hS
  have hlen := hS.len
  clear hD hM hA hw hS
  have HNO := Lib.hid (fun (w1 : World) (h1 : Only (fun _ => False) (w.alloc (.cells #[.slice none 0 0, .slice none 0 0] 28)) w1) (hb : begB l ds = false) => show BegPost w l ds (.returned (.tuple #[.agg #[.slice none 0 0, .slice none 0 0], .bool false])) (w1.setRow w.heap.size #[.slice none 0 0, .slice none 0 0]) from ⟨(HA.out.trans h1).setRow (Nat.le_refl _) _, .inr ⟨hb, rfl⟩⟩)
  go_enter Tryz.func9, Tryz.ntmps9
  go_wp2_with fail
  refine HP.out.mono ?_
  rintro e w1 ⟨hO1, ⟨hr, vp, rfl, hG⟩ | ⟨hr, rfl⟩⟩
  · have HZ1 := Lib.hid (row_still hO1 HZ0.out)
    have HO1 := Lib.hid hO1
    have HG := Lib.hid hG
    have HR := Lib.hid hr
    obtain ⟨s1, s2, s3, s4, s5, s6, s7, s8⟩ := right_sum hr
    have HT := Lib.hid (fun (w' : World) (h : Only (fun _ => False) w1 w') => wtotal_is vp (pointsOf l) w' (hG.only h) (fun k hk => s1 k (by rw [pointsOf_len] at hk; exact hk)))
    rw [s2] at HT
    have HND := Lib.hid (fun w => need_is (nOf l) (ndOf l) w (by omega) s5)
    have HBG := Lib.hid (show begB l ds = (decide (1 ≤ ds.length) && fitB ds (nOf l) (ndOf l)) by unfold begB; rw [hr]; rfl)
    obtain ⟨ap, cp, rfl⟩ := hG.slice
    have hnd60 : ndOf l ≤ 60 := by omega
    have HND5 := Lib.hid s5
    generalize hn0 : nOf l = n at *
    generalize hnd0 : ndOf l = nd at *
    clear hO1 hG hr HP s1 s2 s5 s8 hn0
    by_cases h0 : 1 ≤ ds.length
    · have q1 : ((ds.length : Int) == 0) = false := beq_eq_false_iff_ne.2 (by omega)
      rw [decide_eq_true h0, Bool.true_and] at HBG
      go_wp2_with fail
      refine (HT.out w1 (Only.refl _ _)).mono ?_
      rintro e w1' ⟨rfl, rfl⟩
      go_wp2_with fail
      obtain ⟨fb, hfb⟩ : ∃ fb, fitB ds n nd = fb := ⟨_, rfl⟩
      refine (dealt_is _ ds n nd fb w1 (HD.out.only HO1.out) (by omega) HND5.out HS.out hfb).mono ?_
      rintro e w2 ⟨rfl, hO2⟩
      have HO2 := Lib.hid (HO1.out.trans hO2)
      have HO12 := Lib.hid hO2
      have HZ2 := Lib.hid (row_still hO2 HZ1.out)
      have HFB := Lib.hid hfb
      rw [hfb] at HBG
      clear hO2 hfb
      cases fb
      · have HN := Lib.hid (HNO.out w2 HO2.out HBG.out)
        go_wp2_with (first | (refine wpList_store_row rfl 28 _ _ rfl w.heap.size #[.slice none 0 0, .slice none 0 0] rfl rfl 28 _ HZ2.out Tryz.infoKe rfl (two_slices _ _ _ _ _ _) ?_))
        exact bodyPost_ret (v := .tuple #[.agg #[.slice none 0 0, .slice none 0 0], .bool false]) (results_cell_tmp (p := 4) (q := 5) rfl _ _ w.heap.size 28 #[.slice none 0 0, .slice none 0 0] (0, 0) _ rfl (setRow_heap _ _ _ _ _ _ HZ2.out) Tryz.underlying28 rfl Tryz.infoKe _ rfl) rfl HN.out
      · go_wp2_with fail
        refine (HT.out w2 HO12.out).mono ?_
        rintro e w2' ⟨rfl, rfl⟩
        go_wp2_with fail
        refine (HND.out _).mono ?_
        rintro e w2' ⟨rfl, rfl⟩
        have hmk := run_make_row (P := Tryz.prog) 22 3 i0 _ Tryz.underlying22 hi0 hz0 hz1 rfl .i64 .i64 nd (by rw [hz2]; omega) (by omega) w2
        go_wp2_with fail
        clear hmk
        have HO25 := Lib.hid (HA.out.trans HO2.out)
        have HFIT := Lib.hid (fun k (hk : k < ds.length) => fit_at ds n nd HFB.out k hk)
        have HC0 := Lib.hid (show CbAt w2 (w2.alloc (.cells (madeCells #[.int .i64 0] nd) 3)) nd (colTo ds nd 0) from ⟨own_made w2 nd (by omega), (Only.refl _ w2).alloc _⟩)
        have hw2 : w.heap.size < w2.heap.size := own_lt0 HZ2.out
        go_loopw [38] (fun vi wr => ∃ j : Nat, j ≤ nd ∧ vi = .int .i64 j ∧ CbAt w2 wr nd (colTo ds nd j)) (fun vi _ => nd - (intOf vi).toNat)
        case atStart => exact ⟨0, Nat.zero_le _, rfl, HC0.out⟩
        case round =>
          clear HC0
          obtain ⟨j, hj, rfl, hC⟩ := hrel
          have HC := Lib.hid hC
          have HLJ := Lib.hid (colTo_len ds nd j)
          by_cases hlt : j < nd
          · obtain ⟨o1, o2, o3, o4, o5⟩ := own_at hC.own HLJ.out hlt
            have HC1 := Lib.hid (hC.put HLJ.out hlt (z := 1))
            have HCN := Lib.hid (show colTo ds nd (j + 1) = (colTo ds nd j).set j (prodTo ds j ds.length) from rfl)
            have i1 : (j : Int) < nd := by omega
            have i2 : 0 ≤ (j : Int) := by omega
            generalize colTo ds nd j = L at *
            clear hC
            go_wp2_with fail
            generalize wr.setCell ⟨w2.heap.size, j, none⟩ (.int .i64 1) = wq at *
            go_loopw [46] (fun vk wi => ∃ k : Nat, k ≤ ds.length ∧ vk = .int .i64 k ∧ CbAt w2 wi nd (L.set j (prodTo ds j k))) (fun vk _ => ds.length - (intOf vk).toNat)
            case atStart => exact ⟨0, Nat.zero_le _, rfl, HC1.out⟩
            case round =>
              clear HC1
              obtain ⟨k, hk, rfl, hK⟩ := hrel
              by_cases hkl : k < ds.length
              · obtain ⟨b, off, c0, c2, rfl, hb, hc1, hc2, x0, x1, x2, hd⟩ := (HD.out.only (HO2.out.trans hK.only)).cellAt hkl
                have hcl := HFIT.out k hkl
                obtain ⟨a0, k0, rfl⟩ := hd.cm.slice
                obtain ⟨a2, k2, rfl⟩ := hd.bx.slice
                obtain ⟨bc, oc, rfl, hbc, hl0, hcc1, hcc2, hcell⟩ := hd.cm.cellAt (k := j) (by omega)
                have HPN := Lib.hid (show prodTo ds j (k + 1) = prodTo ds j k * ptAt (dlAt ds k).cm j % 2305843009213691579 from rfl)
                have HLK := Lib.hid (show (L.set j (prodTo ds j k)).length = nd by rw [List.length_set, HLJ.out])
                have hA : Only (fun _ => False) wr (wr.alloc (.cells #[.slice (some ⟨bc, oc, none⟩) (dlAt ds k).cm.length k0, .int .i64 (dlAt ds k).pt, .slice a2 (dlAt ds k).bx.length k2] 72)) := (Only.refl _ wr).alloc _
                have HKA := Lib.hid (hK.frame hA)
                obtain ⟨o1, o2, o3, o4, o5⟩ := own_at HKA.out.own HLK.out hlt
                rw [ptAt_set, if_pos ⟨rfl, by rw [HLJ.out]; exact hlt⟩] at o4
                have y0 := hA.cell hcell id
                have hbc2 := Nat.lt_of_lt_of_le hbc hA.size
                have hz := heap_alloc_last wr (.cells #[.slice (some ⟨bc, oc, none⟩) (dlAt ds k).cm.length k0, .int .i64 (dlAt ds k).pt, .slice a2 (dlAt ds k).bx.length k2] 72)
                have z0 := cell_of_row _ _ 0 _ _ _ hz
                have lz := own_lt0 hz
                have HPUT := Lib.hid (fun m z => (show CbAt w2 (World.drewN _ m) nd _ from HKA.out.frame ((Only.refl _ _).drewN m)).put (z := z) HLK.out hlt)
                have HSS := Lib.hid (fun z => show (L.set j (prodTo ds j k)).set j z = L.set j z from List.set_set _)
                rw [hcl] at *
                generalize (dlAt ds k).pt = pt at *
                generalize (dlAt ds k).bx.length = bl at *
                generalize ptAt (dlAt ds k).cm j = cz at *
                generalize prodTo ds j k = pz at *
                have i3 : (k : Int) < ds.length := by omega
                have i4 : 0 ≤ (k : Int) := by omega
                clear hd hK hA hz hl0 hk
                go_wp2_with fail
                clear x0 x1 x2
                generalize wr.alloc (.cells #[.slice (some ⟨bc, oc, none⟩) nd k0, .int .i64 pt, .slice a2 bl k2] 72) = wA at *
                refine wp_region_quiet_split 13 (by kernel_rfl) (by kernel_rfl) (by kernel_rfl) ?_
                simp only [List.take_succ_cons, List.take_zero, List.drop_succ_cons, List.drop_zero]
                repeat (go_big_quiet_step ((go_at_call 41; exact quiet_left (mul_any _ _ _ _ (by decide) (by decide)))))
                refine wpQuiet_nil ?_
                intro _ hw'
                obtain ⟨nq, hw''⟩ := hw'
                subst hw''
                have HQ1 := Lib.hid (HPUT.out nq (pz * cz % 2305843009213691579))
                rw [HSS.out] at HQ1
                clear HPUT
                go_wp2
                go_roundw
                case rel => exact ⟨k + 1, by omega, by go_num, by rw [HPN.out]; exact HQ1.out⟩
                case measure => simp [intOf]; omega
              · obtain rfl : k = ds.length := by omega
                have i3 : ¬ (ds.length : Int) < ds.length := by omega
                have HK := Lib.hid hK
                clear hK
                go_wp2
                go_roundw
                case rel => exact ⟨j + 1, by omega, by go_num, by rw [HCN.out]; exact HK.out⟩
                case measure => simp [intOf]; omega
          · obtain rfl : j = nd := by omega
            have i1 : ¬ (j : Int) < j := by omega
            have HZ3 := Lib.hid (row_still hC.only HZ2.out)
            have HPOST := Lib.hid (show ∀ w6, Only (fun k => k = w.heap.size) wr w6 → BegPost w l ds (.returned (.tuple #[.agg #[.slice (some ⟨w2.heap.size, 0, none⟩) j j, .slice ap (pointsOf l).length cp], .bool true])) w6 from fun w6 hO6 => by
              refine ⟨(HO25.out.trans hC.only).trans' hO6 (fun i hi e => by omega), .inl ⟨HBG.out, _, _, rfl, ?_, ?_⟩⟩
              · rw [hnd0]
                exact own_base (hO6.owns hC.own (fun x hx e => by have := own_low' hC.own hx; omega)) (by omega)
              · exact grid_kept hO6 (keys_empty HZ3.out).1 (keys_empty HZ3.out).2 (points_ne HR.out) (HG.out.only (HO12.out.trans hC.only)))
            clear hC hlt hj
            go_wp2_with (first | (refine wpList_store_row rfl 28 _ _ rfl w.heap.size #[.slice (some ⟨w2.heap.size, 0, none⟩) j j, .slice ap (pointsOf l).length cp] rfl rfl 28 _ HZ3.out Tryz.infoKe rfl (two_slices _ _ _ _ _ _) ?_))
            refine bodyPost_ret (v := .tuple #[.agg #[.slice (some ⟨w2.heap.size, 0, none⟩) j j, .slice ap (pointsOf l).length cp], .bool true]) (results_cell_tmp (p := 4) (q := 5) rfl _ _ w.heap.size 28 #[.slice (some ⟨w2.heap.size, 0, none⟩) j j, .slice ap (pointsOf l).length cp] (0, 0) _ rfl (setRow_heap _ _ _ _ _ _ HZ3.out) Tryz.underlying28 rfl Tryz.infoKe _ rfl) rfl (HPOST.out _ ?_)
            exact (Only.refl (fun k => k = w.heap.size) wr).trans' (T := fun k => k = w.heap.size) ⟨rfl, rfl, rfl, by simp, fun k _ hk => heap_setRow_other _ _ _ _ hk⟩ (fun _ _ e => e)
    · have q1 : ((ds.length : Int) == 0) = true := beq_iff_eq.2 (by omega)
      rw [decide_eq_false h0, Bool.false_and] at HBG
      have HN := Lib.hid (HNO.out w1 HO1.out HBG.out)
      go_wp2_with (first | (refine wpList_store_row rfl 28 _ _ rfl w.heap.size #[.slice none 0 0, .slice none 0 0] rfl rfl 28 _ HZ1.out Tryz.infoKe rfl (two_slices _ _ _ _ _ _) ?_))
      exact bodyPost_ret (v := .tuple #[.agg #[.slice none 0 0, .slice none 0 0], .bool false]) (results_cell_tmp (p := 4) (q := 5) rfl _ _ w.heap.size 28 #[.slice none 0 0, .slice none 0 0] (0, 0) _ rfl (setRow_heap _ _ _ _ _ _ HZ1.out) Tryz.underlying28 rfl Tryz.infoKe _ rfl) rfl HN.out
  · have HZ1 := Lib.hid (row_still hO1 HZ0.out)
    have HN := Lib.hid (HNO.out w1 hO1 (by unfold begB; rw [hr]; rfl))
    clear hO1 hr HP
    go_wp2_with (first | (refine wpList_store_row rfl 28 _ _ rfl w.heap.size #[.slice none 0 0, .slice none 0 0] rfl rfl 28 _ HZ1.out Tryz.infoKe rfl (two_slices _ _ _ _ _ _) ?_))
    exact bodyPost_ret (v := .tuple #[.agg #[.slice none 0 0, .slice none 0 0], .bool false]) (results_cell_tmp (p := 4) (q := 5) rfl _ _ w.heap.size 28 #[.slice none 0 0, .slice none 0 0] (0, 0) _ rfl (setRow_heap _ _ _ _ _ _ HZ1.out) Tryz.underlying28 rfl Tryz.infoKe _ rfl) rfl HN.out
end Go.Proofs.YtalclldccnichaaGreat
