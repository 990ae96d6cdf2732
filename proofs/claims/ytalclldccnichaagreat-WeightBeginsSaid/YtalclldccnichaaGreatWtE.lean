/-
  The reference's Begin in general.
-/
import Derived.Test.YtalclldccnichaaGreatWtD
namespace Go.Proofs.YtalclldccnichaaGreat
open Go.RowKit

theorem chk_ok {d : Dl} {n : Nat} (h : chkB d n = true) : ChkOk d n := by
  unfold chkB at h
  simp only [Bool.and_eq_true, decide_eq_true_eq] at h
  obtain ⟨⟨⟨h1, h2⟩, h3⟩, h4, h5, h6⟩ := h
  refine ⟨h1, h2, h3, h6, h5, fun j hj => ?_⟩
  unfold b16B at h4
  rw [List.all_eq_true] at h4
  have hj2 : j < d.bx.length := by omega
  have := h4 d.bx[j] (List.getElem_mem hj2)
  have e : sAt d.bx j = d.bx[j] := by simp [sAt, List.getD, hj2]
  rw [e]; simpa using this
theorem fit_chk (ds : List Dl) (n nd : Nat) (h : fitB ds n nd = true) (k : Nat) (hk : k < ds.length) : ChkOk (dlAt ds k) n ∧ (dlAt ds k).cm.length = nd := by
  refine ⟨?_, fit_at ds n nd h k hk⟩
  unfold fitB at h
  rw [List.all_eq_true] at h
  have h1 := h ds[k] (List.getElem_mem hk)
  simp only [Bool.and_eq_true, decide_eq_true_eq] at h1
  have : dlAt ds k = ds[k] := by simp [dlAt, List.getD, hk]
  rw [this]; exact chk_ok h1.1
/-- What the reference's Begin leaves. -/
def RBegPost (w : World) (l : List Mb) (ds : List Dl) (e : Ending) (w' : World) : Prop :=
  Only (fun _ => False) w w' ∧ ((begB l ds = true ∧ BeginPost w (mixL ds (onesL ds.length) (ndOf l)) (pointsOf l) e w') ∨
    (begB l ds = false ∧ e = .returned (.tuple #[.agg #[.slice none 0 0, .slice none 0 0], .bool false])))
theorem begB_parts {l : List Mb} {ds : List Dl} (h : begB l ds = true) : rightB l = true ∧ 1 ≤ ds.length ∧ fitB ds (nOf l) (ndOf l) = true := by
  unfold begB at h
  simp only [Bool.and_eq_true, decide_eq_true_eq] at h
  exact ⟨h.1, h.2.1, h.2.2⟩

set_option maxRecDepth 100000 in
set_option maxHeartbeats 1000000 in
theorem rbegin_no (sv dv : Value) (l : List Mb) (ds : List Dl) (n nd : Nat) (w : World) (hM : MbsAt w sv l) (hw : MbsW l) (hD : DlsAt w dv ds) (hS : DlsS ds) (ht : totZ l = n) (hn2 : n ≤ 1000) (hnd : needZ n = nd) (hno : n = 0 ∨ (decide (1 ≤ ds.length) && fitB ds n nd) = false) :
    Calls Tryz.prog 15 #[sv, dv] w fun e w' => e = .returned (.tuple #[.agg #[.slice none 0 0, .slice none 0 0], .bool false]) ∧ Only (fun _ => False) w w' := by
  obtain ⟨ad, cd, rfl⟩ := hD.slice
  obtain ⟨am, cm, rfl⟩ := hM.slice
  have hA := (Only.refl (fun _ => False) w).alloc (.cells #[.slice none 0 0, .slice none 0 0] 28)
  have HA := Lib.hid hA
  have HD := Lib.hid (hD.only hA)
  have HT := Lib.hid (rtotal_any _ l n _ hw (hM.only hA) ht)
  have HZ0 := Lib.hid (heap_alloc_last w (.cells #[.slice none 0 0, .slice none 0 0] 28))
  obtain ⟨fb, hfb⟩ : ∃ fb, (decide (1 ≤ ds.length) && fitB ds n nd) = fb := ⟨_, rfl⟩
  have HF := Lib.hid (fun (w' : World) (h : Only (fun _ => False) (w.alloc (.cells #[.slice none 0 0, .slice none 0 0] 28)) w') => rfits_is _ ds n nd fb w' (HD.out.only h) hS hn2 hnd hfb)
  rw [hfb] at hno
  clear hD hM hw ht hnd hA hfb hS
  go_enter Tryz.func15, Tryz.ntmps15
  go_wp2_with fail
  refine HT.out.mono ?_
  rintro e w1 ⟨rfl, hO1⟩
  have HO1 := Lib.hid hO1
  have HZ1 := Lib.hid (row_still hO1 HZ0.out)
  clear hO1 HZ0
  go_wp2_with fail
  refine (HF.out w1 HO1.out).mono ?_
  rintro e w2 ⟨rfl, hO2⟩
  have HO2 := Lib.hid (HA.out.trans (HO1.out.trans hO2))
  have HZ2 := Lib.hid (row_still hO2 HZ1.out)
  clear hO2 HZ1 HO1
  by_cases h0 : n = 0
  · have q1 : ((n : Int) == 0) = true := beq_iff_eq.2 (by omega)
    clear hno h0
    go_wp2_with (first | (refine wpList_store_row rfl 28 _ _ rfl w.heap.size #[.slice none 0 0, .slice none 0 0] rfl rfl 28 _ HZ2.out Tryz.infoKe rfl (two_slices _ _ _ _ _ _) ?_))
    exact bodyPost_ret (v := .tuple #[.agg #[.slice none 0 0, .slice none 0 0], .bool false]) (results_cell_tmp (p := 4) (q := 5) rfl _ _ w.heap.size 28 #[.slice none 0 0, .slice none 0 0] (0, 0) _ rfl (setRow_heap _ _ _ _ _ _ HZ2.out) Tryz.underlying28 rfl Tryz.infoKe _ rfl) rfl ⟨rfl, HO2.out.setRow (Nat.le_refl _) _⟩
  · have q1 : ((n : Int) == 0) = false := beq_eq_false_iff_ne.2 (by omega)
    obtain rfl : fb = false := by rcases hno with h | h
                                  · exact absurd h h0
                                  · exact h
    clear hno h0
    go_wp2_with (first | (refine wpList_store_row rfl 28 _ _ rfl w.heap.size #[.slice none 0 0, .slice none 0 0] rfl rfl 28 _ HZ2.out Tryz.infoKe rfl (two_slices _ _ _ _ _ _) ?_))
    exact bodyPost_ret (v := .tuple #[.agg #[.slice none 0 0, .slice none 0 0], .bool false]) (results_cell_tmp (p := 4) (q := 5) rfl _ _ w.heap.size 28 #[.slice none 0 0, .slice none 0 0] (0, 0) _ rfl (setRow_heap _ _ _ _ _ _ HZ2.out) Tryz.underlying28 rfl Tryz.infoKe _ rfl) rfl ⟨rfl, HO2.out.setRow (Nat.le_refl _) _⟩
theorem rbegin_is (sv dv : Value) (l : List Mb) (ds : List Dl) (w : World) (hM : MbsAt w sv l) (hw : MbsW l) (hD : DlsAt w dv ds) (hS : DlsS ds) :
    Calls Tryz.prog 15 #[sv, dv] w (RBegPost w l ds) := by
  cases hb : begB l ds
  · cases hr : rightB l
    · exact (rbegin_no sv dv l ds 0 0 w hM hw hD hS (by unfold totZ; rw [hr]; rfl) (by decide) rfl (.inl rfl)).mono fun e w' h => ⟨h.2, .inr ⟨hb, h.1⟩⟩
    · obtain ⟨s1, s2, s3, s4, s5, s6, s7, s8⟩ := right_sum hr
      exact (rbegin_no sv dv l ds (nOf l) (ndOf l) w hM hw hD hS s8 (by omega) s5 (.inr (by unfold begB at hb; rw [hr] at hb; exact hb))).mono fun e w' h => ⟨h.2, .inr ⟨hb, h.1⟩⟩
  · obtain ⟨hr, h1, hf⟩ := begB_parts hb
    obtain ⟨s1, s2, s3, s4, s5, s6, s7, s8⟩ := right_sum hr
    exact (rbegin_yes sv dv l ds (nOf l) (ndOf l) w hM hw hr hD s8 s3 (by omega) s5 (by omega) h1 hS.len (fit_chk ds _ _ hf)).mono fun e w' h => ⟨h.1, .inl ⟨hb, h⟩⟩
/-- The two products are the same. -/
theorem powM_one (c : Int) : powM c 1 2305843009213691579 = c % 2305843009213691579 := by
  rw [powM_eq c 1 _ (by decide) (by decide) (by decide)]
  show c ^ 1 % _ = _
  rw [Int.pow_succ, Int.pow_zero, Int.one_mul]
theorem mix_prod (ds : List Dl) (m j : Nat) : ∀ k, k ≤ m → mixTo ds (onesL m) j k = prodTo ds j k
  | 0, _ => rfl
  | k + 1, h => by
    rw [mixTo, prodTo, mix_prod ds m j k (by omega), onesL_at m k (by omega), powM_one]
    exact (Cong.mul (Cong.refl _ _) (Cong.mod _ _)).emod
theorem mixL_at (ds : List Dl) (pw : List Int) : ∀ m j, j < m → ptAt (mixL ds pw m) j = mixTo ds pw j ds.length
  | m + 1, j, h => by
    rw [mixL, ptAt_append, mixL_len]
    by_cases e : j < m
    · rw [if_pos e, mixL_at ds pw m j e]
    · obtain rfl : j = m := by omega
      rw [if_neg e, if_pos rfl]
theorem list_ext {a b : List Int} (hl : a.length = b.length) (h : ∀ j, j < a.length → ptAt a j = ptAt b j) : a = b := by
  refine List.ext_getElem hl (fun i h1 h2 => ?_)
  have := h i h1
  simpa [ptAt, List.getD, h1, h2] using this
theorem mix_col (ds : List Dl) (nd : Nat) : mixL ds (onesL ds.length) nd = colTo ds nd nd := by
  refine list_ext (by rw [mixL_len, colTo_len]) (fun j hj => ?_)
  rw [mixL_len] at hj
  rw [mixL_at _ _ _ _ hj, colTo_in ds nd nd j hj hj, mix_prod ds _ j _ (Nat.le_refl _)]
end Go.Proofs.YtalclldccnichaaGreat
