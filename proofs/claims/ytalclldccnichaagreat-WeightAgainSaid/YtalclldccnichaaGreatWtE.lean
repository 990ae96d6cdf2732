/-
  The reference's Begin in general. Package weight: Right; the reference's Commits.
-/
import Derived.Test.YtalclldccnichaaGreatWtD
namespace Go.Proofs.YtalclldccnichaaGreat
open Go.RowKit

theorem chk_ok {d : Dl} {n : Nat} (h : chkB d n = true) : ChkOk d n := by
  unfold chkB at h
  simp only [Bool.and_eq_true, decide_eq_true_eq] at h
  obtain ⟨⟨⟨h1, h2⟩, h3⟩, h4, h5, h6⟩ := h
  refine ⟨h1, h2, h3, h6, h5, fun j hj => ?_⟩
  unfold b16B at h4
  rw [List.all_eq_true] at h4
  have hj2 : j < d.bx.length := by omega
  have := h4 d.bx[j] (List.getElem_mem hj2)
  have e : sAt d.bx j = d.bx[j] := by simp [sAt, List.getD, hj2]
  rw [e]; simpa using this
theorem fit_chk (ds : List Dl) (n nd : Nat) (h : fitB ds n nd = true) (k : Nat) (hk : k < ds.length) : ChkOk (dlAt ds k) n ∧ (dlAt ds k).cm.length = nd := by
  refine ⟨?_, fit_at ds n nd h k hk⟩
  unfold fitB at h
  rw [List.all_eq_true] at h
  have h1 := h ds[k] (List.getElem_mem hk)
  simp only [Bool.and_eq_true, decide_eq_true_eq] at h1
  have : dlAt ds k = ds[k] := by simp [dlAt, List.getD, hk]
  rw [this]; exact chk_ok h1.1
/-- What the reference's Begin leaves. -/
def RBegPost (w : World) (l : List Mb) (ds : List Dl) (e : Ending) (w' : World) : Prop :=
  Only (fun _ => False) w w' ∧ ((begB l ds = true ∧ BeginPost w (mixL ds (onesL ds.length) (ndOf l)) (pointsOf l) e w') ∨
    (begB l ds = false ∧ e = .returned (.tuple #[.agg #[.slice none 0 0, .slice none 0 0], .bool false])))
theorem begB_parts {l : List Mb} {ds : List Dl} (h : begB l ds = true) : rightB l = true ∧ 1 ≤ ds.length ∧ fitB ds (nOf l) (ndOf l) = true := by
  unfold begB at h
  simp only [Bool.and_eq_true, decide_eq_true_eq] at h
  exact ⟨h.1, h.2.1, h.2.2⟩

set_option maxRecDepth 100000 in
set_option maxHeartbeats 1000000 in
theorem rbegin_no (sv dv : Value) (l : List Mb) (ds : List Dl) (n nd : Nat) (w : World) (hM : MbsAt w sv l) (hw : MbsW l) (hD : DlsAt w dv ds) (hS : DlsS ds) (ht : totZ l = n) (hn2 : n ≤ 1000) (hnd : needZ n = nd) (hno : n = 0 ∨ (decide (1 ≤ ds.length) && fitB ds n nd) = false) :
    Calls Tryz.prog 15 #[sv, dv] w fun e w' => e = .returned (.tuple #[.agg #[.slice none 0 0, .slice none 0 0], .bool false]) ∧ Only (fun _ => False) w w' := by
  obtain ⟨ad, cd, rfl⟩ := hD.slice
  obtain ⟨am, cm, rfl⟩ := hM.slice
  have hA := (Only.refl (fun _ => False) w).alloc (.cells #[.slice none 0 0, .slice none 0 0] 28)
  have HA := Lib.hid hA
  have HD := Lib.hid (hD.only hA)
  have HT := Lib.hid (rtotal_any _ l n _ hw (hM.only hA) ht)
  have HZ0 := Lib.hid (heap_alloc_last w (.cells #[.slice none 0 0, .slice none 0 0] 28))
  obtain ⟨fb, hfb⟩ : ∃ fb, (decide (1 ≤ ds.length) && fitB ds n nd) = fb := ⟨_, rfl⟩
  have HF := Lib.hid (fun (w' : World) (h : Only (fun _ => False) (w.alloc (.cells #[.slice none 0 0, .slice none 0 0] 28)) w') => rfits_is _ ds n nd fb w' (HD.out.only h) hS hn2 hnd hfb)
  rw [hfb] at hno
  clear hD hM hw ht hnd hA hfb hS
  go_enter Tryz.func15, Tryz.ntmps15
  go_wp2_with fail
  refine HT.out.mono ?_
  rintro e w1 ⟨rfl, hO1⟩
  have HO1 := Lib.hid hO1
  have HZ1 := Lib.hid (row_still hO1 HZ0.out)
  clear hO1 HZ0
  go_wp2_with fail
  refine (HF.out w1 HO1.out).mono ?_
  rintro e w2 ⟨rfl, hO2⟩
  have HO2 := Lib.hid (HA.out.trans (HO1.out.trans hO2))
  have HZ2 := Lib.hid (row_still hO2 HZ1.out)
  clear hO2 HZ1 HO1
  by_cases h0 : n = 0
  · have q1 : ((n : Int) == 0) = true := beq_iff_eq.2 (by omega)
    clear hno h0
    go_wp2_with (first | (refine wpList_store_row rfl 28 _ _ rfl w.heap.size #[.slice none 0 0, .slice none 0 0] rfl rfl 28 _ HZ2.out Tryz.infoKe rfl (two_slices _ _ _ _ _ _) ?_))
    exact bodyPost_ret (v := .tuple #[.agg #[.slice none 0 0, .slice none 0 0], .bool false]) (results_cell_tmp (p := 4) (q := 5) rfl _ _ w.heap.size 28 #[.slice none 0 0, .slice none 0 0] (0, 0) _ rfl (setRow_heap _ _ _ _ _ _ HZ2.out) Tryz.underlying28 rfl Tryz.infoKe _ rfl) rfl ⟨rfl, HO2.out.setRow (Nat.le_refl _) _⟩
  · have q1 : ((n : Int) == 0) = false := beq_eq_false_iff_ne.2 (by omega)
    obtain rfl : fb = false := by rcases hno with h | h
                                  · exact absurd h h0
                                  · exact h
    clear hno h0
    go_wp2_with (first | (refine wpList_store_row rfl 28 _ _ rfl w.heap.size #[.slice none 0 0, .slice none 0 0] rfl rfl 28 _ HZ2.out Tryz.infoKe rfl (two_slices _ _ _ _ _ _) ?_))
    exact bodyPost_ret (v := .tuple #[.agg #[.slice none 0 0, .slice none 0 0], .bool false]) (results_cell_tmp (p := 4) (q := 5) rfl _ _ w.heap.size 28 #[.slice none 0 0, .slice none 0 0] (0, 0) _ rfl (setRow_heap _ _ _ _ _ _ HZ2.out) Tryz.underlying28 rfl Tryz.infoKe _ rfl) rfl ⟨rfl, HO2.out.setRow (Nat.le_refl _) _⟩
theorem rbegin_is (sv dv : Value) (l : List Mb) (ds : List Dl) (w : World) (hM : MbsAt w sv l) (hw : MbsW l) (hD : DlsAt w dv ds) (hS : DlsS ds) :
    Calls Tryz.prog 15 #[sv, dv] w (RBegPost w l ds) := by
  cases hb : begB l ds
  · cases hr : rightB l
    · exact (rbegin_no sv dv l ds 0 0 w hM hw hD hS (by unfold totZ; rw [hr]; rfl) (by decide) rfl (.inl rfl)).mono fun e w' h => ⟨h.2, .inr ⟨hb, h.1⟩⟩
    · obtain ⟨s1, s2, s3, s4, s5, s6, s7, s8⟩ := right_sum hr
      exact (rbegin_no sv dv l ds (nOf l) (ndOf l) w hM hw hD hS s8 (by omega) s5 (.inr (by unfold begB at hb; rw [hr] at hb; exact hb))).mono fun e w' h => ⟨h.2, .inr ⟨hb, h.1⟩⟩
  · obtain ⟨hr, h1, hf⟩ := begB_parts hb
    obtain ⟨s1, s2, s3, s4, s5, s6, s7, s8⟩ := right_sum hr
    exact (rbegin_yes sv dv l ds (nOf l) (ndOf l) w hM hw hr hD s8 s3 (by omega) s5 (by omega) h1 hS.len (fit_chk ds _ _ hf)).mono fun e w' h => ⟨h.1, .inl ⟨hb, h⟩⟩
/-- The two products are the same. -/
theorem powM_one (c : Int) : powM c 1 2305843009213691579 = c % 2305843009213691579 := by
  rw [powM_eq c 1 _ (by decide) (by decide) (by decide)]
  show c ^ 1 % _ = _
  rw [Int.pow_succ, Int.pow_zero, Int.one_mul]
theorem mix_prod (ds : List Dl) (m j : Nat) : ∀ k, k ≤ m → mixTo ds (onesL m) j k = prodTo ds j k
  | 0, _ => rfl
  | k + 1, h => by
    rw [mixTo, prodTo, mix_prod ds m j k (by omega), onesL_at m k (by omega), powM_one]
    exact (Cong.mul (Cong.refl _ _) (Cong.mod _ _)).emod
theorem mixL_at (ds : List Dl) (pw : List Int) : ∀ m j, j < m → ptAt (mixL ds pw m) j = mixTo ds pw j ds.length
  | m + 1, j, h => by
    rw [mixL, ptAt_append, mixL_len]
    by_cases e : j < m
    · rw [if_pos e, mixL_at ds pw m j e]
    · obtain rfl : j = m := by omega
      rw [if_neg e, if_pos rfl]
theorem list_ext {a b : List Int} (hl : a.length = b.length) (h : ∀ j, j < a.length → ptAt a j = ptAt b j) : a = b := by
  refine List.ext_getElem hl (fun i h1 h2 => ?_)
  have := h i h1
  simpa [ptAt, List.getD, h1, h2] using this
theorem mix_col (ds : List Dl) (nd : Nat) : mixL ds (onesL ds.length) nd = colTo ds nd nd := by
  refine list_ext (by rw [mixL_len, colTo_len]) (fun j hj => ?_)
  rw [mixL_len] at hj
  rw [mixL_at _ _ _ _ hj, colTo_in ds nd nd j hj hj, mix_prod ds _ j _ (Nat.le_refl _)]
end Go.Proofs.YtalclldccnichaaGreat

namespace Go.Proofs.YtalclldccnichaaGreat
open Go.RowKit

/-- Are the first t numbers of a row those behind s? -/
def rowOkTo (s : Nat) (r : List Int) : Nat → Bool
  | 0 => true
  | t + 1 => rowOkTo s r t && decide (ptAt r t = (s : Int) + t + 1)
def rowsOk (rows : List (List Int)) : Nat → Bool
  | 0 => true
  | k + 1 => rowsOk rows k && (decide (0 < (rows.getD k []).length) && rowOkTo (gridTo rows k) (rows.getD k []) (rows.getD k []).length)
theorem rowOkTo_false (s : Nat) (r : List Int) : ∀ (k j : Nat), j ≤ k → rowOkTo s r j = false → rowOkTo s r k = false
  | 0, j, hj, h => by rw [show j = 0 by omega] at h; exact h
  | k + 1, j, hj, h => by
    by_cases e : j = k + 1
    · rw [← e]; exact h
    · rw [rowOkTo, rowOkTo_false s r k j (by omega) h]; rfl
theorem rowsOk_false (rows : List (List Int)) : ∀ (k j : Nat), j ≤ k → rowsOk rows j = false → rowsOk rows k = false
  | 0, j, hj, h => by rw [show j = 0 by omega] at h; exact h
  | k + 1, j, hj, h => by
    by_cases e : j = k + 1
    · rw [← e]; exact h
    · rw [rowsOk, rowsOk_false rows k j (by omega) h]; rfl
/-- Are keys right? -/
def rightKB (rows : List (List Int)) (cm : List Int) : Bool := rowsOk rows rows.length && ((decide (1 ≤ gridN rows) && decide (gridN rows ≤ 60) && decide ((cm.length : Int) = needZ (gridN rows))) && membersB cm)

set_option maxRecDepth 100000 in
set_option maxHeartbeats 2000000 in
theorem right_is (ac ap : Option Addr) (cc cp : Nat) (cm : List Int) (rows : List (List Int)) (bb : Bool) (w : World) (hC : PtsAt w.heap.size w (.slice ac cm.length cc) cm) (hG : GridAt w (.slice ap rows.length cp) rows) (hs : ∀ k, k ≤ rows.length → gridTo rows k ≤ 1000000) (_hcm : cm.length ≤ 1000000) (hb : rightKB rows cm = bb) :
    Calls Tryz.prog 13 #[.agg #[.slice ac cm.length cc, .slice ap rows.length cp]] w fun e w' => e = .returned (.bool bb) ∧ Only (fun _ => False) w w' := by
  have hA := (Only.refl (fun _ => False) w).alloc (.cells #[.slice ac cm.length cc, .slice ap rows.length cp] 28)
  have hz := heap_alloc_last w (.cells #[.slice ac cm.length cc, .slice ap rows.length cp] 28)
  have HZ := Lib.hid hz
  have HA := Lib.hid hA
  have HC := Lib.hid (hC.only hA)
  have HG := Lib.hid (hG.only hA)
  have HS := Lib.hid hs
  have HB := Lib.hid hb
  have e0 := cell_of_row _ _ 0 _ _ _ hz
  have e1 := cell_of_row _ _ 1 _ _ _ hz
  have l0 := own_lt0 hz
  clear hC hG hA hz hs hb
  go_enter Tryz.func13, Tryz.ntmps13
  go_wp2_with fail
  generalize w.alloc (.cells #[.slice ac cm.length cc, .slice ap rows.length cp] 28) = w1 at *
  go_loop [3, 14] (fun vn vi => ∃ k : Nat, k ≤ rows.length ∧ vi = .int .i64 k ∧ vn = .int .i64 ((gridTo rows k : Nat) + 1) ∧ rowsOk rows k = true) (fun _ vi => rows.length - (intOf vi).toNat)
  case atStart => exact ⟨0, Nat.zero_le _, rfl, rfl, rfl⟩
  case round =>
    obtain ⟨k, hk, rfl, rfl, hok⟩ := hrel
    have HOK := Lib.hid hok
    have hs1 := HS.out k hk
    clear hok
    by_cases hlt : k < rows.length
    · have i1 : (k : Int) < rows.length := by omega
      obtain ⟨b, off, rfl, hb, hcp1, hcp2, hc⟩ : ∃ b off, ap = some ⟨b, off, none⟩ ∧ b < w1.heap.size ∧ rows.length ≤ cp ∧ cp ≤ 9223372036854775807 ∧ ∀ j, j < rows.length → ∃ u, w1.cell? ⟨b, off + j, none⟩ = some u ∧ PtsAt w1.heap.size w1 u (rows.getD j []) := by
        rcases HG.out with ⟨_, _, _, h0⟩ | ⟨b, off, cap, hv, hb, h1, h2, hc⟩
        · rw [h0] at hlt; simp at hlt
        · simp only [Value.slice.injEq, true_and] at hv
          obtain ⟨rfl, rfl⟩ := hv
          exact ⟨b, off, rfl, hb, h1, h2, hc⟩
      obtain ⟨u, hu, hp⟩ := hc k hlt
      have HP := Lib.hid hp
      obtain ⟨au, cu, rfl⟩ := hp.slice
      have HN := Lib.hid (show rowsOk rows (k + 1) = (rowsOk rows k && (decide (0 < (rows.getD k []).length) && rowOkTo (gridTo rows k) (rows.getD k []) (rows.getD k []).length)) from rfl)
      have HGN := Lib.hid (show gridTo rows (k + 1) = gridTo rows k + (rows.getD k []).length from rfl)
      have hs2 := HS.out (k + 1) (by omega)
      rw [HGN.out] at hs2
      have HNO := Lib.hid (fun (h : rowsOk rows (k + 1) = false) => show bb = false by rw [← HB.out]; unfold rightKB; rw [rowsOk_false rows rows.length (k + 1) (by omega) h]; rfl)
      generalize gridTo rows k = s at *
      generalize rows.getD k [] = r at *
      clear hc hp
      by_cases hr0 : 0 < r.length
      · have q1 : ((r.length : Int) == 0) = false := beq_eq_false_iff_ne.2 (by omega)
        rw [HOK.out, decide_eq_true hr0, Bool.true_and, Bool.true_and] at HN
        go_wp2_with fail
        go_loop [3, 23] (fun vn vt => ∃ t : Nat, t ≤ r.length ∧ vt = .int .i64 t ∧ vn = .int .i64 ((s + t : Nat) + 1) ∧ rowOkTo s r t = true) (fun _ vt => r.length - (intOf vt).toNat)
        case atStart => exact ⟨0, Nat.zero_le _, rfl, rfl, rfl⟩
        case round =>
          obtain ⟨t, ht, rfl, rfl, htk⟩ := hrel
          have HTK := Lib.hid htk
          clear htk
          by_cases htl : t < r.length
          · obtain ⟨br, orr, rfl, hbr, hrl, hcr1, hcr2, hcell⟩ := HP.out.cellAt htl
            have HTN := Lib.hid (show rowOkTo s r (t + 1) = (rowOkTo s r t && decide (ptAt r t = (s : Int) + t + 1)) from rfl)
            have i2 : (t : Int) < r.length := by omega
            have i3 : 0 ≤ (t : Int) := by omega
            clear hrl
            by_cases hx : ptAt r t = (s : Int) + t + 1
            · have HT1 := Lib.hid (show rowOkTo s r (t + 1) = true by rw [HTN.out, HTK.out, decide_eq_true hx]; rfl)
              have q2 : (ptAt r t != ((s + t : Nat) : Int) + 1) = false := by rw [hx]; simp
              generalize ptAt r t = x at *
              clear hx HTN
              go_wp2
              go_round
              case rel => exact ⟨t + 1, by omega, by go_num, by go_num, HT1.out⟩
              case measure => simp [intOf]; omega
            · have HF := Lib.hid (HNO.out (by rw [HN.out]; exact rowOkTo_false s r r.length (t + 1) (by omega) (by rw [HTN.out, HTK.out, decide_eq_false hx]; rfl)))
              have q2 : (ptAt r t != ((s + t : Nat) : Int) + 1) = true := by rw [bne_iff_ne]; omega
              generalize ptAt r t = x at *
              clear hx HTN
              go_wp2
              go_ret
              exact ⟨by rw [HF.out]; rfl, HA.out⟩
          · obtain rfl : t = r.length := by omega
            have i2 : ¬ (r.length : Int) < r.length := by omega
            go_wp2
            go_round
            case rel => exact ⟨k + 1, by omega, by go_num, by rw [HGN.out], by rw [HN.out]; exact HTK.out⟩
            case measure => simp [intOf]; omega
      · have HF := Lib.hid (HNO.out (by rw [HN.out, decide_eq_false hr0]; simp))
        have q1 : ((r.length : Int) == 0) = true := beq_iff_eq.2 (by omega)
        go_wp2
        go_ret
        exact ⟨by rw [HF.out]; rfl, HA.out⟩
    · obtain rfl : k = rows.length := by omega
      have i1 : ¬ (rows.length : Int) < rows.length := by omega
      have HGR := Lib.hid (show gridN rows = gridTo rows rows.length from rfl)
      have HBB := Lib.hid (show bb = ((decide (1 ≤ gridN rows) && decide (gridN rows ≤ 60) && decide ((cm.length : Int) = needZ (gridN rows))) && membersB cm) by rw [← HB.out]; unfold rightKB; rw [HOK.out, Bool.true_and])
      rw [HGR.out] at HBB
      generalize gridTo rows rows.length = n at *
      have HND := Lib.hid (fun w => need_is n (needZ n) w (by omega) rfl)
      have k1 : (n : Int) + 1 - 1 = n := by omega
      have k2 : IntKind.i64.wrap ((n : Int) + 1 - 1) = n := by rw [k1]; exact IntWalk.i64_in _ (by omega)
      by_cases h1 : 1 ≤ n
      · by_cases h2 : n ≤ 60
        · have hnz : 0 ≤ needZ n ∧ needZ n ≤ 60 := by unfold needZ mostZ; split <;> (try split) <;> omega
          by_cases h3 : (cm.length : Int) = needZ n
          · rw [decide_eq_true h1, decide_eq_true h2, decide_eq_true h3, Bool.true_and, Bool.true_and, Bool.true_and] at HBB
            have q1 : ¬ (n : Int) < 1 := by omega
            have q2 : ¬ (60 : Int) < n := by omega
            have q3 : ((cm.length : Int) != needZ n) = false := by rw [h3]; simp
            clear h3
            generalize needZ n = nz at *
            go_wp2_with fail
            go_quiet ((go_at_call 32; exact quiet_left (HND.out _)))
            have HOQ := Lib.hid (HA.out.drewN nq)
            have HCQ := Lib.hid (HC.out.only ((Only.refl (fun _ => False) w1).drewN nq))
            have d0 : (w1.drewN nq).cell? ⟨w.heap.size, 0, none⟩ = some (.slice ac cm.length cc) := e0
            have dl : w.heap.size < (w1.drewN nq).heap.size := l0
            clear k1 k2 e0 e1 l0 HA HC HG
            generalize w1.drewN nq = w2 at *
            go_wp2_with fail
            go_loopw [53] (fun vi wr => ∃ (j : Nat), j ≤ cm.length ∧ vi = .int .i64 j ∧ (∀ i, i < j → memB (ptAt cm i) = true) ∧ Only (fun _ => False) w2 wr) (fun vi _ => cm.length - (intOf vi).toNat)
            case atStart => exact ⟨0, Nat.zero_le _, rfl, fun j h => by omega, Only.refl _ _⟩
            case round =>
              obtain ⟨j, hj, rfl, hall, hO⟩ := hrel
              have HAL := Lib.hid hall
              have HO := Lib.hid hO
              clear hall hO
              by_cases hjl : j < cm.length
              · obtain ⟨b, off, rfl, hb, hl0, hc1, hc2, hcell⟩ := (HCQ.out.only HO.out).cellAt hjl
                have i2 : (j : Int) < cm.length := by omega
                clear hl0
                cases hm : memB (ptAt cm j)
                · have HF := Lib.hid (show bb = false by rw [HBB.out]; exact membersB_take cm j hjl hm)
                  have HM := Lib.hid (member_is (ptAt cm j) false wr hm)
                  generalize ptAt cm j = z at *
                  go_wp2_with fail
                  refine HM.out.mono ?_
                  rintro e w3 ⟨rfl, hO3⟩
                  have HO3 := Lib.hid ((HOQ.out.trans HO.out).trans hO3)
                  clear hO3
                  go_wp2
                  go_ret
                  exact ⟨by rw [HF.out]; rfl, HO3.out⟩
                · have HN := Lib.hid (show ∀ i, i < j + 1 → memB (ptAt cm i) = true from fun i hi => by
                    by_cases e : i = j
                    · rw [e]; exact hm
                    · exact HAL.out i (by omega))
                  have HM := Lib.hid (member_is (ptAt cm j) true wr hm)
                  generalize ptAt cm j = z at *
                  go_wp2_with fail
                  refine HM.out.mono ?_
                  rintro e w3 ⟨rfl, hO3⟩
                  have HO3 := Lib.hid (HO.out.trans hO3)
                  clear hO3
                  go_wp2
                  go_roundw
                  case rel => exact ⟨j + 1, by omega, by go_num, HN.out, HO3.out⟩
                  case measure => simp [intOf]; omega
              · have HT := Lib.hid (show bb = true by rw [HBB.out]; exact membersB_all cm (fun i hi => HAL.out i (by omega)))
                have i2 : ¬ (j : Int) < cm.length := by omega
                have HO3 := Lib.hid (HOQ.out.trans HO.out)
                go_wp2
                go_ret
                exact ⟨by rw [HT.out]; rfl, HO3.out⟩
          · rw [decide_eq_false h3] at HBB
            have HF := Lib.hid (show bb = false by rw [HBB.out]; simp)
            have q1 : ¬ (n : Int) < 1 := by omega
            have q2 : ¬ (60 : Int) < n := by omega
            have q3 : ((cm.length : Int) != needZ n) = true := by rw [bne_iff_ne]; exact h3
            clear h3 HBB
            generalize needZ n = nz at *
            go_wp2_with fail
            go_quiet ((go_at_call 32; exact quiet_left (HND.out _)))
            have HOQ := Lib.hid (HA.out.drewN nq)
            go_wp2
            go_ret
            exact ⟨by rw [HF.out]; rfl, HOQ.out⟩
        · have HF := Lib.hid (show bb = false by rw [HBB.out, decide_eq_false h2]; simp)
          have q1 : ¬ (n : Int) < 1 := by omega
          have q2 : (60 : Int) < n := by omega
          clear HBB
          go_wp2_with fail
          go_quiet (fail)
          have HOQ := Lib.hid (HA.out.drewN nq)
          go_wp2
          go_ret
          exact ⟨by rw [HF.out]; rfl, HOQ.out⟩
      · have HF := Lib.hid (show bb = false by rw [HBB.out, decide_eq_false h1]; simp)
        have q1 : (n : Int) < 1 := by omega
        clear HBB
        go_wp2_with fail
        go_quiet (fail)
        have HOQ := Lib.hid (HA.out.drewN nq)
        go_wp2
        go_ret
        exact ⟨by rw [HF.out]; rfl, HOQ.out⟩
end Go.Proofs.YtalclldccnichaaGreat
