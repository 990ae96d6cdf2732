/-
  Plain: resharing. The reference's All, Right and Again, where keys are right. The reference's Again, where all fits. The reference's Factors, with who owns its result. The reference's Reshared. Plain: a made group reshares to a made crew.
-/
import Derived.Test.YtalclldccnichaaGreatAgain
import Derived.Test.YtalclldccnichaaGreatAtLaw
import Derived.Test.YtalclldccnichaaGreatWtF
import Derived.Test.YtalclldccnichaaGreatJnLaw
import Derived.Test.YtalclldccnichaaGreatRef08
import Derived.Test.YtalclldccnichaaGreatJnWalk
namespace Go.Proofs.YtalclldccnichaaGreat
open Go.RowKit

/-- The sum of coefficients with powers. -/
def evF (f : Nat → Int) (x : Int) : Nat → Int
  | 0 => 0
  | k + 1 => evF f x k + f k * x ^ k
theorem ev_evF (cs : List Int) (x : Int) : ∀ k, k ≤ cs.length → ev (cs.take k) x = evF (ptAt cs) x k
  | 0, _ => by simp [ev, evF]
  | k + 1, h => by rw [take_snocA cs k (by omega), ev_snoc, ev_evF cs x k (by omega), List.length_take, Nat.min_eq_left (by omega), evF]
theorem evF_cong (f g : Nat → Int) (x : Int) : ∀ k, (∀ j, j < k → Cong gQ (f j) (g j)) → Cong gQ (evF f x k) (evF g x k)
  | 0, _ => Cong.refl _ _
  | k + 1, h => by rw [evF, evF]; exact (evF_cong f g x k (fun j hj => h j (by omega))).add ((h k (by omega)).mul (Cong.refl _ _))
theorem evF_lin (f g : Nat → Int) (c x : Int) : ∀ k, evF (fun j => f j + c * g j) x k = evF f x k + c * evF g x k
  | 0 => by simp [evF]
  | k + 1 => by rw [evF, evF, evF, evF_lin f g c x k]; grind
theorem evF_zero (x : Int) : ∀ k, evF (fun _ => 0) x k = 0
  | 0 => rfl
  | k + 1 => by rw [evF, evF_zero x k]; simp
/-- The coefficients with one index. -/
def colP (P : List (List Int)) (j : Nat) : List Int := P.map (fun p => ptAt p j)
theorem colP_at (P : List (List Int)) (j k : Nat) (h : k < P.length) : ptAt (colP P j) k = ptAt (P.getD k []) j := by
  unfold colP ptAt; simp [List.getD, h]
/-- The coefficients of the new group, behind the first k dealings. -/
def newTo (F : List Int) (P : List (List Int)) (nd k : Nat) : List Int := (List.range nd).map (fun j => combRTo F (colP P j) k)
def newC (F : List Int) (P : List (List Int)) (nd : Nat) : List Int := newTo F P nd F.length
theorem newTo_len (F : List Int) (P : List (List Int)) (nd k : Nat) : (newTo F P nd k).length = nd := by unfold newTo; simp
theorem newTo_at (F : List Int) (P : List (List Int)) (nd k j : Nat) (h : j < nd) : ptAt (newTo F P nd k) j = combRTo F (colP P j) k := by
  unfold newTo ptAt; simp [List.getD, h]
theorem newC_bd (F : List Int) (P : List (List Int)) (nd : Nat) (j : Nat) : 0 ≤ ptAt (newC F P nd) j ∧ ptAt (newC F P nd) j < 1152921504606845789 := by
  by_cases h : j < nd
  · unfold newC; rw [newTo_at _ _ _ _ _ h]; exact combRTo_bd _ _ _
  · have : ptAt (newC F P nd) j = 0 := by unfold newC ptAt; rw [List.getD_eq_getElem?_getD, List.getElem?_eq_none (by rw [newTo_len]; omega)]; rfl
    rw [this]; decide
theorem comb_ev (F : List Int) (P : List (List Int)) (V : List Int) (nd : Nat) (x : Int) (hP : P.length = F.length) (hd : ∀ k, k < F.length → (P.getD k []).length = nd) (hV : ∀ k, k < F.length → ptAt V k = valZ (P.getD k []) x) :
    ∀ k, k ≤ F.length → Cong gQ (combRTo F V k) (evF (fun j => combRTo F (colP P j) k) x nd)
  | 0, _ => Cong.of_eq (by simp only [combRTo]; rw [evF_zero])
  | k + 1, h => by
    have ih := comb_ev F P V nd x hP hd hV k (by omega)
    have h1 : Cong gQ (combRTo F V (k + 1)) (evF (fun j => combRTo F (colP P j) k) x nd + facR F k * ev (P.getD k []) x) := by
      rw [combRTo]
      refine (Cong.mod gQ _).trans (ih.add ((Cong.mod gQ _).trans ((Cong.refl _ _).mul ?_)))
      rw [hV k (by omega)]; exact valZ_cong _ _
    have h2 : ev (P.getD k []) x = evF (ptAt (P.getD k [])) x nd := by
      have := ev_evF (P.getD k []) x nd (by rw [hd k (by omega)]; exact Nat.le_refl _)
      rwa [List.take_of_length_le (by rw [hd k (by omega)]; exact Nat.le_refl _)] at this
    rw [h2, ← evF_lin] at h1
    refine h1.trans (evF_cong _ _ x nd (fun j _ => ?_)).symm
    rw [combRTo, colP_at P j k (by omega)]
    exact (Cong.mod gQ _).trans ((Cong.refl _ _).add (Cong.mod gQ _))
/-- P8.6, P8.7: shares of the dealings join to shares of the new polynomial. -/
theorem share_new (F : List Int) (P : List (List Int)) (V : List Int) (nd : Nat) (x : Int) (hP : P.length = F.length) (hd : ∀ k, k < F.length → (P.getD k []).length = nd) (hV : ∀ k, k < F.length → ptAt V k = valZ (P.getD k []) x) :
    combRTo F V F.length = valZ (newC F P nd) x := by
  have h1 := comb_ev F P V nd x hP hd hV F.length (Nat.le_refl _)
  have h2 : ev (newC F P nd) x = evF (fun j => combRTo F (colP P j) F.length) x nd := by
    have h3 := ev_evF (newC F P nd) x nd (by unfold newC; rw [newTo_len]; exact Nat.le_refl _)
    rw [List.take_of_length_le (by unfold newC; rw [newTo_len]; exact Nat.le_refl _)] at h3
    rw [h3]
    have : ∀ m, m ≤ nd → evF (ptAt (newC F P nd)) x m = evF (fun j => combRTo F (colP P j) F.length) x m := by
      intro m
      induction m with
      | zero => intro _; rfl
      | succ m ih => intro hm; rw [evF, evF, ih (by omega)]; unfold newC; rw [newTo_at _ _ _ _ _ (by omega)]
    exact this nd (Nat.le_refl _)
  rw [← h2] at h1
  have b1 := combRTo_bd F V F.length
  have b2 := valZ_bd (newC F P nd) x
  exact (h1.trans (valZ_cong _ _).symm).eq b1.1 b1.2 b2.1 b2.2
/-- The new commitments are those of the new polynomial. -/
theorem acol_new (F : List Int) (P : List (List Int)) (ds : List Dl) (nd : Nat) (hF : diffB F = true) (hP : P.length = F.length) (hD : ds.length = F.length)
    (hc : ∀ k j, k < F.length → j < nd → ptAt (dlAt ds k).cm j = powM 4 (ptAt (P.getD k []) j) 2305843009213691579 ∧ 0 ≤ ptAt (P.getD k []) j ∧ ptAt (P.getD k []) j < 1152921504606845789) :
    acolTo ds F nd nd = cmTo (newC F P nd) nd := by
  refine list_ext (by rw [acolTo_len, cmTo_len]) (fun j hj => ?_)
  rw [acolTo_len] at hj
  rw [acolTo_in ds F nd nd j hj hj, cmTo_at _ _ _ hj]
  unfold newC
  rw [newTo_at _ _ _ _ _ hj, lift_eq _ _ hF]
  refine lift_law F (colJ ds j) (colP P j) 4 mem_four (fun k hk => ?_) F.length (Nat.le_refl _)
  have := hc k j hk hj
  unfold colJ
  rw [cjTo_in ds j _ k (by omega) (by omega), colP_at P j k (by omega)]
  exact this
/-- The secret stays. -/
theorem new_first (F : List Int) (P : List (List Int)) (C : List Int) (nd : Nat) (hF : diffB F = true) (hP : P.length = F.length) (h1 : 1 ≤ nd) (hl : C.length ≤ F.length) (hC : 0 ≤ ptAt C 0 ∧ ptAt C 0 < 1152921504606845789) (h0 : ∀ k, k < F.length → ptAt (P.getD k []) 0 = valZ C (ptAt F k)) :
    ptAt (newC F P nd) 0 = ptAt C 0 := by
  unfold newC
  rw [newTo_at _ _ _ _ _ (by omega)]
  exact comb_first F (colP P 0) C hF hl hC (fun k hk => by rw [colP_at P 0 k (by omega)]; exact h0 k hk)
end Go.Proofs.YtalclldccnichaaGreat

namespace Go.Proofs.YtalclldccnichaaGreat
open Go.RowKit

set_option maxHeartbeats 1000000 in
theorem rall_any (ac ap : Option Addr) (cc cp n : Nat) (rows : List (List Int)) (w : World) (hG : GridAt w (.slice ap rows.length cp) rows) (hs : ∀ k, k ≤ rows.length → gridTo rows k ≤ 1000000) :
    Calls Tryz.prog 78 #[.agg #[.slice ac n cc, .slice ap rows.length cp]] w fun e w' => e = .returned (.int .i64 (gridN rows)) ∧ Only (fun _ => False) w w' := by
  have hA := (Only.refl (fun _ => False) w).alloc (.cells #[.slice ac n cc, .slice ap rows.length cp] 28)
  have hz := heap_alloc_last w (.cells #[.slice ac n cc, .slice ap rows.length cp] 28)
  have HA := Lib.hid hA
  have HG := Lib.hid (hG.only hA)
  have HS := Lib.hid hs
  have HGN := Lib.hid (show gridN rows = gridTo rows rows.length from rfl)
  have e1 : _ = some (Value.slice ap rows.length cp) := cell_of_row _ _ 1 _ _ _ hz
  have l0 := own_lt0 hz
  clear hG hA hz hs
  go_enter Tryz.func78, Tryz.ntmps78
  go_wp2_with fail
  generalize w.alloc (.cells #[.slice ac n cc, .slice ap rows.length cp] 28) = w1 at *
  go_loop [3, 4] (fun vn vi => ∃ k : Nat, k ≤ rows.length ∧ vi = .int .i64 k ∧ vn = .int .i64 (gridTo rows k : Nat)) (fun _ vi => rows.length - (intOf vi).toNat)
  case atStart => exact ⟨0, Nat.zero_le _, rfl, rfl⟩
  case round =>
    obtain ⟨k, hk, rfl, rfl⟩ := hrel
    by_cases hlt : k < rows.length
    · have i1 : (k : Int) < rows.length := by omega
      have i2 : 0 ≤ (k : Int) := by omega
      obtain ⟨b, off, rfl, hb, hcp1, hcp2, hc⟩ : ∃ b off, ap = some ⟨b, off, none⟩ ∧ b < w1.heap.size ∧ rows.length ≤ cp ∧ cp ≤ 9223372036854775807 ∧ ∀ j, j < rows.length → ∃ u, w1.cell? ⟨b, off + j, none⟩ = some u ∧ PtsAt w1.heap.size w1 u (rows.getD j []) := by
        rcases HG.out with ⟨_, _, _, h0⟩ | ⟨b, off, cap, hv, hb, h1, h2, hc⟩
        · rw [h0] at hlt; simp at hlt
        · simp only [Value.slice.injEq, true_and] at hv
          obtain ⟨rfl, rfl⟩ := hv
          exact ⟨b, off, rfl, hb, h1, h2, hc⟩
      obtain ⟨u, hu, hp⟩ := hc k hlt
      obtain ⟨au, cu, rfl⟩ := hp.slice
      have HN := Lib.hid (show gridTo rows (k + 1) = gridTo rows k + (rows.getD k []).length from rfl)
      have s1 := HS.out k hk
      have s2 := HS.out (k + 1) (by omega)
      rw [HN.out] at s2
      generalize gridTo rows k = t at *
      generalize (rows.getD k []).length = m at *
      clear hc hp
      go_wp2
      go_round
      case rel => exact ⟨k + 1, by omega, by go_num, by rw [HN.out]; go_num⟩
      case measure => simp [intOf]; omega
    · obtain rfl : k = rows.length := by omega
      have i1 : ¬ (rows.length : Int) < rows.length := by omega
      go_wp2
      go_ret
      exact ⟨by rw [HGN.out]; rfl, HA.out⟩
theorem rowsOk_at (rows : List (List Int)) : ∀ n, rowsOk rows n = true → ∀ k, k < n → 0 < (rows.getD k []).length ∧ ∀ t, t < (rows.getD k []).length → ptAt (rows.getD k []) t = (gridTo rows k : Nat) + t + 1
  | n + 1, h, k, hk => by
    rw [rowsOk, Bool.and_eq_true, Bool.and_eq_true, decide_eq_true_eq] at h
    by_cases e : k = n
    · subst e
      refine ⟨h.2.1, ?_⟩
      have hr : ∀ m, rowOkTo (gridTo rows k) (rows.getD k []) m = true → ∀ t, t < m → ptAt (rows.getD k []) t = (gridTo rows k : Nat) + t + 1 := by
        intro m
        induction m with
        | zero => intro _ t ht; omega
        | succ m ih =>
          intro hm t ht
          rw [rowOkTo, Bool.and_eq_true, decide_eq_true_eq] at hm
          by_cases e : t = m
          · rw [e]; exact hm.2
          · exact ih hm.1 t (by omega)
      exact hr _ h.2.2
    · exact rowsOk_at rows n h.1 k (by omega)
theorem membersB_at (cm : List Int) (h : membersB cm = true) (j : Nat) (hj : j < cm.length) : memB (ptAt cm j) = true := by
  cases e : memB (ptAt cm j) with
  | true => rfl
  | false => rw [membersB_take cm j hj e] at h; exact h

set_option maxRecDepth 100000 in
set_option maxHeartbeats 2000000 in
theorem rright_yes (ac ap : Option Addr) (cc cp : Nat) (cm : List Int) (rows : List (List Int)) (w : World) (hC : PtsAt w.heap.size w (.slice ac cm.length cc) cm) (hG : GridAt w (.slice ap rows.length cp) rows) (hs : ∀ k, k ≤ rows.length → gridTo rows k ≤ 1000000) (hb : rightKB rows cm = true) :
    Calls Tryz.prog 77 #[.agg #[.slice ac cm.length cc, .slice ap rows.length cp]] w fun e w' => e = .returned (.bool true) ∧ Only (fun _ => False) w w' := by
  have hA := (Only.refl (fun _ => False) w).alloc (.cells #[.slice ac cm.length cc, .slice ap rows.length cp] 28)
  have hz := heap_alloc_last w (.cells #[.slice ac cm.length cc, .slice ap rows.length cp] 28)
  have HZ := Lib.hid hz
  have HA := Lib.hid hA
  have HC := Lib.hid (hC.only hA)
  have HG := Lib.hid (hG.only hA)
  have HS := Lib.hid hs
  have hcm := (right_need hb).2.1
  unfold rightKB at hb
  simp only [Bool.and_eq_true, decide_eq_true_eq] at hb
  obtain ⟨h0, ⟨⟨h1, h2⟩, h3⟩, h4⟩ := hb
  have HR := Lib.hid (rowsOk_at rows rows.length h0)
  have HM := Lib.hid (membersB_at cm h4)
  have HNZ := Lib.hid h3
  have HGN := Lib.hid (show gridN rows = gridTo rows rows.length from rfl)
  have e0 : _ = some (Value.slice ac cm.length cc) := cell_of_row _ _ 0 _ _ _ hz
  have e1 : _ = some (Value.slice ap rows.length cp) := cell_of_row _ _ 1 _ _ _ hz
  have l0 := own_lt0 hz
  clear hC hG hA hz hs h0 h4 h3
  go_enter Tryz.func77, Tryz.ntmps77
  go_wp2_with fail
  generalize w.alloc (.cells #[.slice ac cm.length cc, .slice ap rows.length cp] 28) = w1 at *
  go_loop [3, 4] (fun vn vi => ∃ k : Nat, k ≤ rows.length ∧ vi = .int .i64 k ∧ vn = .int .i64 (gridTo rows k : Nat)) (fun _ vi => rows.length - (intOf vi).toNat)
  case atStart => exact ⟨0, Nat.zero_le _, rfl, rfl⟩
  case round =>
    obtain ⟨k, hk, rfl, rfl⟩ := hrel
    have hs1 := HS.out k hk
    by_cases hlt : k < rows.length
    · have i1 : (k : Int) < rows.length := by omega
      have i1' : 0 ≤ (k : Int) := by omega
      obtain ⟨b, off, rfl, hb, hcp1, hcp2, hc⟩ : ∃ b off, ap = some ⟨b, off, none⟩ ∧ b < w1.heap.size ∧ rows.length ≤ cp ∧ cp ≤ 9223372036854775807 ∧ ∀ j, j < rows.length → ∃ u, w1.cell? ⟨b, off + j, none⟩ = some u ∧ PtsAt w1.heap.size w1 u (rows.getD j []) := by
        rcases HG.out with ⟨_, _, _, h0⟩ | ⟨b, off, cap, hv, hb, h1, h2, hc⟩
        · rw [h0] at hlt; simp at hlt
        · simp only [Value.slice.injEq, true_and] at hv
          obtain ⟨rfl, rfl⟩ := hv
          exact ⟨b, off, rfl, hb, h1, h2, hc⟩
      obtain ⟨u, hu, hp⟩ := hc k hlt
      have HP := Lib.hid hp
      obtain ⟨au, cu, rfl⟩ := hp.slice
      obtain ⟨hr0, hrt⟩ := HR.out k hlt
      have HRT := Lib.hid hrt
      have HGS := Lib.hid (show gridTo rows (k + 1) = gridTo rows k + (rows.getD k []).length from rfl)
      have hs2 := HS.out (k + 1) (by omega)
      rw [HGS.out] at hs2
      generalize gridTo rows k = s at *
      generalize rows.getD k [] = r at *
      have q1 : ((r.length : Int) == 0) = false := beq_eq_false_iff_ne.2 (by omega)
      clear hc hp hrt
      go_wp2_with fail
      go_loop [3, 5] (fun vn vt => ∃ t : Nat, t ≤ r.length ∧ vt = .int .i64 t ∧ vn = .int .i64 (s + t : Nat)) (fun _ vt => r.length - (intOf vt).toNat)
      case atStart => exact ⟨0, Nat.zero_le _, rfl, rfl⟩
      case round =>
        obtain ⟨t, ht, rfl, rfl⟩ := hrel
        by_cases htl : t < r.length
        · obtain ⟨br, orr, rfl, hbr, hrl, hcr1, hcr2, hcell⟩ := HP.out.cellAt htl
          have i2 : (t : Int) < r.length := by omega
          have i3 : 0 ≤ (t : Int) := by omega
          have hx := HRT.out t htl
          have q2 : (ptAt r t != ((s + t : Nat) : Int) + 1) = false := by rw [hx]; simp
          have q3 : IntKind.i64.wrap (((s + t : Nat) : Int) + 1) = ((s + t : Nat) : Int) + 1 := IntWalk.i64_in _ (by omega)
          generalize ptAt r t = x at *
          clear hx hrl
          go_wp2
          go_round
          case rel => exact ⟨t + 1, by omega, by go_num, by go_num⟩
          case measure => simp [intOf]; omega
        · obtain rfl : t = r.length := by omega
          have i2 : ¬ (r.length : Int) < r.length := by omega
          go_wp2
          go_round
          case rel => exact ⟨k + 1, by omega, by go_num, by rw [HGS.out]⟩
          case measure => simp [intOf]; omega
    · obtain rfl : k = rows.length := by omega
      have i1 : ¬ (rows.length : Int) < rows.length := by omega
      rw [HGN.out] at h1 h2 HNZ
      generalize gridTo rows rows.length = n at *
      have HND := Lib.hid (fun w => rneed_is n cm.length w (by omega) HNZ.out.symm)
      have q1 : ¬ (n : Int) < 1 := by omega
      have q2 : ¬ (60 : Int) < n := by omega
      have q3 : ((cm.length : Int) != cm.length) = false := by simp
      go_wp2_with fail
      go_quiet ((go_at_call 34; exact quiet_left (HND.out _)))
      have HOQ := Lib.hid (HA.out.drewN nq)
      have HCQ := Lib.hid (HC.out.only ((Only.refl (fun _ => False) w1).drewN nq))
      have HZQ := Lib.hid (show (w1.drewN nq).heap[w.heap.size]? = some (.cells #[.slice ac cm.length cc, .slice ap rows.length cp] 28 (0, 0)) from HZ.out)
      clear e0 e1 l0 HA HC HG HZ
      generalize w1.drewN nq = w2 at *
      go_wp2_with fail
      go_loopw [6] (fun vi wr => ∃ (j : Nat), j ≤ cm.length ∧ vi = .int .i64 j ∧ Only (fun _ => False) w2 wr) (fun vi _ => cm.length - (intOf vi).toNat)
      case atStart => exact ⟨0, Nat.zero_le _, rfl, Only.refl _ _⟩
      case round =>
        obtain ⟨j, hj, rfl, hO⟩ := hrel
        have HO := Lib.hid hO
        have hzr := row_still hO HZQ.out
        have d0 : _ = some (Value.slice ac cm.length cc) := cell_of_row _ _ 0 _ _ _ hzr
        have dl := own_lt0 hzr
        clear hO hzr
        by_cases hjl : j < cm.length
        · obtain ⟨b, off, rfl, hb, hl0, hc1, hc2, hcell⟩ := (HCQ.out.only HO.out).cellAt hjl
          have i2 : (j : Int) < cm.length := by omega
          have i3 : 0 ≤ (j : Int) := by omega
          have HMM := Lib.hid (fun w => rmember_is (ptAt cm j) true w (HM.out j hjl))
          generalize ptAt cm j = z at *
          clear hl0
          go_wp2_with fail
          refine (HMM.out _).mono ?_
          rintro e w3 ⟨rfl, rfl⟩
          go_wp2
          go_roundw
          case rel => exact ⟨j + 1, by omega, by go_num, HO.out⟩
          case measure => simp [intOf]; omega
        · obtain rfl : j = cm.length := by omega
          have i2 : ¬ (cm.length : Int) < cm.length := by omega
          have HO3 := Lib.hid (HOQ.out.trans HO.out)
          go_wp2
          go_ret
          exact ⟨rfl, HO3.out⟩
end Go.Proofs.YtalclldccnichaaGreat

namespace Go.Proofs.YtalclldccnichaaGreat
open Go.RowKit

theorem chainTo_at (rows : List (List Int)) (cm F : List Int) (ds : List Dl) : ∀ n, chainTo rows cm F ds n = true → ∀ k, k < n → ptAt F k ≤ gridN rows ∧ ptAt (dlAt ds k).cm 0 = atZ cm (ptAt F k)
  | n + 1, h, k, hk => by
    rw [chainTo, Bool.and_eq_true, Bool.and_eq_true, decide_eq_true_eq, decide_eq_true_eq] at h
    by_cases e : k = n
    · subst e; exact h.2
    · exact chainTo_at rows cm F ds n h.1 k (by omega)
theorem agB_parts {rows : List (List Int)} {cm : List Int} {l : List Mb} {F : List Int} {ds : List Dl} (h : agB rows cm l F ds = true) :
    rightKB rows cm = true ∧ F.length = cm.length ∧ ds.length = F.length ∧ diffB F = true ∧ rightB l = true ∧ fitB ds (nOf l) (ndOf l) = true ∧ chainTo rows cm F ds F.length = true := by
  unfold agB headB at h
  simp only [Bool.and_eq_true, decide_eq_true_eq] at h
  obtain ⟨⟨h1, h2, h3, h4⟩, ⟨h5, h6⟩, h7⟩ := h
  exact ⟨h1, h2, h3, h4, h5, h6, h7⟩
/-- What the reference's Again leaves. -/
def RAgPost (w : World) (l : List Mb) (F : List Int) (ds : List Dl) (e : Ending) (w' : World) : Prop :=
  Only (fun _ => False) w w' ∧ ∃ vc vp, e = .returned (.tuple #[.agg #[vc, vp], .bool true]) ∧ PtsAt w'.heap.size w' vc (mixL ds (facs F) (ndOf l)) ∧ GridAt w' vp (pointsOf l)

set_option maxRecDepth 100000 in
set_option maxHeartbeats 4000000 in
theorem ragain_yes (ac ap : Option Addr) (cc cp : Nat) (mv fv dv : Value) (rows : List (List Int)) (cm : List Int) (l : List Mb) (F : List Int) (ds : List Dl) (w : World)
    (hC : PtsAt w.heap.size w (.slice ac cm.length cc) cm) (hG : GridAt w (.slice ap rows.length cp) rows) (hs : ∀ k, k ≤ rows.length → gridTo rows k ≤ 1000000)
    (hM : MbsAt w mv l) (hw : MbsW l) (hF : PtsAt w.heap.size w fv F) (hD : DlsAt w dv ds) (hS : DlsS ds) (hag : agB rows cm l F ds = true) :
    Calls Tryz.prog 51 #[.agg #[.slice ac cm.length cc, .slice ap rows.length cp], mv, fv, dv] w (RAgPost w l F ds) := by
  obtain ⟨i0, hi0, hz0, hz1, hz2⟩ := info_parts Tryz.infoI
  obtain ⟨ad, cd, rfl⟩ := hD.slice
  obtain ⟨af, cf, rfl⟩ := hF.slice
  obtain ⟨am, cmm, rfl⟩ := hM.slice
  obtain ⟨hrk, hfl, hdl, hdf, hrl, hft, hch⟩ := agB_parts hag
  obtain ⟨hn1, hn2, hn3, hn4⟩ := right_need hrk
  obtain ⟨s1, s2, s3, s4, s5, s6, s7, s8⟩ := right_sum hrl
  obtain ⟨wA, hwA⟩ : ∃ wA, (w.alloc (.cells #[.slice ac cm.length cc, .slice ap rows.length cp] 28)).alloc (.cells #[.slice none 0 0, .slice none 0 0] 28) = wA := ⟨_, rfl⟩
  have hA : Only (fun _ => False) w wA := by rw [← hwA]; exact ((Only.refl _ w).alloc _).alloc _
  have HA := Lib.hid hA
  have HZ0 := Lib.hid (show wA.heap[w.heap.size + 1]? = some (.cells #[.slice none 0 0, .slice none 0 0] 28 (0, 0)) by rw [← hwA]; have := heap_alloc_last (w.alloc (.cells #[.slice ac cm.length cc, .slice ap rows.length cp] 28)) (.cells #[.slice none 0 0, .slice none 0 0] 28); rwa [World.size_alloc] at this)
  have HK0 := Lib.hid (show wA.heap[w.heap.size]? = some (.cells #[.slice ac cm.length cc, .slice ap rows.length cp] 28 (0, 0)) by rw [← hwA]; exact row_still ((Only.refl _ _).alloc _) (heap_alloc_last w _))
  have HWA := Lib.hid hwA
  have HC := Lib.hid (hC.only hA)
  have HG := Lib.hid (hG.only hA)
  have HF := Lib.hid (hF.only hA)
  have HD := Lib.hid (hD.only hA)
  have HM := Lib.hid (hM.only hA)
  have HW := Lib.hid hw
  have HS := Lib.hid hS
  have HGS := Lib.hid hs
  have HFL := Lib.hid hfl
  have HDL := Lib.hid hdl
  have HDF := Lib.hid hdf
  have HRK := Lib.hid hrk
  have HRL := Lib.hid hrl
  have HFT := Lib.hid hft
  have HCHN := Lib.hid (chainTo_at rows cm F ds F.length hch)
  have HND5 := Lib.hid s5
  have HNOF := Lib.hid s8
  have hlen := hS.len
  have q2 : ((F.length : Int) != cm.length) = false := by rw [hfl]; simp
  have q3 : ((ds.length : Int) != F.length) = false := by rw [hdl]; simp
  have hF60 : F.length ≤ 60 := by omega
  have hF1 : 1 ≤ F.length := by omega
  have hd1 : 1 ≤ ds.length := by omega
  clear hD hM hA hw hS hC hG hF hwA hs hfl hdl hdf hrk hrl hft hch hag s1 s2 s5 s8
  generalize hnn : nOf l = n at *
  generalize hnd0 : ndOf l = nd at *
  have q1 : ((n : Int) == 0) = false := beq_eq_false_iff_ne.2 (by omega)
  go_enter Tryz.func51, Tryz.ntmps51
  go_wp2_with fail
  rw [HWA.out]
  clear HWA
  refine (rtotal_any _ l n wA HW.out HM.out HNOF.out).mono ?_
  rintro e w1 ⟨rfl, hO1⟩
  have HO1 := Lib.hid hO1
  have HZ1 := Lib.hid (row_still hO1 HZ0.out)
  have HK1 := Lib.hid (row_still hO1 HK0.out)
  have o0 : _ = some (Value.slice ac cm.length cc) := cell_of_row _ _ 0 _ _ _ HK1.out
  have o1 : _ = some (Value.slice ap rows.length cp) := cell_of_row _ _ 1 _ _ _ HK1.out
  have ol := own_lt0 HK1.out
  clear hO1 HZ0 HK0
  go_wp2_with fail
  refine (rright_yes ac ap cc cp cm rows w1 (HC.out.only HO1.out) (HG.out.only HO1.out) HGS.out HRK.out).mono ?_
  rintro e w2 ⟨rfl, hO2⟩
  have HO2 := Lib.hid (HO1.out.trans hO2)
  have HZ2 := Lib.hid (row_still hO2 HZ1.out)
  have HK2 := Lib.hid (row_still hO2 HK1.out)
  clear hO2 HZ1 HK1 o0 o1 ol
  have o0 : _ = some (Value.slice ac cm.length cc) := cell_of_row _ _ 0 _ _ _ HK2.out
  have ol := own_lt0 HK2.out
  go_wp2_with fail
  refine (rfits_is _ ds n nd true w2 (HD.out.only HO2.out) HS.out (by omega) HND5.out (by rw [HFT.out, decide_eq_true hd1]; rfl)).mono ?_
  rintro e w3 ⟨rfl, hO3⟩
  have HO3 := Lib.hid (HO2.out.trans hO3)
  have HZ3 := Lib.hid (row_still hO3 HZ2.out)
  have HK3 := Lib.hid (row_still hO3 HK2.out)
  clear hO3 HZ2 HK2 o0 ol q1 q2 q3
  go_wp2_with fail
  go_loopw [12] (fun vi wr => ∃ i : Nat, i ≤ F.length ∧ vi = .int .i64 i ∧ Only (fun _ => False) w3 wr) (fun vi _ => F.length - (intOf vi).toNat)
  case atStart => exact ⟨0, Nat.zero_le _, rfl, Only.refl _ _⟩
  case round =>
    obtain ⟨i, hi, rfl, hO⟩ := hrel
    have HO := Lib.hid hO
    generalize wr = w4 at *
    by_cases hlt : i < F.length
    · obtain ⟨hpt, hin⟩ := diff_at HDF.out hlt
      obtain ⟨hp1, hp2⟩ := ptB_spec hpt
      have HNE := Lib.hid (inTo_spec F i (ptAt F i) hin)
      have i1 : (i : Int) < F.length := by omega
      have i1' : 0 ≤ (i : Int) := by omega
      obtain ⟨hc1, hc2⟩ := HCHN.out i hlt
      have HX := Lib.hid (show ∃ x, ptAt F i = x from ⟨_, rfl⟩)
      clear hO hin hpt
      go_wp2_with fail
      go_loopw [13] (fun vk wr => ∃ k : Nat, k ≤ i ∧ vk = .int .i64 k ∧ Only (fun _ => False) w4 wr) (fun vk _ => i - (intOf vk).toNat)
      case atStart => exact ⟨0, Nat.zero_le _, rfl, Only.refl _ _⟩
      case round =>
        obtain ⟨k, hk, rfl, hO5⟩ := hrel
        have HO5 := Lib.hid hO5
        generalize wr = w5 at *
        have HF5 := Lib.hid (HF.out.only ((HO3.out.trans HO.out).trans hO5))
        clear hO5
        by_cases hkl : k < i
        · obtain ⟨b, off, rfl, hb, hl0, hcc1, hcc2, x1⟩ := HF5.out.cellAt (k := k) (by omega)
          obtain ⟨b', off', e', _, _, _, _, x2⟩ := HF5.out.cellAt hlt
          simp only [Option.some.injEq, Addr.mk.injEq] at e'
          obtain ⟨rfl, rfl, _⟩ := e'
          have hne := HNE.out k hkl
          have q1 : (ptAt F k == ptAt F i) = false := beq_eq_false_iff_ne.2 hne
          have i2 : (k : Int) < F.length := by omega
          have i3 : 0 ≤ (k : Int) := by omega
          have i4 : (k : Int) < i := by omega
          generalize ptAt F k = y at *
          generalize ptAt F i = x at *
          clear hl0 hne
          go_wp2_with fail
          go_quiet (fail)
          have HO6 := Lib.hid (HO5.out.drewN nq)
          go_wp2
          go_roundw
          case rel => exact ⟨k + 1, by omega, by go_num, HO6.out⟩
          case measure => simp [intOf]; omega
        · obtain rfl : k = i := by omega
          have i4 : ¬ (k : Int) < k := by omega
          have HO6 := Lib.hid (HO.out.trans HO5.out)
          have HKW := Lib.hid (row_still HO6.out HK3.out)
          obtain ⟨b, off, rfl, hb, hl0, hcc1, hcc2, x1⟩ := HF5.out.cellAt hlt
          have hkd : k < ds.length := by rw [HDL.out]; exact hlt
          have i5 : (k : Int) < ds.length := by omega
          obtain ⟨bd, offd, c0, c2, rfl, hbd, hdc1, hdc2, x2, _, _, hd⟩ := (HD.out.only (HO3.out.trans HO6.out)).cellAt hkd
          have hcl := fit_at ds n nd HFT.out k hkd
          obtain ⟨a0, k0, rfl⟩ := hd.cm.slice
          obtain ⟨bc, oc, rfl, hbc, hlc, hc31, hc32, hc3⟩ := hd.cm.cellAt (k := 0) (by omega)
          have HAL := Lib.hid (fun (w' : World) (h : Only (fun _ => False) w5 w') => rall_any (some ⟨bc, oc, none⟩) ap cc cp cm.length rows w' (HG.out.only ((HO3.out.trans HO6.out).trans h)) HGS.out)
          have HAL2 := Lib.hid (fun (w' : World) (h : Only (fun _ => False) w5 w') => rall_any ac ap cc cp cm.length rows w' (HG.out.only ((HO3.out.trans HO6.out).trans h)) HGS.out)
          have HAT := Lib.hid (fun (w' : World) (h : Only (fun _ => False) w5 w') => rat_any (.slice ac cm.length cc) cm (ptAt F k) w' (HC.out.only ((HO3.out.trans HO6.out).trans h)) (by omega))
          rw [← atZ_eq] at HAT
          rw [hcl] at *
          rw [hc2] at hc3
          rw [Nat.add_zero] at hc3
          clear hc2
          generalize ptAt F k = x at *
          generalize gridN rows = g at *
          generalize atZ cm x = az at *
          have k0' : _ = some (Value.slice ac cm.length cc) := cell_of_row _ _ 0 _ _ _ HKW.out
          have k1' : _ = some (Value.slice ap rows.length cp) := cell_of_row _ _ 1 _ _ _ HKW.out
          have hwk := own_lt0 HKW.out
          have q1 : decide (x < 1) = false := decide_eq_false (by omega)
          have q2 : decide ((g : Int) < x) = false := decide_eq_false (by omega)
          have q3 : (az != az) = false := by simp
          have y0 := fun (d : Nat) (os : Array Obj) => cell_regrown k0' d os
          have y1 := fun (d : Nat) (os : Array Obj) => cell_regrown k1' d os
          have y2 := fun (d : Nat) (os : Array Obj) => cell_regrown x1 d os
          have y3 := fun (d : Nat) (os : Array Obj) => cell_regrown x2 d os
          have y4 := fun (d : Nat) (os : Array Obj) => cell_regrown hc3 d os
          clear hd hl0 hlc hk hp1 hp2 hc1 HAL
          go_wp2_with fail
          clear k0' k1' x1 x2 hc3
          refine wp_region_quiet_below (by kernel_rfl) (by kernel_rfl) ?_
          repeat (go_big_quiet_step ((first | (go_at_call 78; exact Calls.regrown_of ((HAL2.out _ (Only.ofBelow (below_regrown _ _ _) _)).mono fun _ _ h => ⟨h.1, h.2.below (Nat.le_refl _) (fun _ _ h => h)⟩)) | (go_at_call 26; exact Calls.regrown_of ((HAT.out _ (Only.ofBelow (below_regrown _ _ _) _)).mono fun _ _ h => ⟨h.1, by rw [← h.2]; exact Below.refl _ _⟩)))))
          refine wpQuiet_nil ?_
          intro w6 hw'
          obtain ⟨pq, hw''⟩ := hw'
          have HO7 := Lib.hid (Only.ofBelow (below_regrown w5 pq.d pq.os) (fun _ => False))
          rw [← hw''] at HO7
          have HO8 := Lib.hid (HO6.out.trans HO7.out)
          clear hw'' y0 y1 y2 y3 y4
          go_wp2
          go_roundw
          case rel => exact ⟨k + 1, by omega, by go_num, HO8.out⟩
          case measure => simp [intOf]; omega
    · obtain rfl : i = F.length := by omega
      have i1 : ¬ (F.length : Int) < F.length := by omega
      have HO4 := Lib.hid (HO3.out.trans HO.out)
      have HZ4 := Lib.hid (row_still hO HZ3.out)
      have HK4 := Lib.hid (row_still hO HK3.out)
      clear hO
      go_wp2_with fail
      refine (rpoints_any _ l _ HW.out (HM.out.only HO4.out)).mono ?_
      rintro e w5 ⟨hO5, ⟨_, vp, rfl, hG5⟩ | ⟨hr, _⟩⟩
      rotate_left
      · rw [HRL.out] at hr; exact absurd hr (by decide)
      have HG5 := Lib.hid hG5
      have HO5 := Lib.hid (HO4.out.trans hO5)
      obtain ⟨ap5, cp5, rfl⟩ := hG5.slice
      have HZ5 := Lib.hid (row_still hO5 HZ4.out)
      clear hO5 hG5
      go_wp2_with fail
      refine (rfactors_any _ F w5 (HF.out.only HO5.out) (by omega) (by omega)).mono ?_
      rintro e w6 ⟨vf, rfl, hf6, hO6⟩
      have HF6 := Lib.hid hf6
      have HO56 := Lib.hid hO6
      have HO6 := Lib.hid (HO5.out.trans hO6)
      obtain ⟨a6, c6, rfl⟩ := hf6.slice
      clear hO6 hf6
      go_wp2_with fail
      refine (rneed_is n nd w6 (by omega) HND5.out).mono ?_
      rintro e w6' ⟨rfl, rfl⟩
      have hfl6 : (facs F).length = F.length := facsTo_len F F.length
      have HFB := Lib.hid (fun (j : Nat) (hj : j < (facs F).length) => show 0 ≤ ptAt (facs F) j ∧ ptAt (facs F) j ≤ 9223372036854775807 from by
        rw [hfl6] at hj
        unfold facs
        rw [facsTo_at F F.length j hj]
        have := facTo_bd F j F.length
        have e1 : facR F j = facTo F j F.length := rfl
        have e2 : gQ = 1152921504606845789 := rfl
        omega)
      have HMX := Lib.hid (rmixed_any _ _ ds (facs F) nd w6 (HD.out.only HO6.out) HF6.out (by rw [hfl6, HDL.out]) (by omega) (by omega) (fun j hj => by rw [fit_at ds n nd HFT.out j hj]; exact Nat.le_refl _) HFB.out)
      have HML := Lib.hid (mixL_len ds (facs F) nd)
      clear HFB hfl6
      obtain ⟨FA, hFA⟩ : ∃ FA, facs F = FA := ⟨_, rfl⟩
      rw [hFA] at HMX HML HF6
      have HFA := Lib.hid hFA
      clear HF6
      try rw [hFA]
      clear hFA
      go_wp2_with fail
      refine HMX.out.mono ?_
      rintro e w7 ⟨vc, rfl, hown, hO7⟩
      have HO7 := Lib.hid (HO6.out.trans hO7)
      have HZ7 := Lib.hid (row_still (HO56.out.trans hO7) HZ5.out)
      have HG7 := Lib.hid (HG5.out.only (HO56.out.trans hO7))
      have HP7 := Lib.hid (pts_of_own hown (by rw [HML.out]; omega))
      obtain ⟨CL, hCL⟩ : ∃ CL, mixL ds FA nd = CL := ⟨_, rfl⟩
      rw [hCL] at hown HML HP7
      have HCL := Lib.hid hCL
      clear hCL
      obtain ⟨a7, c7, rfl⟩ := slice_of_own hown
      have HPOST := Lib.hid (show ∀ w8, Only (fun k => k = w.heap.size + 1) w7 w8 → ∃ vc vp, Ending.returned (.tuple #[.agg #[.slice a7 CL.length c7, .slice ap5 (pointsOf l).length cp5], .bool true]) = .returned (.tuple #[.agg #[vc, vp], .bool true]) ∧ PtsAt w8.heap.size w8 vc CL ∧ GridAt w8 vp (pointsOf l) from fun w8 hO8 =>
        ⟨_, _, rfl, pts_kept hO8 (keys_empty HZ7.out).1 HP7.out, grid_kept hO8 (keys_empty HZ7.out).1 (keys_empty HZ7.out).2 (points_ne HRL.out) HG7.out⟩)
      clear hO7 hown
      go_wp2_with (first | (refine wpList_store_row rfl 28 _ _ rfl (w.heap.size + 1) #[.slice a7 CL.length c7, .slice ap5 (pointsOf l).length cp5] rfl rfl 28 _ HZ7.out Tryz.infoKe rfl (two_slices _ _ _ _ _ _) ?_))
      refine bodyPost_ret (v := .tuple #[.agg #[.slice a7 CL.length c7, .slice ap5 (pointsOf l).length cp5], .bool true]) (results_cell_tmp (p := 8) (q := 9) rfl _ _ (w.heap.size + 1) 28 #[.slice a7 CL.length c7, .slice ap5 (pointsOf l).length cp5] (0, 0) _ rfl (setRow_heap _ _ _ _ _ _ HZ7.out) Tryz.underlying28 rfl Tryz.infoKe _ rfl) rfl ?_
      have hO8 : Only (fun k => k = w.heap.size + 1) w7 (w7.setRow (w.heap.size + 1) #[.slice a7 CL.length c7, .slice ap5 (pointsOf l).length cp5]) := (Only.refl (fun k => k = w.heap.size + 1) w7).trans' (T := fun k => k = w.heap.size + 1) ⟨rfl, rfl, rfl, by simp, fun k _ hk => heap_setRow_other _ _ _ _ hk⟩ (fun _ _ e => e)
      refine ⟨(HA.out.trans HO7.out).trans' hO8 (fun i hi e => by omega), ?_⟩
      rw [hnd0, HFA.out, HCL.out]
      exact HPOST.out _ hO8
end Go.Proofs.YtalclldccnichaaGreat

namespace Go.Proofs.YtalclldccnichaaGreat
open Go.RowKit

theorem own_formR {w : World} {base e size n : Nat} {v : Value} {xs : List Value} (h : w.ownsRow base e size v n xs) (hn : 0 < n) : ∃ g cap, v = .slice (some ⟨g, 0, none⟩) n cap ∧ g < w.heap.size ∧ n ≤ cap ∧ cap ≤ 9223372036854775807 ∧ base ≤ g := by
  rcases h.2 with ⟨_, h0⟩ | ⟨g, cap, cur, rfl, hb, hg, hcap, hcap2, _⟩
  · omega
  · unfold maxLen at hcap2
    exact ⟨g, cap, rfl, (Array.getElem?_eq_some_iff.1 hg).1, hcap, by omega, hb⟩
set_option maxHeartbeats 2000000 in
theorem rfactors_own (sv : Value) (zs : List Int) (w : World) (hI : PtsAt w.heap.size w sv zs) (hlen : zs.length ≤ 1000000) (hpos : 0 < zs.length) :
    Calls Tryz.prog 49 #[sv] w (ListPost w (facs zs)) := by
  obtain ⟨i0, hi, hz0, hz1, hz2⟩ := info_parts Tryz.infoI
  rcases hI with ⟨a, c, rfl, rfl⟩ | ⟨b, off, cap, rfl, hb, hc1, hc2, hc⟩
  · simp at hpos
  · have HC := Lib.hid hc
    clear hc
    go_enter Tryz.func49, Tryz.ntmps49
    go_wp2_with fail
    go_loopw [3, 4] (fun v vi wr => ∃ (k : Nat) (a : Option Addr) (c : Nat), v = .slice a k c ∧ vi = .int .i64 k ∧ k ≤ zs.length ∧ wr.ownsRow w.heap.size 3 1 (.slice a k c) k (irow (facsTo zs k)) ∧ Only (fun _ => False) w wr) (fun _ vi _ => zs.length - (intOf vi).toNat)
    case atStart => exact ⟨0, none, 0, rfl, rfl, Nat.zero_le _, World.ownsRow_nil _ _ _ _, Only.refl _ _⟩
    case round =>
      obtain ⟨k, a, c, rfl, rfl, hk, hown, hO⟩ := hrel
      have hsz := hO.size
      by_cases hlt : k < zs.length
      · have HOWN := Lib.hid hown
        have HO := Lib.hid hO
        have hck := hO.cell (HC.out k hlt) (fun h => h)
        clear hown hO
        go_wp2_with fail
        go_loopw [5, 6] (fun vf vj wi => ∃ (j : Nat), j ≤ zs.length ∧ vj = .int .i64 j ∧ vf = .int .i64 (facTo zs k j) ∧ wi.ownsRow w.heap.size 3 1 (.slice a k c) k (irow (facsTo zs k)) ∧ Only (fun _ => False) w wi) (fun _ vj _ => zs.length - (intOf vj).toNat)
        case atStart => exact ⟨0, Nat.zero_le _, rfl, rfl, HOWN.out, HO.out⟩
        case round =>
          clear HOWN HO
          obtain ⟨j, hj, rfl, rfl, hown, hO⟩ := hrel
          have HOWN := Lib.hid hown
          have HO := Lib.hid hO
          have hsz2 := hO.size
          have hcK := hO.cell (HC.out k hlt) (fun h => h)
          clear hown hO
          by_cases hjl : j < zs.length
          · have hcj := HO.out.cell (HC.out j hjl) (fun h => h)
            by_cases e : j = k
            · subst e
              have hbb : ((j : Int) != (j : Int)) = false := by simp
              go_wp2
              go_roundw
              case rel => exact ⟨j + 1, by omega, by go_num, by rw [facTo, if_pos rfl], HOWN.out, HO.out⟩
              case measure => simp [intOf]; omega
            · have hbb : ((j : Int) != (k : Int)) = true := by simp; omega
              have HA := Lib.hid (show facTo zs k (j + 1) = facTo zs k j * (ptAt zs j * invM ((ptAt zs j - ptAt zs k) % 1152921504606845789) 1152921504606845789 % 1152921504606845789) % 1152921504606845789 by rw [facTo, if_neg e]; rfl)
              clear e
              generalize ptAt zs j = y at *
              generalize ptAt zs k = x at *
              generalize facTo zs k j = f at *
              go_wp2_with fail
              go_quiet (first
                | (go_at_call 76; exact quiet_left (rsub_any y x 1152921504606845789 _ (by decide) (by decide)))
                | (go_at_call 75; exact quiet_left (rinv_lit ((y - x) % 1152921504606845789) 1152921504606845789 _ (by decide) (by decide))))
              generalize invM ((y - x) % 1152921504606845789) 1152921504606845789 = u at *
              have HOWN2 := Lib.hid (owns_drewN nq HOWN.out)
              have HO2 := Lib.hid (HO.out.drewN nq)
              clear HOWN HO
              go_wp2_with fail
              refine (rmul_any y u 1152921504606845789 _ (by decide) (by decide)).mono ?_
              rintro e w' ⟨rfl, rfl⟩
              go_wp2_with fail
              refine (rmul_any f (y * u % 1152921504606845789) 1152921504606845789 _ (by decide) (by decide)).mono ?_
              rintro e w' ⟨rfl, rfl⟩
              go_wp2
              go_roundw
              case rel => exact ⟨j + 1, by omega, by go_num, by rw [HA.out], HOWN2.out, HO2.out⟩
              case measure => simp [intOf]; omega
          · obtain rfl : j = zs.length := by omega
            have HZ := Lib.hid (show irow (facsTo zs (k + 1)) = irow (facsTo zs k) ++ [.int .i64 (facTo zs k zs.length)] by rw [facsTo, irow_append]; rfl)
            generalize facTo zs k zs.length = f at *
            have hown := HOWN.out
            go_wp2_with (at_builtin; refine wpList_append_own _ rfl _ _ 22 rfl w.heap.size 3 i0 _ 1 8 Tryz.underlying22 hi hz0 hz1 hz2 rfl (by decide) _ k (irow (facsTo zs k)) rfl (hown.alloc _) ⟨wr.heap.size, 0, none⟩ 1 1 [.int .i64 f] rfl rfl ?c1 ?c2 ?c3 ?c4 ?c5 ?_)
            case c1 => exact cell_one_new _ _ _
            case c2 => exact one_int _
            case c3 => unfold maxLen; omega
            case c4 => omega
            case c5 => simp; omega
            intro v' w2 hown2 hgrow2 _
            obtain ⟨a2, c2, hv⟩ := slice_of_own hown2
            rw [hv] at hown2 ⊢
            rw [← HZ.out] at hown2
            have HO2 := Lib.hid ((HO.out.alloc _).grow (hown.alloc _) (Nat.le_refl _) hgrow2)
            have HOWN2 := Lib.hid hown2
            clear hgrow2 hv hown hown2 HOWN HO
            go_wp2
            go_roundw
            case rel => exact ⟨k + 1, a2, c2, rfl, by go_num, by omega, HOWN2.out, HO2.out⟩
            case measure => simp [intOf]; omega
      · obtain rfl : k = zs.length := by omega
        have HP := Lib.hid (show wr.ownsRow w.heap.size 3 1 (.slice a zs.length c) (facs zs).length (irow (facs zs)) by unfold facs; rw [facsTo_len]; exact hown)
        have HO := Lib.hid hO
        clear hown hO
        go_wp2
        go_ret
        exact ⟨_, rfl, HP.out, HO.out⟩
end Go.Proofs.YtalclldccnichaaGreat

namespace Go.Proofs.YtalclldccnichaaGreat
open Go.RowKit

/-- The polynomial of a point that deals its share. -/
def rsP (F C : List Int) (seed : ByteArray) (nd i : Nat) : List Int := (polyTo (dlSeed seed (ptAt F i).toNat) nd).set 0 (valZ C (ptAt F i))
def rsPs (F C : List Int) (seed : ByteArray) (nd : Nat) : List (List Int) := (List.range F.length).map (rsP F C seed nd)
def rsDl (M : List Mb) (F C : List Int) (seed : ByteArray) (nd i : Nat) : Dl := dealZ (rsP F C seed nd i) (boxTo M M.length) (dlSeed seed (ptAt F i).toNat)
def rsTo (M : List Mb) (F C : List Int) (seed : ByteArray) (nd : Nat) : Nat → List Dl
  | 0 => []
  | k + 1 => rsTo M F C seed nd k ++ [rsDl M F C seed nd k]
theorem rsTo_len (M : List Mb) (F C : List Int) (seed : ByteArray) (nd : Nat) : ∀ k, (rsTo M F C seed nd k).length = k
  | 0 => rfl
  | k + 1 => by rw [rsTo, List.length_append, rsTo_len M F C seed nd k]; rfl
theorem rsTo_at (M : List Mb) (F C : List Int) (seed : ByteArray) (nd : Nat) : ∀ n k, k < n → dlAt (rsTo M F C seed nd n) k = rsDl M F C seed nd k
  | n + 1, k, hk => by
    have hl := rsTo_len M F C seed nd n
    unfold dlAt
    rw [rsTo, getD_snoc]
    by_cases e : k < n
    · rw [if_pos (by omega)]; exact rsTo_at M F C seed nd n k e
    · rw [if_neg (by omega), if_pos (by omega), show n = k by omega]
theorem rsP_len (F C : List Int) (seed : ByteArray) (nd i : Nat) : (rsP F C seed nd i).length = nd := by unfold rsP; rw [List.length_set, polyTo_len]
theorem rsP_bd (F C : List Int) (seed : ByteArray) (nd i j : Nat) : 0 ≤ ptAt (rsP F C seed nd i) j ∧ ptAt (rsP F C seed nd i) j < 1152921504606845789 := by
  unfold rsP
  rw [ptAt_set]
  split
  · exact valZ_bd _ _
  · exact polyTo_bd _ _ _
theorem rsPs_len (F C : List Int) (seed : ByteArray) (nd : Nat) : (rsPs F C seed nd).length = F.length := by unfold rsPs; simp
theorem rsPs_at (F C : List Int) (seed : ByteArray) (nd k : Nat) (h : k < F.length) : (rsPs F C seed nd).getD k [] = rsP F C seed nd k := by unfold rsPs; simp [List.getD, h]
/-- Coefficients to which a multiple of others is added. -/
def mulTo (L P : List Int) (f : Int) : Nat → List Int
  | 0 => L
  | j + 1 => (mulTo L P f j).set j ((ptAt L j + f * ptAt P j % 1152921504606845789) % 1152921504606845789)
theorem mulTo_len (L P : List Int) (f : Int) : ∀ j, (mulTo L P f j).length = L.length
  | 0 => rfl
  | j + 1 => by rw [mulTo, List.length_set, mulTo_len L P f j]
theorem mulTo_at (L P : List Int) (f : Int) : ∀ j i, j ≤ i → ptAt (mulTo L P f j) i = ptAt L i
  | 0, _, _ => rfl
  | j + 1, i, h => by rw [mulTo, ptAt_set, if_neg (by omega), mulTo_at L P f j i (by omega)]
theorem mulTo_in (L P : List Int) (f : Int) : ∀ j i, i < j → i < L.length → ptAt (mulTo L P f j) i = (ptAt L i + f * ptAt P i % 1152921504606845789) % 1152921504606845789
  | j + 1, i, h, h2 => by
    rw [mulTo, ptAt_set]
    by_cases e : j = i
    · subst e; rw [if_pos ⟨rfl, by rw [mulTo_len]; exact h2⟩]
    · rw [if_neg (fun c => e c.1), mulTo_in L P f j i (by omega) h2]
theorem newTo_step (F : List Int) (Ps : List (List Int)) (nd i : Nat) (hP : Ps.length = F.length) (hi : i < F.length) : mulTo (newTo F Ps nd i) (Ps.getD i []) (facR F i) nd = newTo F Ps nd (i + 1) := by
  refine list_ext (by rw [mulTo_len, newTo_len, newTo_len]) (fun j hj => ?_)
  rw [mulTo_len, newTo_len] at hj
  rw [mulTo_in _ _ _ _ _ hj (by rw [newTo_len]; exact hj), newTo_at _ _ _ _ _ hj, newTo_at _ _ _ _ _ hj, combRTo, colP_at _ _ _ (by omega)]
theorem newTo_zero (F : List Int) (Ps : List (List Int)) (nd : Nat) : newTo F Ps nd 0 = zerosL nd := by
  refine list_ext (by rw [newTo_len, zerosL_len]) (fun j hj => ?_)
  rw [newTo_len] at hj
  rw [newTo_at _ _ _ _ _ hj, zerosL_at]; rfl
theorem DsOwn.add {B : Nat} {wn w' : World} {v : Value} {qs : List (Value × Dl × Value)} (h : DsOwn B wn v qs) {q : Value × Dl × Value} {gg cap k : Nat} (hk : qs.length = k) (hq : DlOwn B wn q.1 q.2.2 q.2.1)
    (hown : w'.ownsRow B 72 3 (.slice (some ⟨gg, 0, none⟩) (k + 1) cap) (k + 1) (rowD qs ++ [q.1, .int .i64 q.2.1.pt, q.2.2])) (hg : wn.grownBy w' v.ownBlock) :
    DsOwn B w' (.slice (some ⟨gg, 0, none⟩) (k + 1) cap) (qs ++ [q]) ∧ Only (fun k => v.ownBlock = some k) wn w' := by
  subst hk
  have hO : Only (fun k => v.ownBlock = some k) wn w' := (Only.refl _ wn).grown hg (fun k e _ => e)
  have hall : ∀ q' ∈ qs ++ [q], DlOwn B wn q'.1 q'.2.2 q'.2.1 := by
    intro q' hm
    rcases List.mem_append.1 hm with hm | hm
    · exact h.each q' hm
    · rw [List.mem_singleton.1 hm]; exact hq
  refine ⟨⟨by rw [List.length_append, List.length_singleton, rowD_append]; exact hown, fun q' hm => ?_⟩, hO⟩
  have a := hall q' hm
  exact ⟨hO.owns a.cm (fun k hp hv => own_ne_ty h.own a.cm (by decide) k hv hp), hO.owns a.bx (fun k hp hv => own_ne_ty h.own a.bx (by decide) k hv hp)⟩
theorem DsOwn.still {B : Nat} {wn w' : World} {v : Value} {qs : List (Value × Dl × Value)} (h : DsOwn B wn v qs) (hO : Only (fun _ => False) wn w') : DsOwn B w' v qs := h.keep hO (fun _ _ h => h)
theorem pts_set {W : World} {p : Addr} {v : Value} {zs : List Int} (hp : W.cell? p = some (.slice none 0 0)) (h : PtsAt W.heap.size W v zs) (x : Value) : PtsAt (W.setCell p x).heap.size (W.setCell p x) v zs := by
  have hs : (W.setCell p x).heap.size = W.heap.size := by simp [World.setCell]
  rcases h with h | ⟨b, off, cap, e, hb, h1, h2, hc⟩
  · exact .inl h
  · refine .inr ⟨b, off, cap, e, by rw [hs]; exact hb, h1, h2, fun j hj => ?_⟩
    rw [World.cell?_setCell_other _ _ _ _ (fun e => by rw [e, hc j hj] at hp; simp at hp)]
    exact hc j hj
theorem grid_set {W : World} {p : Addr} {v : Value} {rows : List (List Int)} (hp : W.cell? p = some (.slice none 0 0)) (hne : ∀ j, j < rows.length → 0 < (rows.getD j []).length) (h : GridAt W v rows) (x : Value) : GridAt (W.setCell p x) v rows := by
  have hs : (W.setCell p x).heap.size = W.heap.size := by simp [World.setCell]
  rcases h with h | ⟨b, off, cap, e, hb, h1, h2, hc⟩
  · exact .inl h
  · refine .inr ⟨b, off, cap, e, by rw [hs]; exact hb, h1, h2, fun j hj => ?_⟩
    obtain ⟨u, hu, hq⟩ := hc j hj
    refine ⟨u, ?_, pts_set hp hq x⟩
    rw [World.cell?_setCell_other _ _ _ _ (fun e => by
      rw [e, hu] at hp
      obtain ⟨a, c, rfl⟩ := hq.slice
      have := hne j hj
      simp only [Option.some.injEq, Value.slice.injEq] at hp
      omega)]
    exact hu
theorem nils_sl {w : World} {g : Nat} {t : TypeId} (h : w.heap[g]? = some (.cells #[.slice none 0 0, .slice none 0 0, .slice none 0 0, .slice none 0 0, .slice none 0 0] t (0, 0))) : ∀ o a n c, w.cell? ⟨g, o, none⟩ = some (.slice a n c) → n = 0 := by
  intro o a n c e
  rw [cell_of_row _ _ o _ _ _ h] at e
  match o with
  | 0 => simp at e; omega
  | 1 => simp at e; omega
  | 2 => simp at e; omega
  | 3 => simp at e; omega
  | 4 => simp at e; omega
  | o + 5 => simp at e
theorem GrpAt.keep {S : Nat → Prop} {w1 wr w' : World} {vm vs vc : Value} {L : List Int} (h : GrpAt w1 wr vm vs vc L) (hO : Only S wr w') (h1 : ¬ S w1.heap.size) (h2 : ∀ k, vc.ownBlock = some k → ¬ S k) (h3 : ∀ k, k < w1.heap.size → ¬ S k) : GrpAt w1 w' vm vs vc L :=
  ⟨(hO.block _ (own_lt0 h.blk) h1).trans h.blk, hO.owns h.own h2, h.only.trans' hO (fun i hi e => absurd e (h3 i hi))⟩
theorem Tryz.fieldY (a b : Int) (w : World) : (Instr.field 53 (.agg #[.int .i64 a, .int .i64 b]) 1).run Tryz.prog w = .ok (.int .i64 b) w := by kernel_rfl
/-- What Reshared leaves. -/
def RsPost (w : World) (vm vx : Value) (M : List Mb) (F C : List Int) (seed : ByteArray) (nd : Nat) (e : Ending) (w' : World) : Prop :=
  Only (fun _ => False) w w' ∧ ∃ vc vk vp vd, e = .returned (.tuple #[.agg #[vm, vx, vc, vk, vp], vd]) ∧ PtsAt w'.heap.size w' vc (newC F (rsPs F C seed nd) nd) ∧ PtsAt w'.heap.size w' vk (mixL (rsTo M F C seed nd F.length) (facs F) nd) ∧ GridAt w' vp (pointsOf M) ∧ DlsAt w' vd (rsTo M F C seed nd F.length)

set_option maxRecDepth 100000 in
set_option maxHeartbeats 4000000 in
theorem reshared_any (avm asx ac ak apx axs : Option Addr) (nm ns cvm csx cc ck cpx nxs cxs bm om cm : Nat) (fv : Value) (M : List Mb) (F C KC : List Int) (rows : List (List Int)) (seed : ByteArray) (nd : Nat) (w : World)
    (hC : PtsAt w.heap.size w (.slice ac C.length cc) C) (hC1 : C.length ≤ 1000000) (hK : PtsAt w.heap.size w (.slice ak KC.length ck) KC) (hG : GridAt w (.slice apx rows.length cpx) rows) (hs : ∀ k, k ≤ rows.length → gridTo rows k ≤ 1000000)
    (hb : bm < w.heap.size) (hcap : M.length ≤ cm) (hcap2 : cm ≤ 9223372036854775807) (hc : ∀ j, j < M.length → w.cell? ⟨bm, om + j * 3, none⟩ = some (.int .i64 (mbAt M j).id) ∧ w.cell? ⟨bm, om + j * 3 + 1, none⟩ = some (.int .i64 (mbAt M j).wt) ∧ w.cell? ⟨bm, om + j * 3 + 2, none⟩ = some (.int .i64 (mbAt M j).pb))
    (hok : CrewOk M nd) (hr : rightB M = true) (hnd : ndOf M = nd) (hF : PtsAt w.heap.size w fv F) (hF1 : 1 ≤ F.length) (hF2 : F.length ≤ 60) (hFb : ∀ j, j < F.length → 0 ≤ ptAt F j ∧ ptAt F j ≤ 60) (hseed : seed.size ≤ 1000)
    (hag : agB rows KC M F (rsTo M F C seed nd F.length) = true) :
    Calls Tryz.prog 18 #[.agg #[.slice avm nm cvm, .slice asx ns csx, .slice ac C.length cc, .slice ak KC.length ck, .slice apx rows.length cpx], .slice (some ⟨bm, om, none⟩) M.length cm, .slice axs nxs cxs, fv, .string seed] w (RsPost w (.slice (some ⟨bm, om, none⟩) M.length cm) (.slice axs nxs cxs) M F C seed nd) := by
  obtain ⟨i0, hi0, hz0, hz1, hz2⟩ := info_parts Tryz.infoI
  obtain ⟨j0, hj0, hy0, hy1, hy2⟩ := info_parts Tryz.infoDl
  obtain ⟨af, cf, rfl⟩ := hF.slice
  obtain ⟨wA, hwA⟩ : ∃ wA, (w.alloc (.cells #[.slice avm nm cvm, .slice asx ns csx, .slice ac C.length cc, .slice ak KC.length ck, .slice apx rows.length cpx] 30)).alloc (.cells #[.slice none 0 0, .slice none 0 0, .slice none 0 0, .slice none 0 0, .slice none 0 0] 30) = wA := ⟨_, rfl⟩
  have hA : Only (fun _ => False) w wA := by rw [← hwA]; exact ((Only.refl _ w).alloc _).alloc _
  have HA := Lib.hid hA
  have HZ0 := Lib.hid (show wA.heap[w.heap.size + 1]? = some (.cells #[.slice none 0 0, .slice none 0 0, .slice none 0 0, .slice none 0 0, .slice none 0 0] 30 (0, 0)) by rw [← hwA]; have := heap_alloc_last (w.alloc (.cells #[.slice avm nm cvm, .slice asx ns csx, .slice ac C.length cc, .slice ak KC.length ck, .slice apx rows.length cpx] 30)) (.cells #[.slice none 0 0, .slice none 0 0, .slice none 0 0, .slice none 0 0, .slice none 0 0] 30); rwa [World.size_alloc] at this)
  have HB0 := Lib.hid (show wA.heap[w.heap.size]? = some (.cells #[.slice avm nm cvm, .slice asx ns csx, .slice ac C.length cc, .slice ak KC.length ck, .slice apx rows.length cpx] 30 (0, 0)) by rw [← hwA]; exact row_still ((Only.refl _ _).alloc _) (heap_alloc_last w _))
  have HWA := Lib.hid hwA
  have HC := Lib.hid (hC.only hA)
  have HK := Lib.hid (hK.only hA)
  have HG := Lib.hid (hG.only hA)
  have HF := Lib.hid (hF.only hA)
  have HM := Lib.hid ((show MbsAt w (.slice (some ⟨bm, om, none⟩) M.length cm) M from .inr ⟨bm, om, cm, rfl, hb, hcap, hcap2, hc⟩).only hA)
  have HMC := Lib.hid (fun (w' : World) (hO : Only (fun _ => False) w w') j hj => (⟨hO.cell (hc j hj).1 id, hO.cell (hc j hj).2.1 id, hO.cell (hc j hj).2.2 id⟩ : w'.cell? ⟨bm, om + j * 3, none⟩ = some (.int .i64 (mbAt M j).id) ∧ w'.cell? ⟨bm, om + j * 3 + 1, none⟩ = some (.int .i64 (mbAt M j).wt) ∧ w'.cell? ⟨bm, om + j * 3 + 2, none⟩ = some (.int .i64 (mbAt M j).pb)))
  have HOK := Lib.hid hok
  have HR := Lib.hid hr
  have HNF := Lib.hid hnd
  have HFB := Lib.hid hFb
  have HAG := Lib.hid hag
  have HGS := Lib.hid hs
  have hnd1 := hok.nd1
  have hnd2 : nd ≤ 60 := Nat.le_trans hok.nd2 hok.many
  have hM2 := hok.len2
  have hwAs : w.heap.size + 1 < wA.heap.size := own_lt0 HZ0.out
  clear hC hK hG hF hc hok hr hnd hFb hag hs hA hwA
  go_enter Tryz.func18, Tryz.ntmps18
  go_wp2_with fail
  rw [HWA.out]
  clear HWA
  refine (rtotal_any _ M (totZ M) wA HOK.out.w HM.out rfl).mono ?_
  rintro e w1 ⟨rfl, hO1⟩
  have HO1 := Lib.hid (HA.out.trans hO1)
  have HO01 := Lib.hid hO1
  have HZ1 := Lib.hid (row_still hO1 HZ0.out)
  have HB1 := Lib.hid (row_still hO1 HB0.out)
  have hw1 : w.heap.size + 1 < w1.heap.size := own_lt0 HZ1.out
  clear hO1 HZ0 HB0
  go_wp2_with fail
  refine (rneed_is (totZ M) nd w1 HOK.out.tot HOK.out.ndz).mono ?_
  rintro e w1' ⟨rfl, rfl⟩
  go_wp2_with fail
  have HG1 := Lib.hid (show GrpAt w1 (w1.alloc (.cells #[.slice (some ⟨bm, om, none⟩) M.length cm, .slice axs nxs cxs, .slice none 0 0, .slice none 0 0, .slice none 0 0] 30)) (.slice (some ⟨bm, om, none⟩) M.length cm) (.slice axs nxs cxs) (.slice none 0 0) (zerosL 0) from ⟨heap_alloc_last w1 _, World.ownsRow_nil _ _ _ _, (Only.refl _ w1).alloc _⟩)
  go_loopw [15] (fun vi wr => ∃ k : Nat, k ≤ nd ∧ vi = .int .i64 k ∧ ∃ vc, GrpAt w1 wr (.slice (some ⟨bm, om, none⟩) M.length cm) (.slice axs nxs cxs) vc (zerosL k)) (fun vi _ => nd - (intOf vi).toNat)
  case atStart => exact ⟨0, Nat.zero_le _, rfl, _, HG1.out⟩
  case round =>
    clear HG1
    obtain ⟨k, hk, rfl, vc, hG⟩ := hrel
    have HGR := Lib.hid hG
    have HZL := Lib.hid (zerosL_len k)
    by_cases hlt : k < nd
    · have e2 := cell_of_row _ _ 2 _ _ _ hG.blk
      have l0 := own_lt0 hG.blk
      have HG2 := Lib.hid (hG.frame ((Only.refl (fun _ => False) wr).alloc (.cells #[.int .i64 0] 3)))
      have hown2 := HG2.out.own
      rw [HZL.out] at hown2
      have HZN := Lib.hid (zerosL_succ k)
      obtain ⟨av, cv, rfl⟩ := slice_of_own hown2
      generalize hL : zerosL k = L at *
      clear hG hL
      go_wp2_with (at_builtin; refine wpList_append_lies _ rfl _ _ 22 rfl (w1.heap.size + 1) 3 i0 _ 1 8 Tryz.underlying22 hi0 hz0 hz1 hz2 rfl (by decide) _ k (irow L) rfl hown2 ⟨wr.heap.size, 0, none⟩ 1 1 [.int .i64 0] rfl rfl (cell_one_new _ _ _) (one_int _) (by decide) ?c1 ?c2 ?c3 _ rfl ?_)
      case c1 => unfold maxLen; omega
      case c2 => omega
      case c3 => first | omega | (simp; omega)
      intro g1 cp1 w3 ho1 hg1 ha1 hgl1
      obtain ⟨hb3, hG3⟩ := HG2.out.more HZL.out ho1 hg1
      have HG3 := Lib.hid hG3
      have c2 := cell_of_row _ _ 2 _ _ _ hb3
      have f2 := frozen_of_row _ _ 2 _ _ hb3
      have l3 := own_lt0 hb3
      clear ho1 hg1 ha1 hown2 hG3 hb3 e2
      go_wp2
      go_roundw
      case rel => exact ⟨k + 1, by omega, by go_num, _, by rw [HZN.out]; exact HG3.out⟩
      case measure => simp [intOf]; omega
    · obtain rfl : k = nd := by omega
      have i1 : ¬ (k : Int) < k := by omega
      obtain ⟨g, cg, rfl, hgl, hgc, hgc2, hgcell⟩ := own_cells hG.own (HZL.out) hnd1
      clear hG hgcell hlt hk
      generalize wr = w4 at *
      go_wp2_with fail
      refine (rfactors_own _ F w4 (HF.out.only (HO01.out.trans HGR.out.only)) (by omega) (by omega)).mono ?_
      rintro e w5 ⟨vf, rfl, hownf, hO5⟩
      have HG5 := Lib.hid (HGR.out.frame hO5)
      have HFO := Lib.hid hownf
      have HFLN := Lib.hid (show (facs F).length = F.length from facsTo_len F F.length)
      have h45 := hO5.size
      have hw1B : w1.heap.size < w4.heap.size := own_lt0 HGR.out.blk
      obtain ⟨Bf, hBf⟩ : ∃ Bf, w4.heap.size = Bf := ⟨_, rfl⟩
      rw [hBf] at HFO hgl h45 hw1B
      have HPSL := Lib.hid (rsPs_len F C seed k)
      obtain ⟨Ps, hPs⟩ : ∃ Ps, rsPs F C seed k = Ps := ⟨_, rfl⟩
      have HPS := Lib.hid hPs
      have HNS := Lib.hid (fun i (hi : i < F.length) => show mulTo (newTo F Ps k i) (rsP F C seed k i) (facR F i) k = newTo F Ps k (i + 1) by rw [← hPs, ← rsPs_at F C seed k i hi]; exact newTo_step F _ k i (rsPs_len _ _ _ _) hi)
      have HN0 := Lib.hid (show newTo F Ps k 0 = zerosL k from newTo_zero F Ps k)
      have HFAT := Lib.hid (fun i (hi : i < F.length) => show ptAt (facs F) i = facR F i from facsTo_at F F.length i hi)
      have HFLN2 := HFLN
      rw [hPs] at HPSL
      generalize facs F = FA at *
      obtain ⟨afc, cfc, hvf⟩ := slice_of_own hownf
      subst hvf
      obtain ⟨gf, cf2, hvf2, hgfl, hgf1, hgf2, _⟩ := own_formR hownf (by rw [HFLN.out]; omega)
      simp only [Value.slice.injEq] at hvf2
      obtain ⟨rfl, _, rfl⟩ := hvf2
      have hgfB := own_low' HFO.out rfl
      clear hownf hO5 hPs hBf HGR HFLN2
      go_wp2_with fail
      go_loopw [14, 17] (fun v vi wr => ∃ i : Nat, i ≤ F.length ∧ vi = .int .i64 i ∧ GrpAt w1 wr (.slice (some ⟨bm, om, none⟩) M.length cm) (.slice axs nxs cxs) (.slice (some ⟨g, 0, none⟩) k cg) (newTo F Ps k i) ∧ wr.ownsRow Bf 3 1 (.slice (some ⟨gf, 0, none⟩) FA.length cfc) FA.length (irow FA) ∧ Bf ≤ wr.heap.size ∧ ∃ qs, DsOwn Bf wr v qs ∧ qs.map (·.2.1) = rsTo M F C seed k i) (fun _ vi _ => F.length - (intOf vi).toNat)
      case atStart => exact ⟨0, Nat.zero_le _, rfl, by rw [HN0.out]; exact HG5.out, HFO.out, h45, [], ⟨World.ownsRow_nil _ _ _ _, fun _ h => absurd h List.not_mem_nil⟩, rfl⟩
      case round =>
        clear HG5 HFO h45 hgfl
        obtain ⟨i, hi, rfl, hGr, hfo, hBr, qs, hDs, hqs⟩ := hrel
        have HGR := Lib.hid hGr
        have HFO := Lib.hid hfo
        have HDS := Lib.hid hDs
        have HQS := Lib.hid hqs
        generalize wr = w6 at *
        have HO6 := Lib.hid (HO01.out.trans hGr.only)
        have HO06 := Lib.hid (HO1.out.trans hGr.only)
        obtain ⟨ad, cd, hv⟩ := slice_of_own hDs.own
        subst hv
        have hql : qs.length = i := by have := congrArg List.length hqs; rw [List.length_map, rsTo_len] at this; exact this
        have HQL := Lib.hid hql
        by_cases hlt : i < F.length
        · obtain ⟨x0, x1⟩ := HFB.out i hlt
          obtain ⟨xn, hxn⟩ : ∃ xn : Nat, ptAt F i = xn := ⟨(ptAt F i).toNat, by omega⟩
          have hxn2 : xn < 9223372036854775808 := by omega
          obtain ⟨bF, oF, rfl, hbF, hlF, hcF1, hcF2, hcF⟩ := (HF.out.only HO6.out).cellAt hlt
          rw [hxn] at hcF
          have HRP := Lib.hid (show rsP F C seed k i = (polyTo (dlSeed seed xn) k).set 0 (valZ C xn) by unfold rsP; rw [hxn, Int.toNat_natCast])
          have HRD := Lib.hid (show rsDl M F C seed k i = dealZ (rsP F C seed k i) (boxTo M M.length) (dlSeed seed xn) by unfold rsDl; rw [hxn, Int.toNat_natCast])
          have HRN := Lib.hid (show rsTo M F C seed k (i + 1) = rsTo M F C seed k i ++ [rsDl M F C seed k i] from rfl)
          have HNI := Lib.hid (HNS.out i hlt)
          have HFI := Lib.hid (HFAT.out i hlt)
          have HPB := Lib.hid (rsP_bd F C seed k i)
          have HPL := Lib.hid (rsP_len F C seed k i)
          have HSZ := Lib.hid (decB_size hxn2)
          have HSS := Lib.hid (show seed ++ ⟨#[32]⟩ ++ decB xn = dlSeed seed xn from rfl)
          have HSSZ := Lib.hid (show (dlSeed seed xn).size ≤ 100000 by unfold dlSeed; rw [ByteArray.size_append, ByteArray.size_append]; have := HSZ.out; show _ + 1 + _ ≤ _; omega)
          have s1 : (decB xn).size ≤ 21 := HSZ.out
          generalize hdn : decB xn = dn at HSS s1
          generalize dlSeed seed xn = ss at *
          have i1 : (i : Int) < F.length := by omega
          have i2 : 0 ≤ (i : Int) := by omega
          clear hGr hfo hDs hqs hql x0 x1 hxn hlF
          go_wp2_with fail
          refine (rtext8_any xn w6 hxn2).mono ?_
          rintro e w7 ⟨rfl, hO7⟩
          have HO7 := Lib.hid hO7
          rw [hdn]
          clear hO7
          go_wp2_with fail
          rw [HSS.out]
          refine (rpoly_any ss k w7 HSSZ.out (by omega)).mono ?_
          rintro e w8 ⟨vP, rfl, hownP, hO8⟩
          have HO8 := Lib.hid (HO7.out.trans hO8)
          have HPN := Lib.hid (polyTo_len ss k)
          obtain ⟨gp, cp, rfl, hgp, hgp1, hgp2, hgpc⟩ := own_cells hownP HPN.out hnd1
          have hgpC := own_low' hownP rfl
          have hs67 := HO7.out.size
          have HPO := Lib.hid hownP
          have HB8 := Lib.hid (row_still HO8.out (row_still HGR.out.only HB1.out))
          have z0 : _ = some (Value.slice avm nm cvm) := cell_of_row _ _ 0 _ _ _ HB8.out
          have z1 : _ = some (Value.slice asx ns csx) := cell_of_row _ _ 1 _ _ _ HB8.out
          have z2 : _ = some (Value.slice ac C.length cc) := cell_of_row _ _ 2 _ _ _ HB8.out
          have z3 : _ = some (Value.slice ak KC.length ck) := cell_of_row _ _ 3 _ _ _ HB8.out
          have z4 : _ = some (Value.slice apx rows.length cpx) := cell_of_row _ _ 4 _ _ _ HB8.out
          have zl := own_lt0 HB8.out
          have hcF8 := HO8.out.cell hcF id
          have hbF8 : bF < w8.heap.size := Nat.lt_of_lt_of_le hbF HO8.out.size
          have HAT := Lib.hid (fun (w' : World) (h : Only (fun _ => False) w8 w') => rgat_any avm asx ac ak apx nm ns KC.length rows.length cvm csx cc ck cpx C xn w' (HC.out.only ((HO6.out.trans HO8.out).trans h)) hC1)
          generalize valZ C xn = vy at *
          have hfd := Tryz.fieldY
          have y0 := fun (d : Nat) (os : Array Obj) => cell_regrown z0 d os
          have y1 := fun (d : Nat) (os : Array Obj) => cell_regrown z1 d os
          have y2 := fun (d : Nat) (os : Array Obj) => cell_regrown z2 d os
          have y3 := fun (d : Nat) (os : Array Obj) => cell_regrown z3 d os
          have y4 := fun (d : Nat) (os : Array Obj) => cell_regrown z4 d os
          have y5 := fun (d : Nat) (os : Array Obj) => cell_regrown hcF8 d os
          clear hO8 hownP hgpc
          go_wp2_with fail
          clear z0 z1 z2 z3 z4 hcF8
          refine wp_region_below_split 9 (by kernel_rfl) (by kernel_rfl) (by kernel_rfl) ?_
          simp only [List.take_succ_cons, List.take_zero, List.drop_succ_cons, List.drop_zero]
          repeat (go_big_quiet_step ((go_at_call 22; exact Calls.regrown_of ((HAT.out _ (Only.ofBelow (below_regrown _ _ _) _)).mono fun _ _ h => ⟨h.1, h.2.below (Nat.le_refl _) (fun _ _ h => h)⟩))))
          refine wpQuiet_nil ?_
          intro w9 hw'
          obtain ⟨pq, hw''⟩ := hw'
          have HO9 := Lib.hid (Only.ofBelow (below_regrown w8 pq.d pq.os) (fun _ => False))
          rw [← hw''] at HO9
          have hP9 := HO9.out.owns HPO.out (fun _ _ h => h)
          obtain ⟨o1, _, _, o4, o5⟩ := own_at hP9 HPN.out (by omega : 0 < k)
          have HP10 := Lib.hid (show (w9.setCell ⟨gp, 0, none⟩ (.int .i64 vy)).ownsRow w7.heap.size 3 1 (.slice (some ⟨gp, 0, none⟩) k cp) ((polyTo ss k).set 0 vy).length (irow ((polyTo ss k).set 0 vy)) by
            rw [List.length_set, ← irow_set, HPN.out]
            rw [HPN.out] at hP9
            exact own_set' hP9 _)
          have HO10 := Lib.hid (show Only (fun _ => False) w6 (w9.setCell ⟨gp, 0, none⟩ (.int .i64 vy)) from (HO8.out.trans HO9.out).setCell (.inr (by show w6.heap.size ≤ gp; omega)) _)
          rw [← HRP.out] at HP10
          clear hw'' hP9 y0 y1 y2 y3 y4 y5 HAT HB8 zl hbF8 hfd
          go_upto_region 14 with fail
          clear o1 o4 o5 HO9 HPO hgp
          generalize w9.setCell ⟨gp, 0, none⟩ (.int .i64 vy) = w3 at *
          have HO3 := Lib.hid (Only.refl (fun _ => False) w3)
          have c3 : w3.cell? ⟨bF, oF + i, none⟩ = some (.int .i64 xn) := HO10.out.cell hcF id
          have hs3 : bF < w3.heap.size := Nat.lt_of_lt_of_le hbF HO10.out.size
          have HTX := Lib.hid (show ∀ w', DlS bF (oF + i) xn w3 w' → Calls Tryz.prog 21 #[.int .i64 xn] w' (fun e wT => (e = .returned (.string dn) ∧ Only (fun _ => False) w' wT) ∧ Only (fun _ => False) w3 wT) from fun w' h => (rtext8_any xn w' hxn2).mono fun e wT hh => ⟨⟨by rw [← hdn]; exact hh.1, hh.2⟩, h.2.trans hh.2⟩)
          have HSS0 : ∀ x, seed ++ ⟨#[32]⟩ ++ dn = x → ss = x := fun x h => HSS.out.symm.trans h
          have hbm3 : bm < w3.heap.size := by have h1 := HO10.out.size; have h2 := HO06.out.size; omega
          have HBX := Lib.hid (show ∀ w', DlS bF (oF + i) xn w3 w' → Calls Tryz.prog 38 #[.slice (some ⟨bm, om, none⟩) M.length cm] w' (fun e wB => ListPost w' (boxTo M M.length) e wB ∧ Only (fun _ => False) w3 wB) from fun w' h => (rboxes_some bm om cm M w' (by have := h.2.size; omega) hcap hcap2 HOK.out.len2 HOK.out.wt (HMC.out w' ((HO06.out.trans HO10.out).trans h.2))).mono fun e wB hh => ⟨hh, h.2.trans hh.choose_spec.2.2⟩)
          have HDL := Lib.hid (show ∀ wB vB w' n, wB.ownsRow n 3 1 vB (boxTo M M.length).length (irow (boxTo M M.length)) → Only (fun _ => False) wB w' → DlS bF (oF + i) xn w3 w' → Calls Tryz.prog 37 #[.slice (some ⟨gp, 0, none⟩) k cp, vB, .string (seed ++ ⟨#[32]⟩ ++ dn)] w' (fun e wD => DealPost w' (rsDl M F C seed k i) e wD ∧ Only (fun _ => False) w3 wD) from fun wB vB w' n h1 h2 h3 => by
            rw [HRD.out, HSS.out]
            have hm := HOK.out.many
            have hn2 := HOK.out.nd2
            have hp := pts_of_own HP10.out (by rw [HPL.out]; omega)
            exact (rdeal_yes _ vB _ _ ss w' (hp.only h3.2) ((pts_of_own h1 (by omega)).only h2) (by rw [HPL.out]; omega) (by rw [HPL.out]; omega) hm HOK.out.box (fun j _ => HPB.out j) HSSZ.out).mono fun e wD hh => ⟨hh, h3.2.trans hh.1⟩)
          go_cut [19] (fun v8 wx => DlMid w3 wx (rsDl M F C seed k i) v8)
          case first =>
            clear HSS0
            have HKS := Lib.hid (show ∀ W, Only (fun _ => False) w3 W → W.cell? ⟨bF, oF + i, none⟩ = some (.int .i64 xn) ∧ Only (fun _ => False) w3 W from fun W h => ⟨h.cell c3 id, h⟩)
            have hz1' : (seed ++ (⟨#[32]⟩ : ByteArray)).size = seed.size + 1 := by rw [ByteArray.size_append]; rfl
            have hz3' : (⟨#[32]⟩ : ByteArray).size = 1 := rfl
            have p1 : ¬ seed.size + 1 > 9223372036854775807 := by omega
            have p2 : ¬ 9223372036854775807 < seed.size + 1 := by omega
            have p3 : ¬ 9223372036854775807 ≤ seed.size := by omega
            have p4 : seed.size < 9223372036854775807 := by omega
            have p4' : seed.size ≤ 9223372036854775806 := by omega
            have p4'' : ¬ 9223372036854775806 < seed.size := by omega
            have q1 : ¬ seed.size + 1 + dn.size > 9223372036854775807 := by omega
            have q2 : ¬ 9223372036854775807 < seed.size + 1 + dn.size := by omega
            have q3 : ¬ (seed ++ (⟨#[32]⟩ : ByteArray)).size + dn.size > 9223372036854775807 := by omega
            have q4 : ¬ seed.size + (⟨#[32]⟩ : ByteArray).size > 9223372036854775807 := by omega
            go_region_held3 (fun w' => w'.cell? ⟨bF, oF + i, none⟩ = some (.int .i64 xn) ∧ Only (fun _ => False) w3 w')
              (first
                | with_reducible exact HKS.out _ ((Only.refl _ w3).drew)
                | with_reducible exact HKS.out _ hSB
                | with_reducible exact HKS.out _ hST
                | with_reducible exact HKS.out _ hSD
                | with_reducible exact HKS.out _ (hSD.alloc _)
                | with_reducible exact HKS.out _ (hSB.alloc _)
                | with_reducible exact HKS.out _ (hST.alloc _)
                | with_reducible exact HKS.out _ ((Only.refl _ w3).drew.alloc _)
                | with_reducible exact HKS.out _ (((hSD.setCell (.inr hge) _).setCell (.inr hge) _).setCell (.inr hge) _))
              (first
                | (go_at_call 38; refine (HBX.out _ (by assumption)).mono ?_; rintro e wB ⟨⟨vB, rfl, hownB, hOB⟩, hSB⟩)
                | (go_at_call 21; refine (HTX.out _ (by assumption)).mono ?_; rintro e wT ⟨⟨rfl, hOT⟩, hST⟩)
                | (go_at_call 37; refine (HDL.out _ _ _ _ hownB (by first | exact hOT | exact hOT.alloc _ | exact ((Only.refl _ _).alloc _).trans hOT) (by assumption)).mono ?_; rintro e wD ⟨⟨hOD, x0, x2, rfl, hDl⟩, hSD⟩; obtain ⟨a0, n0, rfl⟩ := slice_of_own hDl.cm; obtain ⟨a2, n2, rfl⟩ := slice_of_own hDl.bx
                   first
                     | (have hBk := dl_blk hOD; have hge := hST.size; have b0 := cell_of_row _ _ 0 _ _ _ hBk; have b1 := cell_of_row _ _ 1 _ _ _ hBk; have b2 := cell_of_row _ _ 2 _ _ _ hBk; have f0 := frozen_of_row _ _ 0 _ _ hBk; have f1 := frozen_of_row _ _ 1 _ _ hBk; have f2 := frozen_of_row _ _ 2 _ _ hBk; have lB := (Array.getElem?_eq_some_iff.1 hBk).1)
                     | (have hBk := dl_blk (hOT.trans hOD); have hge := hSB.size; have b0 := cell_of_row _ _ 0 _ _ _ hBk; have b1 := cell_of_row _ _ 1 _ _ _ hBk; have b2 := cell_of_row _ _ 2 _ _ _ hBk; have f0 := frozen_of_row _ _ 0 _ _ hBk; have f1 := frozen_of_row _ _ 1 _ _ hBk; have f2 := frozen_of_row _ _ 2 _ _ hBk; have lB := (Array.getElem?_eq_some_iff.1 hBk).1)
                     | (have hBk := dl_blk ((hOB.trans hOT).trans hOD); have hge := Nat.le_refl w3.heap.size; have b0 := cell_of_row _ _ 0 _ _ _ hBk; have b1 := cell_of_row _ _ 1 _ _ _ hBk; have b2 := cell_of_row _ _ 2 _ _ _ hBk; have f0 := frozen_of_row _ _ 0 _ _ hBk; have f1 := frozen_of_row _ _ 1 _ _ hBk; have f2 := frozen_of_row _ _ 2 _ _ hBk; have lB := (Array.getElem?_eq_some_iff.1 hBk).1)
                     | (have hBk := dl_blk2 ((hOB.trans hOT).trans hOD); have hge := Nat.le_refl w3.heap.size; have b0 := cell_of_row _ _ 0 _ _ _ hBk; have b1 := cell_of_row _ _ 1 _ _ _ hBk; have b2 := cell_of_row _ _ 2 _ _ _ hBk; have f0 := frozen_of_row _ _ 0 _ _ hBk; have f1 := frozen_of_row _ _ 1 _ _ hBk; have f2 := frozen_of_row _ _ 2 _ _ hBk; have lB := (Array.getElem?_eq_some_iff.1 hBk).1)
                     | skip))
            all_goals (clear HBX HTX HDL HKS hz1' hz3' p1 p2 p3 p4 p4' p4'' q1 q2 q3 q4)
            all_goals (go_wp2_with fail)
            all_goals (go_meet)
            all_goals first
              | exact dl_end1 hDl (by have := HO3.out.size; have := hST.size; omega) (HO3.out.trans hSD)
              | exact dl_end2 hBk hDl (by first | (rw [World.size_alloc]; omega) | (have h2 := hOT.size; rw [World.size_alloc] at h2; omega) | (have h1 : w3.heap.size + 1 ≤ wB.heap.size := by { have := hOB.size; simpa using this }; have h2 := hOT.size; omega)) (by have := HO3.out.size; have := hST.size; first | omega | (rw [World.size_alloc]; omega)) (by have := HO3.out.size; omega) (HO3.out.trans hSD)
          case rest =>
            obtain ⟨Bd, c0, c2, rfl, hBk, hDl, hOx⟩ := hcut
            generalize wc = wx at *
            have HO6x := Lib.hid (HO10.out.trans hOx)
            have hsz3 := HO10.out.size
            have hB3 : Bf ≤ w3.heap.size := by omega
            have HDL2 := Lib.hid (show DlOwn Bf wx c0 c2 (rsDl M F C seed k i) from ⟨own_base hDl.cm hB3, own_base hDl.bx hB3⟩)
            have HGX := Lib.hid (HGR.out.frame HO6x.out)
            have HFX := Lib.hid (HO6x.out.owns HFO.out (fun _ _ h => h))
            have HPX := Lib.hid (hOx.owns HP10.out (fun _ _ h => h))
            have HDX := Lib.hid (HDS.out.still HO6x.out)
            obtain ⟨a0, n0, rfl⟩ := slice_of_own hDl.cm
            obtain ⟨a2, n2, rfl⟩ := slice_of_own hDl.bx
            have b0 := cell_of_row _ _ 0 _ _ _ hBk
            have b1 := cell_of_row _ _ 1 _ _ _ hBk
            have b2 := cell_of_row _ _ 2 _ _ _ hBk
            have lB := (Array.getElem?_eq_some_iff.1 hBk).1
            have hsx := hOx.size
            generalize hdl : rsDl M F C seed k i = D at *
            clear hBk hDl hOx HBX HDL HTX HGR HFO HDS HP10 hs3 c3 hcF HSS0
            have hA : Only (fun _ => False) wx (wx.alloc (.cells #[.slice a0 D.cm.length n0, .int .i64 D.pt, .slice a2 D.bx.length n2] 72)) := (Only.refl _ wx).alloc _
            have HGY := Lib.hid (HGX.out.frame hA)
            have HFY := Lib.hid (hA.owns HFX.out (fun _ _ h => h))
            have HPY := Lib.hid (hA.owns HPX.out (fun _ _ h => h))
            have HDY := Lib.hid (HDX.out.still hA)
            have HDLY := Lib.hid (show DlOwn Bf (wx.alloc (.cells #[.slice a0 D.cm.length n0, .int .i64 D.pt, .slice a2 D.bx.length n2] 72)) (.slice a0 D.cm.length n0) (.slice a2 D.bx.length n2) D from ⟨hA.owns HDL2.out.cm (fun _ _ h => h), hA.owns HDL2.out.bx (fun _ _ h => h)⟩)
            have hown4 := HDY.out.own
            have hi60 : i < 60 := by omega
            clear hA HGX HFX HPX HDX HDL2
            rw [HQL.out] at hown4 ⊢
            go_wp2_with (at_builtin; refine wpList_append_lies _ rfl _ _ 32 rfl Bf 72 j0 _ 3 56 Tryz.underlying32 hj0 hy0 hy1 hy2 rfl (by decide) _ i (rowD qs) rfl hown4 ⟨wx.heap.size, 0, none⟩ 1 1 [.slice a0 D.cm.length n0, .int .i64 D.pt, .slice a2 D.bx.length n2] rfl rfl (World.news_of_block (cs := #[.slice a0 D.cm.length n0, .int .i64 D.pt, .slice a2 D.bx.length n2]) (t := 72) (fr := (0, 0)) (heap_alloc_new wx _)) (by simp [Value.oneCell']) (by decide) ?d1 ?d2 ?d3 _ rfl ?_)
            case d1 => unfold maxLen; omega
            case d2 => omega
            case d3 => first | omega | (simp; omega)
            intro g1 cp1 wz ho5 hg5 ha5 hgl5
            rw [← HQL.out] at hg5
            obtain ⟨hDz, hOz⟩ := HDY.out.add (q := (.slice a0 D.cm.length n0, D, .slice a2 D.bx.length n2)) HQL.out HDLY.out ho5 hg5
            have HDZ := Lib.hid hDz
            have HQZ := Lib.hid (show (qs ++ [((.slice a0 D.cm.length n0 : Value), D, (.slice a2 D.bx.length n2 : Value))]).map (·.2.1) = rsTo M F C seed k (i + 1) by rw [List.map_append, HQS.out, HRN.out]; rfl)
            have HGZ := Lib.hid (HGY.out.keep hOz (fun e => own_ne_blk HDY.out.own HGY.out.blk (by decide) e) (fun x hx e => own_ne_ty HDY.out.own HGY.out.own (by decide) x e hx) (fun x hx e => by have h1 := own_low' HDY.out.own e; have h2 := own_lt0 HB1.out; have h3 := HGY.out.only.size; omega))
            have HFZ := Lib.hid (hOz.owns HFY.out (fun x hx e => own_ne_ty HDY.out.own HFY.out (by decide) x e hx))
            have HPZ := Lib.hid (hOz.owns HPY.out (fun x hx e => own_ne_ty HDY.out.own HPY.out (by decide) x e hx))
            have hBz : Bf ≤ wz.heap.size := by have h1 := hOz.size; rw [World.size_alloc] at h1; omega
            generalize qs ++ [(.slice a0 D.cm.length n0, D, .slice a2 D.bx.length n2)] = qs1 at *
            have hgpg : gp ≠ g := by omega
            have hgp7 : w7.heap.size ≤ gp := hgpC
            have HLL := Lib.hid (newTo_len F Ps k i)
            generalize rsP F C seed k i = P at *
            generalize newTo F Ps k i = L at *
            clear ho5 hg5 ha5 hgl5 hown4 hDz hOz HGY HFY HPY HDY HDLY b0 b1 b2 lB hdl
            go_wp2_with fail
            go_loopw [21] (fun vj wi => ∃ j : Nat, j ≤ k ∧ vj = .int .i64 j ∧ GrpAt w1 wi (.slice (some ⟨bm, om, none⟩) M.length cm) (.slice axs nxs cxs) (.slice (some ⟨g, 0, none⟩) k cg) (mulTo L P (facR F i) j) ∧ wi.ownsRow Bf 3 1 (.slice (some ⟨gf, 0, none⟩) FA.length cfc) FA.length (irow FA) ∧ Bf ≤ wi.heap.size ∧ wi.ownsRow w7.heap.size 3 1 (.slice (some ⟨gp, 0, none⟩) k cp) P.length (irow P) ∧ DsOwn Bf wi (.slice (some ⟨g1, 0, none⟩) (i + 1) cp1) qs1) (fun vj _ => k - (intOf vj).toNat)
            case atStart => exact ⟨0, Nat.zero_le _, rfl, HGZ.out, HFZ.out, hBz, HPZ.out, HDZ.out⟩
            case round =>
              clear HGZ HFZ hBz HPZ HDZ
              obtain ⟨j, hj, rfl, hG, hf, hBw, hP, hD⟩ := hrel
              by_cases hjl : j < k
              · have e2 := cell_of_row _ _ 2 _ _ _ hG.blk
                have l0 := own_lt0 hG.blk
                have HAL := Lib.hid (show (mulTo L P (facR F i) j).length = k by rw [mulTo_len, HLL.out])
                obtain ⟨g1', _, _, gc, gf'⟩ := own_at hG.own HAL.out hjl
                obtain ⟨p1', _, _, pc, _⟩ := own_at hP HPL.out hjl
                obtain ⟨r1', _, _, rc, _⟩ := own_at hf rfl (by rw [HFLN.out]; exact hlt)
                rw [mulTo_at L P _ j j (Nat.le_refl _)] at gc
                rw [HFI.out] at rc
                have HAN := Lib.hid (show mulTo L P (facR F i) (j + 1) = (mulTo L P (facR F i) j).set j ((ptAt L j + facR F i * ptAt P j) % 1152921504606845789) by rw [mulTo, add_res])
                have HPUT := Lib.hid (fun m z => (show GrpAt w1 (wr.drewN m) _ _ _ _ from hG.frame ((Only.refl _ wr).drewN m)).put (z := z) HAL.out hjl)
                have HDS := Lib.hid (fun m => hD.still ((Only.refl (fun _ => False) wr).drewN m))
                have HOP := Lib.hid (fun m => owns_drewN m hP)
                have HOF := Lib.hid (fun m => owns_drewN m hf)
                have i3 : (j : Int) < k := by omega
                have i4 : 0 ≤ (j : Int) := by omega
                have i5 : (i : Int) < FA.length := by rw [HFLN.out]; omega
                have i6 : i < FA.length := by rw [HFLN.out]; exact hlt
                have hgfg : gf ≠ g := by omega
                generalize ptAt L j = lz at *
                generalize ptAt P j = pz at *
                generalize facR F i = fz at *
                clear hG hD hP hf hj
                go_wp2_with fail
                refine wp_region_quiet_split 19 (by kernel_rfl) (by kernel_rfl) (by kernel_rfl) ?_
                simp only [List.take_succ_cons, List.take_zero, List.drop_succ_cons, List.drop_zero]
                repeat (go_big_quiet_step ((first | (go_at_call 36; exact quiet_left (radd_any _ _ _ _ (by decide) (by decide))) | (go_at_call 50; exact quiet_left (rmul_any _ _ _ _ (by decide) (by decide))))))
                refine wpQuiet_nil ?_
                intro _ hw'
                obtain ⟨nq, hw''⟩ := hw'
                subst hw''
                obtain ⟨q1, q2, q3⟩ := HPUT.out nq ((lz + fz * pz) % 1152921504606845789)
                have HQ1 := Lib.hid q1
                have HQ2 := Lib.hid ((HDS.out nq).keep q2 (fun x hx e => by omega))
                have HQ3 := Lib.hid (q2.owns (HOP.out nq) (fun x hx e => hgpg ((show gp = x by simpa [Value.ownBlock] using hx).trans e)))
                have HQ5 := Lib.hid (q2.owns (HOF.out nq) (fun x hx e => hgfg ((show gf = x by simpa [Value.ownBlock] using hx).trans e)))
                have HQ4 := Lib.hid (show Bf ≤ _ from Nat.le_trans hBw q2.size)
                clear q1 q2 q3 HPUT
                go_wp2
                go_roundw
                case rel => exact ⟨j + 1, by omega, by go_num, by rw [HAN.out]; exact HQ1.out, HQ5.out, HQ4.out, HQ3.out, HQ2.out⟩
                case measure => simp [intOf]; omega
              · obtain rfl : j = k := by omega
                have i2 : ¬ (j : Int) < j := by omega
                rw [HNI.out] at hG
                have HGW := Lib.hid hG
                have HFW := Lib.hid hf
                have HDW := Lib.hid hD
                clear hG hD hP hf hjl
                go_wp2
                go_roundw
                case rel => exact ⟨i + 1, by omega, by go_num, HGW.out, HFW.out, hBw, qs1, HDW.out, HQZ.out⟩
                case measure => simp [intOf]; omega
        · obtain rfl : i = F.length := by omega
          have i1 : ¬ (F.length : Int) < F.length := by omega
          have HB6 := Lib.hid (row_still HGR.out.only HB1.out)
          have z3 : _ = some (Value.slice ak KC.length ck) := cell_of_row _ _ 3 _ _ _ HB6.out
          have z4 : _ = some (Value.slice apx rows.length cpx) := cell_of_row _ _ 4 _ _ _ HB6.out
          have zl := own_lt0 HB6.out
          have HDSL := Lib.hid (fun q (hq : q ∈ qs) => show q.2.1.cm.length = k ∧ q.2.1.bx.length = (boxTo M M.length).length from by
            obtain ⟨j, hj, rfl⟩ := List.mem_iff_getElem.1 hq
            have h1 : qs[j].2.1 = dlAt (rsTo M F C seed k F.length) j := by rw [← hqs]; simp [dlAt, List.getD, hj]
            rw [h1, rsTo_at _ _ _ _ _ _ _ (by omega)]
            unfold rsDl dealZ
            dsimp only
            rw [cmTo_len, rsP_len, bxTo_len]
            exact ⟨rfl, rfl⟩)
          have hmany := HOK.out.many
          have HDX := Lib.hid (hDs.dls (fun q hq => by have := HDSL.out q hq; omega))
          rw [hqs] at HDX
          have HDXS := Lib.hid (show DlsS (rsTo M F C seed k F.length) from ⟨by rw [rsTo_len]; omega, fun j hj => by
            rw [rsTo_len] at hj
            rw [rsTo_at _ _ _ _ _ _ _ hj]
            unfold rsDl dealZ
            dsimp only
            rw [cmTo_len, rsP_len, bxTo_len]
            omega⟩)
          have HRA := Lib.hid (ragain_yes ak apx ck cpx (.slice (some ⟨bm, om, none⟩) M.length cm) (.slice af F.length cf) _ rows KC M F (rsTo M F C seed k F.length) w6 (HK.out.only HO6.out) (HG.out.only HO6.out) HGS.out (HM.out.only HO6.out) HOK.out.w (HF.out.only HO6.out) HDX.out HDXS.out HAG.out)
          have HGN := Lib.hid (show newTo F Ps k F.length = newC F (rsPs F C seed k) k by rw [HPS.out]; rfl)
          have HLN := Lib.hid (newTo_len F Ps k F.length)
          have HDS0 := Lib.hid hDs
          have HDQ := Lib.hid (fun q (hq : q ∈ qs) => show q.2.1.cm.length ≤ 9223372036854775807 ∧ q.2.1.bx.length ≤ 9223372036854775807 from by have := HDSL.out q hq; omega)
          clear hDs hqs HDS HDX HDXS HDSL hfo HFO hGr hql
          go_wp2_with fail
          refine HRA.out.mono ?_
          rintro e w7 ⟨hO7, vk, vp, rfl, hPK, hGP⟩
          have HG7 := Lib.hid (HGR.out.frame hO7)
          have HD7 := Lib.hid hO7
          have HPK := Lib.hid hPK
          have HGP := Lib.hid hGP
          obtain ⟨ak7, ck7, rfl⟩ := hPK.slice
          obtain ⟨ap7, cp7, rfl⟩ := hGP.slice
          obtain ⟨KL, hKL⟩ : ∃ KL, mixL (rsTo M F C seed k F.length) (facs F) (ndOf M) = KL := ⟨_, rfl⟩
          rw [hKL] at HPK
          have HKL := Lib.hid hKL
          rw [hKL]
          have c2 : _ = some (Value.slice (some ⟨g, 0, none⟩) k cg) := cell_of_row _ _ 2 _ _ _ HG7.out.blk
          have c3 : _ = some (Value.slice none 0 0) := cell_of_row _ _ 3 _ _ _ HG7.out.blk
          have c4 : _ = some (Value.slice none 0 0) := cell_of_row _ _ 4 _ _ _ HG7.out.blk
          have f3 := frozen_of_row _ _ 3 _ _ HG7.out.blk
          have f4 := frozen_of_row _ _ 4 _ _ HG7.out.blk
          have l5 := own_lt0 HG7.out.blk
          have HDO := Lib.hid (HDS0.out.still hO7)
          have hne4 : (⟨w1.heap.size, 3, none⟩ : Addr) ≠ ⟨w1.heap.size, 4, none⟩ := by simp
          have hO78 : Only (fun x => x = w1.heap.size) w7 ((w7.setCell ⟨w1.heap.size, 3, none⟩ (.slice ak7 KL.length ck7)).setCell ⟨w1.heap.size, 4, none⟩ (.slice ap7 (pointsOf M).length cp7)) := ((Only.refl (fun x => x = w1.heap.size) w7).setCell (p := ⟨w1.heap.size, 3, none⟩) (.inl rfl) _).setCell (p := ⟨w1.heap.size, 4, none⟩) (.inl rfl) _
          have HB8 := Lib.hid (show ((w7.setCell ⟨w1.heap.size, 3, none⟩ (.slice ak7 KL.length ck7)).setCell ⟨w1.heap.size, 4, none⟩ (.slice ap7 (pointsOf M).length cp7)).heap[w1.heap.size]? = some (.cells #[.slice (some ⟨bm, om, none⟩) M.length cm, .slice axs nxs cxs, .slice (some ⟨g, 0, none⟩) k cg, .slice ak7 KL.length ck7, .slice ap7 (pointsOf M).length cp7] 30 (0, 0)) from heap_setCell_same _ w1.heap.size 4 _ _ (.slice ap7 (pointsOf M).length cp7) (heap_setCell_same _ w1.heap.size 3 _ _ (.slice ak7 KL.length ck7) HG7.out.blk))
          have HZ8 := Lib.hid ((hO78.block (w.heap.size + 1) (by omega) (fun e => by omega)).trans (row_still HG7.out.only HZ1.out))
          have HOW8 := Lib.hid (hO78.owns HG7.out.own (fun x hx e => by have := own_low' HG7.out.own hx; omega))
          have HGP8 := Lib.hid (grid_set ((World.cell?_setCell_other _ _ _ _ hne4).trans c4) (points_ne HR.out) (grid_set c3 (points_ne HR.out) HGP.out (.slice ak7 KL.length ck7)) (.slice ap7 (pointsOf M).length cp7))
          have HPK8 := Lib.hid (pts_set ((World.cell?_setCell_other _ _ _ _ hne4).trans c4) (pts_set c3 HPK.out (.slice ak7 KL.length ck7)) (.slice ap7 (pointsOf M).length cp7))
          have HDO8 := Lib.hid (HDO.out.keep hO78 (fun x hx e => by omega))
          have HO18 := Lib.hid ((HO1.out.trans HG7.out.only).trans' hO78 (fun i hi e => by omega))
          have HPOST := Lib.hid (show ∀ w9, Only (fun x => x = w.heap.size + 1) ((w7.setCell ⟨w1.heap.size, 3, none⟩ (.slice ak7 KL.length ck7)).setCell ⟨w1.heap.size, 4, none⟩ (.slice ap7 (pointsOf M).length cp7)) w9 → RsPost w (.slice (some ⟨bm, om, none⟩) M.length cm) (.slice axs nxs cxs) M F C seed k (.returned (.tuple #[.agg #[.slice (some ⟨bm, om, none⟩) M.length cm, .slice axs nxs cxs, .slice (some ⟨g, 0, none⟩) k cg, .slice ak7 KL.length ck7, .slice ap7 (pointsOf M).length cp7], .slice ad qs.length cd])) w9 from fun w9 hO9 => by
            refine ⟨HO18.out.trans' hO9 (fun i hi e => by omega), _, _, _, _, rfl, ?_, ?_, ?_, ?_⟩
            · have h1 := hO9.owns HOW8.out (fun x hx e => by have := own_low' HOW8.out hx; omega)
              rw [HGN.out] at h1
              exact pts_of_own h1 (by rw [← HGN.out, HLN.out]; omega)
            · have h2 : mixL (rsTo M F C seed k F.length) (facs F) k = KL := by have := HKL.out; rwa [HNF.out] at this
              rw [h2]; exact pts_kept hO9 (nils_ints HZ8.out) HPK8.out
            · exact grid_kept hO9 (nils_ints HZ8.out) (nils_sl HZ8.out) (points_ne HR.out) HGP8.out
            · rw [← HQS.out]
              exact (HDO8.out.keep hO9 (fun x hx e => by omega)).dls HDQ.out)
          clear hO7 hPK hGP hO78 hKL HOW8 HGP8 HPK8 HDO8 HDO
          go_wp2_with (first | (refine wpList_load_row rfl 30 _ rfl w1.heap.size rfl 30 #[.slice (some ⟨bm, om, none⟩) M.length cm, .slice axs nxs cxs, .slice (some ⟨g, 0, none⟩) k cg, .slice ak7 KL.length ck7, .slice ap7 (pointsOf M).length cp7] (0, 0) _ HB8.out Tryz.underlying30 rfl Tryz.infoG ?_) | (refine wpList_store_row rfl 30 _ _ rfl (w.heap.size + 1) #[.slice (some ⟨bm, om, none⟩) M.length cm, .slice axs nxs cxs, .slice (some ⟨g, 0, none⟩) k cg, .slice ak7 KL.length ck7, .slice ap7 (pointsOf M).length cp7] rfl rfl 30 _ HZ8.out Tryz.infoG rfl (five_slices _ _ _ _ _ _ _ _ _ _ _ _ _ _ _) ?_))
          refine bodyPost_ret (v := .tuple #[.agg #[.slice (some ⟨bm, om, none⟩) M.length cm, .slice axs nxs cxs, .slice (some ⟨g, 0, none⟩) k cg, .slice ak7 KL.length ck7, .slice ap7 (pointsOf M).length cp7], .slice ad qs.length cd]) (results_cell_tmp (p := 10) (q := 11) rfl _ _ (w.heap.size + 1) 30 #[.slice (some ⟨bm, om, none⟩) M.length cm, .slice axs nxs cxs, .slice (some ⟨g, 0, none⟩) k cg, .slice ak7 KL.length ck7, .slice ap7 (pointsOf M).length cp7] (0, 0) _ rfl (setRow_heap _ _ _ _ _ _ HZ8.out) Tryz.underlying30 rfl Tryz.infoG _ rfl) rfl (HPOST.out _ ?_)
          exact (Only.refl (fun x => x = w.heap.size + 1) ((w7.setCell ⟨w1.heap.size, 3, none⟩ (.slice ak7 KL.length ck7)).setCell ⟨w1.heap.size, 4, none⟩ (.slice ap7 (pointsOf M).length cp7))).trans' (T := fun x => x = w.heap.size + 1) ⟨rfl, rfl, rfl, by simp, fun x _ hx => heap_setRow_other _ _ _ _ hx⟩ (fun _ _ e => e)
end Go.Proofs.YtalclldccnichaaGreat

namespace Go.Proofs.YtalclldccnichaaGreat
open Go.RowKit

def crewB (zs : List Int) : List Mb := crewTo zs 11 (manyZ zs)
def againS : ByteArray := ⟨#[97, 103, 97, 105, 110]⟩
/-- What the law's resharing is about. -/
structure RsAll (zs : List Int) (M : List Mb) (F C KC : List Int) (nd : Nat) (ds : List Dl) (KN NC : List Int) : Prop where
  ag : agB (pointsOf (crewZ zs)) KC M F ds = true
  kn : acolTo ds F (ndOf M) (ndOf M) = KN
  mx : mixL ds (facs F) nd = KN
  knl : KN.length = nd
  ncl : NC.length = nd
  right : rightKB (pointsOf M) KN = true
  first : ptAt KN 0 = ptAt KC 0
  sec : ptAt NC 0 = ptAt C 0
  ncb : ∀ j, 0 ≤ ptAt NC j ∧ ptAt NC j < 1152921504606845789
  pub : ∀ x, atTo KN x KN.length = powM 4 (valZ NC x) 2305843009213691579
  share : ∀ (V : List Int) (x : Int), V.length = F.length → (∀ k, k < F.length → ptAt V k = valZ (rsP F C againS nd k) x) → shareB F V = true ∧ shareZ F V = valZ NC x
theorem mix_lift (ds : List Dl) (F : List Int) (j : Nat) (hd : ds.length = F.length) : ∀ k, k ≤ F.length → mixTo ds (facs F) j k = liftRTo F (colJ ds j) k
  | 0, _ => rfl
  | k + 1, h => by
    rw [mixTo, liftRTo, mix_lift ds F j hd k (by omega)]
    have h1 : ptAt (facs F) k = facR F k := facsTo_at F F.length k (by omega)
    have h2 : ptAt (colJ ds j) k = ptAt (dlAt ds k).cm j := cjTo_in ds j ds.length k (by omega) (by omega)
    rw [h1, h2]
theorem acol_mix (ds : List Dl) (F : List Int) (nd : Nat) (hF : diffB F = true) (hd : ds.length = F.length) : acolTo ds F nd nd = mixL ds (facs F) nd := by
  refine list_ext (by rw [acolTo_len, mixL_len]) (fun j hj => ?_)
  rw [acolTo_len] at hj
  rw [acolTo_in ds F nd nd j hj hj, mixL_at _ _ _ _ hj, lift_eq _ _ hF, hd, mix_lift ds F j hd _ (Nat.le_refl _)]
theorem rs_all (zs zs1 p0 : List Int) : ∃ KN NC, RsAll zs (crewB zs1) (choZ p0 (nOf (crewZ zs)) (ndZ zs)) (coefZ zs) (commZ zs) (ndOf (crewB zs1)) (rsTo (crewB zs1) (choZ p0 (nOf (crewZ zs)) (ndZ zs)) (coefZ zs) againS (ndOf (crewB zs1)) (ndZ zs)) KN NC ∧ NC = newC (choZ p0 (nOf (crewZ zs)) (ndZ zs)) (rsPs (choZ p0 (nOf (crewZ zs)) (ndZ zs)) (coefZ zs) againS (ndOf (crewB zs1))) (ndOf (crewB zs1)) := by
  have hr0 := made_right zs
  have hs0 := right_sum hr0
  have hk0 := made_ok zs
  have hnd0 : ndZ zs = ndOf (crewZ zs) := rfl
  have hcl : (coefZ zs).length = ndZ zs := coefTo_len _ _ _
  have hcb : ∀ j, 0 ≤ ptAt (coefZ zs) j ∧ ptAt (coefZ zs) j < 1152921504606845789 := fun j => coefTo_bd _ _ _ j
  have hr1 : rightB (crewB zs1) = true := crew_right zs1 11
  have hs1 := right_sum hr1
  have hk1 : CrewOk (crewB zs1) (ndOf (crewB zs1)) := crew_ok zs1 11 (by decide)
  have ht1 := crew_tot hr1 hk1
  have hn1 : (boxTo (crewB zs1) (crewB zs1).length).length = nOf (crewB zs1) := by have := ht1.1; have := hs1.2.2.2.2.2.2.2; omega
  have hle : ndZ zs ≤ nOf (crewZ zs) := by rw [hnd0]; exact hs0.2.2.2.2.2.2.1
  have hFl : (choZ p0 (nOf (crewZ zs)) (ndZ zs)).length = ndZ zs := choZ_len _ _ _ hle
  have hFm := choZ_mem p0 (nOf (crewZ zs)) (ndZ zs) hle
  have hF := choZ_diff p0 (nOf (crewZ zs)) (ndZ zs) hle hs0.2.2.2.1
  have hkc := comm_coef zs
  have hkm := comm_mem zs
  generalize choZ p0 (nOf (crewZ zs)) (ndZ zs) = F at *
  generalize coefZ zs = C at *
  generalize commZ zs = KC at *
  generalize crewB zs1 = M at *
  generalize hndd : ndOf M = nd at *
  generalize hnd0' : ndZ zs = n0 at *
  have h1 : 1 ≤ nd := hk1.nd1
  have hn01 : 1 ≤ n0 := hk0.nd1
  have hdl : (rsTo M F C againS nd n0).length = F.length := by rw [rsTo_len, hFl]
  have hat : ∀ k, k < F.length → dlAt (rsTo M F C againS nd n0) k = rsDl M F C againS nd k := fun k hk => rsTo_at _ _ _ _ _ _ _ (by omega)
  have hcm : ∀ k j, k < F.length → j < nd → ptAt (dlAt (rsTo M F C againS nd n0) k).cm j = powM 4 (ptAt (rsP F C againS nd k) j) 2305843009213691579 := fun k j hk hj => by
    rw [hat k hk]
    unfold rsDl dealZ
    dsimp only
    rw [rsP_len, cmTo_at _ _ _ hj]
  have hnew := acol_new F (rsPs F C againS nd) (rsTo M F C againS nd n0) nd hF (rsPs_len _ _ _ _) hdl (fun k j hk hj => by
    rw [rsPs_at _ _ _ _ _ hk]
    exact ⟨hcm k j hk hj, rsP_bd _ _ _ _ _ _⟩)
  have hncl : (newC F (rsPs F C againS nd) nd).length = nd := newTo_len _ _ _ _
  have hncb := newC_bd F (rsPs F C againS nd) nd
  have hp0 : ∀ k, k < F.length → ptAt (rsP F C againS nd k) 0 = valZ C (ptAt F k) := fun k hk => by
    unfold rsP
    rw [ptAt_set, if_pos ⟨rfl, by rw [polyTo_len]; exact h1⟩]
  have hsec := new_first F (rsPs F C againS nd) C nd hF (rsPs_len _ _ _ _) h1 (by omega) (hcb 0) (fun k hk => by rw [rsPs_at _ _ _ _ _ hk]; exact hp0 k hk)
  have hkcl : KC.length = n0 := by rw [hkc, cmTo_len]
  have hfit : fitB (rsTo M F C againS nd n0) (nOf M) nd = true := fit_yes _ _ _ (fun j hj => by
    rw [hdl] at hj
    rw [hat j hj]
    have hc := chk_deal (rsP F C againS nd j) (boxTo M M.length) (dlSeed againS (ptAt F j).toNat) (fun t => rsP_bd _ _ _ _ _ _) (by rw [rsP_len]; exact h1) (by rw [rsP_len]; exact hk1.nd2)
    have e : rsDl M F C againS nd j = dealZ (rsP F C againS nd j) (boxTo M M.length) (dlSeed againS (ptAt F j).toNat) := rfl
    rw [← e, hn1] at hc
    have hcl2 : (rsDl M F C againS nd j).cm.length = nd := by rw [e]; unfold dealZ; dsimp only; rw [cmTo_len, rsP_len]
    rw [decide_eq_true hcl2, Bool.and_true]
    unfold chkB
    rw [decide_eq_true hc.bl, decide_eq_true hc.c1, decide_eq_true hc.c2, hc.cm, hc.pt, b16_yes _ (fun k hk => hc.b16 k (by have := hc.bl; omega))]
    rfl)
  have hchain : ∀ n, n ≤ F.length → chainTo (pointsOf (crewZ zs)) KC F (rsTo M F C againS nd n0) n = true := by
    intro n
    induction n with
    | zero => intro _; rfl
    | succ n ih =>
      intro h
      have hx := hFm (ptAt F n) (by have : ptAt F n = F[n] := by simp [ptAt, List.getD, (show n < F.length by omega)]
                                    rw [this]; exact List.getElem_mem _)
      rw [chainTo, ih (by omega), hs0.2.1, decide_eq_true (show ptAt F n ≤ (nOf (crewZ zs) : Nat) from hx.2), hcm n 0 (by omega) (by omega), hp0 n (by omega), hkc]
      have := at_law C (ptAt F n) hcb
      rw [hcl] at this
      rw [this, decide_eq_true rfl]
      rfl
  refine ⟨acolTo (rsTo M F C againS nd n0) F nd nd, newC F (rsPs F C againS nd) nd, ⟨?_, by rw [hndd], ?_, ?_, hncl, ?_, ?_, hsec, hncb, ?_, ?_⟩, rfl⟩
  · unfold agB headB
    rw [right_keys hr0 (by rw [hkcl]; exact hnd0) hkm, decide_eq_true (show F.length = KC.length by omega), decide_eq_true hdl, hF, hr1, hndd, hfit, hchain _ (Nat.le_refl _)]
    rfl
  · exact (acol_mix _ _ _ hF hdl).symm
  · rw [acolTo_len]
  · rw [hnew]
    exact right_keys hr1 (by rw [cmTo_len, hndd]) (cmTo_mem _ hncb _)
  · rw [hnew, cmTo_at _ _ _ h1, hsec, hkc, cmTo_at _ _ _ hn01]
  · intro x
    rw [hnew, ← atZ_eq]
    have := at_law (newC F (rsPs F C againS nd) nd) x hncb
    rw [hncl] at this
    exact this
  · intro V x hVl hV
    have hb : shareB F V = true := by
      unfold shareB
      have e0 : (F.length != 0) = true := by rw [bne_iff_ne]; omega
      have e1 : (V.length == F.length) = true := beq_iff_eq.2 hVl
      rw [e0, e1, hF]; rfl
    refine ⟨hb, ?_⟩
    unfold shareZ
    rw [if_pos hb, comb_eq F V hF]
    exact share_new F (rsPs F C againS nd) V nd x (rsPs_len _ _ _ _) (fun k hk => by rw [rsPs_at _ _ _ _ _ hk, rsP_len]) (fun k hk => by rw [rsPs_at _ _ _ _ _ hk]; exact hV k hk)
end Go.Proofs.YtalclldccnichaaGreat
