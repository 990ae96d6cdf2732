/-
  The reference's Commits; plain: the keys of a group that was made.
-/
import Derived.Test.YtalclldccnichaaGreatWtR
import Derived.Test.YtalclldccnichaaGreatJnLaw
namespace Go.Proofs.YtalclldccnichaaGreat
open Go.RowKit

set_option maxHeartbeats 1000000 in
theorem rcommits_any (sv : Value) (l : List Int) (w : World) (hI : PtsAt w.heap.size w sv l) (hn : l.length ≤ 1000) (hb : ∀ j, 0 ≤ ptAt l j ∧ ptAt l j ≤ 9223372036854775807) :
    Calls Tryz.prog 12 #[sv] w (ListPost w (cmTo l l.length)) := by
  obtain ⟨i0, hi0, hz0, hz1, hz2⟩ := info_parts Tryz.infoI
  obtain ⟨a, c, rfl⟩ := hI.slice
  have HI := Lib.hid hI
  have HB := Lib.hid hb
  clear hI hb
  go_enter Tryz.func12, Tryz.ntmps12
  go_wp2_with fail
  go_loopw [3, 4] (fun vo vi wr => ∃ k : Nat, k ≤ l.length ∧ vi = .int .i64 k ∧ wr.ownsRow w.heap.size 3 1 vo k (irow (cmTo l k)) ∧ Only (fun _ => False) w wr) (fun _ vi _ => l.length - (intOf vi).toNat)
  case atStart => exact ⟨0, Nat.zero_le _, rfl, World.ownsRow_nil _ _ _ _, Only.refl _ _⟩
  case round =>
    obtain ⟨k, hk, rfl, hown, hO⟩ := hrel
    have HO := Lib.hid hO
    have HOWN := Lib.hid hown
    by_cases hlt : k < l.length
    · obtain ⟨b, off, rfl, hb, hl0, hc1, hc2, hcell⟩ := (HI.out.only hO).cellAt hlt
      obtain ⟨b0, b1⟩ := HB.out k
      have HPB := Lib.hid (fun w => public_is (ptAt l k) _ w b0 b1 rfl)
      have HPN := Lib.hid (show cmTo l (k + 1) = cmTo l k ++ [powM 4 (ptAt l k) 2305843009213691579] from rfl)
      generalize powM 4 (ptAt l k) 2305843009213691579 = z at *
      generalize ptAt l k = x at *
      generalize cmTo l k = L at *
      obtain ⟨av, cv, rfl⟩ := slice_of_own hown
      have hown2 := hown.alloc (.cells #[.int .i64 z] 3)
      have hsz2 := hO.size
      have i1 : (k : Int) < l.length := by omega
      clear hO hown hl0
      go_wp2_with fail
      refine (HPB.out _).mono ?_
      rintro e w1 ⟨rfl, rfl⟩
      go_wp2_with (at_builtin; refine wpList_append_lies _ rfl _ _ 22 rfl w.heap.size 3 i0 _ 1 8 Tryz.underlying22 hi0 hz0 hz1 hz2 rfl (by decide) _ k (irow L) rfl hown2 ⟨wr.heap.size, 0, none⟩ 1 1 [.int .i64 z] rfl rfl (cell_one_new _ _ _) (one_int _) (by decide) ?c1 ?c2 ?c3 _ rfl ?_)
      case c1 => unfold maxLen; omega
      case c2 => omega
      case c3 => first | omega | (simp; omega)
      intro g1 cp1 w3 ho1 hg1 ha1 hgl1
      have HO3 := Lib.hid ((HO.out.alloc (.cells #[.int .i64 z] 3)).grow hown2 (Nat.le_refl _) hg1)
      have HOW := Lib.hid ho1
      clear ho1 hg1 ha1 hown2
      go_wp2
      go_roundw
      case rel => exact ⟨k + 1, by omega, by go_num, by rw [HPN.out, irow_append]; exact HOW.out, HO3.out⟩
      case measure => simp [intOf]; omega
    · obtain rfl : k = l.length := by omega
      have HR := Lib.hid (show ListPost w (cmTo l l.length) (.returned u3) wr from ⟨u3, rfl, by rw [cmTo_len]; exact hown, hO⟩)
      obtain ⟨av, cv, rfl⟩ := slice_of_own hown
      clear hO hown
      go_wp2
      go_ret
      exact HR.out
/-- Powers of one base: exponents add. -/
theorem pow_addQ {a x y : Int} (h : memB a = true) (hx : 0 ≤ x) (hx2 : x < 1152921504606845789) (hy : 0 ≤ y) (hy2 : y < 1152921504606845789) : powM a x 2305843009213691579 * powM a y 2305843009213691579 % 2305843009213691579 = powM a ((x + y) % 1152921504606845789) 2305843009213691579 := by
  have hin := ((memB_iff a).1 h).2.2
  have hz := emod_self_lt (x + y) 1152921504606845789 (by decide)
  have h1 := powM_cong a x 2305843009213691579 hx (by omega)
  have h2 := powM_cong a y 2305843009213691579 hy (by omega)
  have h3 := powM_cong a ((x + y) % 1152921504606845789) 2305843009213691579 hz.1 (by omega)
  have h4 := hin.exp (x.toNat + y.toNat)
  have e : (x.toNat + y.toNat) % 1152921504606845789 = ((x + y) % 1152921504606845789).toNat := by omega
  rw [e, Int.pow_add] at h4
  have hc : Cong 2305843009213691579 (powM a x 2305843009213691579 * powM a y 2305843009213691579) (powM a ((x + y) % 1152921504606845789) 2305843009213691579) := (h1.mul h2).trans (Cong.trans (show Cong 2305843009213691579 _ _ from h4) h3.symm)
  rw [hc.emod]
  have hb := powM_bd a ((x + y) % 1152921504606845789) 2305843009213691579 (by decide)
  exact Int.emod_eq_of_lt hb.1 hb.2
theorem cmTo_at (cs : List Int) : ∀ k j, j < k → ptAt (cmTo cs k) j = powM 4 (ptAt cs j) 2305843009213691579
  | k + 1, j, h => by
    rw [cmTo, ptAt_append, cmTo_len]
    by_cases e : j < k
    · rw [if_pos e, cmTo_at cs k j e]
    · obtain rfl : j = k := by omega
      rw [if_neg e, if_pos rfl]
theorem powM_zero4 : powM 4 0 2305843009213691579 = 1 := by kernel_rfl
/-- The product of the commitments is the commitment of the sum. -/
theorem prod_coef (l : List Mb) (nd j : Nat) (hj : j < nd) : ∀ k, k ≤ l.length → prodTo (dlsTo l firstS nd l.length) j k = powM 4 (ptAt (coefTo l nd k) j) 2305843009213691579
  | 0, _ => by rw [prodTo, coefTo, zerosL_at, powM_zero4]
  | k + 1, h => by
    have ih := prod_coef l nd j hj k (by omega)
    have hb := coefTo_bd l nd k j
    have hp := polyTo_bd (seedOf l k) nd j
    rw [prodTo, ih, dlsTo_at _ _ _ _ _ (show k < l.length by omega), coefTo, addTo_in _ _ _ _ hj (by rw [coefTo_len]; exact hj)]
    have e : ptAt (dlOf l firstS nd k).cm j = powM 4 (ptAt (polyTo (seedOf l k) nd) j) 2305843009213691579 := by
      unfold dlOf dealZ
      dsimp only
      rw [polyTo_len, cmTo_at _ _ _ hj]
      rfl
    rw [e]
    exact pow_addQ mem_four hb.1 hb.2 hp.1 hp.2
theorem comm_coef (zs : List Int) : commZ zs = cmTo (coefZ zs) (ndZ zs) := by
  have hl : (dealsZ zs).length = (crewZ zs).length := dlsTo_len _ _ _ _
  unfold commZ
  rw [mix_col]
  refine list_ext (by rw [colTo_len, cmTo_len]) (fun j hj => ?_)
  rw [colTo_len] at hj
  rw [colTo_in _ _ _ j hj hj, cmTo_at _ _ _ hj, hl]
  unfold dealsZ coefZ
  exact prod_coef _ _ _ hj _ (Nat.le_refl _)
theorem upI_at (s : Int) : ∀ (m t : Nat), t < m → ptAt (upI s m) t = s + t + 1
  | m + 1, t, h => by
    rw [upI, ptAt_append, upI_len]
    by_cases e : t < m
    · rw [if_pos e, upI_at s m t e]
    · obtain rfl : t = m := by omega
      rw [if_neg e, if_pos rfl]
theorem rowOk_up (s m : Nat) : ∀ t, t ≤ m → rowOkTo s (upI (s : Int) m) t = true
  | 0, _ => rfl
  | t + 1, h => by rw [rowOkTo, rowOk_up s m t (by omega), upI_at (s : Int) m t (by omega), decide_eq_true rfl]; rfl
theorem rows_points {l : List Mb} (h : rightB l = true) : ∀ k, k ≤ l.length → rowsOk (pointsOf l) k = true
  | 0, _ => rfl
  | k + 1, hk => by
    have hw := (mbOk_wt l l.length (right_parts h).2.1).1 k (by omega)
    have hg := grid_points h k (by omega)
    rw [rowsOk, rows_points h k (by omega), pointsOf_at l k (by omega), rowsAt_len, decide_eq_true (show 0 < (mbAt l k).wt.toNat by omega)]
    unfold rowsAt
    rw [← hg, rowOk_up _ _ _ (Nat.le_refl _)]
    rfl
/-- Keys of a group that was made are right. -/
theorem right_keys {l : List Mb} {cm : List Int} (h : rightB l = true) (hl : cm.length = ndOf l) (hm : membersB cm = true) : rightKB (pointsOf l) cm = true := by
  obtain ⟨s1, s2, s3, s4, s5, s6, s7, s8⟩ := right_sum h
  unfold rightKB
  rw [pointsOf_len, rows_points h _ (Nat.le_refl _), s2, hm, hl, s5, decide_eq_true s3, decide_eq_true s4, decide_eq_true rfl]
  rfl
theorem comm_mem (zs : List Int) : membersB (commZ zs) = true := by
  rw [comm_coef]
  exact cmTo_mem _ (fun j => coefTo_bd _ _ _ j) _
end Go.Proofs.YtalclldccnichaaGreat
