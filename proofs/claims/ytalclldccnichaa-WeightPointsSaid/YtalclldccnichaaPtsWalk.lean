/-
  The walk of the law WeightPoints.
-/
import Derived.Test.YtalclldccnichaaRawWalk
namespace Go.Proofs.Ytalclldccnichaa
open Go.RowKit

theorem mbAt_take (l : List Mb) (n j : Nat) (h : j < n) : mbAt (l.take n) j = mbAt l j := by
  unfold mbAt; simp only [List.getD, List.getElem?_take_of_lt h]
theorem mbs_take {W : World} {sv : Value} {l : List Mb} (h : MbsAt W sv l) (n : Nat) (hn : n ≤ l.length) {a : Option Addr} {c : Nat} (hv : sv = .slice a l.length c) : MbsAt W (.slice a n c) (l.take n) := by
  have hl : (l.take n).length = n := by rw [List.length_take]; omega
  rcases h with ⟨a', c', e, rfl⟩ | ⟨b, off, cap, e, hb, h1, h2, hc⟩
  · simp at hn; subst hn; exact .inl ⟨a, c, rfl, by simp⟩
  · rw [hv] at e
    simp only [Value.slice.injEq, true_and] at e
    obtain ⟨rfl, rfl⟩ := e
    refine .inr ⟨b, off, c, by rw [hl], hb, by omega, h2, fun j hj => ?_⟩
    rw [hl] at hj
    rw [mbAt_take l n j hj]; exact hc j (by omega)
theorem MbsW.take {l : List Mb} (h : MbsW l) (n : Nat) : MbsW (l.take n) := ⟨fun j => by
  by_cases hj : j < n
  · rw [mbAt_take l n j hj]; exact h.wf j
  · have : mbAt (l.take n) j = ⟨0, 0, 0⟩ := by simp [mbAt, List.getD, List.getElem?_eq_none (show (l.take n).length ≤ j by rw [List.length_take]; omega)]
    rw [this]; decide⟩
/-- The member that a pair makes. -/
def mkMb (l : List (Int × Int)) (k : Nat) : Mb := ⟨if (shAt l k).2.tmod 20 = 19 then 4 + k else 5 + k, (shAt l k).1.tmod 24 - 1, 0⟩
def mkTo (l : List (Int × Int)) : Nat → List Mb
  | 0 => []
  | k + 1 => mkTo l k ++ [mkMb l k]
theorem mkTo_len (l : List (Int × Int)) (k : Nat) : (mkTo l k).length = k := by
  induction k with
  | zero => rfl
  | succ k ih => rw [mkTo, List.length_append, ih]; rfl
theorem mbAt_snoc (a : List Mb) (x : Mb) (j : Nat) : mbAt (a ++ [x]) j = if j < a.length then mbAt a j else if j = a.length then x else ⟨0, 0, 0⟩ := by
  unfold mbAt; exact getD_snoc a x _ j
theorem mkTo_wf (l : List (Int × Int)) : ∀ k, k ≤ 15 → MbsW (mkTo l k) := by
  intro k
  induction k with
  | zero => intro _; exact ⟨fun j => by simp [mbAt, mkTo]⟩
  | succ k ih =>
    intro hk
    refine ⟨fun j => ?_⟩
    rw [mkTo, mbAt_snoc]
    split
    · exact (ih (by omega)).wf j
    · split
      · have h1 := Int.lt_tmod_of_pos (shAt l k).1 (show (0 : Int) < 24 by decide)
        have h2 := Int.tmod_lt_of_pos (shAt l k).1 (show (0 : Int) < 24 by decide)
        unfold mkMb
        dsimp only
        split <;> omega
      · decide
theorem grid_nil (W : World) : GridAt W (.slice none 0 0) [] := .inl ⟨_, _, rfl, rfl⟩
theorem short_pts {l : List Mb} (h : rightB l = true) : Short (pointsOf l) := fun j => by
  obtain ⟨_, _, h3, _⟩ := rightB_spec h
  by_cases hj : j < l.length
  · rw [pointsOf_at l j hj, rowsAt_len]; have := ((mbOk_wt l l.length h3).1 j hj).2; omega
  · simp [List.getD, List.getElem?_eq_none (show (pointsOf l).length ≤ j by rw [pointsOf_len]; omega)]
/-- What both leave, in one form. -/
theorem PtsPost.form {w w' : World} {l : List Mb} {e : Ending} (h : PtsPost w l e w') : Only (fun _ => False) w w' ∧ ∃ a c, e = .returned (.tuple #[.slice a (if rightB l then pointsOf l else []).length c, .bool (rightB l)]) ∧ GridAt w' (.slice a (if rightB l then pointsOf l else []).length c) (if rightB l then pointsOf l else []) := by
  obtain ⟨hO, ⟨hr, v, rfl, hG⟩ | ⟨hr, rfl⟩⟩ := h
  · rw [hr]
    obtain ⟨a, c, rfl⟩ := hG.slice
    exact ⟨hO, a, c, rfl, hG⟩
  · rw [hr]
    exact ⟨hO, none, 0, rfl, grid_nil _⟩
theorem form_short (l : List Mb) : Short (if rightB l then pointsOf l else []) ∧ (if rightB l then pointsOf l else []).length ≤ 9223372036854775807 := by
  cases h : rightB l
  · exact ⟨fun j => by simp [List.getD], by simp⟩
  · refine ⟨short_pts h, ?_⟩
    have := (rightB_spec h).2.1
    simp only [if_pos, pointsOf_len]; omega

set_option maxRecDepth 100000 in
set_option maxHeartbeats 4000000 in
theorem pts_walk (pv rv : Value) (l : List (Int × Int)) (r0 : List Mb) (w : World) (hp : ShsAt w pv l) (hpw : ShsW l) (hpc : ∃ a c, pv = .slice a l.length c ∧ l.length ≤ c ∧ c ≤ 9223372036854775807)
    (hr : MbsAt w rv r0) (hrw : MbsW r0) (hrc : ∃ a c, rv = .slice a r0.length c ∧ r0.length ≤ c ∧ c ≤ 9223372036854775807) :
    Calls Try.prog 3 #[pv, rv] w fun e w' => e = .returned (.bool true) ∧ Below w.heap.size w w' := by
  obtain ⟨i0, hi0, hz0, hz1, hz2⟩ := info_parts Try.infoM
  obtain ⟨pa, pc, rfl, hp1, hp2⟩ := hpc
  obtain ⟨ra, rc, rfl, hr1, hr2⟩ := hrc
  obtain ⟨m, hm⟩ : ∃ m, min r0.length 15 = m := ⟨_, rfl⟩
  have hm8 : m ≤ 15 := by omega
  have hml : m ≤ r0.length := by omega
  have hmm : min (r0.length : Int) 15 = (m : Int) := by omega
  have HR := Lib.hid (mbs_take hr m hml rfl)
  have HRW := Lib.hid (hrw.take m)
  have HP := Lib.hid hp
  have HPW := Lib.hid hpw
  clear hm hr hrw hp hpw
  generalize r0.take m = r at *
  go_enter Try.func3, Try.ntmps3
  go_wp2_with fail
  refine (sanity_any _).mono ?_
  rintro e w1 ⟨rfl, hO1⟩
  have HP1 := Lib.hid (HP.out.below hO1)
  have HR1 := Lib.hid (HR.out.only hO1)
  have HO1 := Lib.hid hO1
  clear hO1 HP HR
  go_wp2_with fail
  go_loopw [6, 7] (fun v vi wr => ∃ (k : Nat) (a : Option Addr) (c : Nat), v = .slice a k c ∧ vi = .int .i64 k ∧ k ≤ l.length ∧ k ≤ 15 ∧ wr.ownsRow w1.heap.size 27 3 (.slice a k c) k (mrow (mkTo l k)) ∧ Only (fun _ => False) w1 wr) (fun _ vi _ => 15 - (intOf vi).toNat)
  case atStart => exact ⟨0, none, 0, rfl, rfl, Nat.zero_le _, Nat.zero_le _, World.ownsRow_nil _ _ _ _, Only.refl _ _⟩
  case round =>
    obtain ⟨k, a, c, rfl, rfl, hk, hk15, hown, hO⟩ := hrel
    have hsz := hO.size
    by_cases hgo : k < l.length ∧ k < 15
    · obtain ⟨hlt, hlt2⟩ := hgo
      rcases HP1.out with ⟨_, _, _, hl0⟩ | ⟨sb, so, sc', hsv, hsb, hsc1, hsc2, hscell⟩
      · rw [hl0] at hlt; simp at hlt
      · simp only [Value.slice.injEq, true_and] at hsv
        obtain ⟨rfl, rfl⟩ := hsv
        have e0 := hO.cell (hscell k hlt).1 (fun h => h)
        have e1 := hO.cell (hscell k hlt).2 (fun h => h)
        have hbl : sb < wr.heap.size := by omega
        have HZ := Lib.hid (show mrow (mkTo l (k + 1)) = mrow (mkTo l k) ++ [.int .i64 (if (shAt l k).2.tmod 20 = 19 then 4 + k else 5 + k), .int .i64 ((shAt l k).1.tmod 24 - 1), .int .i64 0] by rw [mkTo, mrow_append]; rfl)
        obtain ⟨⟨x1, x2⟩, ⟨y1, y2⟩⟩ := HPW.out.wf k
        generalize shAt l k = s at *
        obtain ⟨x, y⟩ := s
        dsimp only at e0 e1 x1 x2 y1 y2 HZ
        have t1 := Int.lt_tmod_of_pos x (show (0 : Int) < 24 by decide)
        have t2 := Int.tmod_lt_of_pos x (show (0 : Int) < 24 by decide)
        have HO := Lib.hid hO
        clear hO hscell
        by_cases h19 : y.tmod 20 = 19
        · have q : (y.tmod 20 == 19) = true := by simp [h19]
          rw [if_pos h19] at HZ
          clear h19
          go_wp2_with (at_builtin; refine wpList_append_own _ rfl _ _ 23 rfl w1.heap.size 27 i0 _ 3 24 Try.underlying23 hi0 hz0 hz1 hz2 rfl (by decide) _ k (mrow (mkTo l k)) rfl (hown.alloc _) ⟨wr.heap.size, 0, none⟩ 1 1 [.int .i64 (4 + k), .int .i64 (x.tmod 24 - 1), .int .i64 0] rfl rfl ?c1 ?c2 ?c3 ?c4 ?c5 ?_)
          case c1 => exact World.news_of_block (heap_alloc_new wr _)
          case c2 => intro u hu; simp at hu; rcases hu with rfl | rfl | rfl <;> rfl
          case c3 => unfold maxLen; omega
          case c4 => omega
          case c5 => first | omega | (simp; omega)
          intro v' w2 hown2 hgrow2 _
          obtain ⟨a2, c2, hv⟩ := slice_of_own hown2
          rw [hv] at hown2 ⊢
          rw [← HZ.out] at hown2
          have HO3 := Lib.hid ((HO.out.alloc _).grow (hown.alloc _) (Nat.le_refl _) hgrow2)
          have HOWN3 := Lib.hid hown2
          clear hgrow2 hv hown hown2 HO
          go_wp2
          go_roundw
          case rel => exact ⟨k + 1, a2, c2, rfl, by go_num, by omega, by omega, HOWN3.out, HO3.out⟩
          case measure => simp [intOf]; omega
        · have q : (y.tmod 20 == 19) = false := by simp [h19]
          rw [if_neg h19] at HZ
          clear h19
          go_wp2_with (at_builtin; refine wpList_append_own _ rfl _ _ 23 rfl w1.heap.size 27 i0 _ 3 24 Try.underlying23 hi0 hz0 hz1 hz2 rfl (by decide) _ k (mrow (mkTo l k)) rfl (hown.alloc _) ⟨wr.heap.size, 0, none⟩ 1 1 [.int .i64 (5 + k), .int .i64 (x.tmod 24 - 1), .int .i64 0] rfl rfl ?c6 ?c7 ?c8 ?c9 ?c10 ?_)
          case c6 => exact World.news_of_block (heap_alloc_new wr _)
          case c7 => intro u hu; simp at hu; rcases hu with rfl | rfl | rfl <;> rfl
          case c8 => unfold maxLen; omega
          case c9 => omega
          case c10 => first | omega | (simp; omega)
          intro v' w2 hown2 hgrow2 _
          obtain ⟨a2, c2, hv⟩ := slice_of_own hown2
          rw [hv] at hown2 ⊢
          rw [← HZ.out] at hown2
          have HO3 := Lib.hid ((HO.out.alloc _).grow (hown.alloc _) (Nat.le_refl _) hgrow2)
          have HOWN3 := Lib.hid hown2
          clear hgrow2 hv hown hown2 HO
          go_wp2
          go_roundw
          case rel => exact ⟨k + 1, a2, c2, rfl, by go_num, by omega, by omega, HOWN3.out, HO3.out⟩
          case measure => simp [intOf]; omega
    · have HM := Lib.hid (mbs_of_own (l := mkTo l k) (by rw [mkTo_len]; exact hown))
      have HMW := Lib.hid (mkTo_wf l k hk15)
      have hc0 : (wr.alloc (.cells #[.slice a k c, .slice ra m rc] 28)).cell? ⟨wr.heap.size, 0, none⟩ = some (.slice a k c) := by rw [World.cell?_alloc_new]; rfl
      have hc1 : (wr.alloc (.cells #[.slice a k c, .slice ra m rc] 28)).cell? ⟨wr.heap.size, 1, none⟩ = some (.slice ra m rc) := by rw [World.cell?_alloc_new]; rfl
      have HC0 := Lib.hid hc0
      have HC1 := Lib.hid hc1
      have hO7 := (Only.refl (fun _ => False) wr).alloc (.cells #[.slice a k c, .slice ra m rc] 28)
      have HM8 := Lib.hid (HM.out.only hO7)
      have HR8 := Lib.hid (HR1.out.only (hO.trans hO7))
      have HO8 := Lib.hid ((HO1.out.trans hO).trans hO7)
      have hBs : wr.heap.size < (wr.alloc (.cells #[.slice a k c, .slice ra m rc] 28)).heap.size := by simp
      clear hc0 hc1 hO7 hO hown HM
      generalize mkTo l k = M at *
      by_cases hlt : k < l.length
      · have q0 : decide ((k : Int) < 15) = false := decide_eq_false (by omega)
        clear hgo
        go_wp2_with fail
        generalize wr.alloc (.cells #[.slice a k c, .slice ra m rc] 28) = w8 at *
        generalize hB : wr.heap.size = B at *
        clear hB
        go_loopw [10] (fun vi wr => ∃ (i : Nat), i ≤ 2 ∧ vi = .int .i64 i ∧ Only (fun _ => False) w8 wr) (fun vi _ => 2 - (intOf vi).toNat)
        case atStart => exact ⟨0, by decide, rfl, Only.refl _ _⟩
        case round =>
          obtain ⟨i, hi2, rfl, hO⟩ := hrel
          have c0 := hO.cell HC0.out (fun h => h)
          have c1' := hO.cell HC1.out (fun h => h)
          have hBl : B < wr.heap.size := Nat.lt_of_lt_of_le hBs hO.size
          rcases (by omega : i = 0 ∨ i = 1 ∨ i = 2) with rfl | rfl | rfl
          · have HA := Lib.hid ((HM8.out).only hO)
            have HOr := Lib.hid hO
            clear hO
            go_wp2_with fail
            refine (points_any _ M _ HMW.out HA.out).mono ?_
            intro e w9 hpp
            obtain ⟨hO9, a1, c1, rfl, hG1⟩ := hpp.form
            have HA2 := Lib.hid (HA.out.only hO9)
            have c2 := hO9.cell c0 (fun h => h)
            have c3 := hO9.cell c1' (fun h => h)
            have hB9 : B < w9.heap.size := Nat.lt_of_lt_of_le hBl hO9.size
            have HO9 := Lib.hid (HOr.out.trans hO9)
            have HG1 := Lib.hid hG1
            have HFS := Lib.hid (form_short M)
            have HPF := Lib.hid (fun (wa wb : World) (e : Ending) (h : PtsPost wa M e wb) => h.form)
            clear hO9 hG1 hpp
            generalize (if rightB M then pointsOf M else []) = G at *
            generalize rightB M = rb at *
            go_wp2_with fail
            refine (rpoints_any _ M _ HMW.out HA2.out).mono ?_
            intro e w10 hpp
            obtain ⟨hO10, a2, c2', rfl, hG2⟩ := HPF.out _ _ _ hpp
            have HG3 := Lib.hid (HG1.out.only hO10)
            have HG2 := Lib.hid hG2
            have HO10 := Lib.hid (HO9.out.trans hO10)
            clear hO10 hG2 hpp HPF
            have q5 : (rb != rb) = false := by simp
            go_wp2_with fail
            refine (lists_is _ _ G G true _ HFS.out.1 HFS.out.2 HG3.out HG2.out (decide_eq_true rfl)).mono ?_
            rintro e w11 ⟨rfl, hO11⟩
            have HO11 := Lib.hid (HO10.out.trans hO11)
            clear hO11
            go_wp2
            go_roundw
            case rel => exact ⟨1, by decide, by first | rfl | go_num, HO11.out⟩
            case measure => simp [intOf]
          · have HA := Lib.hid ((HR8.out).only hO)
            have HOr := Lib.hid hO
            clear hO
            go_wp2_with fail
            refine (points_any _ r _ HRW.out HA.out).mono ?_
            intro e w9 hpp
            obtain ⟨hO9, a1, c1, rfl, hG1⟩ := hpp.form
            have HA2 := Lib.hid (HA.out.only hO9)
            have c2 := hO9.cell c0 (fun h => h)
            have c3 := hO9.cell c1' (fun h => h)
            have hB9 : B < w9.heap.size := Nat.lt_of_lt_of_le hBl hO9.size
            have HO9 := Lib.hid (HOr.out.trans hO9)
            have HG1 := Lib.hid hG1
            have HFS := Lib.hid (form_short r)
            have HPF := Lib.hid (fun (wa wb : World) (e : Ending) (h : PtsPost wa r e wb) => h.form)
            clear hO9 hG1 hpp
            generalize (if rightB r then pointsOf r else []) = G at *
            generalize rightB r = rb at *
            go_wp2_with fail
            refine (rpoints_any _ r _ HRW.out HA2.out).mono ?_
            intro e w10 hpp
            obtain ⟨hO10, a2, c2', rfl, hG2⟩ := HPF.out _ _ _ hpp
            have HG3 := Lib.hid (HG1.out.only hO10)
            have HG2 := Lib.hid hG2
            have HO10 := Lib.hid (HO9.out.trans hO10)
            clear hO10 hG2 hpp HPF
            have q5 : (rb != rb) = false := by simp
            go_wp2_with fail
            refine (lists_is _ _ G G true _ HFS.out.1 HFS.out.2 HG3.out HG2.out (decide_eq_true rfl)).mono ?_
            rintro e w11 ⟨rfl, hO11⟩
            have HO11 := Lib.hid (HO10.out.trans hO11)
            clear hO11
            go_wp2
            go_roundw
            case rel => exact ⟨2, by decide, by first | rfl | go_num, HO11.out⟩
            case measure => simp [intOf]
          · have HOe := Lib.hid (HO8.out.trans hO)
            clear hO
            go_wp2
            go_ret
            exact ⟨rfl, HOe.out.below (Nat.le_refl _) (fun _ _ h => h)⟩
      · clear hgo
        go_wp2_with fail
        generalize wr.alloc (.cells #[.slice a k c, .slice ra m rc] 28) = w8 at *
        generalize hB : wr.heap.size = B at *
        clear hB
        go_loopw [10] (fun vi wr => ∃ (i : Nat), i ≤ 2 ∧ vi = .int .i64 i ∧ Only (fun _ => False) w8 wr) (fun vi _ => 2 - (intOf vi).toNat)
        case atStart => exact ⟨0, by decide, rfl, Only.refl _ _⟩
        case round =>
          obtain ⟨i, hi2, rfl, hO⟩ := hrel
          have c0 := hO.cell HC0.out (fun h => h)
          have c1' := hO.cell HC1.out (fun h => h)
          have hBl : B < wr.heap.size := Nat.lt_of_lt_of_le hBs hO.size
          rcases (by omega : i = 0 ∨ i = 1 ∨ i = 2) with rfl | rfl | rfl
          · have HA := Lib.hid ((HM8.out).only hO)
            have HOr := Lib.hid hO
            clear hO
            go_wp2_with fail
            refine (points_any _ M _ HMW.out HA.out).mono ?_
            intro e w9 hpp
            obtain ⟨hO9, a1, c1, rfl, hG1⟩ := hpp.form
            have HA2 := Lib.hid (HA.out.only hO9)
            have c2 := hO9.cell c0 (fun h => h)
            have c3 := hO9.cell c1' (fun h => h)
            have hB9 : B < w9.heap.size := Nat.lt_of_lt_of_le hBl hO9.size
            have HO9 := Lib.hid (HOr.out.trans hO9)
            have HG1 := Lib.hid hG1
            have HFS := Lib.hid (form_short M)
            have HPF := Lib.hid (fun (wa wb : World) (e : Ending) (h : PtsPost wa M e wb) => h.form)
            clear hO9 hG1 hpp
            generalize (if rightB M then pointsOf M else []) = G at *
            generalize rightB M = rb at *
            go_wp2_with fail
            refine (rpoints_any _ M _ HMW.out HA2.out).mono ?_
            intro e w10 hpp
            obtain ⟨hO10, a2, c2', rfl, hG2⟩ := HPF.out _ _ _ hpp
            have HG3 := Lib.hid (HG1.out.only hO10)
            have HG2 := Lib.hid hG2
            have HO10 := Lib.hid (HO9.out.trans hO10)
            clear hO10 hG2 hpp HPF
            have q5 : (rb != rb) = false := by simp
            go_wp2_with fail
            refine (lists_is _ _ G G true _ HFS.out.1 HFS.out.2 HG3.out HG2.out (decide_eq_true rfl)).mono ?_
            rintro e w11 ⟨rfl, hO11⟩
            have HO11 := Lib.hid (HO10.out.trans hO11)
            clear hO11
            go_wp2
            go_roundw
            case rel => exact ⟨1, by decide, by first | rfl | go_num, HO11.out⟩
            case measure => simp [intOf]
          · have HA := Lib.hid ((HR8.out).only hO)
            have HOr := Lib.hid hO
            clear hO
            go_wp2_with fail
            refine (points_any _ r _ HRW.out HA.out).mono ?_
            intro e w9 hpp
            obtain ⟨hO9, a1, c1, rfl, hG1⟩ := hpp.form
            have HA2 := Lib.hid (HA.out.only hO9)
            have c2 := hO9.cell c0 (fun h => h)
            have c3 := hO9.cell c1' (fun h => h)
            have hB9 : B < w9.heap.size := Nat.lt_of_lt_of_le hBl hO9.size
            have HO9 := Lib.hid (HOr.out.trans hO9)
            have HG1 := Lib.hid hG1
            have HFS := Lib.hid (form_short r)
            have HPF := Lib.hid (fun (wa wb : World) (e : Ending) (h : PtsPost wa r e wb) => h.form)
            clear hO9 hG1 hpp
            generalize (if rightB r then pointsOf r else []) = G at *
            generalize rightB r = rb at *
            go_wp2_with fail
            refine (rpoints_any _ r _ HRW.out HA2.out).mono ?_
            intro e w10 hpp
            obtain ⟨hO10, a2, c2', rfl, hG2⟩ := HPF.out _ _ _ hpp
            have HG3 := Lib.hid (HG1.out.only hO10)
            have HG2 := Lib.hid hG2
            have HO10 := Lib.hid (HO9.out.trans hO10)
            clear hO10 hG2 hpp HPF
            have q5 : (rb != rb) = false := by simp
            go_wp2_with fail
            refine (lists_is _ _ G G true _ HFS.out.1 HFS.out.2 HG3.out HG2.out (decide_eq_true rfl)).mono ?_
            rintro e w11 ⟨rfl, hO11⟩
            have HO11 := Lib.hid (HO10.out.trans hO11)
            clear hO11
            go_wp2
            go_roundw
            case rel => exact ⟨2, by decide, by first | rfl | go_num, HO11.out⟩
            case measure => simp [intOf]
          · have HOe := Lib.hid (HO8.out.trans hO)
            clear hO
            go_wp2
            go_ret
            exact ⟨rfl, HOe.out.below (Nat.le_refl _) (fun _ _ h => h)⟩
end Go.Proofs.Ytalclldccnichaa
