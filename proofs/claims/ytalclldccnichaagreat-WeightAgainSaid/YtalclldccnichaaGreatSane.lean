/-
  Small functions, and sanity.
-/
import Derived.Test.YtalclldccnichaaGreatSame
namespace Go.Proofs.YtalclldccnichaaGreat
open Go.RowKit

def mostZ (n : Int) : Int := if n < 1 then 0 else (n - 1) / 3
def needZ (n : Int) : Int := if n < 1 then 0 else mostZ n + 1
theorem most_is (n z : Int) (w : World) (hn : n ≤ 9223372036854775807) (hz : mostZ n = z) : Calls Tryz.prog 31 #[.int .i64 n] w fun e w' => e = .returned (.int .i64 z) ∧ w = w' := by
  have HZ := Lib.hid hz
  clear hz
  by_cases h : n < 1
  · have d : decide (n < 1) = true := decide_eq_true h
    have HE := Lib.hid (show z = 0 by rw [← HZ.out]; unfold mostZ; rw [if_pos h])
    go_enter Tryz.func31, Tryz.ntmps31
    go_wp2
    go_ret
    exact ⟨ret_int HE.out.symm, rfl⟩
  · have d : decide (n < 1) = false := decide_eq_false h
    have HE := Lib.hid (show z = (n - 1) / 3 by rw [← HZ.out]; unfold mostZ; rw [if_neg h])
    go_enter Tryz.func31, Tryz.ntmps31
    go_wp2
    go_ret
    exact ⟨ret_int (by rw [HE.out]), rfl⟩
theorem need_is (n z : Int) (w : World) (hn : n ≤ 9223372036854775807) (hz : needZ n = z) : Calls Tryz.prog 32 #[.int .i64 n] w fun e w' => e = .returned (.int .i64 z) ∧ w = w' := by
  have HZ := Lib.hid hz
  clear hz
  by_cases h : n < 1
  · have d : decide (n < 1) = true := decide_eq_true h
    have HE := Lib.hid (show z = 0 by rw [← HZ.out]; unfold needZ; rw [if_pos h])
    go_enter Tryz.func32, Tryz.ntmps32
    go_wp2
    go_ret
    exact ⟨ret_int HE.out.symm, rfl⟩
  · have d : decide (n < 1) = false := decide_eq_false h
    have HE := Lib.hid (show z = mostZ n + 1 by rw [← HZ.out]; unfold needZ; rw [if_neg h])
    have hm : 0 ≤ mostZ n ∧ mostZ n ≤ 4000000000000000000 := by unfold mostZ; rw [if_neg h]; omega
    obtain ⟨m0, m1⟩ := hm
    obtain ⟨m, hm⟩ : ∃ m, mostZ n = m := ⟨_, rfl⟩
    rw [hm] at m0 m1
    have HM := Lib.hid hm
    clear hm
    go_enter Tryz.func32, Tryz.ntmps32
    go_wp2_with fail
    refine (most_is n m _ hn HM.out).mono ?_
    rintro e w' ⟨rfl, rfl⟩
    go_wp2
    go_ret
    exact ⟨ret_int (by rw [HE.out, HM.out]), rfl⟩
theorem public_is (n z : Int) (w : World) (h0 : 0 ≤ n) (hn : n ≤ 9223372036854775807) (hz : powM 4 n 2305843009213691579 = z) : Calls Tryz.prog 25 #[.int .i64 n] w fun e w' => e = .returned (.int .i64 z) ∧ w = w' := by
  have HZ := Lib.hid hz
  clear hz
  go_enter Tryz.func25, Tryz.ntmps25
  go_wp2_with fail
  refine (rpow_any 4 n 2305843009213691579 _ (by decide) (by decide) h0 hn).mono ?_
  rintro e w' ⟨rfl, rfl⟩
  rw [HZ.out]
  go_wp2
  go_ret
  exact ⟨rfl, rfl⟩

theorem Tryz.infoM : (Tryz.prog.info? 68).map (fun i => (i.zero, i.size, i.bytes)) = some (some (.agg #[.int .i64 0, .int .i64 0, .int .i64 0]), 3, 24) := by kernel_rfl
def mrow (l : List Mb) : List Value := l.flatMap (fun m => [.int .i64 m.id, .int .i64 m.wt, .int .i64 m.pb])
theorem mrow_append (a b : List Mb) : mrow (a ++ b) = mrow a ++ mrow b := by simp [mrow]
theorem mrow_at (l : List Mb) : ∀ j, j < l.length → (mrow l)[j * 3]? = some (.int .i64 (mbAt l j).id) ∧ (mrow l)[j * 3 + 1]? = some (.int .i64 (mbAt l j).wt) ∧ (mrow l)[j * 3 + 2]? = some (.int .i64 (mbAt l j).pb) := by
  induction l with
  | nil => intro j h; simp at h
  | cons s l ih =>
    intro j h
    cases j with
    | zero => simp [mrow, mbAt]
    | succ j =>
      have := ih j (by simpa using h)
      have e1 : (j + 1) * 3 = j * 3 + 3 := by omega
      rw [e1]
      simpa [mrow, mbAt] using this
theorem mbs_of_own {w : World} {base : Nat} {v : Value} {l : List Mb} (h : w.ownsRow base 68 3 v l.length (mrow l)) : MbsAt w v l := by
  cases l with
  | nil =>
    rcases h.2 with ⟨rfl, _⟩ | ⟨g, cap, cur, rfl, _⟩
    · exact .inl ⟨_, _, rfl, rfl⟩
    · exact .inl ⟨_, _, rfl, rfl⟩
  | cons z l =>
    rcases h.2 with ⟨_, h0⟩ | ⟨g, cap, cur, rfl, hb, hg, hcap, hcap2, hsz, htk⟩
    · simp at h0
    · refine .inr ⟨g, 0, cap, rfl, (Array.getElem?_eq_some_iff.1 hg).1, hcap, by unfold maxLen at hcap2; omega, fun j hj => ?_⟩
      have h1 := mrow_at (z :: l) j hj
      have c1 := cell_of_row w g (j * 3) cur 68 (0, 0) hg
      have c2 := cell_of_row w g (j * 3 + 1) cur 68 (0, 0) hg
      have c3 := cell_of_row w g (j * 3 + 2) cur 68 (0, 0) hg
      rw [Nat.zero_add, c1, c2, c3]
      rw [← htk, List.getElem?_take_of_lt (by omega), List.getElem?_take_of_lt (by omega), List.getElem?_take_of_lt (by omega)] at h1
      simpa using h1
/-- Members by weights, of the first k. -/
def wtsTo (zs : List Int) : Nat → List Mb
  | 0 => []
  | k + 1 => wtsTo zs k ++ [⟨1 + k, ptAt zs k, 0⟩]
theorem wtsTo_len (zs : List Int) (k : Nat) : (wtsTo zs k).length = k := by
  induction k with
  | zero => rfl
  | succ k ih => rw [wtsTo, List.length_append, ih]; rfl

set_option maxHeartbeats 1000000 in
theorem weights_any (sv : Value) (zs : List Int) (w : World) (hlen : zs.length ≤ 1000) (hI : PtsAt w.heap.size w sv zs) :
    Calls Tryz.prog 29 #[sv] w fun e w' => ∃ v, e = .returned v ∧ MbsAt w' v (wtsTo zs zs.length) ∧ Only (fun _ => False) w w' := by
  obtain ⟨i0, hi0, hz0, hz1, hz2⟩ := info_parts Tryz.infoM
  obtain ⟨a1, c1, rfl⟩ := hI.slice
  have HI := Lib.hid hI
  clear hI
  go_enter Tryz.func29, Tryz.ntmps29
  go_wp2_with fail
  go_loopw [3, 4] (fun v vi wr => ∃ (k : Nat) (a : Option Addr) (c : Nat), v = .slice a k c ∧ vi = .int .i64 k ∧ k ≤ zs.length ∧ wr.ownsRow w.heap.size 68 3 (.slice a k c) k (mrow (wtsTo zs k)) ∧ Only (fun _ => False) w wr) (fun _ vi _ => zs.length - (intOf vi).toNat)
  case atStart => exact ⟨0, none, 0, rfl, rfl, Nat.zero_le _, World.ownsRow_nil _ _ _ _, Only.refl _ _⟩
  case round =>
    obtain ⟨k, a, c, rfl, rfl, hk, hown, hO⟩ := hrel
    have hsz := hO.size
    by_cases hlt : k < zs.length
    · rcases HI.out.only hO with ⟨_, _, _, hx0⟩ | ⟨b1, o1, cp1, hv1, hb1, hc1, hd1, he1⟩
      · rw [hx0] at hlt; simp at hlt
      simp only [Value.slice.injEq, true_and] at hv1
      obtain ⟨rfl, rfl⟩ := hv1
      have p0 := he1 k hlt
      have HZ := Lib.hid (show mrow (wtsTo zs (k + 1)) = mrow (wtsTo zs k) ++ [.int .i64 (1 + k), .int .i64 (ptAt zs k), .int .i64 0] by rw [wtsTo, mrow_append]; rfl)
      have HO := Lib.hid hO
      clear he1 hO
      generalize ptAt zs k = x at *
      go_wp2_with (at_builtin; refine wpList_append_own _ rfl _ _ 25 rfl w.heap.size 68 i0 _ 3 24 Tryz.underlying25 hi0 hz0 hz1 hz2 rfl (by decide) _ k (mrow (wtsTo zs k)) rfl (hown.alloc _) ⟨wr.heap.size, 0, none⟩ 1 1 [.int .i64 (1 + k), .int .i64 x, .int .i64 0] rfl rfl ?c1 ?c2 ?c3 ?c4 ?c5 ?_)
      case c1 => exact World.news_of_block (heap_alloc_new wr _)
      case c2 => intro u hu; simp at hu; rcases hu with rfl | rfl | rfl <;> rfl
      case c3 => unfold maxLen; omega
      case c4 => omega
      case c5 => first | omega | (simp; omega)
      intro v' w2 hown2 hgrow2 _
      obtain ⟨a2, c2, hv⟩ := slice_of_own hown2
      rw [hv] at hown2 ⊢
      rw [← HZ.out] at hown2
      have HO3 := Lib.hid ((HO.out.alloc _).grow (hown.alloc _) (Nat.le_refl _) hgrow2)
      have HOWN3 := Lib.hid hown2
      clear hgrow2 hv hown hown2 HO
      go_wp2
      go_roundw
      case rel => exact ⟨k + 1, a2, c2, rfl, by go_num, by omega, HOWN3.out, HO3.out⟩
      case measure => simp [intOf]; omega
    · obtain rfl : k = zs.length := by omega
      have HM := Lib.hid (mbs_of_own (l := wtsTo zs zs.length) (by rw [wtsTo_len]; exact hown))
      have HO := Lib.hid hO
      clear hown hO
      go_wp2
      go_ret
      exact ⟨_, rfl, HM.out, HO.out⟩

theorem pts_lit (w : World) (zs : List Int) (T : TypeId) (h : zs.length ≤ 9223372036854775807) : PtsAt (w.alloc (.cells (irow zs).toArray T)).heap.size (w.alloc (.cells (irow zs).toArray T)) (.slice (some ⟨w.heap.size, 0, none⟩) zs.length zs.length) zs := by
  refine .inr ⟨w.heap.size, 0, zs.length, rfl, by simp, Nat.le_refl _, h, fun j hj => ?_⟩
  rw [Nat.zero_add, cell_of_row _ w.heap.size j (irow zs).toArray T (0, 0) (heap_alloc_new w _)]
  have := irow_get zs j hj
  simpa using this
theorem pts_at (w : World) (zs : List Int) (T : TypeId) (n : Nat) (hn : w.heap.size = n) (h : zs.length ≤ 9223372036854775807) : PtsAt (w.alloc (.cells (irow zs).toArray T)).heap.size (w.alloc (.cells (irow zs).toArray T)) (.slice (some ⟨n, 0, none⟩) zs.length zs.length) zs := by
  subst hn; exact pts_lit w zs T h
theorem shs_lit (w : World) (l : List (Int × Int)) (T : TypeId) (h : l.length ≤ 9223372036854775807) : ShsAt (w.alloc (.cells (srow l).toArray T)) (.slice (some ⟨w.heap.size, 0, none⟩) l.length l.length) l := by
  refine .inr ⟨w.heap.size, 0, l.length, rfl, by simp, Nat.le_refl _, h, fun j hj => ?_⟩
  rw [Nat.zero_add, cell_of_row _ w.heap.size (j * 2) (srow l).toArray T (0, 0) (heap_alloc_new w _), cell_of_row _ w.heap.size (j * 2 + 1) (srow l).toArray T (0, 0) (heap_alloc_new w _)]
  have := srow_at l j hj
  simpa using this
theorem small_shs {l : List (Int × Int)} (h : ∀ s ∈ l, (0 ≤ s.1 ∧ s.1 ≤ 9000000000000000000) ∧ (0 ≤ s.2 ∧ s.2 ≤ 9000000000000000000)) : ShsW l := by
  refine ⟨fun j => ?_⟩
  unfold shAt
  by_cases hj : j < l.length
  · have := h l[j] (List.getElem_mem hj)
    rw [show l.getD j (0, 0) = l[j] by simp [List.getD, hj]]
    omega
  · rw [show l.getD j (0, 0) = (0, 0) by simp [List.getD, List.getElem?_eq_none (by omega : l.length ≤ j)]]
    simp

theorem grid_lit (w : World) : GridAt ((((w.alloc (.cells #[.int .i64 1, .int .i64 2] 3)).alloc (.cells #[.int .i64 3] 3)).alloc (.cells #[.int .i64 4, .int .i64 5, .int .i64 6] 3)).alloc
      (.cells #[.slice (some ⟨w.heap.size, 0, none⟩) 2 2, .slice (some ⟨w.heap.size + 1, 0, none⟩) 1 1, .slice (some ⟨w.heap.size + 1 + 1, 0, none⟩) 3 3] 22)) (.slice (some ⟨w.heap.size + 1 + 1 + 1, 0, none⟩) 3 3) [[1, 2], [3], [4, 5, 6]] := by
  have p1 := pts_lit w [1, 2] 3 (by decide)
  have p2 := pts_at (w.alloc (.cells #[.int .i64 1, .int .i64 2] 3)) [3] 3 (w.heap.size + 1) (by simp) (by decide)
  have p3 := pts_at ((w.alloc (.cells #[.int .i64 1, .int .i64 2] 3)).alloc (.cells #[.int .i64 3] 3)) [4, 5, 6] 3 (w.heap.size + 1 + 1) (by simp) (by decide)
  have hn := heap_alloc_new (((w.alloc (.cells #[.int .i64 1, .int .i64 2] 3)).alloc (.cells #[.int .i64 3] 3)).alloc (.cells #[.int .i64 4, .int .i64 5, .int .i64 6] 3)) (.cells #[.slice (some ⟨w.heap.size, 0, none⟩) 2 2, .slice (some ⟨w.heap.size + 1, 0, none⟩) 1 1, .slice (some ⟨w.heap.size + 1 + 1, 0, none⟩) 3 3] 22)
  simp only [World.size_alloc] at hn
  refine .inr ⟨w.heap.size + 1 + 1 + 1, 0, 3, rfl, by simp, by decide, by decide, fun j hj => ?_⟩
  rw [Nat.zero_add, cell_of_row _ _ j _ _ _ hn]
  match j, hj with
  | 0, _ => exact ⟨_, rfl, p1.only ((((Only.refl _ _).alloc _).alloc _).alloc _)⟩
  | 1, _ => exact ⟨_, rfl, p2.only (((Only.refl _ _).alloc _).alloc _)⟩
  | 2, _ => exact ⟨_, rfl, p3.only ((Only.refl _ _).alloc _)⟩
theorem short_lit : Short [[1, 2], [3], [4, 5, 6]] := fun j => by
  match j with
  | 0 => decide
  | 1 => decide
  | 2 => decide
  | j + 3 => simp [List.getD]
theorem small_12 : IntsW [1, 2] := ⟨fun j => by
  match j with
  | 0 => decide
  | 1 => decide
  | j + 2 => simp [ptAt, List.getD]⟩

set_option maxRecDepth 100000 in
set_option maxHeartbeats 4000000 in
theorem sanity_any (w : World) : Calls Tryz.prog 6 #[] w fun e w' => e = .returned (.bool true) ∧ Only (fun _ => False) w w' := by
  go_enter Tryz.func6, Tryz.ntmps6
  go_wp2_with fail
  refine (weights_any _ [2, 1, 3] _ (by decide) (pts_lit w [2, 1, 3] 3 (by decide))).mono ?_
  rintro e w1 ⟨v1, rfl, hM, hO1⟩
  have hO1' : Only (fun _ => False) w w1 := ((Only.refl _ w).alloc _).trans hO1
  have HP := Lib.hid (points_any v1 _ w1 ⟨fun j => by
    match j with
    | 0 => decide
    | 1 => decide
    | 2 => decide
    | j + 3 => simp [mbAt, wtsTo]⟩ hM)
  have HO1 := Lib.hid hO1'
  have hsv : ∃ a c, v1 = .slice a 3 c := by
    rcases hM with ⟨a, c, rfl, h⟩ | ⟨b, off, cap, rfl, _⟩
    · simp [wtsTo] at h
    · exact ⟨_, _, rfl⟩
  obtain ⟨av, cv, rfl⟩ := hsv
  clear hM hO1 hO1'
  go_wp2_with fail
  refine HP.out.mono ?_
  rintro e w2 ⟨hO2, hpp⟩
  obtain ⟨v2, rfl, hG⟩ : ∃ v, e = .returned (.tuple #[v, .bool true]) ∧ GridAt w2 v [[1, 2], [3], [4, 5, 6]] := by
    rcases hpp with ⟨_, h⟩ | ⟨h, _⟩
    · exact h
    · exact absurd h (by decide +kernel)
  obtain ⟨a2, c2, rfl⟩ := hG.slice
  have HG := Lib.hid (show GridAt w2 (.slice a2 3 c2) [[1, 2], [3], [4, 5, 6]] from hG)
  have HO2 := Lib.hid (HO1.out.trans hO2)
  clear hG hO2 HP HO1 hpp
  have HGL := Lib.hid (grid_lit w2)
  have hO3 : Only (fun _ => False) w2 ((((w2.alloc (.cells #[.int .i64 1, .int .i64 2] 3)).alloc (.cells #[.int .i64 3] 3)).alloc (.cells #[.int .i64 4, .int .i64 5, .int .i64 6] 3)).alloc
      (.cells #[.slice (some ⟨w2.heap.size, 0, none⟩) 2 2, .slice (some ⟨w2.heap.size + 1, 0, none⟩) 1 1, .slice (some ⟨w2.heap.size + 1 + 1, 0, none⟩) 3 3] 22)) := ((((Only.refl _ w2).alloc _).alloc _).alloc _).alloc _
  have HL := Lib.hid (lists_is _ _ [[1, 2], [3], [4, 5, 6]] [[1, 2], [3], [4, 5, 6]] true _ short_lit (by decide) (HG.out.only hO3) HGL.out (by decide))
  have HO3 := Lib.hid (HO2.out.trans hO3)
  clear hO3 HGL HG HO2
  go_wp2_with fail
  refine HL.out.mono ?_
  rintro e w4 ⟨rfl, hO4⟩
  have HO4 := Lib.hid (HO3.out.trans hO4)
  clear hO4 HL HO3
  go_wp2_with fail
  refine (most_is 9 2 _ (by decide) (by decide)).mono ?_
  rintro e w' ⟨rfl, rfl⟩
  go_wp2_with fail
  refine (need_is 9 3 _ (by decide) (by decide)).mono ?_
  rintro e w' ⟨rfl, rfl⟩
  go_wp2_with fail
  refine (most_is 10 3 _ (by decide) (by decide)).mono ?_
  rintro e w' ⟨rfl, rfl⟩
  go_wp2_with fail
  refine (need_is 10 4 _ (by decide) (by decide)).mono ?_
  rintro e w' ⟨rfl, rfl⟩
  go_wp2_with fail
  refine (need_is 3 1 _ (by decide) (by decide)).mono ?_
  rintro e w' ⟨rfl, rfl⟩
  go_wp2_with fail
  refine (need_is 1 1 _ (by decide) (by decide)).mono ?_
  rintro e w' ⟨rfl, rfl⟩
  go_wp2_with fail
  refine (need_is 0 0 _ (by decide) (by decide)).mono ?_
  rintro e w' ⟨rfl, rfl⟩
  have hS5 := shs_lit w4 [(1, 7), (2, 9)] 53 (by decide)
  have HJ1 := Lib.hid (join_any 2 _ [(1, 7), (2, 9)] 5 true _ (small_shs (by decide)) (by decide) (by decide) hS5 (by decide +kernel) (by decide +kernel))
  have HS5 := Lib.hid hS5
  have HO5 := Lib.hid (HO4.out.alloc (.cells #[.int .i64 1, .int .i64 7, .int .i64 2, .int .i64 9] 53))
  clear hS5 HO4
  go_wp2_with fail
  refine HJ1.out.mono ?_
  rintro e w6 ⟨rfl, hO6⟩
  have HS6 := Lib.hid (HS5.out.below hO6)
  have HO6 := Lib.hid (HO5.out.trans hO6)
  clear HJ1 hO6 HS5 HO5
  have HJ2 := Lib.hid (join_any 2 _ [(1, 7), (1, 9)] 0 false _ (small_shs (by decide)) (by decide) (by decide) (shs_lit w6 [(1, 7), (1, 9)] 53 (by decide)) (by decide +kernel) (by decide +kernel))
  have hO7 := (Only.refl (fun _ => False) w6).alloc (.cells #[.int .i64 1, .int .i64 7, .int .i64 1, .int .i64 9] 53)
  have HS7 := Lib.hid (HS6.out.below hO7)
  have HO7 := Lib.hid (HO6.out.trans hO7)
  clear hO7 HS6 HO6
  go_wp2_with fail
  refine HJ2.out.mono ?_
  rintro e w8 ⟨rfl, hO8⟩
  have HJ3 := Lib.hid (join_any 0 _ [(1, 7), (2, 9)] 0 false _ (small_shs (by decide)) (by decide) (by decide) (HS7.out.below hO8) (by decide +kernel) (by decide +kernel))
  have HO8 := Lib.hid (HO7.out.trans hO8)
  clear HJ2 hO8 HS7 HO7
  go_wp2_with fail
  refine HJ3.out.mono ?_
  rintro e w9 ⟨rfl, hO9⟩
  have HO9 := Lib.hid (HO8.out.trans hO9)
  clear HJ3 hO9 HO8
  go_wp2_with fail
  refine (public_is 7 16384 _ (by decide) (by decide) (by decide +kernel)).mono ?_
  rintro e w' ⟨rfl, rfl⟩
  go_wp2_with fail
  refine (public_is 9 262144 _ (by decide) (by decide) (by decide +kernel)).mono ?_
  rintro e w' ⟨rfl, rfl⟩
  have HL1 := Lib.hid (lifted_any 2 _ [(1, 16384), (2, 262144)] 1024 true _ (small_shs (by decide)) (by decide) (by decide) (shs_lit w9 [(1, 16384), (2, 262144)] 53 (by decide)) (by decide +kernel) (by decide +kernel))
  have HO10 := Lib.hid (HO9.out.alloc (.cells #[.int .i64 1, .int .i64 16384, .int .i64 2, .int .i64 262144] 53))
  clear HO9
  go_wp2_with fail
  refine HL1.out.mono ?_
  rintro e w11 ⟨rfl, hO11⟩
  have HO11 := Lib.hid (HO10.out.trans hO11)
  have hP1 := pts_lit w11 [1, 2] 3 (by decide)
  have hP2 := pts_at (w11.alloc (.cells #[.int .i64 1, .int .i64 2] 3)) [7, 9] 3 (w11.heap.size + 1) (by simp) (by decide)
  have hO12 := (Only.refl (fun _ => False) (w11.alloc (.cells #[.int .i64 1, .int .i64 2] 3))).alloc (.cells #[.int .i64 7, .int .i64 9] 3)
  have HS := Lib.hid (share_any (.slice (some ⟨w11.heap.size, 0, none⟩) 2 2) (.slice (some ⟨w11.heap.size + 1, 0, none⟩) 2 2) [1, 2] [7, 9] 5 true _ small_12 (by decide) (by decide) (hP1.only hO12) hP2 (by decide +kernel) (by decide +kernel))
  have HO12 := Lib.hid ((HO11.out.alloc (.cells #[.int .i64 1, .int .i64 2] 3)).alloc (.cells #[.int .i64 7, .int .i64 9] 3))
  clear HL1 hO11 HO10 HO11 hP1 hP2 hO12
  go_wp2_with fail
  refine HS.out.mono ?_
  rintro e w13 ⟨rfl, hO13⟩
  have HO13 := Lib.hid (HO12.out.trans hO13)
  clear HS HO12 hO13
  go_wp2_with fail
  refine (public_is 5 1024 _ (by decide) (by decide) (by decide +kernel)).mono ?_
  rintro e w' ⟨rfl, rfl⟩
  go_wp2
  go_ret
  exact ⟨rfl, HO13.out⟩
end Go.Proofs.YtalclldccnichaaGreat
