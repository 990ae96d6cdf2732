/-
  The reference's Ints, Same; the law's lists.
-/
import Derived.Test.YtalclldccnichaaGreatRefPoints2
namespace Go.Proofs.YtalclldccnichaaGreat
open Go.RowKit

theorem ext_ptAt {xs ys : List Int} (hl : xs.length = ys.length) (h : ∀ j, j < xs.length → ptAt xs j = ptAt ys j) : xs = ys := by
  apply List.ext_getElem hl
  intro j h1 h2
  have := h j h1
  unfold ptAt at this
  simpa [List.getD, h1, h2] using this

set_option maxHeartbeats 1000000 in
theorem rints_is (sv nv : Value) (xs ys : List Int) (bb : Bool) (w : World) (_hlen : xs.length ≤ 9223372036854775807) (hI : PtsAt w.heap.size w sv xs) (hN : PtsAt w.heap.size w nv ys) (hb : decide (xs = ys) = bb) :
    Calls Tryz.prog 11 #[sv, nv] w fun e w' => e = .returned (.bool bb) ∧ ∃ n, w' = w.drewN n := by
  obtain ⟨a1, c1, rfl⟩ := hI.slice
  obtain ⟨a2, c2, rfl⟩ := hN.slice
  have HI := Lib.hid hI
  have HN := Lib.hid hN
  have HB := Lib.hid hb
  clear hI hN hb
  by_cases hl : xs.length = ys.length
  · have q : ((xs.length : Int) != (ys.length : Int)) = false := by simp; omega
    have hl1 : xs.length ≤ ys.length := by omega
    have HL := Lib.hid hl
    clear hl
    go_enter Tryz.func11, Tryz.ntmps11
    go_wp2_with fail
    go_loopw [5] (fun vi wr => ∃ (k n : Nat), vi = .int .i64 k ∧ k ≤ xs.length ∧ (∀ j, j < k → ptAt xs j = ptAt ys j) ∧ wr = w.drewN n) (fun vi _ => xs.length - (intOf vi).toNat)
    case atStart => exact ⟨0, 0, rfl, Nat.zero_le _, fun j hj => by omega, rfl⟩
    case round =>
      obtain ⟨k, n, rfl, hk, hall, rfl⟩ := hrel
      have HALL := Lib.hid hall
      clear hall
      by_cases hlt : k < xs.length
      · rcases HI.out with ⟨_, _, _, hx0⟩ | ⟨b1, o1, cp1, hv1, hb1, hc1, hd1, he1⟩
        · rw [hx0] at hlt; simp at hlt
        rcases HN.out with ⟨_, _, _, hy0⟩ | ⟨b2, o2, cp2, hv2, hb2, hc2, hd2, he2⟩
        · rw [hy0] at hl1; simp at hl1; rw [hl1] at hlt; simp at hlt
        simp only [Value.slice.injEq, true_and] at hv1 hv2
        obtain ⟨rfl, rfl⟩ := hv1
        obtain ⟨rfl, rfl⟩ := hv2
        have p0 := he1 k hlt
        have hlt2 : k < ys.length := by omega
        have p1 := he2 k hlt2
        clear he1 he2
        by_cases e : ptAt xs k = ptAt ys k
        · have HN := Lib.hid (show ∀ j, j < k + 1 → ptAt xs j = ptAt ys j from fun j hj => by
            by_cases h : j = k
            · rw [h]; exact e
            · exact HALL.out j (by omega))
          rw [e] at p0
          clear e
          generalize ptAt ys k = y at *
          have q2 : (y != y) = false := by simp
          go_wp2_with fail
          go_quiet (fail)
          go_wp2
          go_roundw
          case rel => exact ⟨k + 1, n + nq, by go_num, by omega, HN.out, by first | rfl | trivial⟩
          case measure => simp [intOf]; omega
        · have HF := Lib.hid (show bb = false by rw [← HB.out]; exact decide_eq_false (fun h => e (by rw [h])))
          have q2 : (ptAt xs k != ptAt ys k) = true := by simp [e]
          clear e
          generalize ptAt xs k = x at *
          generalize ptAt ys k = y at *
          go_wp2_with fail
          go_quiet (fail)
          go_wp2
          go_ret
          exact ⟨by rw [HF.out]; rfl, n + nq, by first | rfl | trivial | simp⟩
      · have HT := Lib.hid (show bb = true by
          rw [← HB.out]; exact decide_eq_true (ext_ptAt HL.out (fun j hj => HALL.out j (by omega))))
        go_wp2
        go_ret
        exact ⟨by rw [HT.out]; rfl, n, rfl⟩
  · have q : ((xs.length : Int) != (ys.length : Int)) = true := by simp; omega
    have HF := Lib.hid (show bb = false by rw [← HB.out]; exact decide_eq_false (fun h => hl (by rw [h])))
    clear hl
    go_enter Tryz.func11, Tryz.ntmps11
    go_wp2
    go_ret
    exact ⟨by rw [HF.out]; rfl, 0, rfl⟩

theorem quiet_add_more {P : Program} {f : FuncId} {args : Array Value} {w : World} {a n : Nat} {v : Value}
    (h : ∀ k, Calls P f args (w.drewN k) fun e w' => e = .returned v ∧ ∃ m, w' = (w.drewN k).drewN m) :
    Calls P f args (w.drewN (a + n)) fun e w'' => e = .returned v ∧ ∃ m, w'' = w.drewN (a + m) :=
  (h (a + n)).mono fun _ _ ⟨he, m, hm⟩ => ⟨he, n + m, by rw [hm, World.drewN_drewN, Nat.add_assoc]⟩
theorem ext_getD {xs ys : List (List Int)} (hl : xs.length = ys.length) (h : ∀ j, j < xs.length → xs.getD j [] = ys.getD j []) : xs = ys := by
  apply List.ext_getElem hl
  intro j h1 h2
  have := h j h1
  simpa [List.getD, h1, h2] using this
theorem GridAt.slice {W : World} {v : Value} {rows : List (List Int)} (h : GridAt W v rows) : ∃ a c, v = .slice a rows.length c := by
  rcases h with ⟨a, c, rfl, rfl⟩ | ⟨b, off, cap, rfl, _⟩
  · exact ⟨_, _, rfl⟩
  · exact ⟨_, _, rfl⟩
/-- No list is longer than a machine's number. -/
def Short (rows : List (List Int)) : Prop := ∀ j, (rows.getD j []).length ≤ 9223372036854775807

set_option maxHeartbeats 1000000 in
theorem rsame_is (v1 v2 g1 g2 : Value) (xs ys : List Int) (r1 r2 : List (List Int)) (bb : Bool) (w : World) (hlen : xs.length ≤ 9223372036854775807) (hs : Short r1) (_hr1 : r1.length ≤ 9223372036854775807)
    (hI : PtsAt w.heap.size w v1 xs) (hN : PtsAt w.heap.size w v2 ys) (hG : GridAt w g1 r1) (hH : GridAt w g2 r2) (hb : decide (xs = ys ∧ r1 = r2) = bb) :
    Calls Tryz.prog 10 #[.agg #[v1, g1], .agg #[v2, g2]] w fun e w' => e = .returned (.bool bb) ∧ Only (fun _ => False) w w' := by
  obtain ⟨a1, c1, rfl⟩ := hI.slice
  obtain ⟨a2, c2, rfl⟩ := hN.slice
  obtain ⟨a3, c3, rfl⟩ := hG.slice
  obtain ⟨a4, c4, rfl⟩ := hH.slice
  have HI := Lib.hid hI
  have HN := Lib.hid hN
  have HG := Lib.hid hG
  have HH := Lib.hid hH
  have HB := Lib.hid hb
  have HS := Lib.hid hs
  clear hI hN hb hG hH hs
  have hO2 : Only (fun _ => False) w ((w.alloc (.cells #[.slice a1 xs.length c1, .slice a3 r1.length c3] 28)).alloc (.cells #[.slice a2 ys.length c2, .slice a4 r2.length c4] 28)) := ((Only.refl _ w).alloc _).alloc _
  have hk0 : ((w.alloc (.cells #[.slice a1 xs.length c1, .slice a3 r1.length c3] 28)).alloc (.cells #[.slice a2 ys.length c2, .slice a4 r2.length c4] 28)).heap[w.heap.size]? = some (.cells #[.slice a1 xs.length c1, .slice a3 r1.length c3] 28 (0, 0)) := by
    rw [Below.heap_alloc _ _ _ (by simp)]; exact heap_alloc_new w _
  have hk1 : ((w.alloc (.cells #[.slice a1 xs.length c1, .slice a3 r1.length c3] 28)).alloc (.cells #[.slice a2 ys.length c2, .slice a4 r2.length c4] 28)).heap[w.heap.size + 1]? = some (.cells #[.slice a2 ys.length c2, .slice a4 r2.length c4] 28 (0, 0)) := by
    have := heap_alloc_new (w.alloc (.cells #[.slice a1 xs.length c1, .slice a3 r1.length c3] 28)) (.cells #[.slice a2 ys.length c2, .slice a4 r2.length c4] 28)
    rw [World.size_alloc] at this; exact this
  have z3 := cell_of_row _ _ 1 _ _ _ hk0
  have z4 := cell_of_row _ _ 1 _ _ _ hk1
  have hs3 := (Array.getElem?_eq_some_iff.1 hk0).1
  have hs4 := (Array.getElem?_eq_some_iff.1 hk1).1
  have HO2 := Lib.hid hO2
  have HZ3 := Lib.hid z3
  have HZ4 := Lib.hid z4
  have HIT := Lib.hid (rints_is _ _ xs ys (decide (xs = ys)) _ hlen (HI.out.only hO2) (HN.out.only hO2) rfl)
  clear hO2 hk0 hk1 z3 z4
  go_enter Tryz.func10, Tryz.ntmps10
  go_wp2_with fail
  refine HIT.out.mono ?_
  rintro e w3 ⟨rfl, n0, hw3⟩
  have HO3 := Lib.hid (show Only (fun _ => False) w w3 by rw [hw3]; exact HO2.out.drewN n0)
  have z3 : w3.cell? ⟨w.heap.size, 1, none⟩ = some (.slice a3 r1.length c3) := by rw [hw3]; exact HZ3.out
  have z4 : w3.cell? ⟨w.heap.size + 1, 1, none⟩ = some (.slice a4 r2.length c4) := by rw [hw3]; exact HZ4.out
  have l3 : w.heap.size < w3.heap.size := by rw [hw3]; exact hs3
  have l4 : w.heap.size + 1 < w3.heap.size := by rw [hw3]; exact hs4
  clear hw3 hs3 hs4 HO2 HZ3 HZ4 HIT
  by_cases hxy : xs = ys
  · have q0 : decide (xs = ys) = true := decide_eq_true hxy
    rw [q0]
    by_cases hl : r1.length = r2.length
    · have q : ((r1.length : Int) != (r2.length : Int)) = false := by simp; omega
      have hl1 : r1.length ≤ r2.length := by omega
      have HL := Lib.hid hl
      have HXY := Lib.hid hxy
      clear hl hxy q0
      go_wp2_with fail
      go_loopw [5] (fun vi wr => ∃ (k n : Nat), vi = .int .i64 k ∧ k ≤ r1.length ∧ (∀ j, j < k → r1.getD j [] = r2.getD j []) ∧ wr = w3.drewN n) (fun vi _ => r1.length - (intOf vi).toNat)
      case atStart => exact ⟨0, 0, rfl, Nat.zero_le _, fun j hj => by omega, rfl⟩
      case round =>
        obtain ⟨k, n, rfl, hk, hall, rfl⟩ := hrel
        have HALL := Lib.hid hall
        clear hall
        by_cases hlt : k < r1.length
        · rcases HG.out.only HO3.out with ⟨_, _, _, hx0⟩ | ⟨b1, o1, cp1, hv1, hb1, hc1, hd1, he1⟩
          · rw [hx0] at hlt; simp at hlt
          rcases HH.out.only HO3.out with ⟨_, _, _, hy0⟩ | ⟨b2, o2, cp2, hv2, hb2, hc2, hd2, he2⟩
          · rw [hy0] at hl1; simp at hl1; rw [hl1] at hlt; simp at hlt
          simp only [Value.slice.injEq, true_and] at hv1 hv2
          obtain ⟨rfl, rfl⟩ := hv1
          obtain ⟨rfl, rfl⟩ := hv2
          have hlt2 : k < r2.length := by omega
          obtain ⟨u1, p0, t1⟩ := he1 k hlt
          obtain ⟨u2, p1, t2⟩ := he2 k hlt2
          have HT1 := Lib.hid t1
          have HT2 := Lib.hid t2
          obtain ⟨b3, b4, rfl⟩ := t1.slice
          obtain ⟨b5, b6, rfl⟩ := t2.slice
          have HSK := Lib.hid (HS.out k)
          clear he1 he2 t1 t2
          by_cases e : r1.getD k [] = r2.getD k []
          · have HNN := Lib.hid (show ∀ j, j < k + 1 → r1.getD j [] = r2.getD j [] from fun j hj => by
              by_cases h : j = k
              · rw [h]; exact e
              · exact HALL.out j (by omega))
            have HE := Lib.hid e
            clear e
            generalize r1.getD k [] = x at *
            generalize r2.getD k [] = y at *
            go_wp2_with fail
            go_quiet ((go_at_call 11; exact quiet_add_more (fun m => rints_is _ _ x y true (w3.drewN m) HSK.out HT1.out HT2.out (decide_eq_true HE.out))))
            go_wp2
            go_roundw
            case rel => exact ⟨k + 1, n + nq, by go_num, by omega, HNN.out, by first | rfl | trivial⟩
            case measure => simp [intOf]; omega
          · have HF := Lib.hid (show bb = false by rw [← HB.out]; exact decide_eq_false (fun h => e (by rw [h.2])))
            have HE := Lib.hid e
            clear e
            generalize r1.getD k [] = x at *
            generalize r2.getD k [] = y at *
            go_wp2_with fail
            go_quiet ((go_at_call 11; exact quiet_add_more (fun m => rints_is _ _ x y false (w3.drewN m) HSK.out HT1.out HT2.out (decide_eq_false HE.out))))
            go_wp2
            go_ret
            exact ⟨by rw [HF.out]; rfl, (HO3.out.drewN _).drewN _⟩
        · have HT := Lib.hid (show bb = true by
            rw [← HB.out]; exact decide_eq_true ⟨HXY.out, ext_getD HL.out (fun j hj => HALL.out j (by omega))⟩)
          go_wp2
          go_ret
          exact ⟨by rw [HT.out]; rfl, HO3.out.drewN _⟩
    · have q : ((r1.length : Int) != (r2.length : Int)) = true := by simp; omega
      have HF := Lib.hid (show bb = false by rw [← HB.out]; exact decide_eq_false (fun h => hl (by rw [h.2])))
      clear hl hxy q0
      go_wp2
      go_ret
      exact ⟨by rw [HF.out]; rfl, HO3.out⟩
  · have q0 : decide (xs = ys) = false := decide_eq_false hxy
    rw [q0]
    have HF := Lib.hid (show bb = false by rw [← HB.out]; exact decide_eq_false (fun h => hxy h.1))
    clear hxy q0
    go_wp2
    go_ret
    exact ⟨by rw [HF.out]; rfl, HO3.out⟩

theorem lists_is (g1 g2 : Value) (r1 r2 : List (List Int)) (bb : Bool) (w : World) (hs : Short r1) (hr1 : r1.length ≤ 9223372036854775807) (hG : GridAt w g1 r1) (hH : GridAt w g2 r2) (hb : decide (r1 = r2) = bb) :
    Calls Tryz.prog 30 #[g1, g2] w fun e w' => e = .returned (.bool bb) ∧ Only (fun _ => False) w w' := by
  have HS := Lib.hid (rsame_is (.slice none 0 0) (.slice none 0 0) g1 g2 [] [] r1 r2 bb w (by simp) hs hr1 (.inl ⟨_, _, rfl, rfl⟩) (.inl ⟨_, _, rfl, rfl⟩) hG hH (by rw [← hb]; simp))
  obtain ⟨a3, c3, rfl⟩ := hG.slice
  obtain ⟨a4, c4, rfl⟩ := hH.slice
  clear hs hG hH hb
  go_enter Tryz.func30, Tryz.ntmps30
  go_wp2_with fail
  refine HS.out.mono ?_
  rintro e w1 ⟨rfl, hO⟩
  have HO := Lib.hid hO
  clear hO HS
  go_wp2
  go_ret
  exact ⟨rfl, HO.out⟩
end Go.Proofs.YtalclldccnichaaGreat
