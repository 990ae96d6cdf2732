/-
  The reference's dealings: Value, members; Most, Need, Polynomial, Boxes.
-/
import Derived.Test.YtalclldccnichaaGreatRef07
import Derived.Test.YtalclldccnichaaGreatSane
namespace Go.Proofs.YtalclldccnichaaGreat
open Go.RowKit

theorem drop_at (cs : List Int) (k : Nat) (h : k < cs.length) : cs.drop k = ptAt cs k :: cs.drop (k + 1) := by
  rw [List.drop_eq_getElem_cons h]; simp [ptAt, List.getD, h]
set_option maxRecDepth 100000 in
set_option maxHeartbeats 1000000 in
theorem rvalue_any (sv : Value) (cs : List Int) (x : Int) (w : World) (hI : PtsAt w.heap.size w sv cs) (hlen : cs.length ≤ 1000000) :
    Calls Tryz.prog 23 #[sv, .int .i64 x] w fun e w' => e = .returned (.int .i64 (valZ cs x)) ∧ ∃ n, w' = w.drewN n := by
  obtain ⟨a1, c1, rfl⟩ := hI.slice
  have HI := Lib.hid hI
  clear hI
  go_enter Tryz.func23, Tryz.ntmps23
  go_wp2_with fail
  go_loopw [5, 6] (fun vo vi wr => ∃ (k n : Nat), k ≤ cs.length ∧ vi = .int .i64 ((k : Int) - 1) ∧ vo = .int .i64 (valZ (cs.drop k) x) ∧ wr = w.drewN n) (fun _ vi _ => (intOf vi + 1).toNat)
  case atStart => exact ⟨cs.length, 0, Nat.le_refl _, rfl, by rw [List.drop_length]; rfl, rfl⟩
  case round =>
    obtain ⟨k, n, hk, rfl, rfl, rfl⟩ := hrel
    by_cases hpos : 0 < k
    · obtain ⟨m, rfl⟩ : ∃ m, k = m + 1 := ⟨k - 1, by omega⟩
      have hm : ((m + 1 : Nat) : Int) - 1 = (m : Int) := by omega
      rw [hm]
      obtain ⟨b, off, rfl, hb, hl0, hc1, hc2, hcell⟩ := HI.out.cellAt (k := m) (by omega)
      have HV := Lib.hid (show valZ (cs.drop m) x = (valZ (cs.drop (m + 1)) x * x % 1152921504606845789 + ptAt cs m) % 1152921504606845789 by rw [drop_at cs m (by omega)]; rfl)
      generalize ptAt cs m = c at *
      generalize valZ (cs.drop (m + 1)) x = v at *
      have i1 : 0 ≤ (m : Int) := by omega
      have i2 : (m : Int) < cs.length := by omega
      clear hm hpos hl0
      go_wp2_with fail
      go_quiet ((first | (go_at_call 50; exact quiet_add_left (rmul_any _ _ _ _ (by decide) (by decide))) | (go_at_call 36; exact quiet_add_left (radd_any _ _ _ _ (by decide) (by decide)))))
      go_wp2
      go_roundw
      case rel => exact ⟨m, n + nq, by omega, rfl, by rw [HV.out], by first | rfl | trivial⟩
      case measure => simp [intOf]
    · obtain rfl : k = 0 := by omega
      go_wp2
      go_ret
      exact ⟨rfl, n, rfl⟩
def membersB (zs : List Int) : Bool := zs.all memB
theorem membersB_take (zs : List Int) (k : Nat) (h : k < zs.length) (hb : memB (ptAt zs k) = false) : membersB zs = false := by
  unfold membersB
  rw [List.all_eq_false]
  refine ⟨zs[k], List.getElem_mem h, ?_⟩
  have : ptAt zs k = zs[k] := by simp [ptAt, List.getD, h]
  rw [← this, hb]; simp
theorem membersB_all (zs : List Int) (h : ∀ j, j < zs.length → memB (ptAt zs j) = true) : membersB zs = true := by
  unfold membersB
  rw [List.all_eq_true]
  intro x hx
  obtain ⟨j, hj, rfl⟩ := List.mem_iff_getElem.1 hx
  have := h j hj
  simpa [ptAt, List.getD, hj] using this
set_option maxHeartbeats 1000000 in
theorem rmembers_is (sv : Value) (zs : List Int) (bb : Bool) (w : World) (hI : PtsAt w.heap.size w sv zs) (hlen : zs.length ≤ 1000000) (hb : membersB zs = bb) :
    Calls Tryz.prog 65 #[sv] w fun e w' => e = .returned (.bool bb) ∧ w = w' := by
  obtain ⟨a1, c1, rfl⟩ := hI.slice
  have HI := Lib.hid hI
  have HB := Lib.hid hb
  clear hI hb
  go_enter Tryz.func65, Tryz.ntmps65
  go_wp2_with fail
  go_loop [3] (fun vi => ∃ (k : Nat), k ≤ zs.length ∧ vi = .int .i64 k ∧ ∀ j, j < k → memB (ptAt zs j) = true) (fun vi => zs.length - (intOf vi).toNat)
  case atStart => exact ⟨0, Nat.zero_le _, rfl, fun j h => by omega⟩
  case round =>
    obtain ⟨k, hk, rfl, hall⟩ := hrel
    have HA := Lib.hid hall
    clear hall
    by_cases hlt : k < zs.length
    · obtain ⟨b, off, rfl, hb, hl0, hc1, hc2, hcell⟩ := HI.out.cellAt hlt
      clear hl0
      cases hm : memB (ptAt zs k)
      · have HF := Lib.hid (show bb = false by rw [← HB.out]; exact membersB_take zs k hlt hm)
        have HM := Lib.hid (rmember_is (ptAt zs k) false w hm)
        generalize ptAt zs k = z at *
        go_wp2_with fail
        refine HM.out.mono ?_
        rintro e w' ⟨rfl, rfl⟩
        go_wp2
        go_ret
        exact ⟨by rw [HF.out]; rfl, rfl⟩
      · have HN := Lib.hid (show ∀ j, j < k + 1 → memB (ptAt zs j) = true from fun j hj => by
          by_cases e : j = k
          · rw [e]; exact hm
          · exact HA.out j (by omega))
        have HM := Lib.hid (rmember_is (ptAt zs k) true w hm)
        generalize ptAt zs k = z at *
        go_wp2_with fail
        refine HM.out.mono ?_
        rintro e w' ⟨rfl, rfl⟩
        go_wp2
        go_round
        case rel => exact ⟨k + 1, by omega, by go_num, HN.out⟩
        case measure => simp [intOf]; omega
    · have HT := Lib.hid (show bb = true by rw [← HB.out]; exact membersB_all zs (fun j hj => HA.out j (by omega)))
      go_wp2
      go_ret
      exact ⟨by rw [HT.out]; rfl, rfl⟩
set_option maxHeartbeats 1000000 in
theorem rmost_is (n : Int) (w : World) (hn : n ≤ 1000000) (h1 : 1 ≤ n) : Calls Tryz.prog 62 #[.int .i64 n] w fun e w' => e = .returned (.int .i64 ((n - 1) / 3)) ∧ w = w' := by
  go_enter Tryz.func62, Tryz.ntmps62
  go_wp2_with fail
  go_loop [3] (fun vi => ∃ k : Int, 0 ≤ k ∧ k ≤ (n - 1) / 3 ∧ vi = .int .i64 k) (fun vi => (n - intOf vi).toNat)
  case atStart => exact ⟨0, by omega, by omega, rfl⟩
  case round =>
    obtain ⟨k, hk0, hk1, rfl⟩ := hrel
    have j1 : k < n / 3 + 1 := by omega
    by_cases hlt : 3 * (k + 1) < n
    · go_wp2
      go_round
      case rel => exact ⟨k + 1, by omega, by omega, rfl⟩
      case measure => simp [intOf]; omega
    · have HE := Lib.hid (show k = (n - 1) / 3 by omega)
      go_wp2
      go_ret
      exact ⟨ret_int HE.out, rfl⟩
theorem rneed_is (n z : Int) (w : World) (hn : n ≤ 1000000) (hz : needZ n = z) : Calls Tryz.prog 34 #[.int .i64 n] w fun e w' => e = .returned (.int .i64 z) ∧ w = w' := by
  have HZ := Lib.hid hz
  clear hz
  by_cases h : n < 1
  · have HE := Lib.hid (show z = 0 by rw [← HZ.out]; unfold needZ; rw [if_pos h])
    go_enter Tryz.func34, Tryz.ntmps34
    go_wp2
    go_ret
    exact ⟨ret_int HE.out.symm, rfl⟩
  · have HE := Lib.hid (show z = (n - 1) / 3 + 1 by rw [← HZ.out]; unfold needZ mostZ; rw [if_neg h, if_neg h])
    go_enter Tryz.func34, Tryz.ntmps34
    go_wp2_with fail
    refine (rmost_is n _ hn (by omega)).mono ?_
    rintro e w' ⟨rfl, rfl⟩
    go_wp2
    go_ret
    exact ⟨ret_int (by rw [HE.out]), rfl⟩
end Go.Proofs.YtalclldccnichaaGreat
