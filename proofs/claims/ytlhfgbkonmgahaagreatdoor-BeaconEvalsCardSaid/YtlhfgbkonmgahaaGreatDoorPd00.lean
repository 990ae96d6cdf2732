/-
  The walk of the law BeaconEvals.
-/
import Derived.Test.YtlhfgbkonmgahaaGreatDoorPa18
import Derived.Test.YtlhfgbkonmgahaaGreatDoorPa19
namespace Go.Proofs.YtlhfgbkonmgahaaGreatDoor
open Go.RowKit

set_option maxRecDepth 100000 in
set_option maxHeartbeats 8000000 in
theorem be_walk (s0 s1 r q0 q1 : Int) (w : World) (hr : -9223372036854775808 ≤ r ∧ r ≤ 9223372036854775807) (hG : Glob w) :
    Calls Tryz.prog 3 #[.agg #[.int .i64 s0, .int .i64 s1], .int .i64 r, .agg #[.int .i64 q0, .int .i64 q1]] w fun e w' => e = .returned (.bool true) ∧ Below w.heap.size w w' := by
  have hA := ((Only.refl (fun _ => False) w).alloc (.cells #[.int .i64 s0, .int .i64 s1] 23)).alloc (.cells #[.int .i64 q0, .int .i64 q1] 24)
  have hz0 := row_still ((Only.refl (fun _ => False) (w.alloc (.cells #[.int .i64 s0, .int .i64 s1] 23))).alloc (.cells #[.int .i64 q0, .int .i64 q1] 24)) (heap_alloc_last w (.cells #[.int .i64 s0, .int .i64 s1] 23))
  have hz1 := heap_alloc_last (w.alloc (.cells #[.int .i64 s0, .int .i64 s1] 23)) (.cells #[.int .i64 q0, .int .i64 q1] 24)
  simp only [World.size_alloc] at hz1
  have HA := Lib.hid hA
  have HZ0 := Lib.hid hz0
  have HZ1 := Lib.hid hz1
  have HGW := Lib.hid (fun W (hO : Only (fun _ => False) w W) => hG.only hO)
  obtain ⟨h0a, h0b⟩ := hr
  clear hA hz0 hz1 hG
  go_enter Tryz.func3, Tryz.ntmps3
  go_wp2_with fail
  refine (sanity9_any _ (HGW.out _ HA.out)).mono ?_
  rintro e w1 ⟨rfl, hO1⟩
  have HO1 := Lib.hid (HA.out.trans hO1)
  have HZ0 := Lib.hid (row_still hO1 HZ0.out)
  have HZ1 := Lib.hid (row_still hO1 HZ1.out)
  have e0 : _ = some (Value.int .i64 q0) := cell_of_row _ _ 0 _ _ _ HZ1.out
  have e1 : _ = some (Value.int .i64 q1) := cell_of_row _ _ 1 _ _ _ HZ1.out
  have HX := Lib.hid (fun w => rexp6_any q1 w)
  clear hO1 HA
  have y0 := fun (d : Nat) (os : Array Obj) => cell_regrown e0 d os
  have y1 := fun (d : Nat) (os : Array Obj) => cell_regrown e1 d os
  go_wp2_with fail
  have HKS := Lib.hid (show ∀ W, Only (fun _ => False) w1 W → W.cell? ⟨w.heap.size + 1, 0, none⟩ = some (.int .i64 q0) ∧ W.cell? ⟨w.heap.size + 1, 1, none⟩ = some (.int .i64 q1) from fun W h => ⟨h.cell e0 id, h.cell e1 id⟩)
  clear y0 y1
  go_cut [8] (fun v8 wx => ∃ (B : Nat) (x y : Int), v8 = .pointer (some ⟨B, 0, none⟩) ∧ wx.heap[B]? = some (.cells #[.int .i64 x, .int .i64 y] 23 (0, 0)) ∧ Only (fun _ => False) w1 wx)
  case first =>
    go_region_held3 (fun w' => w'.cell? ⟨w.heap.size + 1, 0, none⟩ = some (.int .i64 q0) ∧ w'.cell? ⟨w.heap.size + 1, 1, none⟩ = some (.int .i64 q1))
      (first
        | with_reducible exact HKS.out _ ((Only.refl _ w1).drew)
        | exact HKS.out _ (((Only.refl _ w1).drew).alloc _)
        | exact HKS.out _ (((Only.refl _ w1).alloc _).drew))
      (first
        | (go_at_call 10; refine (HX.out _).mono ?_; rintro e w2 ⟨rfl, rfl⟩))
    all_goals (clear HKS)
    all_goals (go_wp2_with fail)
    all_goals (go_meet)
    all_goals (exact ⟨w1.heap.size, _, _, rfl, heap_alloc_last w1 _, ((Only.refl _ w1).alloc _).drew⟩)
  case rest =>
    obtain ⟨B, x, y, rfl, hb, hO⟩ := hcut
    have HO2 := Lib.hid (HO1.out.trans hO)
    have x0 : _ = some (Value.int .i64 s0) := cell_of_row _ _ 0 _ _ _ (row_still hO HZ0.out)
    have x1 : _ = some (Value.int .i64 s1) := cell_of_row _ _ 1 _ _ _ (row_still hO HZ0.out)
    have x2 : _ = some (Value.int .i64 x) := cell_of_row _ _ 0 _ _ _ hb
    have x3 : _ = some (Value.int .i64 y) := cell_of_row _ _ 1 _ _ _ hb
    generalize wc = w2 at *
    have HG2 := Lib.hid (HGW.out _ HO2.out)
    have y0 := fun (d : Nat) (os : Array Obj) => cell_regrown x0 d os
    have y1 := fun (d : Nat) (os : Array Obj) => cell_regrown x1 d os
    have y2 := fun (d : Nat) (os : Array Obj) => cell_regrown x2 d os
    have y3 := fun (d : Nat) (os : Array Obj) => cell_regrown x3 d os
    have HB1 := Lib.hid (fun w hG => pbase_any r w h0a h0b hG)
    have HB2 := Lib.hid (fun w => rbase9_any r w h0a h0b)
    have HE1 := Lib.hid (fun x y w hG => peval_any x y r w h0a h0b hG)
    have HE2 := Lib.hid (fun x y w => reval9_any x y r w h0a h0b)
    generalize baseZ r = b at *
    have q1 : (b == b) = true := by simp
    clear hb hO x0 x1 x2 x3 e0 e1 HKS
    go_wp2_with fail
    refine wp_region_quiet_below (by kernel_rfl) (by kernel_rfl) ?_
    repeat (go_big_quiet_step ((first | (go_at_call 11; exact Calls.regrown_of ((HB1.out _ (Glob.grown HG2.out _ _)).mono fun _ _ h => ⟨h.1, h.2.below (Nat.le_refl _) (fun _ _ h => h)⟩)) | (go_at_call 12; exact Calls.regrown_of ((HB2.out _).mono fun _ _ h => ⟨h.1, h.2.below (Nat.le_refl _) (fun _ _ h => h)⟩)) | (go_at_call 13; exact Calls.regrown_of ((HE1.out _ _ _ (Glob.grown HG2.out _ _)).mono fun _ _ h => ⟨h.1, h.2.below (Nat.le_refl _) (fun _ _ h => h)⟩)) | (go_at_call 14; exact Calls.regrown_of ((HE2.out _ _ _).mono fun _ _ h => ⟨h.1, h.2.below (Nat.le_refl _) (fun _ _ h => h)⟩)))))
    refine wpQuiet_nil ?_
    intro w3 hw'
    obtain ⟨pq, hw''⟩ := hw'
    have HO3 := Lib.hid (HO2.out.trans (Only.ofBelow (below_regrown w2 pq.d pq.os) (fun _ => False)))
    rw [← hw''] at HO3
    clear hw'' y0 y1 y2 y3
    go_wp2
    go_ret
    exact ⟨rfl, HO3.out.below (Nat.le_refl _) (fun _ _ h => h)⟩
end Go.Proofs.YtlhfgbkonmgahaaGreatDoor
