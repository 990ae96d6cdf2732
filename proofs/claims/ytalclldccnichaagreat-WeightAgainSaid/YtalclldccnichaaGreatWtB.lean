/-
  Package weight: dealt, Begin.
-/
import Derived.Test.YtalclldccnichaaGreatWtA
import Derived.Deep.OwnRows
namespace Go.Proofs.YtalclldccnichaaGreat
open Go.RowKit

/-- Are all dealings in form, with as many commitments as are needed? -/
def fitB (ds : List Dl) (n nd : Nat) : Bool := ds.all (fun d => chkB d n && decide (d.cm.length = nd))
theorem fit_no (ds : List Dl) (n nd k : Nat) (h : k < ds.length) (hb : (chkB (dlAt ds k) n && decide ((dlAt ds k).cm.length = nd)) = false) : fitB ds n nd = false := by
  unfold fitB
  rw [List.all_eq_false]
  refine ⟨ds[k], List.getElem_mem h, ?_⟩
  have : dlAt ds k = ds[k] := by simp [dlAt, List.getD, h]
  rw [← this, hb]; simp
theorem fit_yes (ds : List Dl) (n nd : Nat) (h : ∀ j, j < ds.length → (chkB (dlAt ds j) n && decide ((dlAt ds j).cm.length = nd)) = true) : fitB ds n nd = true := by
  unfold fitB
  rw [List.all_eq_true]
  intro x hx
  obtain ⟨j, hj, rfl⟩ := List.mem_iff_getElem.1 hx
  have := h j hj
  simpa [dlAt, List.getD, hj] using this
/-- No dealing is longer than memory. -/
structure DlsS (ds : List Dl) : Prop where
  len : ds.length ≤ 1000
  each : ∀ j, j < ds.length → (dlAt ds j).bx.length ≤ 1000000 ∧ (dlAt ds j).cm.length ≤ 1000000

set_option maxRecDepth 100000 in
set_option maxHeartbeats 2000000 in
theorem dealt_is (dv : Value) (ds : List Dl) (n nd : Nat) (bb : Bool) (w : World) (hD : DlsAt w dv ds) (hn : n ≤ 1000) (hnd : needZ n = nd) (hS : DlsS ds) (hb : fitB ds n nd = bb) :
    Calls Tryz.prog 39 #[dv, .int .i64 n] w fun e w' => e = .returned (.bool bb) ∧ Only (fun _ => False) w w' := by
  obtain ⟨a, c, rfl⟩ := hD.slice
  have HD := Lib.hid hD
  have HB := Lib.hid hb
  have HS := Lib.hid hS.each
  have hlen := hS.len
  have HND := Lib.hid (fun w => need_is n nd w (by omega) hnd)
  clear hD hb hnd hS
  go_enter Tryz.func39, Tryz.ntmps39
  go_wp2_with fail
  go_loopw [9] (fun vi wr => ∃ k : Nat, k ≤ ds.length ∧ vi = .int .i64 k ∧ (∀ j, j < k → (chkB (dlAt ds j) n && decide ((dlAt ds j).cm.length = nd)) = true) ∧ Only (fun _ => False) w wr) (fun vi _ => ds.length - (intOf vi).toNat)
  case atStart => exact ⟨0, Nat.zero_le _, rfl, fun j h => by omega, Only.refl _ _⟩
  case round =>
    obtain ⟨k, hk, rfl, hall, hO⟩ := hrel
    have HALL := Lib.hid hall
    have HO := Lib.hid hO
    clear hall
    by_cases hlt : k < ds.length
    · obtain ⟨b, off, c0, c2, rfl, hb, hc1, hc2, x0, x1, x2, hd⟩ := (HD.out.only hO).cellAt hlt
      obtain ⟨hs1, hs2⟩ := HS.out k hlt
      obtain ⟨a0, k0, rfl⟩ := hd.cm.slice
      obtain ⟨a2, k2, rfl⟩ := hd.bx.slice
      obtain ⟨cb, hcb⟩ : ∃ cb, chkB (dlAt ds k) n = cb := ⟨_, rfl⟩
      have hA : Only (fun _ => False) wr (wr.alloc (.cells #[.slice a0 (dlAt ds k).cm.length k0, .int .i64 (dlAt ds k).pt, .slice a2 (dlAt ds k).bx.length k2] 72)) := (Only.refl _ wr).alloc _
      have HOA := Lib.hid (hO.trans hA)
      have hz := heap_alloc_last wr (.cells #[.slice a0 (dlAt ds k).cm.length k0, .int .i64 (dlAt ds k).pt, .slice a2 (dlAt ds k).bx.length k2] 72)
      have HCK := Lib.hid (show ∀ w', Only (fun _ => False) (wr.alloc (.cells #[.slice a0 (dlAt ds k).cm.length k0, .int .i64 (dlAt ds k).pt, .slice a2 (dlAt ds k).bx.length k2] 72)) w' → Calls Tryz.prog 67 #[.agg #[.slice a0 (dlAt ds k).cm.length k0, .int .i64 (dlAt ds k).pt, .slice a2 (dlAt ds k).bx.length k2], .int .i64 n] w' (fun e wT => e = .returned (.bool cb) ∧ Only (fun _ => False) w' wT) from fun w' h =>
        check_is a0 a2 k0 k2 (dlAt ds k) n cb _ (hd.only (hA.trans h)) hn hs1 hs2 hcb)
      have HST := Lib.hid (fun (h : (cb && decide ((dlAt ds k).cm.length = nd)) = false) => show bb = false by rw [← HB.out]; exact fit_no ds n nd k hlt (by rw [hcb]; exact h))
      have HSN := Lib.hid (fun (h : (cb && decide ((dlAt ds k).cm.length = nd)) = true) => show ∀ j, j < k + 1 → (chkB (dlAt ds j) n && decide ((dlAt ds j).cm.length = nd)) = true from fun j hj => by
        by_cases e : j = k
        · rw [e, hcb]; exact h
        · exact HALL.out j (by omega))
      generalize (dlAt ds k).pt = pt at *
      generalize (dlAt ds k).bx.length = bl at *
      generalize (dlAt ds k).cm.length = cl at *
      have i1 : (k : Int) < ds.length := by omega
      clear hd hcb hO hA
      go_wp2_with fail
      have HTS := Lib.hid (show ∀ w', Only (fun _ => False) (wr.alloc (.cells #[.slice a0 cl k0, .int .i64 pt, .slice a2 bl k2] 72)) w' → w'.cell? ⟨wr.heap.size, 0, none⟩ = some (.slice a0 cl k0) ∧ w'.cell? ⟨wr.heap.size, 1, none⟩ = some (.int .i64 pt) ∧ w'.cell? ⟨wr.heap.size, 2, none⟩ = some (.slice a2 bl k2) from fun w' h => by
        have hb := row_still h hz
        exact ⟨cell_of_row _ _ 0 _ _ _ hb, cell_of_row _ _ 1 _ _ _ hb, cell_of_row _ _ 2 _ _ _ hb⟩)
      obtain ⟨z0, z1, z2⟩ := HTS.out _ (Only.refl _ _)
      have y0 := fun (d : Nat) (os : Array Obj) => cell_regrown z0 d os
      have y1 := fun (d : Nat) (os : Array Obj) => cell_regrown z1 d os
      have y2 := fun (d : Nat) (os : Array Obj) => cell_regrown z2 d os
      have hl0 := own_lt0 hz
      clear hz x0 x1 x2 z0 z1 z2 HTS
      generalize wr.alloc (.cells #[.slice a0 cl k0, .int .i64 pt, .slice a2 bl k2] 72) = wA at *
      cases cb
      · have HF := Lib.hid (HST.out rfl)
        clear HST HSN
        refine wp_region_quiet_below (by kernel_rfl) (by kernel_rfl) ?_
        repeat (go_big_quiet_step ((first | (go_at_call 67; exact Calls.regrown_of ((HCK.out _ (Only.ofBelow (below_regrown _ _ _) _)).mono fun _ _ h => ⟨h.1, h.2.below (Nat.le_refl _) (fun _ _ h => h)⟩)) | (go_at_call 32; exact Calls.regrown_of ((HND.out _).mono fun _ _ h => ⟨h.1, by rw [← h.2]; exact Below.refl _ _⟩)))))
        refine wpQuiet_nil ?_
        intro w3 hw'
        obtain ⟨pq, hw''⟩ := hw'
        have HO3 := Lib.hid (HOA.out.trans (Only.ofBelow (below_regrown wA pq.d pq.os) (fun _ => False)))
        rw [← hw''] at HO3
        clear hw'' y0 y1 y2
        go_wp2
        go_ret
        exact ⟨by rw [HF.out]; rfl, HO3.out⟩
      · by_cases hcl : cl = nd
        · have HN := Lib.hid (HSN.out (by rw [decide_eq_true hcl]; rfl))
          have q1 : ((cl : Int) != nd) = false := by rw [hcl]; simp
          clear HST HSN hcl
          refine wp_region_quiet_below (by kernel_rfl) (by kernel_rfl) ?_
          repeat (go_big_quiet_step ((first | (go_at_call 67; exact Calls.regrown_of ((HCK.out _ (Only.ofBelow (below_regrown _ _ _) _)).mono fun _ _ h => ⟨h.1, h.2.below (Nat.le_refl _) (fun _ _ h => h)⟩)) | (go_at_call 32; exact Calls.regrown_of ((HND.out _).mono fun _ _ h => ⟨h.1, by rw [← h.2]; exact Below.refl _ _⟩)))))
          refine wpQuiet_nil ?_
          intro w3 hw'
          obtain ⟨pq, hw''⟩ := hw'
          have HO3 := Lib.hid (HOA.out.trans (Only.ofBelow (below_regrown wA pq.d pq.os) (fun _ => False)))
          rw [← hw''] at HO3
          clear hw'' y0 y1 y2
          go_wp2
          go_roundw
          case rel => exact ⟨k + 1, by omega, by go_num, HN.out, HO3.out⟩
          case measure => simp [intOf]; omega
        · have HF := Lib.hid (HST.out (by rw [decide_eq_false hcl]; rfl))
          have q1 : ((cl : Int) != nd) = true := by rw [bne_iff_ne]; omega
          clear HST HSN hcl
          refine wp_region_quiet_below (by kernel_rfl) (by kernel_rfl) ?_
          repeat (go_big_quiet_step ((first | (go_at_call 67; exact Calls.regrown_of ((HCK.out _ (Only.ofBelow (below_regrown _ _ _) _)).mono fun _ _ h => ⟨h.1, h.2.below (Nat.le_refl _) (fun _ _ h => h)⟩)) | (go_at_call 32; exact Calls.regrown_of ((HND.out _).mono fun _ _ h => ⟨h.1, by rw [← h.2]; exact Below.refl _ _⟩)))))
          refine wpQuiet_nil ?_
          intro w3 hw'
          obtain ⟨pq, hw''⟩ := hw'
          have HO3 := Lib.hid (HOA.out.trans (Only.ofBelow (below_regrown wA pq.d pq.os) (fun _ => False)))
          rw [← hw''] at HO3
          clear hw'' y0 y1 y2
          go_wp2
          go_ret
          exact ⟨by rw [HF.out]; rfl, HO3.out⟩
    · obtain rfl : k = ds.length := by omega
      have i1 : ¬ (ds.length : Int) < ds.length := by omega
      have HF := Lib.hid (show bb = true by rw [← HB.out]; exact fit_yes ds n nd HALL.out)
      clear hO
      go_wp2
      go_ret
      exact ⟨by rw [HF.out]; rfl, HO.out⟩
end Go.Proofs.YtalclldccnichaaGreat
