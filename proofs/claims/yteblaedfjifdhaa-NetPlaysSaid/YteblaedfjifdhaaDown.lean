/-
  The walk of heap.down over the queue.
-/
import Derived.Test.YteblaedfjifdhaaPush
namespace Go.Proofs.Yteblaedfjifdhaa
open Go.RowKit

/-- What down leaves. -/
def Downed (g n n1 c : Nat) (q : List Wt) (w : World) (e : Ending) (w' : World) : Prop :=
  ∃ bb, e = .returned (.bool bb) ∧ ∃ r, r.Perm q ∧ Heap r n ∧ QRow w' g n1 c r ∧ Only (fun k => k = g) w w' ∧ ∀ k, n ≤ k → el r k = el q k

set_option maxHeartbeats 1000000 in
theorem down_any (b o g n n1 c : Nat) (q : List Wt) (w : World) (hc : w.cell? ⟨b, o, none⟩ = some (.slice (some ⟨g, 0, none⟩) n1 c)) (hbg : b ≠ g)
    (hq : QRow w g n1 c q) (hn1 : n ≤ n1) (hbd : n ≤ 1000000) (hU : DownInv q n 0) :
    Calls Try.prog 30 #[.iface 70 (.pointer (some ⟨b, o, none⟩)), .int .i64 0, .int .i64 n] w (Downed g n n1 c q w) := by
  have hcap := hq.cap
  have hmx := hcap.2; unfold maxLen at hmx
  go_enter Try.func30, Try.ntmps30
  go_wp2
  go_loopw [7] (fun v wr => ∃ (k : Nat) (r : List Wt), v = .int .i64 k ∧ (k ≤ n) ∧ r.Perm q ∧ DownInv r n k ∧ QRow wr g n1 c r ∧ Only (fun k => k = g) w wr ∧ (∀ k, n ≤ k → el r k = el q k)) (fun v _ => n - (intOf v).toNat)
  case atStart => exact ⟨0, q, rfl, Nat.zero_le _, List.Perm.refl _, hU, hq, Only.refl _ _, fun _ _ => rfl⟩
  case round =>
    obtain ⟨i, r, rfl, hi, hp, hI, hr, hO, hk⟩ := hrel
    have HK := Lib.hid hk
    clear hk
    have hc' := hO.cell hc hbg
    have hml := fun nq => method_less b o g n1 c (wr.drewN nq) hc'
    have hm0 := method_less b o g n1 c wr hc'
    by_cases h0 : n ≤ 2 * i + 1
    · have HR := Lib.hid (down_leaf hI h0)
      clear hI
      go_wp2
      go_ret
      exact ⟨_, rfl, r, hp, HR.out, hr, hO, HK.out⟩
    · obtain ⟨l, hl⟩ : ∃ l, 2 * i + 1 = l := ⟨_, rfl⟩
      obtain ⟨m, hm⟩ : ∃ m, l + 1 = m := ⟨_, rfl⟩
      have HLl := Lib.hid hl
      have HLm := Lib.hid (show 2 * i + 2 = m by omega)
      have e1 : (2 : Int) * i + 1 = (l : Int) := by omega
      have e2 : (l : Int) + 1 = (m : Int) := by omega
      have b1 : l < n := by omega
      have b2 : i < l := by omega
      have b3 : l < m := by omega
      have b4 : m ≤ l + 1 := by omega
      have hms := fun nq => method_swap b o g n1 c (wr.drewN nq) hc'
      clear hl hm h0
      by_cases hmn : m < n
      · cases hl1 : ltB (el r m) (el r l)
        · have HL := Lib.hid (show Lesser r n i l by rw [← HLl.out]; exact lesser_l2 (by rw [HLm.out]; exact hmn) (by rw [HLm.out, HLl.out]; exact hl1))
          cases hl2 : ltB (el r l) (el r i)
          · have HR := Lib.hid (down_stop hI HL.out hl2)
            clear hI
            go_wp2_with (go_at_call 48; refine (less_any g _ _ n1 c r _ (by first | exact hr | exact owns_drewN _ hr) (by omega) (by omega)).mono ?_; rintro e w' ⟨rfl, nq, rfl⟩)
            go_ret
            exact ⟨_, rfl, r, hp, HR.out, hr, hO.drewN _, HK.out⟩
          · have HR := Lib.hid (down_go hI (by rw [hr.len]; exact hn1) HL.out hl2)
            have HP := Lib.hid ((swapQ_perm r i l (by rw [hr.len]; omega) (by rw [hr.len]; omega)).trans hp)
            have HS := Lib.hid (fun k (hk : n ≤ k) => (el_swap_k r i l k (by omega) (by omega)).trans (HK.out k hk))
            clear hI
            go_wp2_with (first | (go_at_call 48; refine (less_any g _ _ n1 c r _ (by first | exact hr | exact owns_drewN _ hr) (by omega) (by omega)).mono ?_; rintro e w' ⟨rfl, nq, rfl⟩) | (go_at_call 49; refine (swap_any g _ _ n1 c r _ (by first | exact hr | exact owns_drewN _ hr) (by omega) (by omega)).mono ?_; rintro e w' ⟨rfl, hr2, hO2⟩))
            go_roundw
            case rel => exact ⟨l, swapQ r i l, rfl, by omega, HP.out, HR.out, hr2, (hO.drewN _).trans hO2, HS.out⟩
            case measure => simp [intOf]; omega
        · have HL := Lib.hid (show Lesser r n i m by rw [← HLm.out]; exact lesser_r (by rw [HLm.out]; exact hmn) (by rw [HLm.out, HLl.out]; exact hl1))
          cases hl2 : ltB (el r m) (el r i)
          · have HR := Lib.hid (down_stop hI HL.out hl2)
            clear hI
            go_wp2_with (go_at_call 48; refine (less_any g _ _ n1 c r _ (by first | exact hr | exact owns_drewN _ hr) (by omega) (by omega)).mono ?_; rintro e w' ⟨rfl, nq, rfl⟩)
            go_ret
            exact ⟨_, rfl, r, hp, HR.out, hr, hO.drewN _, HK.out⟩
          · have HR := Lib.hid (down_go hI (by rw [hr.len]; exact hn1) HL.out hl2)
            have HP := Lib.hid ((swapQ_perm r i m (by rw [hr.len]; omega) (by rw [hr.len]; omega)).trans hp)
            have HS := Lib.hid (fun k (hk : n ≤ k) => (el_swap_k r i m k (by omega) (by omega)).trans (HK.out k hk))
            clear hI
            go_wp2_with (first | (go_at_call 48; refine (less_any g _ _ n1 c r _ (by first | exact hr | exact owns_drewN _ hr) (by omega) (by omega)).mono ?_; rintro e w' ⟨rfl, nq, rfl⟩) | (go_at_call 49; refine (swap_any g _ _ n1 c r _ (by first | exact hr | exact owns_drewN _ hr) (by omega) (by omega)).mono ?_; rintro e w' ⟨rfl, hr2, hO2⟩))
            go_roundw
            case rel => exact ⟨m, swapQ r i m, rfl, by omega, HP.out, HR.out, hr2, (hO.drewN _).trans hO2, HS.out⟩
            case measure => simp [intOf]; omega
      · have hdm : decide (m < n) = false := by simpa using hmn
        have HL := Lib.hid (show Lesser r n i l by rw [← HLl.out]; exact lesser_l (by rw [HLl.out]; exact b1) (by rw [HLm.out]; omega))
        cases hl2 : ltB (el r l) (el r i)
        · have HR := Lib.hid (down_stop hI HL.out hl2)
          clear hI
          go_wp2_with (go_at_call 48; refine (less_any g _ _ n1 c r _ (by first | exact hr | exact owns_drewN _ hr) (by omega) (by omega)).mono ?_; rintro e w' ⟨rfl, nq, rfl⟩)
          go_ret
          exact ⟨_, rfl, r, hp, HR.out, hr, hO.drewN _, HK.out⟩
        · have HR := Lib.hid (down_go hI (by rw [hr.len]; exact hn1) HL.out hl2)
          have HP := Lib.hid ((swapQ_perm r i l (by rw [hr.len]; omega) (by rw [hr.len]; omega)).trans hp)
          have HS := Lib.hid (fun k (hk : n ≤ k) => (el_swap_k r i l k (by omega) (by omega)).trans (HK.out k hk))
          clear hI
          go_wp2_with (first | (go_at_call 48; refine (less_any g _ _ n1 c r _ (by first | exact hr | exact owns_drewN _ hr) (by omega) (by omega)).mono ?_; rintro e w' ⟨rfl, nq, rfl⟩) | (go_at_call 49; refine (swap_any g _ _ n1 c r _ (by first | exact hr | exact owns_drewN _ hr) (by omega) (by omega)).mono ?_; rintro e w' ⟨rfl, hr2, hO2⟩))
          go_roundw
          case rel => exact ⟨l, swapQ r i l, rfl, by omega, HP.out, HR.out, hr2, (hO.drewN _).trans hO2, HS.out⟩
          case measure => simp [intOf]; omega
end Go.Proofs.Yteblaedfjifdhaa
