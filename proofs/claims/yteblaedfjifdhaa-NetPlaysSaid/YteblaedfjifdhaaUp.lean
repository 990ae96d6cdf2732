/-
  The walks of heap.up, heap.down, heap.Push, heap.Pop over the queue.
-/
import Derived.Test.YteblaedfjifdhaaQueue
import Derived.Deep.LoopGhost
namespace Go.Proofs.Yteblaedfjifdhaa
open Go.RowKit

theorem method_less' (a : Addr) (w : World) : (method 203 70 (.pointer (some a)) "Less").run Try.prog w = (loadVar 54 a >>= fun v => pure (48, v)).run Try.prog w := by kernel_rfl
theorem method_swap' (a : Addr) (w : World) : (method 203 70 (.pointer (some a)) "Swap").run Try.prog w = (loadVar 54 a >>= fun v => pure (49, v)).run Try.prog w := by kernel_rfl
theorem method_len' (a : Addr) (w : World) : (method 203 70 (.pointer (some a)) "Len").run Try.prog w = (loadVar 54 a >>= fun v => pure (47, v)).run Try.prog w := by kernel_rfl
theorem method_push (a : Addr) (w : World) : (method 203 70 (.pointer (some a)) "Push").run Try.prog w = .ok (51, .pointer (some a)) w := by kernel_rfl
theorem method_pop (a : Addr) (w : World) : (method 203 70 (.pointer (some a)) "Pop").run Try.prog w = .ok (50, .pointer (some a)) w := by kernel_rfl
theorem method_less (b o g n c : Nat) (w : World) (h : w.cell? ⟨b, o, none⟩ = some (.slice (some ⟨g, 0, none⟩) n c)) : (method 203 70 (.pointer (some ⟨b, o, none⟩)) "Less").run Try.prog w = .ok (48, .slice (some ⟨g, 0, none⟩) n c) w := by
  rw [method_less']
  go_simp
theorem method_swap (b o g n c : Nat) (w : World) (h : w.cell? ⟨b, o, none⟩ = some (.slice (some ⟨g, 0, none⟩) n c)) : (method 203 70 (.pointer (some ⟨b, o, none⟩)) "Swap").run Try.prog w = .ok (49, .slice (some ⟨g, 0, none⟩) n c) w := by
  rw [method_swap']
  go_simp
theorem method_len (b o : Nat) (v : Option Addr) (n c : Nat) (w : World) (h : w.cell? ⟨b, o, none⟩ = some (.slice v n c)) : (method 203 70 (.pointer (some ⟨b, o, none⟩)) "Len").run Try.prog w = .ok (47, .slice v n c) w := by
  rw [method_len']
  go_simp

set_option maxHeartbeats 400000 in
theorem up_any (b o g n c j : Nat) (q : List Wt) (w : World) (hc : w.cell? ⟨b, o, none⟩ = some (.slice (some ⟨g, 0, none⟩) n c)) (hbg : b ≠ g)
    (hq : QRow w g n c q) (hj : j < n) (hU : UpInv q j) :
    Calls Try.prog 29 #[.iface 70 (.pointer (some ⟨b, o, none⟩)), .int .i64 j] w fun e w' => e = .returned (.tuple #[]) ∧
      ∃ r, r.Perm q ∧ Heap r r.length ∧ QRow w' g n c r ∧ Only (fun k => k = g) w w' := by
  have hcap := hq.cap
  have hmx := hcap.2; unfold maxLen at hmx
  go_enter Try.func29, Try.ntmps29
  go_wp2
  go_loopw [1] (fun v wr => ∃ (k : Nat) (r : List Wt), v = .int .i64 k ∧ k < n ∧ r.Perm q ∧ UpInv r k ∧ QRow wr g n c r ∧ Only (fun k => k = g) w wr) (fun v _ => (intOf v).toNat)
  case atStart => exact ⟨j, q, rfl, hj, List.Perm.refl _, hU, hq, Only.refl _ _⟩
  case round =>
    obtain ⟨k, r, rfl, hk, hp, hI, hr, hO⟩ := hrel
    by_cases h0 : k = 0
    · subst h0
      go_wp2
      go_end0
      exact ⟨rfl, r, hp, (by have := up_zero hI; exact this), hr, hO⟩
    · have hpk : par k < n := by unfold par; omega
      have hpk' : par k < k := by unfold par; omega
      have hb : (((par k : Nat) : Int) == (k : Int)) = false := beq_eq_false_iff_ne.2 (by omega)
      have hk1 : 1 ≤ k := by omega
      have ep : ((k : Int) - 1) / 2 = ((par k : Nat) : Int) := by unfold par; omega
      have hc' := hO.cell hc hbg
      have hm := method_less b o g n c wr hc'
      cases hl : ltB (el r k) (el r (par k))
      · have HR := Lib.hid (up_stop hI hl)
        clear hI
        go_wp2_with (go_at_call 48; refine (less_any g k (par k) n c r _ hr hk hpk).mono ?_; rintro e w' ⟨rfl, nq, rfl⟩)
        go_end0
        exact ⟨rfl, r, hp, HR.out, hr, hO.drewN _⟩
      · have HR := Lib.hid (up_go hI (by omega) (by rw [hr.len]; exact hk) hl)
        have HP := Lib.hid ((swapQ_perm r (par k) k (by rw [hr.len]; exact hpk) (by rw [hr.len]; exact hk)).trans hp)
        clear hI
        have hm2 := fun nq => method_swap b o g n c (wr.drewN nq) hc'
        go_wp2_with (first | (go_at_call 48; refine (less_any g k (par k) n c r _ hr hk hpk).mono ?_; rintro e w' ⟨rfl, nq, rfl⟩) | (go_at_call 49; refine (swap_any g (par k) k n c r _ (owns_drewN _ hr) hpk hk).mono ?_; rintro e w' ⟨rfl, hr2, hO2⟩))
        go_roundw
        case rel => exact ⟨par k, swapQ r (par k) k, rfl, hpk, HP.out, HR.out, hr2, (hO.drewN _).trans hO2⟩
        case measure => simp [intOf]; omega
end Go.Proofs.Yteblaedfjifdhaa
