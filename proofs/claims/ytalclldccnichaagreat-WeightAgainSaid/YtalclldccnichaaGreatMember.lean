/-
  The walks of Member, of the program and of the reference.
-/
import Derived.Test.YtalclldccnichaaGreatRef04
import Derived.Test.YtalclldccnichaaGreatOnly
namespace Go.Proofs.YtalclldccnichaaGreat
open Go.RowKit

/-- Is a number a member of the group? -/
def memB (a : Int) : Bool := decide (1 ≤ a) && decide (a < gP) && (powM a gQ gP == 1)

theorem memB_low {a : Int} (h : a < 1) : memB a = false := by
  have : decide (1 ≤ a) = false := decide_eq_false (by omega)
  unfold memB; rw [this]; rfl
theorem memB_high {a : Int} (h : gP ≤ a) : memB a = false := by
  have : decide (a < gP) = false := decide_eq_false (by omega)
  unfold memB; rw [this]; simp
theorem memB_mid {a : Int} (h1 : 1 ≤ a) (h2 : a < gP) : memB a = (powM a gQ gP == 1) := by
  have e1 : decide (1 ≤ a) = true := decide_eq_true h1
  have e2 : decide (a < gP) = true := decide_eq_true h2
  unfold memB; rw [e1, e2]; rfl

set_option maxHeartbeats 400000 in
theorem member_is (a : Int) (bb : Bool) (w : World) (hb : memB a = bb) :
    Calls Tryz.prog 42 #[.int .i64 a] w fun e w' => e = .returned (.bool bb) ∧ Only (fun _ => False) w w' := by
  by_cases h1 : 1 ≤ a
  · by_cases h2 : a < 2305843009213691579
    · have d1 : decide (1 ≤ a) = true := decide_eq_true h1
      have d2 : decide (a ≤ 2305843009213691578) = true := decide_eq_true (by omega)
      have hp : (powM a gQ gP == 1) = bb := by rw [← memB_mid h1 h2]; exact hb
      obtain ⟨R, hR⟩ : ∃ R, powM a gQ gP = R := ⟨_, rfl⟩
      rw [hR] at hp
      have HR := Lib.hid (show powM a 1152921504606845789 2305843009213691579 = R from hR)
      clear hR hb
      cases bb
      all_goals
        go_enter Tryz.func42, Tryz.ntmps42
        go_wp2_with fail
        refine (pow_any a 1152921504606845789 2305843009213691579 w (by decide) (by decide) (by decide) (by decide)).mono ?_
        rintro e w' ⟨rfl, rfl⟩
        rw [HR.out]
        go_wp2
        go_ret
        exact ⟨rfl, (Only.refl _ w).alloc _⟩
    · have d1 : decide (1 ≤ a) = true := decide_eq_true h1
      have d2 : decide (a ≤ 2305843009213691578) = false := decide_eq_false (by omega)
      have hf : bb = false := by rw [← hb]; exact memB_high (show gP ≤ a by unfold gP; omega)
      subst hf
      clear hb
      go_enter Tryz.func42, Tryz.ntmps42
      go_wp2
      go_ret
      exact ⟨rfl, Only.refl _ _⟩
  · have d1 : decide (1 ≤ a) = false := decide_eq_false h1
    have hf : bb = false := by rw [← hb]; exact memB_low (by omega)
    subst hf
    clear hb
    go_enter Tryz.func42, Tryz.ntmps42
    go_wp2
    go_ret
    exact ⟨rfl, Only.refl _ _⟩

set_option maxHeartbeats 400000 in
theorem rmember_is (a : Int) (bb : Bool) (w : World) (hb : memB a = bb) :
    Calls Tryz.prog 93 #[.int .i64 a] w fun e w' => e = .returned (.bool bb) ∧ w = w' := by
  by_cases h1 : 1 ≤ a
  · by_cases h2 : a < 2305843009213691579
    · have d1 : decide (1 ≤ a) = true := decide_eq_true h1
      have d2 : decide (a < 2305843009213691579) = true := decide_eq_true h2
      have hp : (powM a gQ gP == 1) = bb := by rw [← memB_mid h1 h2]; exact hb
      obtain ⟨R, hR⟩ : ∃ R, powM a gQ gP = R := ⟨_, rfl⟩
      rw [hR] at hp
      have HR := Lib.hid (show powM a 1152921504606845789 2305843009213691579 = R from hR)
      clear hR hb
      cases bb
      all_goals
        go_enter Tryz.func93, Tryz.ntmps93
        go_wp2_with fail
        refine (rpow_any a 1152921504606845789 2305843009213691579 w (by decide) (by decide) (by decide) (by decide)).mono ?_
        rintro e w' ⟨rfl, rfl⟩
        rw [HR.out]
        go_wp2
        go_ret
        exact ⟨rfl, rfl⟩
    · have d1 : decide (1 ≤ a) = true := decide_eq_true h1
      have d2 : decide (a < 2305843009213691579) = false := decide_eq_false h2
      have hf : bb = false := by rw [← hb]; exact memB_high (show gP ≤ a by unfold gP; omega)
      subst hf
      clear hb
      go_enter Tryz.func93, Tryz.ntmps93
      go_wp2
      go_ret
      exact ⟨rfl, rfl⟩
  · have d1 : decide (1 ≤ a) = false := decide_eq_false h1
    have hf : bb = false := by rw [← hb]; exact memB_low (by omega)
    subst hf
    clear hb
    go_enter Tryz.func93, Tryz.ntmps93
    go_wp2
    go_ret
    exact ⟨rfl, rfl⟩
end Go.Proofs.YtalclldccnichaaGreat
