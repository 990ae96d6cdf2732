/-
  The walk of the law DealDeals.
-/
import Derived.Test.YtkpfachmakfncaaGreatDoorPt18
import Derived.Laws.AppendOwnNone
namespace Go.Proofs.YtkpfachmakfncaaGreatDoor
open Go.RowKit

theorem rmod1_any (a m : Int) (w : World) (hm : 0 < m) (hm2 : m ≤ 1000000000000000000) :
    Calls Tryz.prog 10 #[.int .i64 a, .int .i64 m] w fun e w' => e = .returned (.int .i64 (a % m)) ∧ w = w' := by
  have h1 := Int.lt_tmod_of_pos a hm
  have h2 := Int.tmod_lt_of_pos a hm
  have hz : (m == 0) = false := beq_eq_false_iff_ne.2 (by omega)
  have hf2 : (a.tmod m + m) % m = a % m := by
    have e := tmod_fix a m hm
    by_cases h0 : a.tmod m < 0
    · rw [if_pos h0] at e
      rw [← e, Int.emod_eq_of_lt (by omega) (by omega)]
    · rw [if_neg h0] at e
      rw [← e, Int.add_emod_right, Int.emod_eq_of_lt (by omega) (by omega)]
  have HF := Lib.hid (show (a.tmod m + m).tmod m = a % m by rw [Int.tmod_eq_emod_of_nonneg (by omega)]; exact hf2)
  have HF2 := Lib.hid hf2
  clear hf2
  have HW := Lib.hid (show IntKind.i64.wrap (a.tmod m + m) = a.tmod m + m from IntWalk.i64_in _ (by omega))
  have h3 := Int.emod_nonneg a (show m ≠ 0 by omega)
  have h4 := Int.emod_lt_of_pos a hm
  go_enter Tryz.func10, Tryz.ntmps10
  go_wp2
  go_ret
  refine ⟨ret_int ?_, rfl⟩
  first | exact HF.out | exact HF2.out
end Go.Proofs.YtkpfachmakfncaaGreatDoor
