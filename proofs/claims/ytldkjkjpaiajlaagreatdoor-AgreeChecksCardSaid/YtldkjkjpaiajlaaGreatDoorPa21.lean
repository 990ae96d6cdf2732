/-
  The program's boxes: pad, seal.
-/
import Derived.Test.YtldkjkjpaiajlaaGreatDoorPa19
import Derived.Test.YtldkjkjpaiajlaaGreatDoorPa16
import Derived.Lib.ItoaMem
namespace Go.Proofs.YtldkjkjpaiajlaaGreatDoor
open Go.RowKit

theorem only_grown (w : World) (k : Nat) (os : Array Obj) : Only (fun _ => False) w (Go.Sort.grow (w.drewN k) os) :=
  ⟨rfl, rfl, rfl, by simp [Go.Sort.grow], fun i hi _ => by simp [Go.Sort.grow, Array.getElem?_append, hi]⟩
/-- 'strconv.Itoa' of a number that is not negative. -/
theorem itoa_any (n : Nat) (w : World) (hn : n < 9223372036854775808) (hG : Glob w) :
    Calls Tryz.prog 123 #[.int .i64 n] w fun e w' => e = .returned (.string (decB n)) ∧ Only (fun _ => False) w w' :=
  (Tryz.strconv_Itoa n (by omega) (by omega) w hG.pow).mono fun e w' h => by
    obtain ⟨he, k, os, hw⟩ := h
    rw [Lib.itoa_nonneg] at he
    exact ⟨he, hw ▸ only_grown w k os⟩
end Go.Proofs.YtldkjkjpaiajlaaGreatDoor
