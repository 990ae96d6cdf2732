/-
  The iterator of the factors of points, and the fold over it.
  The fold over the factors of points: combine and lift.
  A set of ints in a map[int]bool that the call makes; the walks of point and different.
-/
import Derived.RangeFuncNested
import Derived.RangeFuncBound
import Derived.RangeFuncCalls
import Derived.RangeFuncLeaves
import Derived.RangeFuncBox
import Derived.Shelf.Abstract
import Derived.Shelf.RegionOpen
import Derived.OwnWalkIn
import Derived.TacticsInMore
import Derived.LoopNIn
import Derived.LoopIn
import Derived.Test.YteikkpiginfbkaaGreatDoorPh07
import Derived.Maps.OwnSet
import Derived.Maps.Views
namespace Go.Proofs.YteikkpiginfbkaaGreatDoor
open Go.RowKit Go.Shelf
attribute [local go_sem] Oper.semAt_some

/-- A slice of ints that lies below n₀. -/
def PtsAt (n₀ : Nat) (W : World) (sv : Value) (zs : List Int) : Prop :=
  (∃ a c, sv = .slice a 0 c ∧ zs = []) ∨ ∃ b off cap, sv = .slice (some ⟨b, off, none⟩) zs.length cap ∧ b < n₀ ∧ zs.length ≤ cap ∧ cap ≤ 9223372036854775807 ∧ ∀ j, j < zs.length → W.cell? ⟨b, off + j, none⟩ = some (.int .i64 (ptAt zs j))
theorem PtsAt.below {n₀ : Nat} {A B : World} (h : Below n₀ A B) {sv : Value} {zs : List Int} : PtsAt n₀ A sv zs → PtsAt n₀ B sv zs
  | .inl e => .inl e
  | .inr ⟨b, off, cap, e, hb, h1, h2, hc⟩ => .inr ⟨b, off, cap, e, hb, h1, h2, fun j hj => (h.cell (p := ⟨b, off + j, none⟩) hb).trans (hc j hj)⟩

theorem PtsAt.mono {n₀ n₁ : Nat} {A : World} (h : n₀ ≤ n₁) {sv : Value} {zs : List Int} : PtsAt n₀ A sv zs → PtsAt n₁ A sv zs
  | .inl e => .inl e
  | .inr ⟨b, off, cap, e, hb, h1, h2, hc⟩ => .inr ⟨b, off, cap, e, by omega, h1, h2, hc⟩

end Go.Proofs.YteikkpiginfbkaaGreatDoor

namespace Go.Proofs.YteikkpiginfbkaaGreatDoor
open Go.RowKit Go.Shelf
attribute [local go_sem] Oper.semAt_some

end Go.Proofs.YteikkpiginfbkaaGreatDoor

namespace Go.Proofs.YteikkpiginfbkaaGreatDoor
open Go.RowKit

/-- Block mb is a set of at most n ints. -/
structure SetAt (w : World) (mb n : Nat) (S : Int → Bool) : Prop where
  own : ∃ D : DataW Unit, w.ownsMap Tryz.prog 3 (plainElem Tryz.prog 4) mb n D ∧ Maps.IsMap D ∧ ∀ k, D.atKey (.int .i64 k) (.lit (.bool false)) = .lit (.bool (S k))
theorem SetAt.frame {T : Nat → Prop} {w w' : World} {mb n : Nat} {S : Int → Bool} (h : SetAt w mb n S) (hO : Only T w w') (hT : ¬ T mb) : SetAt w' mb n S := by
  obtain ⟨D, ⟨es, clock, hb, r⟩, hm, hat⟩ := h.own
  refine ⟨D, ⟨es, clock, ?_, r⟩, hm, hat⟩
  rw [hO.block mb (Array.getElem?_eq_some_iff.1 hb).1 hT]; exact hb
theorem SetAt.lt {w : World} {mb n : Nat} {S : Int → Bool} (h : SetAt w mb n S) : mb < w.heap.size := by
  obtain ⟨D, hown, _⟩ := h.own
  exact hown.lt
/-- Is z among the first k? -/
def inTo (zs : List Int) : Nat → Int → Bool
  | 0, _ => false
  | k + 1, z => z == ptAt zs k || inTo zs k z
end Go.Proofs.YteikkpiginfbkaaGreatDoor
