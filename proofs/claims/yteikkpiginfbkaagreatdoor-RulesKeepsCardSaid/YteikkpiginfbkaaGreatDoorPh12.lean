/-
  The walk of counting.
  The walks of Join, Lift and Share.
  The reference's point, Factors and split.
  The reference's Counting and split.
-/
import Derived.Test.YteikkpiginfbkaaGreatDoorPh11
import Derived.Deep.DeepCutAuto
import Derived.BigQuiet
namespace Go.Proofs.YteikkpiginfbkaaGreatDoor
open Go.RowKit

/-- Shares in a slice. -/
def ShsAt (W : World) (sv : Value) (l : List (Int × Int)) : Prop :=
  (∃ a c, sv = .slice a 0 c ∧ l = []) ∨ ∃ b off cap, sv = .slice (some ⟨b, off, none⟩) l.length cap ∧ b < W.heap.size ∧ l.length ≤ cap ∧ cap ≤ 9223372036854775807 ∧
    ∀ j, j < l.length → W.cell? ⟨b, off + j * 2, none⟩ = some (.int .i64 (shAt l j).1) ∧ W.cell? ⟨b, off + j * 2 + 1, none⟩ = some (.int .i64 (shAt l j).2)

end Go.Proofs.YteikkpiginfbkaaGreatDoor

namespace Go.Proofs.YteikkpiginfbkaaGreatDoor
open Go.RowKit

theorem ShsAt.slice {W : World} {sv : Value} {l : List (Int × Int)} (h : ShsAt W sv l) : ∃ a n c, sv = .slice a n c := by
  rcases h with ⟨a, c, rfl, _⟩ | ⟨b, off, cap, rfl, _⟩ <;> exact ⟨_, _, _, rfl⟩
theorem PtsAt.slice {n : Nat} {W : World} {sv : Value} {l : List Int} (h : PtsAt n W sv l) : ∃ a c, sv = .slice a l.length c := by
  rcases h with ⟨a, c, rfl, rfl⟩ | ⟨b, off, cap, rfl, _⟩ <;> exact ⟨_, _, rfl⟩

end Go.Proofs.YteikkpiginfbkaaGreatDoor

namespace Go.Proofs.YteikkpiginfbkaaGreatDoor
open Go.RowKit

theorem Only.grow {a w w' : World} (h : Only (fun _ => False) a w) {v : Value} {base e size n : Nat} {xs : List Value} (ho : w.ownsRow base e size v n xs) (hb : a.heap.size ≤ base) (hg : w.grownBy w' v.ownBlock) : Only (fun _ => False) a w' :=
  h.grown hg (fun k e hk => by have := (own_lt ho e).2; omega)

end Go.Proofs.YteikkpiginfbkaaGreatDoor

namespace Go.Proofs.YteikkpiginfbkaaGreatDoor
open Go.RowKit

theorem ShsAt.below {A B : World} (h : Only (fun _ => False) A B) {sv : Value} {l : List (Int × Int)} : ShsAt A sv l → ShsAt B sv l
  | .inl e => .inl e
  | .inr ⟨b, off, cap, e, hb, h1, h2, hc⟩ => .inr ⟨b, off, cap, e, Nat.lt_of_lt_of_le hb h.size, h1, h2, fun j hj => ⟨h.cell (hc j hj).1 (fun h => h), h.cell (hc j hj).2 (fun h => h)⟩⟩
theorem PtsAt.only {A B : World} (h : Only (fun _ => False) A B) {sv : Value} {zs : List Int} (hp : PtsAt A.heap.size A sv zs) : PtsAt B.heap.size B sv zs :=
  (hp.below (h.below (Nat.le_refl _) (fun _ _ h => h))).mono h.size

end Go.Proofs.YteikkpiginfbkaaGreatDoor
