/-
  The walks of package group: residue, plus, Mul, Add, Sub.
  The walks of package group: Inv, Pow, Member.
  The walks of the reference's group: Residue, plus, Add, Sub, Mul, Pow, Inv.
  The walks of Member, of the program and of the reference.
-/
import Derived.Test.YteikkpiginfbkaaGreatDoorRows
import Derived.Test.YteikkpiginfbkaaGreatDoorPh00
import Derived.Test.YteikkpiginfbkaaGreatDoorPh03
import Derived.WalkKit
import Derived.WalkSpells
import Derived.WalkLawsBesides
import Derived.Deep.QuietTactic
import Derived.BigQuiet
import Derived.Lib.Hide
import Derived.BigRegion
import Derived.Test.YteikkpiginfbkaaGreatDoorPh04
namespace Go.Proofs.YteikkpiginfbkaaGreatDoor
open Go.RowKit

theorem ret_int {k : IntKind} {a b : Int} (h : a = b) : Ending.returned (.int k a) = .returned (.int k b) := by rw [h]

end Go.Proofs.YteikkpiginfbkaaGreatDoor

namespace Go.Proofs.YteikkpiginfbkaaGreatDoor
open Go.RowKit

/-- Euclid's numbers at the head of a round: their sizes. -/
structure EgAt (m x y s t : Int) : Prop where
  y0 : 0 ≤ y
  yx : y ≤ x
  x1 : 1 ≤ x
  xm : x ≤ m
  sz : x * y < 2 ^ 129
  sg : ∃ u v : Int, 0 ≤ u ∧ 0 ≤ v ∧ u * x + v * y = m ∧ ((t = u ∧ s = -v) ∨ (t = -u ∧ s = v))
theorem EgAt.bd {m x y s t : Int} (h : EgAt m x y s t) : -m ≤ t ∧ t ≤ m := by
  obtain ⟨u, v, hu, hv, e, hs⟩ := h.sg
  have h1 : u * 1 ≤ u * x := Int.mul_le_mul_of_nonneg_left h.x1 hu
  have h2 : 0 ≤ v * y := Int.mul_nonneg hv h.y0
  rcases hs with ⟨rfl, _⟩ | ⟨rfl, _⟩ <;> omega
theorem EgAt.next {m x y s t : Int} (h : EgAt m x y s t) (hy : 0 < y) : EgAt m y (x % y) t (s - x / y * t) ∧ (-m ≤ x / y * t ∧ x / y * t ≤ m) ∧ (-m ≤ s - x / y * t ∧ s - x / y * t ≤ m) := by
  have h1 := emod_self_lt x y hy
  have hn : EgAt m y (x % y) t (s - x / y * t) := by
    refine ⟨h1.1, by omega, by omega, by have := h.yx; have := h.xm; omega, (eg_round x y s t hy h.yx h.sz).2, ?_⟩
    obtain ⟨u, v, hu, hv, e, hs⟩ := h.sg
    have hq : 0 ≤ x / y := Int.ediv_nonneg (by have := h.x1; omega) (by omega)
    have hqu : 0 ≤ x / y * u := Int.mul_nonneg hq hu
    refine ⟨v + x / y * u, u, by omega, hu, ?_, ?_⟩
    · have e1 : x % y = x - y * (x / y) := by have := Int.mul_ediv_add_emod x y; omega
      rw [e1, Int.add_mul, Int.mul_sub, ← e]
      have e2 : x / y * u * y = u * (y * (x / y)) := by rw [Int.mul_comm (x / y) u, Int.mul_assoc, Int.mul_comm (x / y) y]
      omega
    · rcases hs with ⟨rfl, rfl⟩ | ⟨rfl, rfl⟩
      · right; exact ⟨by omega, rfl⟩
      · left
        have : x / y * -u = -(x / y * u) := by rw [Int.mul_neg]
        exact ⟨by omega, rfl⟩
  refine ⟨hn, ?_, hn.bd⟩
  obtain ⟨u, v, hu, hv, e, hs⟩ := h.sg
  have hq : 0 ≤ x / y := Int.ediv_nonneg (by have := h.x1; omega) (by omega)
  have hqu : 0 ≤ x / y * u := Int.mul_nonneg hq hu
  have h3 := hn.bd
  rcases hs with ⟨rfl, rfl⟩ | ⟨rfl, rfl⟩
  · omega
  · have : x / y * -u = -(x / y * u) := by rw [Int.mul_neg]
    omega

end Go.Proofs.YteikkpiginfbkaaGreatDoor

namespace Go.Proofs.YteikkpiginfbkaaGreatDoor
open Go.RowKit

end Go.Proofs.YteikkpiginfbkaaGreatDoor

namespace Go.Proofs.YteikkpiginfbkaaGreatDoor
open Go.RowKit

end Go.Proofs.YteikkpiginfbkaaGreatDoor
