/-
  The iterator of the factors of points, and the fold over it.
  The fold over the factors of points: combine and lift.
  A set of ints in a map[int]bool that the call makes; the walks of point and different.
-/
import Derived.RangeFuncNested
import Derived.RangeFuncBound
import Derived.RangeFuncCalls
import Derived.RangeFuncLeaves
import Derived.RangeFuncBox
import Derived.Shelf.Abstract
import Derived.Shelf.RegionOpen
import Derived.OwnWalkIn
import Derived.TacticsInMore
import Derived.LoopNIn
import Derived.LoopIn
import Derived.Test.YtkpfachmakfncaaGreatDoorPk06
import Derived.Maps.OwnSet
import Derived.Maps.Views
namespace Go.Proofs.YtkpfachmakfncaaGreatDoor
open Go.RowKit Go.Shelf
attribute [local go_sem] Oper.semAt_some

/-- The first k indexes. -/
def upF (len : Nat) : Nat → List (Fin len)
  | 0 => []
  | k + 1 => if h : k < len then upF len k ++ [⟨k, h⟩] else upF len k
theorem upF_succ {len k : Nat} (h : k < len) : upF len (k + 1) = upF len k ++ [⟨k, h⟩] := by rw [upF, dif_pos h]
theorem upF_length {len : Nat} : ∀ k, k ≤ len → (upF len k).length = k := by
  intro k
  induction k with
  | zero => intro _; rfl
  | succ k ih => intro h; rw [upF_succ (by omega), List.length_append, ih (by omega)]; rfl

/-- A slice of ints that lies below n₀. -/
def PtsAt (n₀ : Nat) (W : World) (sv : Value) (zs : List Int) : Prop :=
  (∃ a c, sv = .slice a 0 c ∧ zs = []) ∨ ∃ b off cap, sv = .slice (some ⟨b, off, none⟩) zs.length cap ∧ b < n₀ ∧ zs.length ≤ cap ∧ cap ≤ 9223372036854775807 ∧ ∀ j, j < zs.length → W.cell? ⟨b, off + j, none⟩ = some (.int .i64 (ptAt zs j))
theorem PtsAt.below {n₀ : Nat} {A B : World} (h : Below n₀ A B) {sv : Value} {zs : List Int} : PtsAt n₀ A sv zs → PtsAt n₀ B sv zs
  | .inl e => .inl e
  | .inr ⟨b, off, cap, e, hb, h1, h2, hc⟩ => .inr ⟨b, off, cap, e, hb, h1, h2, fun j hj => (h.cell (p := ⟨b, off + j, none⟩) hb).trans (hc j hj)⟩

theorem PtsAt.mono {n₀ n₁ : Nat} {A : World} (h : n₀ ≤ n₁) {sv : Value} {zs : List Int} : PtsAt n₀ A sv zs → PtsAt n₁ A sv zs
  | .inl e => .inl e
  | .inr ⟨b, off, cap, e, hb, h1, h2, hc⟩ => .inr ⟨b, off, cap, e, by omega, h1, h2, hc⟩

theorem grown_drewN (w : World) (n : Nat) : w.grownBy (w.drewN n) none := ⟨rfl, rfl, rfl, Nat.le_refl _, fun _ _ _ => rfl⟩

end Go.Proofs.YtkpfachmakfncaaGreatDoor

namespace Go.Proofs.YtkpfachmakfncaaGreatDoor
open Go.RowKit Go.Shelf
attribute [local go_sem] Oper.semAt_some

theorem facP_bd (zs : List Int) (i : Nat) : 0 ≤ facP zs i ∧ facP zs i < 1152921504606845789 := emod_self_lt _ _ (by decide)
theorem foldl_snoc {α : Type} (g : Int → α → Int) (s : Int) (pre : List α) (x : α) : (pre ++ [x]).foldl g s = g (pre.foldl g s) x := by simp

theorem add_res (a b m : Int) : (a + b % m) % m = (a + b) % m := by rw [Int.add_emod, Int.emod_emod_of_dvd _ (Int.dvd_refl m), ← Int.add_emod]
/-- What turns no block keeps all. -/
theorem keeps_only {w w' : World} (h : Only (fun _ => False) w w') : KeepsOthers w w' := ⟨h.size, fun k _ hk _ => (h.block k (Array.getElem?_eq_some_iff.1 hk).1 (fun h => h)).trans hk⟩
def stepC (zs ns : List Int) (s : Int) (i : Fin zs.length) : Int := (s + ptAt ns i.1 * facP zs i.1) % 1152921504606845789
def stepL (zs ns : List Int) (s : Int) (i : Fin zs.length) : Int := s * powM (ptAt ns i.1) (facP zs i.1) 2305843009213691579 % 2305843009213691579

end Go.Proofs.YtkpfachmakfncaaGreatDoor

namespace Go.Proofs.YtkpfachmakfncaaGreatDoor
open Go.RowKit

theorem plainElem_bool_inv {H : Type} {P : Program} {e : TypeId} {v : Value} {y : DataW H × List MemPlace} (he : P.underlying e = some .bool) (h : plainElem (H := H) P e v = some y) : ∃ x, v = .bool x ∧ y = (.lit (.bool x), []) := by
  unfold plainElem at h
  rw [he] at h
  cases v <;> simp at h
  exact ⟨_, rfl, h.symm⟩

theorem Tryz.zeroB (w : World) : (zeroValue 4).run Tryz.prog w = .ok (.bool false) w := by kernel_rfl
theorem Tryz.lawI : Maps.Keyed Tryz.prog 3 := Maps.int_keyed Tryz.underlying3

/-- Block mb is a set of at most n ints. -/
structure SetAt (w : World) (mb n : Nat) (S : Int → Bool) : Prop where
  own : ∃ D : DataW Unit, w.ownsMap Tryz.prog 3 (plainElem Tryz.prog 4) mb n D ∧ Maps.IsMap D ∧ ∀ k, D.atKey (.int .i64 k) (.lit (.bool false)) = .lit (.bool (S k))
theorem SetAt.frame {T : Nat → Prop} {w w' : World} {mb n : Nat} {S : Int → Bool} (h : SetAt w mb n S) (hO : Only T w w') (hT : ¬ T mb) : SetAt w' mb n S := by
  obtain ⟨D, ⟨es, clock, hb, r⟩, hm, hat⟩ := h.own
  refine ⟨D, ⟨es, clock, ?_, r⟩, hm, hat⟩
  rw [hO.block mb (Array.getElem?_eq_some_iff.1 hb).1 hT]; exact hb
theorem SetAt.lt {w : World} {mb n : Nat} {S : Int → Bool} (h : SetAt w mb n S) : mb < w.heap.size := by
  obtain ⟨D, hown, _⟩ := h.own
  exact hown.lt
theorem set_new (w : World) (mb : Nat) (h : w.heap[mb]? = some (.map #[] 0)) : SetAt w mb 0 (fun _ => false) :=
  ⟨.map [], ⟨#[], 0, h, ⟨by simp, MapKept.stamped_empty 0, by simp⟩, Nat.le_refl _, rfl⟩, ⟨[], rfl⟩, fun _ => rfl⟩
/-- Is x a point? -/
def ptB (x : Int) : Bool := decide (1 ≤ x) && decide (x ≤ 1152921504606845788)
/-- Is z among the first k? -/
def inTo (zs : List Int) : Nat → Int → Bool
  | 0, _ => false
  | k + 1, z => z == ptAt zs k || inTo zs k z
/-- Are the first k different points? -/
def diffTo (zs : List Int) : Nat → Bool
  | 0 => true
  | k + 1 => diffTo zs k && (ptB (ptAt zs k) && !inTo zs k (ptAt zs k))
def diffB (zs : List Int) : Bool := diffTo zs zs.length

theorem diffTo_false (zs : List Int) : ∀ (k j : Nat), j ≤ k → diffTo zs j = false → diffTo zs k = false := by
  intro k
  induction k with
  | zero => intro j hj h; rw [show j = 0 by omega] at h; exact h
  | succ k ih =>
    intro j hj h
    by_cases e : j = k + 1
    · rw [← e]; exact h
    · rw [diffTo, ih j (by omega) h]; rfl

structure IntsW (zs : List Int) : Prop where
  wf : ∀ j, -9223372036854775808 ≤ ptAt zs j ∧ ptAt zs j ≤ 9223372036854775807

end Go.Proofs.YtkpfachmakfncaaGreatDoor
