/-
  The iterator of the factors of points, and the fold over it.
  The fold over the factors of points: combine and lift.
  A set of ints in a map[int]bool that the call makes; the walks of point and different.
-/
import Derived.RangeFuncNested
import Derived.RangeFuncBound
import Derived.RangeFuncCalls
import Derived.RangeFuncLeaves
import Derived.RangeFuncBox
import Derived.Shelf.Abstract
import Derived.Shelf.RegionOpen
import Derived.OwnWalkIn
import Derived.TacticsInMore
import Derived.LoopNIn
import Derived.LoopIn
import Derived.Test.YtldkjkjpaiajlaaGreatDoorPa08
import Derived.Maps.OwnSet
import Derived.Maps.Views
namespace Go.Proofs.YtldkjkjpaiajlaaGreatDoor
open Go.RowKit Go.Shelf
attribute [local go_sem] Oper.semAt_some

/-- A slice of ints that lies below n₀. -/
def PtsAt (n₀ : Nat) (W : World) (sv : Value) (zs : List Int) : Prop :=
  (∃ a c, sv = .slice a 0 c ∧ zs = []) ∨ ∃ b off cap, sv = .slice (some ⟨b, off, none⟩) zs.length cap ∧ b < n₀ ∧ zs.length ≤ cap ∧ cap ≤ 9223372036854775807 ∧ ∀ j, j < zs.length → W.cell? ⟨b, off + j, none⟩ = some (.int .i64 (ptAt zs j))
theorem PtsAt.below {n₀ : Nat} {A B : World} (h : Below n₀ A B) {sv : Value} {zs : List Int} : PtsAt n₀ A sv zs → PtsAt n₀ B sv zs
  | .inl e => .inl e
  | .inr ⟨b, off, cap, e, hb, h1, h2, hc⟩ => .inr ⟨b, off, cap, e, hb, h1, h2, fun j hj => (h.cell (p := ⟨b, off + j, none⟩) hb).trans (hc j hj)⟩

theorem PtsAt.mono {n₀ n₁ : Nat} {A : World} (h : n₀ ≤ n₁) {sv : Value} {zs : List Int} : PtsAt n₀ A sv zs → PtsAt n₁ A sv zs
  | .inl e => .inl e
  | .inr ⟨b, off, cap, e, hb, h1, h2, hc⟩ => .inr ⟨b, off, cap, e, by omega, h1, h2, hc⟩

end Go.Proofs.YtldkjkjpaiajlaaGreatDoor

namespace Go.Proofs.YtldkjkjpaiajlaaGreatDoor
open Go.RowKit Go.Shelf
attribute [local go_sem] Oper.semAt_some

def stepC (zs ns : List Int) (s : Int) (i : Fin zs.length) : Int := (s + ptAt ns i.1 * facP zs i.1) % 1152921504606845789
end Go.Proofs.YtldkjkjpaiajlaaGreatDoor

namespace Go.Proofs.YtldkjkjpaiajlaaGreatDoor
open Go.RowKit

theorem plainElem_bool_inv {H : Type} {P : Program} {e : TypeId} {v : Value} {y : DataW H × List MemPlace} (he : P.underlying e = some .bool) (h : plainElem (H := H) P e v = some y) : ∃ x, v = .bool x ∧ y = (.lit (.bool x), []) := by
  unfold plainElem at h
  rw [he] at h
  cases v <;> simp at h
  exact ⟨_, rfl, h.symm⟩

theorem Tryz.zeroB (w : World) : (zeroValue 4).run Tryz.prog w = .ok (.bool false) w := by kernel_rfl
theorem Tryz.lawI : Maps.Keyed Tryz.prog 3 := Maps.int_keyed Tryz.underlying3

/-- Block mb is a set of at most n ints. -/
structure SetAt (w : World) (mb n : Nat) (S : Int → Bool) : Prop where
  own : ∃ D : DataW Unit, w.ownsMap Tryz.prog 3 (plainElem Tryz.prog 4) mb n D ∧ Maps.IsMap D ∧ ∀ k, D.atKey (.int .i64 k) (.lit (.bool false)) = .lit (.bool (S k))
theorem SetAt.look {w : World} {mb n : Nat} {S : Int → Bool} (h : SetAt w mb n S) (k : Int) (hk : (Lit.int .i64 k).wf = true) :
    (Instr.lookup 84 (.map (some mb)) (.int .i64 k) false).run Tryz.prog w = .ok (.bool (S k)) w := by
  obtain ⟨D, hown, _, hat⟩ := h.own
  have hkey := Maps.keyOf_int_mk (k := 3) Tryz.underlying3 hk
  obtain ⟨v, ps, hrun, hv⟩ := hown.lookup Tryz.lawI Tryz.underlying84 (Tryz.zeroB w) (plainElem_bool Tryz.underlying4 false) hkey
  obtain ⟨x, rfl, hx⟩ := plainElem_bool_inv Tryz.underlying4 hv
  simp only [Prod.mk.injEq] at hx
  rw [hat k] at hx
  simp only [DataW.lit.injEq, Lit.bool.injEq] at hx
  rw [hrun, hx.1]
theorem SetAt.frame {T : Nat → Prop} {w w' : World} {mb n : Nat} {S : Int → Bool} (h : SetAt w mb n S) (hO : Only T w w') (hT : ¬ T mb) : SetAt w' mb n S := by
  obtain ⟨D, ⟨es, clock, hb, r⟩, hm, hat⟩ := h.own
  refine ⟨D, ⟨es, clock, ?_, r⟩, hm, hat⟩
  rw [hO.block mb (Array.getElem?_eq_some_iff.1 hb).1 hT]; exact hb
theorem SetAt.lt {w : World} {mb n : Nat} {S : Int → Bool} (h : SetAt w mb n S) : mb < w.heap.size := by
  obtain ⟨D, hown, _⟩ := h.own
  exact hown.lt
theorem set_new (w : World) (mb : Nat) (h : w.heap[mb]? = some (.map #[] 0)) : SetAt w mb 0 (fun _ => false) :=
  ⟨.map [], ⟨#[], 0, h, ⟨by simp, MapKept.stamped_empty 0, by simp⟩, Nat.le_refl _, rfl⟩, ⟨[], rfl⟩, fun _ => rfl⟩
/-- One more. -/
theorem SetAt.add {w : World} {mb n : Nat} {S : Int → Bool} (h : SetAt w mb n S) (hn : n < maxLen) (k : Int) (hk : (Lit.int .i64 k).wf = true) :
    ∃ w', (Instr.mapUpdate 84 (.map (some mb)) (.int .i64 k) (.bool true)).run Tryz.prog w = .ok () w' ∧ SetAt w' mb (n + 1) (fun z => z == k || S z) ∧ Only (fun i => i = mb) w w' := by
  obtain ⟨D, hown, hm, hat⟩ := h.own
  have hkey := Maps.keyOf_int_mk (k := 3) Tryz.underlying3 hk
  obtain ⟨w', hrun, hown', hg⟩ := hown.update Tryz.lawI Tryz.underlying84 hn hkey (plainElem_bool Tryz.underlying4 true)
  refine ⟨w', hrun, ⟨_, hown', hm.put _ _, fun z => ?_⟩, Only.grown1 hg⟩
  by_cases e : z = k
  · subst e
    rw [Maps.atKey_put_same hm (show WideAt.IsKeyLit (.int .i64 z) from trivial)]; simp
  · rw [Maps.atKey_put_other (by simpa using e), hat z]
    simp [e]

/-- Is z among the first k? -/
def inTo (zs : List Int) : Nat → Int → Bool
  | 0, _ => false
  | k + 1, z => z == ptAt zs k || inTo zs k z
end Go.Proofs.YtldkjkjpaiajlaaGreatDoor
