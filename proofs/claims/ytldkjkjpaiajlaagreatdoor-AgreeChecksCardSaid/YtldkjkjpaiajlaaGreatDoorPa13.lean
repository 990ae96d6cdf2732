/-
  The walk of counting.
  The walks of Join, Lift and Share.
  The reference's point, Factors and split.
  The reference's Counting and split.
  The reference's split and Share.
  Plain laws: what the program's Join, Lift and Share compute is what the reference computes.
  Interpolation, as the program and the reference compute it.
  The reference's Join and Lift.
-/
import Derived.Test.YtldkjkjpaiajlaaGreatDoorPa11
import Derived.Deep.DeepCutAuto
import Derived.BigQuiet
import Derived.Test.YtldkjkjpaiajlaaGreatDoorPa08
namespace Go.Proofs.YtldkjkjpaiajlaaGreatDoor
open Go.RowKit

/-- Shares in a slice. -/
def ShsAt (W : World) (sv : Value) (l : List (Int × Int)) : Prop :=
  (∃ a c, sv = .slice a 0 c ∧ l = []) ∨ ∃ b off cap, sv = .slice (some ⟨b, off, none⟩) l.length cap ∧ b < W.heap.size ∧ l.length ≤ cap ∧ cap ≤ 9223372036854775807 ∧
    ∀ j, j < l.length → W.cell? ⟨b, off + j * 2, none⟩ = some (.int .i64 (shAt l j).1) ∧ W.cell? ⟨b, off + j * 2 + 1, none⟩ = some (.int .i64 (shAt l j).2)

end Go.Proofs.YtldkjkjpaiajlaaGreatDoor

namespace Go.Proofs.YtldkjkjpaiajlaaGreatDoor
open Go.RowKit

theorem ShsAt.slice {W : World} {sv : Value} {l : List (Int × Int)} (h : ShsAt W sv l) : ∃ a n c, sv = .slice a n c := by
  rcases h with ⟨a, c, rfl, _⟩ | ⟨b, off, cap, rfl, _⟩ <;> exact ⟨_, _, _, rfl⟩
theorem PtsAt.slice {n : Nat} {W : World} {sv : Value} {l : List Int} (h : PtsAt n W sv l) : ∃ a c, sv = .slice a l.length c := by
  rcases h with ⟨a, c, rfl, rfl⟩ | ⟨b, off, cap, rfl, _⟩ <;> exact ⟨_, _, rfl⟩

end Go.Proofs.YtldkjkjpaiajlaaGreatDoor

namespace Go.Proofs.YtldkjkjpaiajlaaGreatDoor
open Go.RowKit

theorem Only.grow {a w w' : World} (h : Only (fun _ => False) a w) {v : Value} {base e size n : Nat} {xs : List Value} (ho : w.ownsRow base e size v n xs) (hb : a.heap.size ≤ base) (hg : w.grownBy w' v.ownBlock) : Only (fun _ => False) a w' :=
  h.grown hg (fun k e hk => by have := (own_lt ho e).2; omega)

end Go.Proofs.YtldkjkjpaiajlaaGreatDoor

namespace Go.Proofs.YtldkjkjpaiajlaaGreatDoor
open Go.RowKit

theorem ShsAt.below {A B : World} (h : Only (fun _ => False) A B) {sv : Value} {l : List (Int × Int)} : ShsAt A sv l → ShsAt B sv l
  | .inl e => .inl e
  | .inr ⟨b, off, cap, e, hb, h1, h2, hc⟩ => .inr ⟨b, off, cap, e, Nat.lt_of_lt_of_le hb h.size, h1, h2, fun j hj => ⟨h.cell (hc j hj).1 (fun h => h), h.cell (hc j hj).2 (fun h => h)⟩⟩
theorem PtsAt.only {A B : World} (h : Only (fun _ => False) A B) {sv : Value} {zs : List Int} (hp : PtsAt A.heap.size A sv zs) : PtsAt B.heap.size B sv zs :=
  (hp.below (h.below (Nat.le_refl _) (fun _ _ h => h))).mono h.size

end Go.Proofs.YtldkjkjpaiajlaaGreatDoor

namespace Go.Proofs.YtldkjkjpaiajlaaGreatDoor
open Go.RowKit

/-- Two lists that a call makes. -/
structure Duo (w wr : World) (base : Nat) (p q : Value) (pl ql : List Int) : Prop where
  pts : wr.ownsRow base 3 1 p pl.length (irow pl)
  num : wr.ownsRow base 3 1 q ql.length (irow ql)
  ne : ∀ k, p.ownBlock = some k → q.ownBlock ≠ some k
  only : Only (fun _ => False) w wr
  low : w.heap.size ≤ base
theorem Duo.frame {w wr w' : World} {base : Nat} {p q : Value} {pl ql : List Int} (h : Duo w wr base p q pl ql) (hO : Only (fun _ => False) wr w') : Duo w w' base p q pl ql :=
  ⟨hO.owns h.pts (fun _ _ h => h), hO.owns h.num (fun _ _ h => h), h.ne, h.only.trans hO, h.low⟩
theorem Duo.left {w wn w' : World} {base : Nat} {x : Int} {p q : Value} {pl ql : List Int} (h : Duo w wn base p q pl ql) {g cap : Nat}
    (hown : w'.ownsRow base 3 1 (.slice (some ⟨g, 0, none⟩) (pl.length + 1) cap) (pl.length + 1) (irow pl ++ [.int .i64 x])) (hg : wn.grownBy w' p.ownBlock) (hat : p.ownBlock = some g ∨ g = wn.heap.size) :
    Duo w w' base (.slice (some ⟨g, 0, none⟩) (pl.length + 1) cap) q (pl ++ [x]) ql := by
  have hO : Only (fun k => p.ownBlock = some k) wn w' := (Only.refl _ wn).grown hg (fun k e _ => e)
  have e : ∀ k, (Value.slice (some ⟨g, 0, none⟩) (pl.length + 1) cap).ownBlock = some k → k = g := fun k hk => by simpa [Value.ownBlock] using hk.symm
  refine ⟨by rw [List.length_append, List.length_singleton, irow_append]; exact hown, hO.owns h.num (fun k hq hp => h.ne k hp hq), ?_, ?_, h.low⟩
  · intro k hk hq
    obtain rfl := e k hk
    rcases hat with hat | hat
    · exact h.ne k hat hq
    · have := (own_lt h.num hq).1; omega
  · exact h.only.trans' hO (fun i hi hp => by have := (own_lt h.pts hp).2; have := h.low; omega)
theorem Duo.right {w wn w' : World} {base : Nat} {y : Int} {p q : Value} {pl ql : List Int} (h : Duo w wn base p q pl ql) {g cap : Nat}
    (hown : w'.ownsRow base 3 1 (.slice (some ⟨g, 0, none⟩) (ql.length + 1) cap) (ql.length + 1) (irow ql ++ [.int .i64 y])) (hg : wn.grownBy w' q.ownBlock) (hat : q.ownBlock = some g ∨ g = wn.heap.size) :
    Duo w w' base p (.slice (some ⟨g, 0, none⟩) (ql.length + 1) cap) pl (ql ++ [y]) := by
  have hO : Only (fun k => q.ownBlock = some k) wn w' := (Only.refl _ wn).grown hg (fun k e _ => e)
  have e : ∀ k, (Value.slice (some ⟨g, 0, none⟩) (ql.length + 1) cap).ownBlock = some k → k = g := fun k hk => by simpa [Value.ownBlock] using hk.symm
  refine ⟨hO.owns h.pts (fun k hp hq => h.ne k hp hq), by rw [List.length_append, List.length_singleton, irow_append]; exact hown, ?_, ?_, h.low⟩
  · intro k hk hq
    obtain rfl := e k hq
    rcases hat with hat | hat
    · exact h.ne k hk hat
    · have := (own_lt h.pts hk).1; omega
  · exact h.only.trans' hO (fun i hi hp => by have := (own_lt h.num hp).2; have := h.low; omega)
end Go.Proofs.YtldkjkjpaiajlaaGreatDoor

namespace Go.Proofs.YtldkjkjpaiajlaaGreatDoor

end Go.Proofs.YtldkjkjpaiajlaaGreatDoor

namespace Go.Proofs.YtldkjkjpaiajlaaGreatDoor

end Go.Proofs.YtldkjkjpaiajlaaGreatDoor

namespace Go.Proofs.YtldkjkjpaiajlaaGreatDoor
open Go.RowKit

end Go.Proofs.YtldkjkjpaiajlaaGreatDoor
