/-
  Rules: what a reader holds in memory.
  Rules: the first four lines, and roll.
  Rules: the lines tier, place, quota.
-/
import Derived.Test.YtldkjkjpaiajlaaGreatDoorPa17
import Derived.Deep.AppendLies
import Derived.Deep.RegionLaw
namespace Go.Proofs.YtldkjkjpaiajlaaGreatDoor
open Go.RowKit

theorem ownR_ge {w : World} {b e s n g : Nat} {v : Value} {xs : List Value} (h : w.ownsRow b e s v n xs) (hg : v.ownBlock = some g) : b ≤ g := by
  rcases h.2 with ⟨rfl, _⟩ | ⟨g', cap, cur, rfl, hb, hgg, _⟩
  · simp [Value.ownBlock] at hg
  · obtain rfl : g' = g := by simpa [Value.ownBlock] using hg
    exact hb
def tAt (l : List (Int × Int)) (j : Nat) : Int × Int := l.getD j (0, 0)
def pAt (l : List (ByteArray × Int)) (j : Nat) : ByteArray × Int := l.getD j (ByteArray.empty, 0)
def qAt (l : List (ByteArray × Int × Int)) (j : Nat) : ByteArray × Int × Int := l.getD j (ByteArray.empty, 0, 0)
/-- The blocks that reading turns. -/
def RdS (B : Nat) (vt vp vq vb : Value) (k : Nat) : Prop := k = B ∨ vt.ownBlock = some k ∨ vp.ownBlock = some k ∨ vq.ownBlock = some k ∨ vb.ownBlock = some k
theorem RdS.set {B : Nat} {w w1 : World} {vt vp vq vb : Value} (h : Only (RdS B vt vp vq vb) w w1) (j : Nat) (v : Value) : Only (RdS B vt vp vq vb) w (w1.setCell ⟨B, j, none⟩ v) := h.setCell (.inl (.inl rfl)) v
end Go.Proofs.YtldkjkjpaiajlaaGreatDoor

namespace Go.Proofs.YtldkjkjpaiajlaaGreatDoor
open Go.RowKit

end Go.Proofs.YtldkjkjpaiajlaaGreatDoor

namespace Go.Proofs.YtldkjkjpaiajlaaGreatDoor
open Go.RowKit

end Go.Proofs.YtldkjkjpaiajlaaGreatDoor
