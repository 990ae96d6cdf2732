/-
  The reference's Join and Lift.
-/
import Derived.Test.YtalclldccnichaaGreatLaws8
namespace Go.Proofs.YtalclldccnichaaGreat
open Go.RowKit

theorem shAt_take (l : List (Int × Int)) (n j : Nat) (h : j < n) : shAt (l.take n) j = shAt l j := by
  unfold shAt; simp only [List.getD, List.getElem?_take_of_lt h]

end Go.Proofs.YtalclldccnichaaGreat
