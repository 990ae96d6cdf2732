/-
  math/bits.Len64 by the shelf's contract: the table of numbers, and one application (as the kit's tool lay-plain prints it).
-/
import Derived.Shelf.Strconv.Itoa0
import Derived.Lib.ItoaNum
import Derived.Test.YteikkpiginfbkaaGreatDoorRows
namespace Go.Proofs.YteikkpiginfbkaaGreatDoor
open Go.Shelf
end Go.Proofs.YteikkpiginfbkaaGreatDoor
