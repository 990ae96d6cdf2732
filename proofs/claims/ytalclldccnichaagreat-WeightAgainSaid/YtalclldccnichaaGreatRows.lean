/-
  No cell of these rows narrows 'for every input' (looked for: loops, veiled, ifaces, maps, wideKeys, modest, calm, conditions, laid).
  DERIVED. THE GIVEN ROWS OF THIS SEAT. 3 by the template 'for every input the law returns true; each argument reads behind the call as it read before'; 0 by the template 'total and deterministic' (their statements: YtalclldccnichaaGreatTotals.lean).
  GIVEN WITH THE SEED: the statements are not yours to turn. If you find one false, say at which input.
  Laid BY PROGRAM, IN A SANDBOX (cutbox-rows.mjs): the forced cells as the released guide's own fill.sh prints them over the translation a7c08b485001a73f… (all of the seat's roots in one cut). By AI agents, Wed Nov 11 2026. No macro, syntax, notation, axiom, sorry.
-/
import Derived.Test.YtalclldccnichaaGreatChecked
import GoSem.Claim
import GoSem.ClaimJoined
import GoSem.ClaimMapViews
import Derived.JoinedTies
import Derived.KernelRfl
namespace Go.Proofs.YtalclldccnichaaGreat
/- THE CELL 'sum', in the pinned program and in every row, IS THE sha256 OF THE DUMP (.gsa) THAT YtalclldccnichaaGreatProg.lean LOADS. Nothing in Lean hashes anything: it is a label: what it is worth is what the hold of that sum in a sandbox is worth. -/
noncomputable def Tryz.pinned : Pinned := { name := "ytalclldccnichaagreat", sum := "a7c08b485001a73f0f7e67d762a1cc801f74142d1ef2956138d36363dbf186ca", checked := Tryz.checked }
namespace Rows
def none {H : Type} : Left H := { results := [], args := [] }

/-- 'sorteslaw08.WeightBegins': WHATEVER THE INPUT: true; the input reads as it did. -/
def weightBeginsSpec : ChangeSpec := { name := "weightBegins", fn := fun _ => fun
  | [d1, d2] => { results := [.lit (.bool true)], args := [d1, d2] }
  | _ => none }
def weightBeginsRow : OpenClaim := { program := "ytalclldccnichaagreat", sum := "a7c08b485001a73f0f7e67d762a1cc801f74142d1ef2956138d36363dbf186ca", func := "sortes/sorteslaw08.WeightBegins", spec := "weightBegins", unfollowed := true, recurses := true, apart := false }
def WeightBeginsSaid : Prop := weightBeginsRow.holds Tryz.pinned (OpenSpec.ofChange weightBeginsSpec)

/-- ITS FALSE NEIGHBOUR: 'it returns false'. Refute it at one input. -/
def weightBeginsWrong : ChangeSpec := { name := "weightBegins", fn := fun _ => fun
  | [d1, d2] => { results := [.lit (.bool false)], args := [d1, d2] }
  | _ => none }
def WeightBeginsWrongFalsely : Prop := weightBeginsRow.holds Tryz.pinned (OpenSpec.ofChange weightBeginsWrong)

/-- 'sorteslaw08.WeightAgain': WHATEVER THE INPUT: true; the input reads as it did. -/
def weightAgainSpec : ChangeSpec := { name := "weightAgain", fn := fun _ => fun
  | [d1, d2] => { results := [.lit (.bool true)], args := [d1, d2] }
  | _ => none }
def weightAgainRow : OpenClaim := { program := "ytalclldccnichaagreat", sum := "a7c08b485001a73f0f7e67d762a1cc801f74142d1ef2956138d36363dbf186ca", func := "sortes/sorteslaw08.WeightAgain", spec := "weightAgain", unfollowed := true, recurses := true, apart := false }
def WeightAgainSaid : Prop := weightAgainRow.holds Tryz.pinned (OpenSpec.ofChange weightAgainSpec)

/-- ITS FALSE NEIGHBOUR: 'it returns false'. Refute it at one input. -/
def weightAgainWrong : ChangeSpec := { name := "weightAgain", fn := fun _ => fun
  | [d1, d2] => { results := [.lit (.bool false)], args := [d1, d2] }
  | _ => none }
def WeightAgainWrongFalsely : Prop := weightAgainRow.holds Tryz.pinned (OpenSpec.ofChange weightAgainWrong)

/-- 'sorteslaw08.WeightOwn': WHATEVER THE INPUT: true; the input reads as it did. -/
def weightOwnSpec : ChangeSpec := { name := "weightOwn", fn := fun _ => fun
  | [d] => { results := [.lit (.bool true)], args := [d] }
  | _ => none }
def weightOwnRow : OpenClaim := { program := "ytalclldccnichaagreat", sum := "a7c08b485001a73f0f7e67d762a1cc801f74142d1ef2956138d36363dbf186ca", func := "sortes/sorteslaw08.WeightOwn", spec := "weightOwn", unfollowed := true, recurses := true, apart := false }
def WeightOwnSaid : Prop := weightOwnRow.holds Tryz.pinned (OpenSpec.ofChange weightOwnSpec)

/-- ITS FALSE NEIGHBOUR: 'it returns false'. Refute it at one input. -/
def weightOwnWrong : ChangeSpec := { name := "weightOwn", fn := fun _ => fun
  | [d] => { results := [.lit (.bool false)], args := [d] }
  | _ => none }
def WeightOwnWrongFalsely : Prop := weightOwnRow.holds Tryz.pinned (OpenSpec.ofChange weightOwnWrong)

/- THE SECOND FORM. 'bulk': how many values and letters a reading holds, each counted each time it is reached (what is shared counts as often as it is met; a slice's spare places count too). A statement '..UptoSaid' is the law's where the arguments, and the package variables that the reading takes, are together of bulk at most 1048576: NARROWER than '..Said'. Prove '..Said' where nothing that the law and all that it calls make is longer than what came in: it says more and counts as full. Else prove '..UptoSaid'. A law counts once. -/
mutual
def uptoBulk {H : Type} : DataW H → Nat
  | .lit (.string bytes) => bytes.length + 1
  | .lit _ => 1
  | .nil => 1
  | .ptr d => uptoBulk d + 1
  | .slice elems spare => uptoBulkAll elems + uptoBulkAll spare + 1
  | .agg parts => uptoBulkAll parts + 1
  | .iface _ d => uptoBulk d + 1
  | .map entries => uptoBulkEntries entries + 1
  | .held _ => 1
def uptoBulkAll {H : Type} : List (DataW H) → Nat
  | [] => 0
  | d :: r => uptoBulk d + uptoBulkAll r
def uptoBulkEntries {H : Type} : List (Lit × DataW H) → Nat
  | [] => 0
  | x :: r => uptoBulkEntry x + uptoBulkEntries r
def uptoBulkEntry {H : Type} : Lit × DataW H → Nat
  | (.string bytes, d) => bytes.length + uptoBulk d + 1
  | (_, d) => uptoBulk d + 1
 end
def uptoSmall : (H : Type) → List (DataW H) → Bool := fun _ ds => decide (uptoBulkAll ds ≤ 1048576)
def OpenSpec.upto (s : _root_.Go.ChangeSpec) : _root_.Go.OpenSpec := { _root_.Go.OpenSpec.ofChange s with cond := some uptoSmall }

/-- 'sorteslaw08.WeightBegins', WHERE WHAT IT READS IS OF BULK AT MOST 1048576: true; the input reads as it did. -/
def weightBeginsUptoRow : OpenClaim := { program := "ytalclldccnichaagreat", sum := "a7c08b485001a73f0f7e67d762a1cc801f74142d1ef2956138d36363dbf186ca", func := "sortes/sorteslaw08.WeightBegins", spec := "weightBegins", unfollowed := true, recurses := true, apart := false, narrowed := true }
def WeightBeginsUptoSaid : Prop := weightBeginsUptoRow.holds Tryz.pinned (OpenSpec.upto weightBeginsSpec)

/-- 'sorteslaw08.WeightAgain', WHERE WHAT IT READS IS OF BULK AT MOST 1048576: true; the input reads as it did. -/
def weightAgainUptoRow : OpenClaim := { program := "ytalclldccnichaagreat", sum := "a7c08b485001a73f0f7e67d762a1cc801f74142d1ef2956138d36363dbf186ca", func := "sortes/sorteslaw08.WeightAgain", spec := "weightAgain", unfollowed := true, recurses := true, apart := false, narrowed := true }
def WeightAgainUptoSaid : Prop := weightAgainUptoRow.holds Tryz.pinned (OpenSpec.upto weightAgainSpec)

/-- 'sorteslaw08.WeightOwn', WHERE WHAT IT READS IS OF BULK AT MOST 1048576: true; the input reads as it did. -/
def weightOwnUptoRow : OpenClaim := { program := "ytalclldccnichaagreat", sum := "a7c08b485001a73f0f7e67d762a1cc801f74142d1ef2956138d36363dbf186ca", func := "sortes/sorteslaw08.WeightOwn", spec := "weightOwn", unfollowed := true, recurses := true, apart := false, narrowed := true }
def WeightOwnUptoSaid : Prop := weightOwnUptoRow.holds Tryz.pinned (OpenSpec.upto weightOwnSpec)

end Rows
end Go.Proofs.YtalclldccnichaaGreat
