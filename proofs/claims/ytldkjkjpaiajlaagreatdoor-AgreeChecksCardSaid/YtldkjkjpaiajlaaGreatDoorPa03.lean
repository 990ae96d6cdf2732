/-
  math/bits.Len64 by the shelf's contract: the table of numbers, and one application (as the kit's tool lay-plain prints it).
-/
import Derived.Shelf.Strconv.Itoa0
import Derived.Lib.ItoaNum
import Derived.Test.YtldkjkjpaiajlaaGreatDoorRows
namespace Go.Proofs.YtldkjkjpaiajlaaGreatDoor
open Go.Shelf
def Tryz.lays129_ren : Go.Shelf.Ren := ⟨fun | 129 => 159 | n => n, fun | 53 => 200 | 3 => 3 | 4 => 4 | 46 => 233 | 5 => 5 | 9 => 9 | n => n, fun | n => n⟩
theorem Tryz.lays129 : Go.Proofs.Lays.n129 Tryz.prog Tryz.lays129_ren := {
  mixed := by kernel_rfl
  f129 := Tryz.func159.trans (congrArg some (by kernel_rfl))
  t3 := Tryz.underlying3
  a3 := Tryz.isAgg3
  z3 := Tryz.sizeOf3
  v3 := Tryz.zeroValue3
  t4 := Tryz.underlying4
  a4 := Tryz.isAgg4
  z4 := Tryz.sizeOf4
  v4 := Tryz.zeroValue4
  t5 := Tryz.underlying5
  a5 := Tryz.isAgg5
  z5 := Tryz.sizeOf5
  v5 := Tryz.zeroValue5
  t9 := Tryz.underlying9
  a9 := Tryz.isAgg9
  z9 := Tryz.sizeOf9
  v9 := Tryz.zeroValue9
  t46 := Tryz.underlying233
  a46 := Tryz.isAgg233
  z46 := Tryz.sizeOf233
  v46 := Tryz.zeroValue233
  t53 := Tryz.underlying200
  a53 := Tryz.isAgg200
  z53 := Tryz.sizeOf200
  v53 := Tryz.zeroValue200 }
/-- How many binary digits: enough, and at most 64. -/
def LenOf (y : Nat) (w : World) (e : Ending) (w' : World) : Prop := ∃ n : Nat, n ≤ 64 ∧ y < 2 ^ n ∧ e = .returned (.int .i64 n) ∧ w = w'
theorem bitLen_bd (y : Nat) (h : y < 2 ^ 64) : y < 2 ^ Lib.bitLen y ∧ Lib.bitLen y ≤ 64 := by
  by_cases h0 : y = 0
  · subst h0; exact ⟨by decide, by decide⟩
  · obtain ⟨a, b, c⟩ := Lib.bitLenAux_bounds 64 y h h0
    refine ⟨c, ?_⟩
    rcases Nat.lt_or_ge 64 (Lib.bitLen y) with h1 | h1
    · have : 2 ^ 64 ≤ 2 ^ (Lib.bitLen y - 1) := Nat.pow_le_pow_right (by decide) (by omega)
      exact absurd (Nat.le_trans this b) (by omega)
    · exact h1
theorem len64_any (y : Nat) (w : World) (h1 : y < 18446744073709551616) : Calls Tryz.prog 159 #[.int .u64 y] w (LenOf y w) := by
  refine (Any.bits_Len64 Tryz.lays129 y w (by omega) (by omega)).mono ?_
  rintro e w' ⟨rfl, rfl⟩
  have := bitLen_bd y h1
  exact ⟨_, this.2, this.1, by rw [Int.toNat_natCast], rfl⟩
end Go.Proofs.YtldkjkjpaiajlaaGreatDoor
