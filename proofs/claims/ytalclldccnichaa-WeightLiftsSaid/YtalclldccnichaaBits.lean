/-
  math/bits.Len64 by the shelf's contract: the table of numbers, and one application (as the kit's tool lay-plain prints it).
-/
import Derived.Shelf.Strconv.Itoa0
import Derived.Lib.ItoaNum
import Derived.Test.YtalclldccnichaaRows
namespace Go.Proofs.Ytalclldccnichaa
open Go.Shelf
def Try.lays129_ren : Go.Shelf.Ren := ⟨fun | 129 => 91 | n => n, fun | 53 => 117 | 3 => 3 | 4 => 4 | 46 => 123 | 5 => 5 | 9 => 9 | n => n, fun | n => n⟩
theorem Try.lays129 : Go.Proofs.Lays.n129 Try.prog Try.lays129_ren := {
  mixed := by kernel_rfl
  f129 := Try.func91.trans (congrArg some (by kernel_rfl))
  t3 := Try.underlying3
  a3 := Try.isAgg3
  z3 := Try.sizeOf3
  v3 := Try.zeroValue3
  t4 := Try.underlying4
  a4 := Try.isAgg4
  z4 := Try.sizeOf4
  v4 := Try.zeroValue4
  t5 := Try.underlying5
  a5 := Try.isAgg5
  z5 := Try.sizeOf5
  v5 := Try.zeroValue5
  t9 := Try.underlying9
  a9 := Try.isAgg9
  z9 := Try.sizeOf9
  v9 := Try.zeroValue9
  t46 := Try.underlying123
  a46 := Try.isAgg123
  z46 := Try.sizeOf123
  v46 := Try.zeroValue123
  t53 := Try.underlying117
  a53 := Try.isAgg117
  z53 := Try.sizeOf117
  v53 := Try.zeroValue117 }
/-- How many binary digits: enough, and at most 64. -/
def LenOf (y : Nat) (w : World) (e : Ending) (w' : World) : Prop := ∃ n : Nat, n ≤ 64 ∧ y < 2 ^ n ∧ e = .returned (.int .i64 n) ∧ w = w'
theorem bitLen_bd (y : Nat) (h : y < 2 ^ 64) : y < 2 ^ Lib.bitLen y ∧ Lib.bitLen y ≤ 64 := by
  by_cases h0 : y = 0
  · subst h0; exact ⟨by decide, by decide⟩
  · obtain ⟨a, b, c⟩ := Lib.bitLenAux_bounds 64 y h h0
    refine ⟨c, ?_⟩
    rcases Nat.lt_or_ge 64 (Lib.bitLen y) with h1 | h1
    · have : 2 ^ 64 ≤ 2 ^ (Lib.bitLen y - 1) := Nat.pow_le_pow_right (by decide) (by omega)
      exact absurd (Nat.le_trans this b) (by omega)
    · exact h1
theorem len64_any (y : Nat) (w : World) (h1 : y < 18446744073709551616) : Calls Try.prog 91 #[.int .u64 y] w (LenOf y w) := by
  refine (Any.bits_Len64 Try.lays129 y w (by omega) (by omega)).mono ?_
  rintro e w' ⟨rfl, rfl⟩
  have := bitLen_bd y h1
  exact ⟨_, this.2, this.1, by rw [Int.toNat_natCast], rfl⟩
end Go.Proofs.Ytalclldccnichaa
