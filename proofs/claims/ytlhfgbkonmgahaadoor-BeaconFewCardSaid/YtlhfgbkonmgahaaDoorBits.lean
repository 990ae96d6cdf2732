/-
  math/bits.Len64 by the shelf's contract: the table of numbers, and one application (as the kit's tool lay-plain prints it).
-/
import Derived.Shelf.Strconv.Itoa0
import Derived.Lib.ItoaNum
import Derived.Test.YtlhfgbkonmgahaaDoorRows
namespace Go.Proofs.YtlhfgbkonmgahaaDoor
open Go.Shelf
def Tryd.lays129_ren : Go.Shelf.Ren := ⟨fun | 129 => 47 | n => n, fun | 53 => 82 | 3 => 3 | 4 => 4 | 46 => 68 | 5 => 5 | 9 => 9 | n => n, fun | n => n⟩
theorem Tryd.lays129 : Go.Proofs.Lays.n129 Tryd.prog Tryd.lays129_ren := {
  mixed := by kernel_rfl
  f129 := Tryd.func47.trans (congrArg some (by kernel_rfl))
  t3 := Tryd.underlying3
  a3 := Tryd.isAgg3
  z3 := Tryd.sizeOf3
  v3 := Tryd.zeroValue3
  t4 := Tryd.underlying4
  a4 := Tryd.isAgg4
  z4 := Tryd.sizeOf4
  v4 := Tryd.zeroValue4
  t5 := Tryd.underlying5
  a5 := Tryd.isAgg5
  z5 := Tryd.sizeOf5
  v5 := Tryd.zeroValue5
  t9 := Tryd.underlying9
  a9 := Tryd.isAgg9
  z9 := Tryd.sizeOf9
  v9 := Tryd.zeroValue9
  t46 := Tryd.underlying68
  a46 := Tryd.isAgg68
  z46 := Tryd.sizeOf68
  v46 := Tryd.zeroValue68
  t53 := Tryd.underlying82
  a53 := Tryd.isAgg82
  z53 := Tryd.sizeOf82
  v53 := Tryd.zeroValue82 }
/-- How many binary digits: enough, and at most 64. -/
def LenOf (y : Nat) (w : World) (e : Ending) (w' : World) : Prop := ∃ n : Nat, n ≤ 64 ∧ y < 2 ^ n ∧ e = .returned (.int .i64 n) ∧ w = w'
theorem bitLen_bd (y : Nat) (h : y < 2 ^ 64) : y < 2 ^ Lib.bitLen y ∧ Lib.bitLen y ≤ 64 := by
  by_cases h0 : y = 0
  · subst h0; exact ⟨by decide, by decide⟩
  · obtain ⟨a, b, c⟩ := Lib.bitLenAux_bounds 64 y h h0
    refine ⟨c, ?_⟩
    rcases Nat.lt_or_ge 64 (Lib.bitLen y) with h1 | h1
    · have : 2 ^ 64 ≤ 2 ^ (Lib.bitLen y - 1) := Nat.pow_le_pow_right (by decide) (by omega)
      exact absurd (Nat.le_trans this b) (by omega)
    · exact h1
theorem len64_any (y : Nat) (w : World) (h1 : y < 18446744073709551616) : Calls Tryd.prog 47 #[.int .u64 y] w (LenOf y w) := by
  refine (Any.bits_Len64 Tryd.lays129 y w (by omega) (by omega)).mono ?_
  rintro e w' ⟨rfl, rfl⟩
  have := bitLen_bd y h1
  exact ⟨_, this.2, this.1, by rw [Int.toNat_natCast], rfl⟩
end Go.Proofs.YtlhfgbkonmgahaaDoor
