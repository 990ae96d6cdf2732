/-
  Powers of 4 below Q are different (plain).
-/
import Derived.Test.YtnnhbngdhhfofaaGreatDoorPa18
namespace Go.Proofs.YtnnhbngdhhfofaaGreatDoor
open Go.RowKit

theorem pow4_one {d : Int} (hd : 0 < d) (hd2 : d < 1152921504606845789) (h : powM 4 d 2305843009213691579 = 1) : False := by
  have hg : Int.gcd d gQ = 1 := gcd_Q _ (fun h0 => by
    rw [show (gQ : Int) = 1152921504606845789 from rfl, Int.emod_eq_of_lt (by omega) hd2] at h0
    omega)
  have hs := inv_spec d gQ (by decide) (by decide) hg
  obtain ⟨i0, i1⟩ := inv_bd d gQ (by decide)
  have hp := powPowQ (a := 4) (x := d) (y := invM d gQ) mem_four (by omega) hd2 i0 i1
  rw [h, show d * invM d gQ % 1152921504606845789 = 1 from hs] at hp
  rw [powM_eq 1 _ _ (by decide) i0 (Int.lt_trans i1 (by decide)), Int.one_pow] at hp
  rw [powM_eq 4 1 _ (by decide) (by decide) (by decide)] at hp
  revert hp
  decide
theorem pow4_lt {x y : Int} (hx : 0 ≤ x) (hxy : x < y) (hy : y < 1152921504606845789) (h : powM 4 x 2305843009213691579 = powM 4 y 2305843009213691579) : False := by
  obtain ⟨r0, r1⟩ := emod_self_lt (1152921504606845789 - x) 1152921504606845789 (by decide)
  have h1 := powAddQ (a := 4) (x := x) (y := (1152921504606845789 - x) % 1152921504606845789) mem_four hx (by omega) r0 r1
  have h2 := powAddQ (a := 4) (x := y) (y := (1152921504606845789 - x) % 1152921504606845789) mem_four (by omega) hy r0 r1
  rw [h, h2] at h1
  have e1 : (x + (1152921504606845789 - x) % 1152921504606845789) % 1152921504606845789 = 0 := by omega
  have e2 : (y + (1152921504606845789 - x) % 1152921504606845789) % 1152921504606845789 = y - x := by omega
  rw [e1, e2, powM_eq 4 0 _ (by decide) (by decide) (by decide)] at h1
  exact pow4_one (d := y - x) (by omega) (by omega) (h1.trans (by decide))
theorem pow4_inj {x y : Int} (hx : 0 ≤ x) (hx2 : x < 1152921504606845789) (hy : 0 ≤ y) (hy2 : y < 1152921504606845789) (h : powM 4 x 2305843009213691579 = powM 4 y 2305843009213691579) : x = y := by
  rcases Int.lt_trichotomy x y with h1 | h1 | h1
  · exact (pow4_lt hx h1 hy2 h).elim
  · exact h1
  · exact (pow4_lt hy h1 hx2 h.symm).elim
end Go.Proofs.YtnnhbngdhhfofaaGreatDoor
