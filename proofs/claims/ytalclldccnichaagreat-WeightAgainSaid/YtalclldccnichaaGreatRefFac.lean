/-
  The reference's point, Factors and split.
-/
import Derived.Test.YtalclldccnichaaGreatJoin
import Derived.BigQuiet
namespace Go.Proofs.YtalclldccnichaaGreat
open Go.RowKit

def facsTo (zs : List Int) : Nat → List Int
  | 0 => []
  | k + 1 => facsTo zs k ++ [facR zs k]
def facs (zs : List Int) : List Int := facsTo zs zs.length
theorem facsTo_len (zs : List Int) (k : Nat) : (facsTo zs k).length = k := by
  induction k with
  | zero => rfl
  | succ k ih => rw [facsTo, List.length_append, ih]; rfl
theorem facsTo_at (zs : List Int) (k j : Nat) (h : j < k) : ptAt (facsTo zs k) j = facR zs j := by
  induction k with
  | zero => omega
  | succ k ih =>
    rw [facsTo, ptAt_append, facsTo_len]
    split
    · exact ih (by omega)
    · rw [if_pos (by omega), show j = k by omega]
theorem rinv_lit (a m : Int) (w : World) (hm : 1 < m) (hm2 : m < 4611686018427387904) :
    Calls Tryz.prog 75 #[.int .i64 a, .int .i64 m] w fun e w' => e = .returned (.tuple #[.int .i64 (invM a m), .bool (invB a m)]) ∧ w = w' := rinv_any a m w hm hm2
theorem own_low {w : World} {base e size n : Nat} {v : Value} {xs : List Value} (h : w.ownsRow base e size v n xs) : ∀ k, v.ownBlock = some k → base ≤ k := fun _ hk => (own_lt h hk).2
theorem Only.grow {a w w' : World} (h : Only (fun _ => False) a w) {v : Value} {base e size n : Nat} {xs : List Value} (ho : w.ownsRow base e size v n xs) (hb : a.heap.size ≤ base) (hg : w.grownBy w' v.ownBlock) : Only (fun _ => False) a w' :=
  h.grown hg (fun k e hk => by have := (own_lt ho e).2; omega)

set_option maxHeartbeats 2000000 in
theorem rfactors_any (sv : Value) (zs : List Int) (w : World) (hI : PtsAt w.heap.size w sv zs) (hlen : zs.length ≤ 1000000) (hpos : 0 < zs.length) :
    Calls Tryz.prog 49 #[sv] w fun e w' => ∃ v, e = .returned v ∧ PtsAt w'.heap.size w' v (facs zs) ∧ Only (fun _ => False) w w' := by
  obtain ⟨i0, hi, hz0, hz1, hz2⟩ := info_parts Tryz.infoI
  rcases hI with ⟨a, c, rfl, rfl⟩ | ⟨b, off, cap, rfl, hb, hc1, hc2, hc⟩
  · simp at hpos
  · have HC := Lib.hid hc
    clear hc
    go_enter Tryz.func49, Tryz.ntmps49
    go_wp2_with fail
    go_loopw [3, 4] (fun v vi wr => ∃ (k : Nat) (a : Option Addr) (c : Nat), v = .slice a k c ∧ vi = .int .i64 k ∧ k ≤ zs.length ∧ wr.ownsRow w.heap.size 3 1 (.slice a k c) k (irow (facsTo zs k)) ∧ Only (fun _ => False) w wr) (fun _ vi _ => zs.length - (intOf vi).toNat)
    case atStart => exact ⟨0, none, 0, rfl, rfl, Nat.zero_le _, World.ownsRow_nil _ _ _ _, Only.refl _ _⟩
    case round =>
      obtain ⟨k, a, c, rfl, rfl, hk, hown, hO⟩ := hrel
      have hsz := hO.size
      by_cases hlt : k < zs.length
      · have HOWN := Lib.hid hown
        have HO := Lib.hid hO
        have hck := hO.cell (HC.out k hlt) (fun h => h)
        clear hown hO
        go_wp2_with fail
        go_loopw [5, 6] (fun vf vj wi => ∃ (j : Nat), j ≤ zs.length ∧ vj = .int .i64 j ∧ vf = .int .i64 (facTo zs k j) ∧ wi.ownsRow w.heap.size 3 1 (.slice a k c) k (irow (facsTo zs k)) ∧ Only (fun _ => False) w wi) (fun _ vj _ => zs.length - (intOf vj).toNat)
        case atStart => exact ⟨0, Nat.zero_le _, rfl, rfl, HOWN.out, HO.out⟩
        case round =>
          clear HOWN HO
          obtain ⟨j, hj, rfl, rfl, hown, hO⟩ := hrel
          have HOWN := Lib.hid hown
          have HO := Lib.hid hO
          have hsz2 := hO.size
          have hcK := hO.cell (HC.out k hlt) (fun h => h)
          clear hown hO
          by_cases hjl : j < zs.length
          · have hcj := HO.out.cell (HC.out j hjl) (fun h => h)
            by_cases e : j = k
            · subst e
              have hbb : ((j : Int) != (j : Int)) = false := by simp
              go_wp2
              go_roundw
              case rel => exact ⟨j + 1, by omega, by go_num, by rw [facTo, if_pos rfl], HOWN.out, HO.out⟩
              case measure => simp [intOf]; omega
            · have hbb : ((j : Int) != (k : Int)) = true := by simp; omega
              have HA := Lib.hid (show facTo zs k (j + 1) = facTo zs k j * (ptAt zs j * invM ((ptAt zs j - ptAt zs k) % 1152921504606845789) 1152921504606845789 % 1152921504606845789) % 1152921504606845789 by rw [facTo, if_neg e]; rfl)
              clear e
              generalize ptAt zs j = y at *
              generalize ptAt zs k = x at *
              generalize facTo zs k j = f at *
              go_wp2_with fail
              go_quiet (first
                | (go_at_call 76; exact quiet_left (rsub_any y x 1152921504606845789 _ (by decide) (by decide)))
                | (go_at_call 75; exact quiet_left (rinv_lit ((y - x) % 1152921504606845789) 1152921504606845789 _ (by decide) (by decide))))
              generalize invM ((y - x) % 1152921504606845789) 1152921504606845789 = u at *
              have HOWN2 := Lib.hid (owns_drewN nq HOWN.out)
              have HO2 := Lib.hid (HO.out.drewN nq)
              clear HOWN HO
              go_wp2_with fail
              refine (rmul_any y u 1152921504606845789 _ (by decide) (by decide)).mono ?_
              rintro e w' ⟨rfl, rfl⟩
              go_wp2_with fail
              refine (rmul_any f (y * u % 1152921504606845789) 1152921504606845789 _ (by decide) (by decide)).mono ?_
              rintro e w' ⟨rfl, rfl⟩
              go_wp2
              go_roundw
              case rel => exact ⟨j + 1, by omega, by go_num, by rw [HA.out], HOWN2.out, HO2.out⟩
              case measure => simp [intOf]; omega
          · obtain rfl : j = zs.length := by omega
            have HZ := Lib.hid (show irow (facsTo zs (k + 1)) = irow (facsTo zs k) ++ [.int .i64 (facTo zs k zs.length)] by rw [facsTo, irow_append]; rfl)
            generalize facTo zs k zs.length = f at *
            have hown := HOWN.out
            go_wp2_with (at_builtin; refine wpList_append_own _ rfl _ _ 22 rfl w.heap.size 3 i0 _ 1 8 Tryz.underlying22 hi hz0 hz1 hz2 rfl (by decide) _ k (irow (facsTo zs k)) rfl (hown.alloc _) ⟨wr.heap.size, 0, none⟩ 1 1 [.int .i64 f] rfl rfl ?c1 ?c2 ?c3 ?c4 ?c5 ?_)
            case c1 => exact cell_one_new _ _ _
            case c2 => exact one_int _
            case c3 => unfold maxLen; omega
            case c4 => omega
            case c5 => simp; omega
            intro v' w2 hown2 hgrow2 _
            obtain ⟨a2, c2, hv⟩ := slice_of_own hown2
            rw [hv] at hown2 ⊢
            rw [← HZ.out] at hown2
            have HO2 := Lib.hid ((HO.out.alloc _).grow (hown.alloc _) (Nat.le_refl _) hgrow2)
            have HOWN2 := Lib.hid hown2
            clear hgrow2 hv hown hown2 HOWN HO
            go_wp2
            go_roundw
            case rel => exact ⟨k + 1, a2, c2, rfl, by go_num, by omega, HOWN2.out, HO2.out⟩
            case measure => simp [intOf]; omega
      · obtain rfl : k = zs.length := by omega
        have HP := Lib.hid (pts_of_own (zs := facs zs) (by unfold facs; rw [facsTo_len]; exact hown) (by unfold facs; rw [facsTo_len]; omega))
        have HO := Lib.hid hO
        clear hown hO
        go_wp2
        go_ret
        exact ⟨_, rfl, HP.out, HO.out⟩
end Go.Proofs.YtalclldccnichaaGreat
