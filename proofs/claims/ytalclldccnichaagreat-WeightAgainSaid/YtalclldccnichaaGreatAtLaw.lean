/-
  Plain: the public value of commitments is the power with the polynomial's value. The reference's public value.
-/
import Derived.Test.YtalclldccnichaaGreatPowers
import Derived.Test.YtalclldccnichaaGreatDeal
namespace Go.Proofs.YtalclldccnichaaGreat
open Go.RowKit

theorem foldl_upF' (g : Int → Nat → Int) (len : Nat) (s : Int) (r : Nat → Int) (h0 : r 0 = s) (hs : ∀ k, k < len → r (k + 1) = g (r k) k) : ∀ k, k ≤ len → (upF len k).foldl (fun s (i : Fin len) => g s i.1) s = r k := by
  intro k
  induction k with
  | zero => intro _; exact h0.symm
  | succ k ih => intro h; rw [upF_succ (by omega), List.foldl_append, ih (by omega), hs k (by omega)]; rfl
/-- The public value, as the reference computes it. -/
def atTo (cs : List Int) (x : Int) : Nat → Int
  | 0 => 1
  | k + 1 => atTo cs x k * powM (ptAt cs k) (pwQ x k) 2305843009213691579 % 2305843009213691579
theorem atZ_eq (cs : List Int) (x : Int) : atZ cs x = atTo cs x cs.length := by
  unfold atZ
  exact foldl_upF' (fun s i => s * powM (ptAt cs i) (pwQ x i) 2305843009213691579 % 2305843009213691579) cs.length 1 (atTo cs x) rfl (fun k _ => rfl) cs.length (Nat.le_refl _)
/-- The value, as the program computes it. -/
def vaTo (cs : List Int) (x : Int) : Nat → Int
  | 0 => 0
  | k + 1 => (vaTo cs x k + ptAt cs k * pwQ x k) % 1152921504606845789
def vaZ (cs : List Int) (x : Int) : Int := (upF cs.length cs.length).foldl (stepV cs x) 0
theorem vaZ_eq (cs : List Int) (x : Int) : vaZ cs x = vaTo cs x cs.length := by
  unfold vaZ
  exact foldl_upF' (fun s i => (s + ptAt cs i * pwQ x i) % 1152921504606845789) cs.length 0 (vaTo cs x) rfl (fun k _ => rfl) cs.length (Nat.le_refl _)
theorem vaTo_bd (cs : List Int) (x : Int) : ∀ k, 0 ≤ vaTo cs x k ∧ vaTo cs x k < 1152921504606845789
  | 0 => by unfold vaTo; decide
  | _ + 1 => emod_self_lt _ _ (by decide)
theorem pwQ_cong (x : Int) : ∀ k, Cong gQ (pwQ x k) (x ^ k)
  | 0 => Cong.of_eq (by rw [Int.pow_zero]; rfl)
  | k + 1 => by rw [pwQ, Int.pow_succ]; exact (Cong.mod gQ _).trans ((pwQ_cong x k).mul (Cong.refl _ _))
theorem ev_snoc (x y : Int) : ∀ a : List Int, ev (a ++ [y]) x = ev a x + y * x ^ a.length
  | [] => by simp [ev]
  | c :: a => by
    rw [List.cons_append, ev, ev_snoc x y a, ev, List.length_cons, Int.pow_succ]
    grind
theorem take_snocA (l : List Int) (k : Nat) (h : k < l.length) : l.take (k + 1) = l.take k ++ [ptAt l k] := by
  rw [List.take_add_one]; simp [ptAt, List.getD, h]
theorem vaTo_cong (cs : List Int) (x : Int) : ∀ k, k ≤ cs.length → Cong gQ (vaTo cs x k) (ev (cs.take k) x)
  | 0, _ => Cong.of_eq (by simp [vaTo, ev])
  | k + 1, h => by
    rw [vaTo, take_snocA cs k (by omega), ev_snoc, List.length_take, Nat.min_eq_left (by omega)]
    exact (Cong.mod gQ _).trans ((vaTo_cong cs x k (by omega)).add ((Cong.refl _ _).mul (pwQ_cong x k)))
/-- Both ways to compute a value agree. -/
theorem va_val (cs : List Int) (x : Int) : vaZ cs x = valZ cs x := by
  have hb := vaTo_bd cs x cs.length
  have hv := valZ_bd cs x
  have h := vaTo_cong cs x cs.length (Nat.le_refl _)
  rw [List.take_length] at h
  rw [vaZ_eq]
  exact (h.trans (valZ_cong cs x).symm).eq hb.1 hb.2 hv.1 hv.2
/-- Powers of one base: exponents add, and multiply. -/
theorem powAddQ {a x y : Int} (h : memB a = true) (hx : 0 ≤ x) (hx2 : x < 1152921504606845789) (hy : 0 ≤ y) (hy2 : y < 1152921504606845789) : powM a x 2305843009213691579 * powM a y 2305843009213691579 % 2305843009213691579 = powM a ((x + y) % 1152921504606845789) 2305843009213691579 := by
  have hin := ((memB_iff a).1 h).2.2
  have hz := emod_self_lt (x + y) 1152921504606845789 (by decide)
  have h1 := powM_cong a x 2305843009213691579 hx (by omega)
  have h2 := powM_cong a y 2305843009213691579 hy (by omega)
  have h3 := powM_cong a ((x + y) % 1152921504606845789) 2305843009213691579 hz.1 (by omega)
  have h4 := hin.exp (x.toNat + y.toNat)
  have e : (x.toNat + y.toNat) % 1152921504606845789 = ((x + y) % 1152921504606845789).toNat := by omega
  rw [e, Int.pow_add] at h4
  have hc : Cong 2305843009213691579 (powM a x 2305843009213691579 * powM a y 2305843009213691579) (powM a ((x + y) % 1152921504606845789) 2305843009213691579) := (h1.mul h2).trans (Cong.trans (show Cong 2305843009213691579 _ _ from h4) h3.symm)
  rw [hc.emod]
  have hb := powM_bd a ((x + y) % 1152921504606845789) 2305843009213691579 (by decide)
  exact Int.emod_eq_of_lt hb.1 hb.2
theorem powPowQ {a x y : Int} (h : memB a = true) (hx : 0 ≤ x) (hx2 : x < 1152921504606845789) (hy : 0 ≤ y) (hy2 : y < 1152921504606845789) : powM (powM a x 2305843009213691579) y 2305843009213691579 = powM a (x * y % 1152921504606845789) 2305843009213691579 := by
  have hin := ((memB_iff a).1 h).2.2
  have hz := emod_self_lt (x * y) 1152921504606845789 (by decide)
  have h1 := powM_cong (powM a x 2305843009213691579) y 2305843009213691579 hy (by omega)
  have h2 := cong_pow (powM_cong a x 2305843009213691579 hx (by omega)) y.toNat
  have h3 := powM_cong a (x * y % 1152921504606845789) 2305843009213691579 hz.1 (by omega)
  have h4 := hin.exp (x.toNat * y.toNat)
  have e : (x.toNat * y.toNat) % 1152921504606845789 = (x * y % 1152921504606845789).toNat := by
    obtain ⟨b, rfl⟩ := Int.eq_ofNat_of_zero_le hx
    obtain ⟨c, rfl⟩ := Int.eq_ofNat_of_zero_le hy
    simp only [Int.toNat_natCast]
    rw [← Int.natCast_mul, show (1152921504606845789 : Int) = ((1152921504606845789 : Nat) : Int) from rfl, ← Int.natCast_emod, Int.toNat_natCast]
  rw [e, Int.pow_mul] at h4
  have hc : Cong 2305843009213691579 (powM (powM a x 2305843009213691579) y 2305843009213691579) (powM a (x * y % 1152921504606845789) 2305843009213691579) := (h1.trans h2).trans (Cong.trans (show Cong 2305843009213691579 _ _ from h4) h3.symm)
  have hb := powM_bd a (x * y % 1152921504606845789) 2305843009213691579 (by decide)
  have hb1 := powM_bd (powM a x 2305843009213691579) y 2305843009213691579 (by decide)
  exact hc.eq hb1.1 hb1.2 hb.1 hb.2
theorem cmTo_at' (cs : List Int) : ∀ k j, j < k → ptAt (cmTo cs k) j = powM 4 (ptAt cs j) 2305843009213691579
  | k + 1, j, h => by
    rw [cmTo, ptAt_append, cmTo_len]
    by_cases e : j < k
    · rw [if_pos e, cmTo_at' cs k j e]
    · obtain rfl : j = k := by omega
      rw [if_neg e, if_pos rfl]
theorem at_step (C : List Int) (x : Int) (hC : ∀ j, 0 ≤ ptAt C j ∧ ptAt C j < 1152921504606845789) : ∀ k, k ≤ C.length → atTo (cmTo C C.length) x k = powM 4 (vaTo C x k) 2305843009213691579
  | 0, _ => by rw [atTo, vaTo]; kernel_rfl
  | k + 1, h => by
    have hb := vaTo_bd C x k
    have hp := pwQ_bd x k
    have hc := hC k
    have hm := emod_self_lt (ptAt C k * pwQ x k) 1152921504606845789 (by decide)
    rw [atTo, at_step C x hC k (by omega), cmTo_at' C _ k (by omega), powPowQ mem_four hc.1 hc.2 hp.1 hp.2, powAddQ mem_four hb.1 hb.2 hm.1 hm.2, vaTo, add_res]
/-- P7.1: commitments at x are the power with the value at x. -/
theorem at_law (C : List Int) (x : Int) (hC : ∀ j, 0 ≤ ptAt C j ∧ ptAt C j < 1152921504606845789) : atZ (cmTo C C.length) x = powM 4 (valZ C x) 2305843009213691579 := by
  rw [atZ_eq, cmTo_len, at_step C x hC _ (Nat.le_refl _), ← vaZ_eq, va_val]
end Go.Proofs.YtalclldccnichaaGreat

namespace Go.Proofs.YtalclldccnichaaGreat
open Go.RowKit

set_option maxRecDepth 100000 in
set_option maxHeartbeats 1000000 in
theorem rat_any (sv : Value) (cs : List Int) (x : Int) (w : World) (hI : PtsAt w.heap.size w sv cs) (hlen : cs.length ≤ 1000000) :
    Calls Tryz.prog 26 #[sv, .int .i64 x] w fun e w' => e = .returned (.int .i64 (atTo cs x cs.length)) ∧ w = w' := by
  obtain ⟨a1, c1, rfl⟩ := hI.slice
  have HI := Lib.hid hI
  clear hI
  go_enter Tryz.func26, Tryz.ntmps26
  go_wp2_with fail
  go_loop [5, 6, 7] (fun vo vp vi => ∃ k : Nat, k ≤ cs.length ∧ vi = .int .i64 k ∧ vo = .int .i64 (atTo cs x k) ∧ vp = .int .i64 (pwQ x k)) (fun _ _ vi => cs.length - (intOf vi).toNat)
  case atStart => exact ⟨0, Nat.zero_le _, rfl, rfl, rfl⟩
  case round =>
    obtain ⟨k, hk, rfl, rfl, rfl⟩ := hrel
    by_cases hlt : k < cs.length
    · obtain ⟨b, off, rfl, hb, hl0, hc1, hc2, hcell⟩ := HI.out.cellAt hlt
      obtain ⟨p0, p1⟩ := pwQ_bd x k
      have HN := Lib.hid (show atTo cs x (k + 1) = atTo cs x k * powM (ptAt cs k) (pwQ x k) 2305843009213691579 % 2305843009213691579 from rfl)
      have HP := Lib.hid (show pwQ x (k + 1) = pwQ x k * x % 1152921504606845789 from rfl)
      generalize atTo cs x k = v at *
      generalize ptAt cs k = c at *
      generalize pwQ x k = p at *
      have HPW := Lib.hid (rpow_any c p 2305843009213691579 w (by decide) (by decide) p0 (by omega))
      generalize powM c p 2305843009213691579 = z at *
      have i1 : (k : Int) < cs.length := by omega
      have i2 : 0 ≤ (k : Int) := by omega
      clear hl0 hk
      go_wp2_with fail
      refine HPW.out.mono ?_
      rintro e w' ⟨rfl, rfl⟩
      go_wp2_with fail
      refine (rmul_any v z 2305843009213691579 _ (by decide) (by decide)).mono ?_
      rintro e w' ⟨rfl, rfl⟩
      go_wp2_with fail
      refine (rmul_any p x 1152921504606845789 _ (by decide) (by decide)).mono ?_
      rintro e w' ⟨rfl, rfl⟩
      go_wp2
      go_round
      case rel => exact ⟨k + 1, by omega, by go_num, by rw [HN.out], by rw [HP.out]⟩
      case measure => simp [intOf]; omega
    · obtain rfl : k = cs.length := by omega
      have i1 : ¬ (cs.length : Int) < cs.length := by omega
      go_wp2
      go_ret
      exact ⟨rfl, rfl⟩
end Go.Proofs.YtalclldccnichaaGreat
