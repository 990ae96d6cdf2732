/-
  Interpolation, as the program and the reference compute it.
-/
import Derived.Test.YtalclldccnichaaGreatPower
import Derived.Test.YtalclldccnichaaGreatLaws8
namespace Go.Proofs.YtalclldccnichaaGreat

def ivQ (d : Int) : Int := invM (d % gQ) gQ
theorem prodF_snoc (iv : Int → Int) (a : List Int) (y x : Int) : prodF iv (a ++ [y]) x = if y = x then prodF iv a x else prodF iv a x * (y * iv (y - x)) := by
  induction a with
  | nil => simp only [List.nil_append, prodF]; split <;> grind
  | cons z t ih => simp only [List.cons_append, prodF, ih]; split <;> split <;> grind
theorem lsum_snoc (iv : Int → Int) (al : List Int) (f : Int → Int) (a : List Int) (x : Int) : lsum iv al f (a ++ [x]) = lsum iv al f a + prodF iv al x * f x := by
  induction a with
  | nil => simp [lsum]
  | cons z t ih => simp only [List.cons_append, lsum, ih]; omega
theorem take_snocI (l : List Int) (k : Nat) (h : k < l.length) : l.take (k + 1) = l.take k ++ [ptAt l k] := by
  rw [List.take_succ_eq_append_getElem h]
  simp [ptAt, List.getD, h]
theorem fac_prod (l : List Int) (h : Points l) (i : Nat) (hi : i < l.length) : ∀ n, n ≤ l.length → Cong gQ (facTo l i n) (prodF ivQ (l.take n) (ptAt l i)) := by
  intro n
  induction n with
  | zero => intro _; exact Cong.of_eq (by simp [facTo, prodF])
  | succ n ih =>
    intro hn
    have h1 := ih (by omega)
    rw [facTo, take_snocI l n (by omega), prodF_snoc]
    by_cases e : n = i
    · subst e
      rw [if_pos rfl, if_pos rfl]; exact h1
    · rw [if_neg e, if_neg (h.ne n i (by omega) hi e)]
      exact (Cong.mod _ _).trans (h1.mul (Cong.mod _ _))
theorem apart_of (l : List Int) (h : Points l) : Apart gQ ivQ l := by
  refine ⟨?_, fun x hx y hy e => ?_⟩
  · rw [List.nodup_iff_pairwise_ne, List.pairwise_iff_getElem]
    intro i j hi hj hij
    have := h.ne i j hi hj (by omega)
    simpa [ptAt, List.getD, hi, hj] using this
  · obtain ⟨i, hi, rfl⟩ := List.mem_iff_getElem.1 hx
    obtain ⟨j, hj, rfl⟩ := List.mem_iff_getElem.1 hy
    have ei : ptAt l i = l[i] := by simp [ptAt, List.getD, hi]
    have ej : ptAt l j = l[j] := by simp [ptAt, List.getD, hj]
    have b1 := h.bd i hi
    have b2 := h.bd j hj
    rw [ei] at b1
    rw [ej] at b2
    have hg : Int.gcd ((l[j] - l[i]) % gQ) gQ = 1 := by
      rw [emod_gcd]
      refine gcd_Q _ (fun h0 => e ?_)
      have : Cong gQ l[j] l[i] := by
        obtain ⟨c, hc⟩ := Int.dvd_of_emod_eq_zero h0
        exact ⟨c, hc⟩
      exact (this.eq (by omega) b2.2 (by omega) b1.2).symm
    have hs := inv_spec ((l[j] - l[i]) % gQ) gQ (by decide) (by decide) hg
    unfold ivQ
    exact ((Cong.mod gQ (l[j] - l[i])).symm.mul (Cong.refl _ _)).trans (Cong.of_emod (by rw [hs]; rfl))
theorem comb_lsum (zs ns : List Int) (f : Int → Int) (h : Points zs) (hv : ∀ j, j < zs.length → Cong gQ (ptAt ns j) (f (ptAt zs j))) : ∀ k, k ≤ zs.length → Cong gQ (combRTo zs ns k) (lsum ivQ zs f (zs.take k)) := by
  intro k
  induction k with
  | zero => intro _; exact Cong.of_eq (by simp [combRTo, lsum])
  | succ k ih =>
    intro hk
    rw [combRTo, take_snocI zs k (by omega), lsum_snoc]
    have h1 := fac_prod zs h k (by omega) zs.length (Nat.le_refl _)
    rw [List.take_length] at h1
    exact (Cong.mod _ _).trans ((ih (by omega)).add ((Cong.mod _ _).trans (Cong.mul h1 (hv k (by omega)))))
theorem comb_interp (zs ns cs : List Int) (h : diffB zs = true) (hl : cs.length ≤ zs.length) (hv : ∀ j, j < zs.length → Cong gQ (ptAt ns j) (ev cs (ptAt zs j))) : Cong gQ (combRTo zs ns zs.length) (ptAt cs 0) := by
  have hP := points_of_diff h
  have h1 := comb_lsum zs ns (ev cs) hP hv zs.length (Nat.le_refl _)
  rw [List.take_length] at h1
  exact h1.trans (interp gQ ivQ cs zs hl (apart_of zs hP))
theorem combRTo_bd (zs ns : List Int) : ∀ k, 0 ≤ combRTo zs ns k ∧ combRTo zs ns k < gQ
  | 0 => ⟨by simp [combRTo], by simp [combRTo]; decide⟩
  | k + 1 => by rw [combRTo]; exact emod_self_lt _ _ (by decide)
/-- Horner's rule, as the reference computes values. -/
def valZ : List Int → Int → Int
  | [], _ => 0
  | c :: cs, x => (valZ cs x * x % 1152921504606845789 + c) % 1152921504606845789
theorem valZ_cong : ∀ (cs : List Int) (x : Int), Cong gQ (valZ cs x) (ev cs x)
  | [], _ => Cong.refl _ _
  | c :: cs, x => by
    rw [valZ, ev]
    have := valZ_cong cs x
    exact (Cong.mod _ _).trans ((((Cong.mod _ _).trans (this.mul (Cong.refl _ x))).add (Cong.refl _ c)).trans (Cong.of_eq (by grind)))
theorem valZ_bd (cs : List Int) (x : Int) : 0 ≤ valZ cs x ∧ valZ cs x < gQ := by
  cases cs with
  | nil => exact ⟨by simp [valZ], by simp [valZ]; decide⟩
  | cons c cs => rw [valZ]; exact emod_self_lt _ _ (by decide)
theorem comb_first (zs ns cs : List Int) (h : diffB zs = true) (hl : cs.length ≤ zs.length) (hc : 0 ≤ ptAt cs 0 ∧ ptAt cs 0 < gQ) (hv : ∀ j, j < zs.length → ptAt ns j = valZ cs (ptAt zs j)) : combRTo zs ns zs.length = ptAt cs 0 := by
  have hb := combRTo_bd zs ns zs.length
  exact (comb_interp zs ns cs h hl (fun j hj => by rw [hv j hj]; exact valZ_cong _ _)).eq hb.1 hb.2 hc.1 hc.2
/-- Powers of a member. -/
theorem lift_law (zs ns ys : List Int) (base : Int) (hb : memB base = true) (hn : ∀ j, j < zs.length → ptAt ns j = powM base (ptAt ys j) gP ∧ 0 ≤ ptAt ys j ∧ ptAt ys j < gQ) : ∀ k, k ≤ zs.length → liftRTo zs ns k = powM base (combRTo zs ys k) gP := by
  have hG := ((memB_iff base).1 hb).2.2
  have hq : gQ = 1152921504606845789 := rfl
  intro k
  induction k with
  | zero =>
    intro _
    rw [powM_eq base _ gP (by decide) (by simp [combRTo]) (by simp [combRTo])]
    simp [combRTo, liftRTo]; decide
  | succ k ih =>
    intro hk
    obtain ⟨e, y0, y1⟩ := hn k (by omega)
    have hc := combRTo_bd zs ys k
    have hc2 := combRTo_bd zs ys (k + 1)
    have hf := facTo_bd zs k zs.length
    have hfR : facR zs k = facTo zs k zs.length := rfl
    rw [hq] at hc hc2 hf y1
    have t64 : (1152921504606845789 : Int) < 2 ^ 64 := by decide
    rw [liftRTo, ih (by omega), e]
    have h1 : Cong gP (powM base (combRTo zs ys k) gP) (base ^ (combRTo zs ys k).toNat) := powM_cong _ _ _ hc.1 (by omega)
    have h2 : Cong gP (powM (powM base (ptAt ys k) gP) (facR zs k) 2305843009213691579) (base ^ ((ptAt ys k).toNat * (facR zs k).toNat)) := by
      refine (powM_cong _ _ _ (by omega) (by omega)).trans ?_
      rw [Int.pow_mul]
      exact cong_pow (powM_cong _ _ _ y0 (by omega)) _
    have h3 : Cong gP (powM base (combRTo zs ys (k + 1)) gP) (base ^ (combRTo zs ys (k + 1)).toNat) := powM_cong _ _ _ hc2.1 (by omega)
    have h4 : (combRTo zs ys (k + 1)).toNat = ((combRTo zs ys k).toNat + (ptAt ys k).toNat * (facR zs k).toNat) % 1152921504606845789 := by
      obtain ⟨a, ha⟩ := Int.eq_ofNat_of_zero_le hc.1
      obtain ⟨b, hb⟩ := Int.eq_ofNat_of_zero_le y0
      obtain ⟨c, hc'⟩ := Int.eq_ofNat_of_zero_le (show 0 ≤ facR zs k by omega)
      rw [combRTo, ha, hb, hc']
      simp only [Int.toNat_natCast]
      have : ((a : Int) + (c : Int) * (b : Int) % 1152921504606845789) % 1152921504606845789 = (((a + b * c) % 1152921504606845789 : Nat) : Int) := by
        rw [Int.natCast_emod, Int.natCast_add, Int.natCast_mul, Int.mul_comm (c : Int), add_res]; rfl
      rw [this, Int.toNat_natCast]
    have h5 : Cong gP (powM base (combRTo zs ys k) gP * powM (powM base (ptAt ys k) gP) (facR zs k) 2305843009213691579 % 2305843009213691579) (powM base (combRTo zs ys (k + 1)) gP) := by
      refine (Cong.mod gP _).trans ((h1.mul h2).trans (Cong.trans ?_ h3.symm))
      rw [h4, ← Int.pow_add]
      exact hG.exp _
    have b1 := emod_self_lt (powM base (combRTo zs ys k) gP * powM (powM base (ptAt ys k) gP) (facR zs k) 2305843009213691579) gP (by decide)
    have b2 := powM_bd base (combRTo zs ys (k + 1)) gP (by decide)
    exact h5.eq b1.1 b1.2 b2.1 b2.2
end Go.Proofs.YtalclldccnichaaGreat
