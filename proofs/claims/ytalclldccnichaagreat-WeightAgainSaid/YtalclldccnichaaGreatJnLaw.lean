/-
  Plain: what Join and Lift return of shares of a polynomial, whatever else comes.
-/
import Derived.Test.YtalclldccnichaaGreatInterp
import Derived.Test.YtalclldccnichaaGreatRef08
namespace Go.Proofs.YtalclldccnichaaGreat
open Go.RowKit

/-- One share more. -/
def cntS (per : Int → Bool) (p : List Int × List Int) (s : Int × Int) : List Int × List Int := if inTo p.1 p.1.length s.1 || !ptB s.1 || !per s.2 then p else (p.1 ++ [s.1], p.2 ++ [s.2])
def cntA (per : Int → Bool) (l : List (Int × Int)) : List Int × List Int := cntTo per l l.length
theorem cntTo_succ (per : Int → Bool) (l : List (Int × Int)) (k : Nat) : cntTo per l (k + 1) = cntS per (cntTo per l k) (shAt l k) := rfl
theorem cntTo_left (per : Int → Bool) (l t : List (Int × Int)) : ∀ k, k ≤ l.length → cntTo per (l ++ t) k = cntTo per l k
  | 0, _ => rfl
  | k + 1, h => by
    rw [cntTo_succ, cntTo_succ, cntTo_left per l t k (by omega)]
    unfold shAt
    simp [List.getD, List.getElem?_append_left (show k < l.length by omega)]
theorem cntA_one (per : Int → Bool) (l : List (Int × Int)) (x : Int × Int) : cntA per (l ++ [x]) = cntS per (cntA per l) x := by
  unfold cntA
  rw [List.length_append, List.length_singleton, cntTo_succ, cntTo_left per _ [x] _ (Nat.le_refl _)]
  unfold shAt
  simp [List.getD]
theorem cntA_fold (per : Int → Bool) : ∀ (t l : List (Int × Int)), cntA per (l ++ t) = t.foldl (cntS per) (cntA per l)
  | [], l => by simp
  | x :: t, l => by
    rw [show l ++ x :: t = (l ++ [x]) ++ t by simp, cntA_fold per t (l ++ [x]), cntA_one]; rfl
theorem cntS_no (per : Int → Bool) (p : List Int × List Int) (x y : Int) (h : ptB x = false ∨ per y = false) : cntS per p (x, y) = p := by
  unfold cntS
  rcases h with h | h
  · dsimp only; rw [h]; simp
  · dsimp only; rw [h]; simp
theorem cntS_yes (per : Int → Bool) (p : List Int × List Int) (x y : Int) (h1 : ptB x = true) (h2 : per y = true) (h3 : inTo p.1 p.1.length x = false) : cntS per p (x, y) = (p.1 ++ [x], p.2 ++ [y]) := by
  unfold cntS
  dsimp only
  rw [h1, h2, h3]; rfl
theorem diff_at {F : List Int} (h : diffB F = true) {i : Nat} (hi : i < F.length) : ptB (ptAt F i) = true ∧ inTo F i (ptAt F i) = false := by
  have h1 := diffTo_mono F (j := i + 1) (k := F.length) hi h
  rw [diffTo] at h1
  simp only [Bool.and_eq_true, Bool.not_eq_true'] at h1
  grind
theorem cntS_next (per : Int → Bool) (F N : List Int) (y : Int) (hF : diffB F = true) {i : Nat} (hi : i < F.length) (hy : per y = true) : cntS per (F.take i, N) (ptAt F i, y) = (F.take (i + 1), N ++ [y]) := by
  obtain ⟨h1, h2⟩ := diff_at hF hi
  have hl : (F.take i).length = i := by rw [List.length_take]; omega
  rw [cntS_yes per _ _ _ h1 hy (by dsimp only; rw [hl, inTo_take F i i _ (Nat.le_refl _)]; exact h2)]
  dsimp only
  rw [take_snocI F i hi]
theorem insB_val (C : List Int) (x : Int) : insB (valZ C x) = true := by
  have := valZ_bd C x
  have h : gQ = 1152921504606845789 := rfl
  unfold insB
  rw [decide_eq_true this.1, decide_eq_true (show valZ C x ≤ 1152921504606845788 by omega)]; rfl
/-- The shares of WeightJoins. -/
def jnAt (F C : List Int) (o : List (Int × Int)) (i : Nat) : List (Int × Int) :=
  (if i < o.length ∧ i < 4 then [(0, (shAt o i).1), (ptAt F i, -1 - (shAt o i).2 % 1000), (1152921504606845789, 1)] else []) ++ [(ptAt F i, valZ C (ptAt F i))]
def jnTo (F C : List Int) (o : List (Int × Int)) : Nat → List (Int × Int)
  | 0 => []
  | i + 1 => jnTo F C o i ++ jnAt F C o i
theorem jn_noise (p : List Int × List Int) (F : List Int) (o : List (Int × Int)) (i : Nat) : (if i < o.length ∧ i < 4 then [(0, (shAt o i).1), (ptAt F i, -1 - (shAt o i).2 % 1000), (1152921504606845789, 1)] else []).foldl (cntS insB) p = p := by
  split
  · have hm := Int.emod_nonneg (shAt o i).2 (show (1000 : Int) ≠ 0 by decide)
    simp only [List.foldl_cons, List.foldl_nil]
    rw [cntS_no insB p _ _ (.inl (by decide)), cntS_no insB p _ _ (.inr (by unfold insB; rw [decide_eq_false (by omega)]; rfl)), cntS_no insB p _ _ (.inl (by decide))]
  · rfl
theorem jn_cnt (F C : List Int) (o : List (Int × Int)) (hF : diffB F = true) : ∀ i, i ≤ F.length → cntA insB (jnTo F C o i) = (F.take i, (F.take i).map (valZ C))
  | 0, _ => by simp [jnTo, cntA, cntTo]
  | i + 1, h => by
    have ih := jn_cnt F C o hF i (by omega)
    rw [jnTo, jnAt, cntA_fold, List.foldl_append, ih, jn_noise]
    simp only [List.foldl_cons, List.foldl_nil]
    rw [cntS_next insB F _ _ hF (show i < F.length by omega) (insB_val C _), take_snocI F i (by omega), List.map_append]
    rfl
/-- Without the last share there are too few. -/
theorem jn_few (F C : List Int) (o : List (Int × Int)) (hF : diffB F = true) (n : Nat) (hn : F.length = n) (h1 : 1 ≤ n) : enB insB n ((jnTo F C o n).take ((jnTo F C o n).length - 1)) = false := by
  obtain ⟨i, rfl⟩ : ∃ i, n = i + 1 := ⟨n - 1, by omega⟩
  have e : (jnTo F C o (i + 1)).take ((jnTo F C o (i + 1)).length - 1) = jnTo F C o i ++ (if i < o.length ∧ i < 4 then [(0, (shAt o i).1), (ptAt F i, -1 - (shAt o i).2 % 1000), (1152921504606845789, 1)] else []) := by
    rw [jnTo, jnAt, ← List.append_assoc, List.length_append, List.length_singleton, Nat.add_sub_cancel, List.take_left']
    rfl
  have h2 : cntA insB ((jnTo F C o (i + 1)).take ((jnTo F C o (i + 1)).length - 1)) = (F.take i, (F.take i).map (valZ C)) := by
    rw [e, cntA_fold, jn_noise, jn_cnt F C o hF i (by omega)]
  unfold enB cntP
  unfold cntA at h2
  rw [h2]
  dsimp only
  rw [List.length_take, decide_eq_false (show ¬ ((i + 1 : Nat) : Int) ≤ ((min i F.length : Nat) : Int) by omega), Bool.and_false]
theorem cnt_more (per : Int → Bool) (l t : List (Int × Int)) (n : Nat) (F N : List Int) (hF : F.length = n) (hN : N.length = n) (h : cntA per l = (F, N)) : ((cntP per (l ++ t)).take n = F ∧ (cntN per (l ++ t)).take n = N) ∧ n ≤ (cntP per (l ++ t)).length := by
  have h1 : cntTo per (l ++ t) l.length = (F, N) := by rw [cntTo_left per l t _ (Nat.le_refl _)]; exact h
  have h2 := cntTo_pre per (l ++ t) l.length (l ++ t).length (by rw [List.length_append]; omega)
  rw [h1] at h2
  dsimp only at h2
  rw [hF] at h2
  unfold cntP cntN
  refine ⟨⟨h2.1.symm, h2.2.symm⟩, ?_⟩
  have h3 := congrArg List.length h2.1
  rw [List.length_take, hF] at h3
  omega
theorem jn_join (F C : List Int) (o t : List (Int × Int)) (hF : diffB F = true) (n : Nat) (hn : F.length = n) (h1 : 1 ≤ n) (hC : C.length = n) (hC0 : 0 ≤ ptAt C 0 ∧ ptAt C 0 < 1152921504606845789) :
    enB insB n (jnTo F C o n ++ t) = true ∧ joinZ n (jnTo F C o n ++ t) = ptAt C 0 := by
  have hc := jn_cnt F C o hF n (by omega)
  rw [← hn, List.take_length] at hc
  obtain ⟨⟨hp, hN⟩, hlen⟩ := cnt_more insB (jnTo F C o F.length) t F.length F (F.map (valZ C)) rfl (List.length_map _) hc
  rw [hn] at hp hN hlen
  have he : enB insB n (jnTo F C o n ++ t) = true := by
    unfold enB
    rw [decide_eq_true (show (1 : Int) ≤ n by omega), decide_eq_true (show (n : Int) ≤ ((cntP insB (jnTo F C o n ++ t)).length : Nat) by omega)]; rfl
  refine ⟨he, ?_⟩
  unfold joinZ
  rw [if_pos he, Int.toNat_natCast, hp, hN, comb_eq F _ hF]
  refine comb_first F _ C hF (by omega) hC0 (fun j hj => ?_)
  unfold ptAt
  simp [List.getD, hj]
theorem inTo_not (F : List Int) (z : Int) : ∀ k, (∀ j, j < k → ptAt F j ≠ z) → inTo F k z = false
  | 0, _ => rfl
  | k + 1, h => by
    rw [inTo, inTo_not F z k (fun j hj => h j (by omega)), Bool.or_false]
    exact beq_eq_false_iff_ne.2 (fun e => h k (by omega) e.symm)
theorem diff_nodup (F : List Int) (hn : F.Nodup) (hp : ∀ x ∈ F, ptB x = true) : ∀ k, k ≤ F.length → diffTo F k = true
  | 0, _ => rfl
  | k + 1, h => by
    rw [diffTo, diff_nodup F hn hp k (by omega)]
    have hk : ptAt F k ∈ F := by unfold ptAt; simp [List.getD, show k < F.length by omega]
    rw [hp _ hk, inTo_not F _ k (fun j hj e => ?_)]
    · rfl
    · unfold ptAt at e
      simp only [List.getD, show k < F.length by omega, show j < F.length by omega, List.getElem?_eq_getElem, Option.getD_some] at e
      exact (List.pairwise_iff_getElem.1 hn) j k (by omega) (by omega) hj e
theorem upI_mem (s : Int) : ∀ (n : Nat) (x : Int), x ∈ upI s n → s + 1 ≤ x ∧ x ≤ s + n
  | 0, x, h => by simp [upI] at h
  | n + 1, x, h => by
    rw [upI, List.mem_append, List.mem_singleton] at h
    rcases h with h | h
    · have := upI_mem s n x h; omega
    · omega
theorem upI_nodup (s : Int) : ∀ n : Nat, (upI s n).Nodup
  | 0 => by simp [upI]
  | n + 1 => by
    rw [upI, List.nodup_append]
    refine ⟨upI_nodup s n, by simp, fun x hx y hy => ?_⟩
    have := upI_mem s n x hx
    rw [List.mem_singleton] at hy
    omega
theorem choZ_len (zs : List Int) (n nd : Nat) (h : nd ≤ n) : (choZ zs n nd).length = nd := (choTo_len zs (upI 0 n) nd (by rw [upI_len]; exact h)).1
theorem choZ_mem (zs : List Int) (n nd : Nat) (h : nd ≤ n) (x : Int) (hx : x ∈ choZ zs n nd) : 1 ≤ x ∧ x ≤ n := by
  have hp := choTo_perm zs (upI 0 n) nd (by rw [upI_len]; exact h)
  have := upI_mem 0 n x (hp.subset (List.mem_append_left _ hx))
  omega
theorem choZ_diff (zs : List Int) (n nd : Nat) (h : nd ≤ n) (hn : n ≤ 60) : diffB (choZ zs n nd) = true := by
  have hp := choTo_perm zs (upI 0 n) nd (by rw [upI_len]; exact h)
  have hnd := (List.nodup_append.1 (hp.nodup_iff.2 (upI_nodup 0 n))).1
  refine diff_nodup _ hnd (fun x hx => ?_) _ (Nat.le_refl _)
  have := choZ_mem zs n nd h x hx
  unfold ptB
  rw [decide_eq_true this.1, decide_eq_true (show x ≤ 1152921504606845788 by omega)]; rfl
/-- The shares of WeightLifts. -/
def lfAt (F C : List Int) (base : Int) (i : Nat) : List (Int × Int) := [(ptAt F i, 0), (ptAt F i, 2305843009213691578), (ptAt F i, powM base (valZ C (ptAt F i)) 2305843009213691579)]
def lfTo (F C : List Int) (base : Int) : Nat → List (Int × Int)
  | 0 => []
  | i + 1 => lfTo F C base i ++ lfAt F C base i
theorem mem_zero : memB 0 = false := memB_low (by decide)
theorem mem_last : memB 2305843009213691578 = false := by kernel_rfl
theorem lf_cnt (F C : List Int) (base : Int) (hF : diffB F = true) (hb : memB base = true) : ∀ i, i ≤ F.length → cntA memB (lfTo F C base i) = (F.take i, (F.take i).map (fun x => powM base (valZ C x) 2305843009213691579))
  | 0, _ => by simp [lfTo, cntA, cntTo]
  | i + 1, h => by
    have ih := lf_cnt F C base hF hb i (by omega)
    have hv := valZ_bd C (ptAt F i)
    have hq : gQ = 1152921504606845789 := rfl
    rw [lfTo, lfAt, cntA_fold, ih]
    simp only [List.foldl_cons, List.foldl_nil]
    rw [cntS_no memB _ _ _ (.inr mem_zero), cntS_no memB _ _ _ (.inr mem_last), cntS_next memB F _ _ hF (show i < F.length by omega) (show memB (powM base (valZ C (ptAt F i)) 2305843009213691579) = true from mem_pow hb hv.1 (by omega)), take_snocI F i (by omega), List.map_append]
    rfl
theorem lf_more (F C : List Int) (base : Int) (hF : diffB F = true) (hb : memB base = true) (n : Nat) (hn : F.length = n) : enB memB ((n : Int) + 1) (lfTo F C base n) = false := by
  have hc := lf_cnt F C base hF hb n (by omega)
  unfold enB cntP
  unfold cntA at hc
  rw [hc]
  dsimp only
  rw [List.length_take, decide_eq_false (show ¬ (n : Int) + 1 ≤ ((min n F.length : Nat) : Int) by omega), Bool.and_false]
theorem lf_lift (F C : List Int) (base : Int) (hF : diffB F = true) (hb : memB base = true) (n : Nat) (hn : F.length = n) (h1 : 1 ≤ n) (hC : C.length = n) (hC0 : 0 ≤ ptAt C 0 ∧ ptAt C 0 < 1152921504606845789) :
    enB memB n (lfTo F C base n) = true ∧ liftedZ n (lfTo F C base n) = powM base (ptAt C 0) 2305843009213691579 := by
  have hc := lf_cnt F C base hF hb n (by omega)
  rw [← hn, List.take_length] at hc
  obtain ⟨⟨hp, hN⟩, hlen⟩ := cnt_more memB (lfTo F C base F.length) [] F.length F _ rfl (List.length_map _) hc
  rw [hn, List.append_nil] at hp hN hlen
  have he : enB memB n (lfTo F C base n) = true := by
    unfold enB
    rw [decide_eq_true (show (1 : Int) ≤ n by omega), decide_eq_true (show (n : Int) ≤ ((cntP memB (lfTo F C base n)).length : Nat) by omega)]; rfl
  refine ⟨he, ?_⟩
  rw [lifted_eq n _ he, Int.toNat_natCast, hp, hN]
  have hl := lift_law F (F.map (fun x => powM base (valZ C x) 2305843009213691579)) (F.map (valZ C)) base hb (fun j hj => by
    have hv := valZ_bd C (ptAt F j)
    have e1 : ptAt (F.map (valZ C)) j = valZ C (ptAt F j) := by unfold ptAt; simp [List.getD, hj]
    have e2 : ptAt (F.map (fun x => powM base (valZ C x) 2305843009213691579)) j = powM base (valZ C (ptAt F j)) 2305843009213691579 := by unfold ptAt; simp [List.getD, hj]
    rw [e1, e2]
    exact ⟨rfl, hv.1, hv.2⟩) n (by omega)
  rw [hl]
  have := comb_first F (F.map (valZ C)) C hF (by omega) hC0 (fun j hj => by unfold ptAt; simp [List.getD, hj])
  rw [hn] at this
  rw [this]
  rfl
end Go.Proofs.YtalclldccnichaaGreat
