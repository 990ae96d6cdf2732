/-
  Plain laws: what the program's Join, Lift and Share compute is what the reference computes.
-/
import Derived.Test.YtalclldccnichaaGreatRefShare
namespace Go.Proofs.YtalclldccnichaaGreat

theorem inTo_spec (zs : List Int) : ∀ (k : Nat) (z : Int), inTo zs k z = false → ∀ j, j < k → ptAt zs j ≠ z := by
  intro k
  induction k with
  | zero => intro z _ j hj; omega
  | succ k ih =>
    intro z h j hj
    rw [inTo, Bool.or_eq_false_iff] at h
    by_cases e : j = k
    · subst e; intro h2; have := h.1; rw [h2] at this; simp at this
    · exact ih z h.2 j (by omega)
theorem ptB_spec {x : Int} (h : ptB x = true) : 1 ≤ x ∧ x < gQ := by
  unfold ptB at h
  simp only [Bool.and_eq_true, decide_eq_true_eq] at h
  have := h.2
  exact ⟨h.1, by unfold gQ; omega⟩
theorem diffTo_spec (zs : List Int) : ∀ k, diffTo zs k = true → (∀ j, j < k → ptB (ptAt zs j) = true) ∧ ∀ j i, j < k → i < j → ptAt zs i ≠ ptAt zs j := by
  intro k
  induction k with
  | zero => intro _; exact ⟨fun j hj => by omega, fun j i hj => by omega⟩
  | succ k ih =>
    intro h
    rw [diffTo] at h
    simp only [Bool.and_eq_true, Bool.not_eq_true'] at h
    obtain ⟨h1, h2, h3⟩ := h
    have h4 := ih h1
    refine ⟨fun j hj => ?_, fun j i hj hi => ?_⟩
    · by_cases e : j = k
      · subst e; exact h2
      · exact h4.1 j (by omega)
    · by_cases e : j = k
      · subst e; exact inTo_spec zs j _ h3 i hi
      · exact h4.2 j i (by omega) hi
theorem points_of_diff {zs : List Int} (h : diffB zs = true) : Points zs := by
  have h1 := diffTo_spec zs zs.length h
  refine ⟨fun j hj => ptB_spec (h1.1 j hj), fun j k hj hk hne => ?_⟩
  rcases Nat.lt_or_ge j k with h2 | h2
  · exact h1.2 k j hk h2
  · exact fun e => h1.2 j k hj (by omega) e.symm
/-- The points that count are different. -/
theorem diffTo_mono (zs : List Int) {k j : Nat} (hj : j ≤ k) (h : diffTo zs k = true) : diffTo zs j = true := by
  cases e : diffTo zs j
  · rw [diffTo_false zs k j hj e] at h; exact h
  · rfl
theorem ptAt_take (zs : List Int) (n j : Nat) (h : j < n) : ptAt (zs.take n) j = ptAt zs j := by
  unfold ptAt
  simp only [List.getD, List.getElem?_take_of_lt h]
theorem inTo_take (zs : List Int) (n : Nat) : ∀ k z, k ≤ n → inTo (zs.take n) k z = inTo zs k z := by
  intro k
  induction k with
  | zero => intro z _; rfl
  | succ k ih => intro z h; rw [inTo, inTo, ih z (by omega), ptAt_take zs n k (by omega)]
theorem diffTo_take (zs : List Int) (n : Nat) : ∀ k, k ≤ n → diffTo (zs.take n) k = diffTo zs k := by
  intro k
  induction k with
  | zero => intro _; rfl
  | succ k ih => intro h; rw [diffTo, diffTo, ih (by omega), ptAt_take zs n k (by omega), inTo_take zs n k _ (by omega)]
theorem diffTo_append (a : List Int) (x : Int) : ∀ k, k ≤ a.length → diffTo (a ++ [x]) k = diffTo a k := by
  intro k
  induction k with
  | zero => intro _; rfl
  | succ k ih => intro h; rw [diffTo, diffTo, ih (by omega), ptAt_append, if_pos (by omega), inTo_append a x _ k (by omega)]
theorem cnt_diff (per : Int → Bool) (l : List (Int × Int)) (k : Nat) : diffB (cntTo per l k).1 = true := by
  induction k with
  | zero => rfl
  | succ k ih =>
    rw [cntTo]
    split
    · exact ih
    · rename_i h
      simp only [Bool.or_eq_true, Bool.not_eq_true', not_or, Bool.not_eq_true, Bool.not_eq_false] at h
      unfold diffB at ih ⊢
      rw [List.length_append, List.length_singleton, diffTo, diffTo_append _ _ _ (Nat.le_refl _), ih, ptAt_append, if_neg (by omega), if_pos rfl, inTo_append _ _ _ _ (Nat.le_refl _), h.1.1, h.1.2]
      rfl
theorem take_diff (per : Int → Bool) (l : List (Int × Int)) (n : Nat) : diffB ((cntP per l).take n) = true := by
  have h := cnt_diff per l l.length
  unfold diffB at h ⊢
  have hl : ((cntP per l).take n).length ≤ n := by simp; omega
  rw [diffTo_take (cntP per l) n _ hl]
  exact diffTo_mono _ (by unfold cntP; simp; omega) h
theorem foldl_upF (g : Int → Nat → Int) (len : Nat) (s : Int) (r : Nat → Int) (h0 : r 0 = s) (hs : ∀ k, k < len → r (k + 1) = g (r k) k) : ∀ k, k ≤ len → (upF len k).foldl (fun s (i : Fin len) => g s i.1) s = r k := by
  intro k
  induction k with
  | zero => intro _; exact h0.symm
  | succ k ih => intro h; rw [upF_succ (by omega), List.foldl_append, ih (by omega), hs k (by omega)]; rfl
theorem comb_eq (zs ns : List Int) (h : diffB zs = true) : combZ zs ns = combRTo zs ns zs.length := by
  have hP := points_of_diff h
  unfold combZ
  have := foldl_upF (fun s i => (s + ptAt ns i * facP zs i) % 1152921504606845789) zs.length 0 (combRTo zs ns) rfl (fun k hk => by
    rw [combRTo, add_res, ← fac_eq zs hP k hk, Int.mul_comm]) zs.length (Nat.le_refl _)
  exact this
def liftRTo (zs ns : List Int) : Nat → Int
  | 0 => 1
  | k + 1 => liftRTo zs ns k * powM (ptAt ns k) (facR zs k) 2305843009213691579 % 2305843009213691579
theorem lift_eq (zs ns : List Int) (h : diffB zs = true) : liftZ zs ns = liftRTo zs ns zs.length := by
  have hP := points_of_diff h
  unfold liftZ
  have := foldl_upF (fun s i => s * powM (ptAt ns i) (facP zs i) 2305843009213691579 % 2305843009213691579) zs.length 1 (liftRTo zs ns) rfl (fun k hk => by
    rw [liftRTo, ← fac_eq zs hP k hk]) zs.length (Nat.le_refl _)
  exact this
theorem share_eq (zs ns : List Int) : shareZ zs ns = shareRZ zs ns := by
  unfold shareZ shareRZ
  split
  · rename_i h
    refine comb_eq zs ns ?_
    unfold shareB at h
    simp only [Bool.and_eq_true] at h
    exact h.2
  · rfl
theorem cnt_len (per : Int → Bool) (l : List (Int × Int)) : (cntN per l).length = (cntP per l).length := (cntTo_len per l l.length).1.symm
theorem take_share (per : Int → Bool) (need : Int) (l : List (Int × Int)) (h : enB per need l = true) : shareB ((cntP per l).take need.toNat) ((cntN per l).take need.toNat) = true := by
  unfold enB at h
  simp only [Bool.and_eq_true, decide_eq_true_eq] at h
  unfold shareB
  have h1 := cnt_len per l
  rw [take_diff, List.length_take, List.length_take, h1]
  have : min need.toNat (cntP per l).length ≠ 0 := by omega
  simp [this]
theorem join_eq (need : Int) (l : List (Int × Int)) (h : enB insB need l = true) : joinZ need l = shareRZ ((cntP insB l).take need.toNat) ((cntN insB l).take need.toNat) := by
  unfold joinZ
  rw [if_pos h, ← share_eq]
  unfold shareZ
  rw [if_pos (take_share insB need l h)]
theorem lifted_eq (need : Int) (l : List (Int × Int)) (h : enB memB need l = true) : liftedZ need l = liftRTo ((cntP memB l).take need.toNat) ((cntN memB l).take need.toNat) need.toNat := by
  unfold liftedZ
  rw [if_pos h, lift_eq _ _ (take_diff memB l _)]
  unfold enB at h
  simp only [Bool.and_eq_true, decide_eq_true_eq] at h
  congr 1
  rw [List.length_take]
  omega
end Go.Proofs.YtalclldccnichaaGreat
