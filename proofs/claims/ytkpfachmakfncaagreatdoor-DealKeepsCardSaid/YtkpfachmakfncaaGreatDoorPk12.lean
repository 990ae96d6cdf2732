/-
  The walk of counting.
  The walks of Join, Lift and Share.
  The reference's point, Factors and split.
  The reference's Counting and split.
  The reference's split and Share.
  Plain laws: what the program's Join, Lift and Share compute is what the reference computes.
  Interpolation, as the program and the reference compute it.
  The reference's Join and Lift.
-/
import Derived.Test.YtkpfachmakfncaaGreatDoorPk11
import Derived.Deep.DeepCutAuto
import Derived.BigQuiet
import Derived.Test.YtkpfachmakfncaaGreatDoorPk06
namespace Go.Proofs.YtkpfachmakfncaaGreatDoor
open Go.RowKit

/-- Shares in a slice. -/
def ShsAt (W : World) (sv : Value) (l : List (Int × Int)) : Prop :=
  (∃ a c, sv = .slice a 0 c ∧ l = []) ∨ ∃ b off cap, sv = .slice (some ⟨b, off, none⟩) l.length cap ∧ b < W.heap.size ∧ l.length ≤ cap ∧ cap ≤ 9223372036854775807 ∧
    ∀ j, j < l.length → W.cell? ⟨b, off + j * 2, none⟩ = some (.int .i64 (shAt l j).1) ∧ W.cell? ⟨b, off + j * 2 + 1, none⟩ = some (.int .i64 (shAt l j).2)

end Go.Proofs.YtkpfachmakfncaaGreatDoor

namespace Go.Proofs.YtkpfachmakfncaaGreatDoor
open Go.RowKit

def combZ (zs ns : List Int) : Int := (upF zs.length zs.length).foldl (stepC zs ns) 0
def liftZ (zs ns : List Int) : Int := (upF zs.length zs.length).foldl (stepL zs ns) 1
/-- The points and the numbers of the shares that count. -/
def cntP (per : Int → Bool) (l : List (Int × Int)) : List Int := (cntTo per l l.length).1
def cntN (per : Int → Bool) (l : List (Int × Int)) : List Int := (cntTo per l l.length).2
def enB (per : Int → Bool) (need : Int) (l : List (Int × Int)) : Bool := decide (1 ≤ need) && decide (need ≤ (cntP per l).length)
def joinZ (need : Int) (l : List (Int × Int)) : Int := if enB insB need l then combZ ((cntP insB l).take need.toNat) ((cntN insB l).take need.toNat) else 0
def liftedZ (need : Int) (l : List (Int × Int)) : Int := if enB memB need l then liftZ ((cntP memB l).take need.toNat) ((cntN memB l).take need.toNat) else 0
def shareB (zs ns : List Int) : Bool := (zs.length != 0) && (ns.length == zs.length) && diffB zs
def shareZ (zs ns : List Int) : Int := if shareB zs ns then combZ zs ns else 0

theorem only_of_below {a w : World} (h : Below a.heap.size a w) : Only (fun _ => False) a w := Only.ofBelow h _
theorem Tryz.ent45 (v : Value) (w : World) : (callFunc 41 #[v]).run Tryz.prog w = .ok (.enter 41 #[v]) w := by kernel_rfl
theorem ShsAt.slice {W : World} {sv : Value} {l : List (Int × Int)} (h : ShsAt W sv l) : ∃ a n c, sv = .slice a n c := by
  rcases h with ⟨a, c, rfl, _⟩ | ⟨b, off, cap, rfl, _⟩ <;> exact ⟨_, _, _, rfl⟩
theorem PtsAt.slice {n : Nat} {W : World} {sv : Value} {l : List Int} (h : PtsAt n W sv l) : ∃ a c, sv = .slice a l.length c := by
  rcases h with ⟨a, c, rfl, rfl⟩ | ⟨b, off, cap, rfl, _⟩ <;> exact ⟨_, _, rfl⟩

end Go.Proofs.YtkpfachmakfncaaGreatDoor

namespace Go.Proofs.YtkpfachmakfncaaGreatDoor
open Go.RowKit

def facsTo (zs : List Int) : Nat → List Int
  | 0 => []
  | k + 1 => facsTo zs k ++ [facR zs k]
def facs (zs : List Int) : List Int := facsTo zs zs.length
theorem facsTo_len (zs : List Int) (k : Nat) : (facsTo zs k).length = k := by
  induction k with
  | zero => rfl
  | succ k ih => rw [facsTo, List.length_append, ih]; rfl
theorem facsTo_at (zs : List Int) (k j : Nat) (h : j < k) : ptAt (facsTo zs k) j = facR zs j := by
  induction k with
  | zero => omega
  | succ k ih =>
    rw [facsTo, ptAt_append, facsTo_len]
    split
    · exact ih (by omega)
    · rw [if_pos (by omega), show j = k by omega]
theorem own_low {w : World} {base e size n : Nat} {v : Value} {xs : List Value} (h : w.ownsRow base e size v n xs) : ∀ k, v.ownBlock = some k → base ≤ k := fun _ hk => (own_lt h hk).2
theorem Only.grow {a w w' : World} (h : Only (fun _ => False) a w) {v : Value} {base e size n : Nat} {xs : List Value} (ho : w.ownsRow base e size v n xs) (hb : a.heap.size ≤ base) (hg : w.grownBy w' v.ownBlock) : Only (fun _ => False) a w' :=
  h.grown hg (fun k e hk => by have := (own_lt ho e).2; omega)

end Go.Proofs.YtkpfachmakfncaaGreatDoor

namespace Go.Proofs.YtkpfachmakfncaaGreatDoor
open Go.RowKit

theorem Tryz.infoS : (Tryz.prog.info? 48).map (fun i => (i.zero, i.size, i.bytes)) = some (some (.agg #[.int .i64 0, .int .i64 0]), 2, 16) := by kernel_rfl
def srow (l : List (Int × Int)) : List Value := l.flatMap (fun s => [.int .i64 s.1, .int .i64 s.2])
theorem srow_append (a b : List (Int × Int)) : srow (a ++ b) = srow a ++ srow b := by simp [srow]
theorem srow_length (l : List (Int × Int)) : (srow l).length = l.length * 2 := by
  induction l with
  | nil => rfl
  | cons s l ih => simp only [srow, List.flatMap_cons, List.length_append] at ih ⊢; rw [ih]; simp; omega
theorem srow_at (l : List (Int × Int)) : ∀ j, j < l.length → (srow l)[j * 2]? = some (.int .i64 (shAt l j).1) ∧ (srow l)[j * 2 + 1]? = some (.int .i64 (shAt l j).2) := by
  induction l with
  | nil => intro j h; simp at h
  | cons s l ih =>
    intro j h
    cases j with
    | zero => simp [srow, shAt]
    | succ j =>
      have := ih j (by simpa using h)
      have e1 : (j + 1) * 2 = j * 2 + 2 := by omega
      rw [e1]
      simpa [srow, shAt] using this
theorem shs_of_own {w : World} {base : Nat} {v : Value} {l : List (Int × Int)} (h : w.ownsRow base 48 2 v l.length (srow l)) (_hm : l.length ≤ 9223372036854775807) : ShsAt w v l := by
  cases l with
  | nil =>
    rcases h.2 with ⟨rfl, _⟩ | ⟨g, cap, cur, rfl, _⟩
    · exact .inl ⟨_, _, rfl, rfl⟩
    · exact .inl ⟨_, _, rfl, rfl⟩
  | cons z l =>
    rcases h.2 with ⟨_, h0⟩ | ⟨g, cap, cur, rfl, hb, hg, hcap, hcap2, hsz, htk⟩
    · simp at h0
    · refine .inr ⟨g, 0, cap, rfl, (Array.getElem?_eq_some_iff.1 hg).1, hcap, by unfold maxLen at hcap2; omega, fun j hj => ?_⟩
      have h1 := srow_at (z :: l) j hj
      have c1 := cell_of_row w g (j * 2) cur 48 (0, 0) hg
      have c2 := cell_of_row w g (j * 2 + 1) cur 48 (0, 0) hg
      rw [Nat.zero_add, c1, c2]
      rw [← htk, List.getElem?_take_of_lt (by omega), List.getElem?_take_of_lt (by omega)] at h1
      simpa using h1
theorem ShsAt.below {A B : World} (h : Only (fun _ => False) A B) {sv : Value} {l : List (Int × Int)} : ShsAt A sv l → ShsAt B sv l
  | .inl e => .inl e
  | .inr ⟨b, off, cap, e, hb, h1, h2, hc⟩ => .inr ⟨b, off, cap, e, Nat.lt_of_lt_of_le hb h.size, h1, h2, fun j hj => ⟨h.cell (hc j hj).1 (fun h => h), h.cell (hc j hj).2 (fun h => h)⟩⟩
theorem PtsAt.only {A B : World} (h : Only (fun _ => False) A B) {sv : Value} {zs : List Int} (hp : PtsAt A.heap.size A sv zs) : PtsAt B.heap.size B sv zs :=
  (hp.below (h.below (Nat.le_refl _) (fun _ _ h => h))).mono h.size

/-- The shares that count, among the first k. -/
def gdTo (per : Int → Bool) (l : List (Int × Int)) (k : Nat) : List (Int × Int) := (cntTo per l k).1.zip (cntTo per l k).2
theorem gdTo_len (per : Int → Bool) (l : List (Int × Int)) (k : Nat) : (gdTo per l k).length = (cntTo per l k).1.length := by
  unfold gdTo; rw [List.length_zip, ← (cntTo_len per l k).1, Nat.min_self]
theorem gdTo_fst (per : Int → Bool) (l : List (Int × Int)) (k : Nat) : (gdTo per l k).map Prod.fst = (cntTo per l k).1 := by
  unfold gdTo; rw [List.map_fst_zip (Nat.le_of_eq (cntTo_len per l k).1)]
theorem gdTo_snd (per : Int → Bool) (l : List (Int × Int)) (k : Nat) : (gdTo per l k).map Prod.snd = (cntTo per l k).2 := by
  unfold gdTo; rw [List.map_snd_zip (Nat.le_of_eq (cntTo_len per l k).1.symm)]
theorem gdTo_succ (per : Int → Bool) (l : List (Int × Int)) (k : Nat) : gdTo per l (k + 1) = if (ptB (shAt l k).1 && per (shAt l k).2) && !inTo (cntTo per l k).1 (cntTo per l k).1.length (shAt l k).1 then gdTo per l k ++ [shAt l k] else gdTo per l k := by
  unfold gdTo
  rw [cntTo]
  cases inTo (cntTo per l k).1 (cntTo per l k).1.length (shAt l k).1 <;> cases ptB (shAt l k).1 <;> cases per (shAt l k).2 <;> simp
  rw [List.zip_append (cntTo_len per l k).1]
  rfl
theorem ptAt_fst (g : List (Int × Int)) (j : Nat) : ptAt (g.map Prod.fst) j = (shAt g j).1 := by
  unfold ptAt shAt
  simp only [List.getD, List.getElem?_map]
  cases g[j]? <;> rfl
theorem ptAt_snd (g : List (Int × Int)) (j : Nat) : ptAt (g.map Prod.snd) j = (shAt g j).2 := by
  unfold ptAt shAt
  simp only [List.getD, List.getElem?_map]
  cases g[j]? <;> rfl
theorem and_not_or {f0 a b : Bool} (h : false = (f0 && !b)) : false = (f0 && !(a || b)) := by revert h; cases f0 <;> cases a <;> cases b <;> decide
def perOf (lifted : Bool) : Int → Bool := if lifted then memB else insB

end Go.Proofs.YtkpfachmakfncaaGreatDoor

namespace Go.Proofs.YtkpfachmakfncaaGreatDoor
open Go.RowKit

/-- Two lists that a call makes. -/
structure Duo (w wr : World) (base : Nat) (p q : Value) (pl ql : List Int) : Prop where
  pts : wr.ownsRow base 3 1 p pl.length (irow pl)
  num : wr.ownsRow base 3 1 q ql.length (irow ql)
  ne : ∀ k, p.ownBlock = some k → q.ownBlock ≠ some k
  only : Only (fun _ => False) w wr
  low : w.heap.size ≤ base
theorem Duo.frame {w wr w' : World} {base : Nat} {p q : Value} {pl ql : List Int} (h : Duo w wr base p q pl ql) (hO : Only (fun _ => False) wr w') : Duo w w' base p q pl ql :=
  ⟨hO.owns h.pts (fun _ _ h => h), hO.owns h.num (fun _ _ h => h), h.ne, h.only.trans hO, h.low⟩
theorem Duo.left {w wn w' : World} {base : Nat} {x : Int} {p q : Value} {pl ql : List Int} (h : Duo w wn base p q pl ql) {g cap : Nat}
    (hown : w'.ownsRow base 3 1 (.slice (some ⟨g, 0, none⟩) (pl.length + 1) cap) (pl.length + 1) (irow pl ++ [.int .i64 x])) (hg : wn.grownBy w' p.ownBlock) (hat : p.ownBlock = some g ∨ g = wn.heap.size) :
    Duo w w' base (.slice (some ⟨g, 0, none⟩) (pl.length + 1) cap) q (pl ++ [x]) ql := by
  have hO : Only (fun k => p.ownBlock = some k) wn w' := (Only.refl _ wn).grown hg (fun k e _ => e)
  have e : ∀ k, (Value.slice (some ⟨g, 0, none⟩) (pl.length + 1) cap).ownBlock = some k → k = g := fun k hk => by simpa [Value.ownBlock] using hk.symm
  refine ⟨by rw [List.length_append, List.length_singleton, irow_append]; exact hown, hO.owns h.num (fun k hq hp => h.ne k hp hq), ?_, ?_, h.low⟩
  · intro k hk hq
    obtain rfl := e k hk
    rcases hat with hat | hat
    · exact h.ne k hat hq
    · have := (own_lt h.num hq).1; omega
  · exact h.only.trans' hO (fun i hi hp => by have := (own_lt h.pts hp).2; have := h.low; omega)
theorem Duo.right {w wn w' : World} {base : Nat} {y : Int} {p q : Value} {pl ql : List Int} (h : Duo w wn base p q pl ql) {g cap : Nat}
    (hown : w'.ownsRow base 3 1 (.slice (some ⟨g, 0, none⟩) (ql.length + 1) cap) (ql.length + 1) (irow ql ++ [.int .i64 y])) (hg : wn.grownBy w' q.ownBlock) (hat : q.ownBlock = some g ∨ g = wn.heap.size) :
    Duo w w' base p (.slice (some ⟨g, 0, none⟩) (ql.length + 1) cap) pl (ql ++ [y]) := by
  have hO : Only (fun k => q.ownBlock = some k) wn w' := (Only.refl _ wn).grown hg (fun k e _ => e)
  have e : ∀ k, (Value.slice (some ⟨g, 0, none⟩) (ql.length + 1) cap).ownBlock = some k → k = g := fun k hk => by simpa [Value.ownBlock] using hk.symm
  refine ⟨hO.owns h.pts (fun k hp hq => h.ne k hp hq), by rw [List.length_append, List.length_singleton, irow_append]; exact hown, ?_, ?_, h.low⟩
  · intro k hk hq
    obtain rfl := e k hq
    rcases hat with hat | hat
    · exact h.ne k hk hat
    · have := (own_lt h.pts hk).1; omega
  · exact h.only.trans' hO (fun i hi hp => by have := (own_lt h.num hp).2; have := h.low; omega)
theorem take_snoc {α β : Type} (f : α → β) (l : List α) (d : α) (k : Nat) (h : k < l.length) : (l.take (k + 1)).map f = (l.take k).map f ++ [f (l.getD k d)] := by
  rw [List.take_add_one, List.map_append]
  congr 1
  simp [List.getD, h]

/-- What the reference's Share computes, of the first k. -/
def combRTo (zs ns : List Int) : Nat → Int
  | 0 => 0
  | k + 1 => (combRTo zs ns k + facR zs k * ptAt ns k % 1152921504606845789) % 1152921504606845789
def shareRZ (zs ns : List Int) : Int := if shareB zs ns then combRTo zs ns zs.length else 0

end Go.Proofs.YtkpfachmakfncaaGreatDoor

namespace Go.Proofs.YtkpfachmakfncaaGreatDoor

theorem inTo_spec (zs : List Int) : ∀ (k : Nat) (z : Int), inTo zs k z = false → ∀ j, j < k → ptAt zs j ≠ z := by
  intro k
  induction k with
  | zero => intro z _ j hj; omega
  | succ k ih =>
    intro z h j hj
    rw [inTo, Bool.or_eq_false_iff] at h
    by_cases e : j = k
    · subst e; intro h2; have := h.1; rw [h2] at this; simp at this
    · exact ih z h.2 j (by omega)
theorem ptB_spec {x : Int} (h : ptB x = true) : 1 ≤ x ∧ x < gQ := by
  unfold ptB at h
  simp only [Bool.and_eq_true, decide_eq_true_eq] at h
  have := h.2
  exact ⟨h.1, by unfold gQ; omega⟩
theorem diffTo_spec (zs : List Int) : ∀ k, diffTo zs k = true → (∀ j, j < k → ptB (ptAt zs j) = true) ∧ ∀ j i, j < k → i < j → ptAt zs i ≠ ptAt zs j := by
  intro k
  induction k with
  | zero => intro _; exact ⟨fun j hj => by omega, fun j i hj => by omega⟩
  | succ k ih =>
    intro h
    rw [diffTo] at h
    simp only [Bool.and_eq_true, Bool.not_eq_true'] at h
    obtain ⟨h1, h2, h3⟩ := h
    have h4 := ih h1
    refine ⟨fun j hj => ?_, fun j i hj hi => ?_⟩
    · by_cases e : j = k
      · subst e; exact h2
      · exact h4.1 j (by omega)
    · by_cases e : j = k
      · subst e; exact inTo_spec zs j _ h3 i hi
      · exact h4.2 j i (by omega) hi
theorem points_of_diff {zs : List Int} (h : diffB zs = true) : Points zs := by
  have h1 := diffTo_spec zs zs.length h
  refine ⟨fun j hj => ptB_spec (h1.1 j hj), fun j k hj hk hne => ?_⟩
  rcases Nat.lt_or_ge j k with h2 | h2
  · exact h1.2 k j hk h2
  · exact fun e => h1.2 j k hj (by omega) e.symm
/-- The points that count are different. -/
theorem diffTo_mono (zs : List Int) {k j : Nat} (hj : j ≤ k) (h : diffTo zs k = true) : diffTo zs j = true := by
  cases e : diffTo zs j
  · rw [diffTo_false zs k j hj e] at h; exact h
  · rfl
theorem ptAt_take (zs : List Int) (n j : Nat) (h : j < n) : ptAt (zs.take n) j = ptAt zs j := by
  unfold ptAt
  simp only [List.getD, List.getElem?_take_of_lt h]
theorem inTo_take (zs : List Int) (n : Nat) : ∀ k z, k ≤ n → inTo (zs.take n) k z = inTo zs k z := by
  intro k
  induction k with
  | zero => intro z _; rfl
  | succ k ih => intro z h; rw [inTo, inTo, ih z (by omega), ptAt_take zs n k (by omega)]
theorem diffTo_take (zs : List Int) (n : Nat) : ∀ k, k ≤ n → diffTo (zs.take n) k = diffTo zs k := by
  intro k
  induction k with
  | zero => intro _; rfl
  | succ k ih => intro h; rw [diffTo, diffTo, ih (by omega), ptAt_take zs n k (by omega), inTo_take zs n k _ (by omega)]
theorem diffTo_append (a : List Int) (x : Int) : ∀ k, k ≤ a.length → diffTo (a ++ [x]) k = diffTo a k := by
  intro k
  induction k with
  | zero => intro _; rfl
  | succ k ih => intro h; rw [diffTo, diffTo, ih (by omega), ptAt_append, if_pos (by omega), inTo_append a x _ k (by omega)]
theorem cnt_diff (per : Int → Bool) (l : List (Int × Int)) (k : Nat) : diffB (cntTo per l k).1 = true := by
  induction k with
  | zero => rfl
  | succ k ih =>
    rw [cntTo]
    split
    · exact ih
    · rename_i h
      simp only [Bool.or_eq_true, Bool.not_eq_true', not_or, Bool.not_eq_true, Bool.not_eq_false] at h
      unfold diffB at ih ⊢
      rw [List.length_append, List.length_singleton, diffTo, diffTo_append _ _ _ (Nat.le_refl _), ih, ptAt_append, if_neg (by omega), if_pos rfl, inTo_append _ _ _ _ (Nat.le_refl _), h.1.1, h.1.2]
      rfl
theorem take_diff (per : Int → Bool) (l : List (Int × Int)) (n : Nat) : diffB ((cntP per l).take n) = true := by
  have h := cnt_diff per l l.length
  unfold diffB at h ⊢
  have hl : ((cntP per l).take n).length ≤ n := by simp; omega
  rw [diffTo_take (cntP per l) n _ hl]
  exact diffTo_mono _ (by unfold cntP; simp; omega) h
theorem foldl_upF (g : Int → Nat → Int) (len : Nat) (s : Int) (r : Nat → Int) (h0 : r 0 = s) (hs : ∀ k, k < len → r (k + 1) = g (r k) k) : ∀ k, k ≤ len → (upF len k).foldl (fun s (i : Fin len) => g s i.1) s = r k := by
  intro k
  induction k with
  | zero => intro _; exact h0.symm
  | succ k ih => intro h; rw [upF_succ (by omega), List.foldl_append, ih (by omega), hs k (by omega)]; rfl
theorem comb_eq (zs ns : List Int) (h : diffB zs = true) : combZ zs ns = combRTo zs ns zs.length := by
  have hP := points_of_diff h
  unfold combZ
  have := foldl_upF (fun s i => (s + ptAt ns i * facP zs i) % 1152921504606845789) zs.length 0 (combRTo zs ns) rfl (fun k hk => by
    rw [combRTo, add_res, ← fac_eq zs hP k hk, Int.mul_comm]) zs.length (Nat.le_refl _)
  exact this
def liftRTo (zs ns : List Int) : Nat → Int
  | 0 => 1
  | k + 1 => liftRTo zs ns k * powM (ptAt ns k) (facR zs k) 2305843009213691579 % 2305843009213691579
theorem lift_eq (zs ns : List Int) (h : diffB zs = true) : liftZ zs ns = liftRTo zs ns zs.length := by
  have hP := points_of_diff h
  unfold liftZ
  have := foldl_upF (fun s i => s * powM (ptAt ns i) (facP zs i) 2305843009213691579 % 2305843009213691579) zs.length 1 (liftRTo zs ns) rfl (fun k hk => by
    rw [liftRTo, ← fac_eq zs hP k hk]) zs.length (Nat.le_refl _)
  exact this
theorem share_eq (zs ns : List Int) : shareZ zs ns = shareRZ zs ns := by
  unfold shareZ shareRZ
  split
  · rename_i h
    refine comb_eq zs ns ?_
    unfold shareB at h
    simp only [Bool.and_eq_true] at h
    exact h.2
  · rfl
theorem cnt_len (per : Int → Bool) (l : List (Int × Int)) : (cntN per l).length = (cntP per l).length := (cntTo_len per l l.length).1.symm
theorem take_share (per : Int → Bool) (need : Int) (l : List (Int × Int)) (h : enB per need l = true) : shareB ((cntP per l).take need.toNat) ((cntN per l).take need.toNat) = true := by
  unfold enB at h
  simp only [Bool.and_eq_true, decide_eq_true_eq] at h
  unfold shareB
  have h1 := cnt_len per l
  rw [take_diff, List.length_take, List.length_take, h1]
  have : min need.toNat (cntP per l).length ≠ 0 := by omega
  simp [this]
theorem join_eq (need : Int) (l : List (Int × Int)) (h : enB insB need l = true) : joinZ need l = shareRZ ((cntP insB l).take need.toNat) ((cntN insB l).take need.toNat) := by
  unfold joinZ
  rw [if_pos h, ← share_eq]
  unfold shareZ
  rw [if_pos (take_share insB need l h)]
theorem lifted_eq (need : Int) (l : List (Int × Int)) (h : enB memB need l = true) : liftedZ need l = liftRTo ((cntP memB l).take need.toNat) ((cntN memB l).take need.toNat) need.toNat := by
  unfold liftedZ
  rw [if_pos h, lift_eq _ _ (take_diff memB l _)]
  unfold enB at h
  simp only [Bool.and_eq_true, decide_eq_true_eq] at h
  congr 1
  rw [List.length_take]
  omega
end Go.Proofs.YtkpfachmakfncaaGreatDoor

namespace Go.Proofs.YtkpfachmakfncaaGreatDoor

def ivQ (d : Int) : Int := invM (d % gQ) gQ
theorem prodF_snoc (iv : Int → Int) (a : List Int) (y x : Int) : prodF iv (a ++ [y]) x = if y = x then prodF iv a x else prodF iv a x * (y * iv (y - x)) := by
  induction a with
  | nil => simp only [List.nil_append, prodF]; split <;> grind
  | cons z t ih => simp only [List.cons_append, prodF, ih]; split <;> split <;> grind
theorem lsum_snoc (iv : Int → Int) (al : List Int) (f : Int → Int) (a : List Int) (x : Int) : lsum iv al f (a ++ [x]) = lsum iv al f a + prodF iv al x * f x := by
  induction a with
  | nil => simp [lsum]
  | cons z t ih => simp only [List.cons_append, lsum, ih]; omega
theorem take_snocI (l : List Int) (k : Nat) (h : k < l.length) : l.take (k + 1) = l.take k ++ [ptAt l k] := by
  rw [List.take_succ_eq_append_getElem h]
  simp [ptAt, List.getD, h]
theorem fac_prod (l : List Int) (h : Points l) (i : Nat) (hi : i < l.length) : ∀ n, n ≤ l.length → Cong gQ (facTo l i n) (prodF ivQ (l.take n) (ptAt l i)) := by
  intro n
  induction n with
  | zero => intro _; exact Cong.of_eq (by simp [facTo, prodF])
  | succ n ih =>
    intro hn
    have h1 := ih (by omega)
    rw [facTo, take_snocI l n (by omega), prodF_snoc]
    by_cases e : n = i
    · subst e
      rw [if_pos rfl, if_pos rfl]; exact h1
    · rw [if_neg e, if_neg (h.ne n i (by omega) hi e)]
      exact (Cong.mod _ _).trans (h1.mul (Cong.mod _ _))
theorem apart_of (l : List Int) (h : Points l) : Apart gQ ivQ l := by
  refine ⟨?_, fun x hx y hy e => ?_⟩
  · rw [List.nodup_iff_pairwise_ne, List.pairwise_iff_getElem]
    intro i j hi hj hij
    have := h.ne i j hi hj (by omega)
    simpa [ptAt, List.getD, hi, hj] using this
  · obtain ⟨i, hi, rfl⟩ := List.mem_iff_getElem.1 hx
    obtain ⟨j, hj, rfl⟩ := List.mem_iff_getElem.1 hy
    have ei : ptAt l i = l[i] := by simp [ptAt, List.getD, hi]
    have ej : ptAt l j = l[j] := by simp [ptAt, List.getD, hj]
    have b1 := h.bd i hi
    have b2 := h.bd j hj
    rw [ei] at b1
    rw [ej] at b2
    have hg : Int.gcd ((l[j] - l[i]) % gQ) gQ = 1 := by
      rw [emod_gcd]
      refine gcd_Q _ (fun h0 => e ?_)
      have : Cong gQ l[j] l[i] := by
        obtain ⟨c, hc⟩ := Int.dvd_of_emod_eq_zero h0
        exact ⟨c, hc⟩
      exact (this.eq (by omega) b2.2 (by omega) b1.2).symm
    have hs := inv_spec ((l[j] - l[i]) % gQ) gQ (by decide) (by decide) hg
    unfold ivQ
    exact ((Cong.mod gQ (l[j] - l[i])).symm.mul (Cong.refl _ _)).trans (Cong.of_emod (by rw [hs]; rfl))
theorem comb_lsum (zs ns : List Int) (f : Int → Int) (h : Points zs) (hv : ∀ j, j < zs.length → Cong gQ (ptAt ns j) (f (ptAt zs j))) : ∀ k, k ≤ zs.length → Cong gQ (combRTo zs ns k) (lsum ivQ zs f (zs.take k)) := by
  intro k
  induction k with
  | zero => intro _; exact Cong.of_eq (by simp [combRTo, lsum])
  | succ k ih =>
    intro hk
    rw [combRTo, take_snocI zs k (by omega), lsum_snoc]
    have h1 := fac_prod zs h k (by omega) zs.length (Nat.le_refl _)
    rw [List.take_length] at h1
    exact (Cong.mod _ _).trans ((ih (by omega)).add ((Cong.mod _ _).trans (Cong.mul h1 (hv k (by omega)))))
theorem comb_interp (zs ns cs : List Int) (h : diffB zs = true) (hl : cs.length ≤ zs.length) (hv : ∀ j, j < zs.length → Cong gQ (ptAt ns j) (ev cs (ptAt zs j))) : Cong gQ (combRTo zs ns zs.length) (ptAt cs 0) := by
  have hP := points_of_diff h
  have h1 := comb_lsum zs ns (ev cs) hP hv zs.length (Nat.le_refl _)
  rw [List.take_length] at h1
  exact h1.trans (interp gQ ivQ cs zs hl (apart_of zs hP))
theorem combRTo_bd (zs ns : List Int) : ∀ k, 0 ≤ combRTo zs ns k ∧ combRTo zs ns k < gQ
  | 0 => ⟨by simp [combRTo], by simp [combRTo]; decide⟩
  | k + 1 => by rw [combRTo]; exact emod_self_lt _ _ (by decide)
/-- Horner's rule, as the reference computes values. -/
def valZ : List Int → Int → Int
  | [], _ => 0
  | c :: cs, x => (valZ cs x * x % 1152921504606845789 + c) % 1152921504606845789
theorem valZ_cong : ∀ (cs : List Int) (x : Int), Cong gQ (valZ cs x) (ev cs x)
  | [], _ => Cong.refl _ _
  | c :: cs, x => by
    rw [valZ, ev]
    have := valZ_cong cs x
    exact (Cong.mod _ _).trans ((((Cong.mod _ _).trans (this.mul (Cong.refl _ x))).add (Cong.refl _ c)).trans (Cong.of_eq (by grind)))
theorem valZ_bd (cs : List Int) (x : Int) : 0 ≤ valZ cs x ∧ valZ cs x < gQ := by
  cases cs with
  | nil => exact ⟨by simp [valZ], by simp [valZ]; decide⟩
  | cons c cs => rw [valZ]; exact emod_self_lt _ _ (by decide)
theorem comb_first (zs ns cs : List Int) (h : diffB zs = true) (hl : cs.length ≤ zs.length) (hc : 0 ≤ ptAt cs 0 ∧ ptAt cs 0 < gQ) (hv : ∀ j, j < zs.length → ptAt ns j = valZ cs (ptAt zs j)) : combRTo zs ns zs.length = ptAt cs 0 := by
  have hb := combRTo_bd zs ns zs.length
  exact (comb_interp zs ns cs h hl (fun j hj => by rw [hv j hj]; exact valZ_cong _ _)).eq hb.1 hb.2 hc.1 hc.2
/-- Powers of a member. -/
theorem lift_law (zs ns ys : List Int) (base : Int) (hb : memB base = true) (hn : ∀ j, j < zs.length → ptAt ns j = powM base (ptAt ys j) gP ∧ 0 ≤ ptAt ys j ∧ ptAt ys j < gQ) : ∀ k, k ≤ zs.length → liftRTo zs ns k = powM base (combRTo zs ys k) gP := by
  have hG := ((memB_iff base).1 hb).2.2
  have hq : gQ = 1152921504606845789 := rfl
  intro k
  induction k with
  | zero =>
    intro _
    rw [powM_eq base _ gP (by decide) (by simp [combRTo]) (by simp [combRTo])]
    simp [combRTo, liftRTo]; decide
  | succ k ih =>
    intro hk
    obtain ⟨e, y0, y1⟩ := hn k (by omega)
    have hc := combRTo_bd zs ys k
    have hc2 := combRTo_bd zs ys (k + 1)
    have hf := facTo_bd zs k zs.length
    have hfR : facR zs k = facTo zs k zs.length := rfl
    rw [hq] at hc hc2 hf y1
    have t64 : (1152921504606845789 : Int) < 2 ^ 64 := by decide
    rw [liftRTo, ih (by omega), e]
    have h1 : Cong gP (powM base (combRTo zs ys k) gP) (base ^ (combRTo zs ys k).toNat) := powM_cong _ _ _ hc.1 (by omega)
    have h2 : Cong gP (powM (powM base (ptAt ys k) gP) (facR zs k) 2305843009213691579) (base ^ ((ptAt ys k).toNat * (facR zs k).toNat)) := by
      refine (powM_cong _ _ _ (by omega) (by omega)).trans ?_
      rw [Int.pow_mul]
      exact cong_pow (powM_cong _ _ _ y0 (by omega)) _
    have h3 : Cong gP (powM base (combRTo zs ys (k + 1)) gP) (base ^ (combRTo zs ys (k + 1)).toNat) := powM_cong _ _ _ hc2.1 (by omega)
    have h4 : (combRTo zs ys (k + 1)).toNat = ((combRTo zs ys k).toNat + (ptAt ys k).toNat * (facR zs k).toNat) % 1152921504606845789 := by
      obtain ⟨a, ha⟩ := Int.eq_ofNat_of_zero_le hc.1
      obtain ⟨b, hb⟩ := Int.eq_ofNat_of_zero_le y0
      obtain ⟨c, hc'⟩ := Int.eq_ofNat_of_zero_le (show 0 ≤ facR zs k by omega)
      rw [combRTo, ha, hb, hc']
      simp only [Int.toNat_natCast]
      have : ((a : Int) + (c : Int) * (b : Int) % 1152921504606845789) % 1152921504606845789 = (((a + b * c) % 1152921504606845789 : Nat) : Int) := by
        rw [Int.natCast_emod, Int.natCast_add, Int.natCast_mul, Int.mul_comm (c : Int), add_res]; rfl
      rw [this, Int.toNat_natCast]
    have h5 : Cong gP (powM base (combRTo zs ys k) gP * powM (powM base (ptAt ys k) gP) (facR zs k) 2305843009213691579 % 2305843009213691579) (powM base (combRTo zs ys (k + 1)) gP) := by
      refine (Cong.mod gP _).trans ((h1.mul h2).trans (Cong.trans ?_ h3.symm))
      rw [h4, ← Int.pow_add]
      exact hG.exp _
    have b1 := emod_self_lt (powM base (combRTo zs ys k) gP * powM (powM base (ptAt ys k) gP) (facR zs k) 2305843009213691579) gP (by decide)
    have b2 := powM_bd base (combRTo zs ys (k + 1)) gP (by decide)
    exact h5.eq b1.1 b1.2 b2.1 b2.2
end Go.Proofs.YtkpfachmakfncaaGreatDoor

namespace Go.Proofs.YtkpfachmakfncaaGreatDoor
open Go.RowKit

theorem shAt_take (l : List (Int × Int)) (n j : Nat) (h : j < n) : shAt (l.take n) j = shAt l j := by
  unfold shAt; simp only [List.getD, List.getElem?_take_of_lt h]

end Go.Proofs.YtkpfachmakfncaaGreatDoor
