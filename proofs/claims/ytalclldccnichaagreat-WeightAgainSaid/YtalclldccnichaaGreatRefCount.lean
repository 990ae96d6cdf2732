/-
  The reference's Counting and split.
-/
import Derived.Test.YtalclldccnichaaGreatRefFac
namespace Go.Proofs.YtalclldccnichaaGreat
open Go.RowKit

theorem Tryz.infoS : (Tryz.prog.info? 53).map (fun i => (i.zero, i.size, i.bytes)) = some (some (.agg #[.int .i64 0, .int .i64 0]), 2, 16) := by kernel_rfl
def srow (l : List (Int × Int)) : List Value := l.flatMap (fun s => [.int .i64 s.1, .int .i64 s.2])
theorem srow_append (a b : List (Int × Int)) : srow (a ++ b) = srow a ++ srow b := by simp [srow]
theorem srow_length (l : List (Int × Int)) : (srow l).length = l.length * 2 := by
  induction l with
  | nil => rfl
  | cons s l ih => simp only [srow, List.flatMap_cons, List.length_append] at ih ⊢; rw [ih]; simp; omega
theorem srow_at (l : List (Int × Int)) : ∀ j, j < l.length → (srow l)[j * 2]? = some (.int .i64 (shAt l j).1) ∧ (srow l)[j * 2 + 1]? = some (.int .i64 (shAt l j).2) := by
  induction l with
  | nil => intro j h; simp at h
  | cons s l ih =>
    intro j h
    cases j with
    | zero => simp [srow, shAt]
    | succ j =>
      have := ih j (by simpa using h)
      have e1 : (j + 1) * 2 = j * 2 + 2 := by omega
      rw [e1]
      simpa [srow, shAt] using this
theorem shs_of_own {w : World} {base : Nat} {v : Value} {l : List (Int × Int)} (h : w.ownsRow base 53 2 v l.length (srow l)) (_hm : l.length ≤ 9223372036854775807) : ShsAt w v l := by
  cases l with
  | nil =>
    rcases h.2 with ⟨rfl, _⟩ | ⟨g, cap, cur, rfl, _⟩
    · exact .inl ⟨_, _, rfl, rfl⟩
    · exact .inl ⟨_, _, rfl, rfl⟩
  | cons z l =>
    rcases h.2 with ⟨_, h0⟩ | ⟨g, cap, cur, rfl, hb, hg, hcap, hcap2, hsz, htk⟩
    · simp at h0
    · refine .inr ⟨g, 0, cap, rfl, (Array.getElem?_eq_some_iff.1 hg).1, hcap, by unfold maxLen at hcap2; omega, fun j hj => ?_⟩
      have h1 := srow_at (z :: l) j hj
      have c1 := cell_of_row w g (j * 2) cur 53 (0, 0) hg
      have c2 := cell_of_row w g (j * 2 + 1) cur 53 (0, 0) hg
      rw [Nat.zero_add, c1, c2]
      rw [← htk, List.getElem?_take_of_lt (by omega), List.getElem?_take_of_lt (by omega)] at h1
      simpa using h1
theorem ShsAt.below {A B : World} (h : Only (fun _ => False) A B) {sv : Value} {l : List (Int × Int)} : ShsAt A sv l → ShsAt B sv l
  | .inl e => .inl e
  | .inr ⟨b, off, cap, e, hb, h1, h2, hc⟩ => .inr ⟨b, off, cap, e, Nat.lt_of_lt_of_le hb h.size, h1, h2, fun j hj => ⟨h.cell (hc j hj).1 (fun h => h), h.cell (hc j hj).2 (fun h => h)⟩⟩
theorem PtsAt.only {A B : World} (h : Only (fun _ => False) A B) {sv : Value} {zs : List Int} (hp : PtsAt A.heap.size A sv zs) : PtsAt B.heap.size B sv zs :=
  (hp.below (h.below (Nat.le_refl _) (fun _ _ h => h))).mono h.size

/-- The shares that count, among the first k. -/
def gdTo (per : Int → Bool) (l : List (Int × Int)) (k : Nat) : List (Int × Int) := (cntTo per l k).1.zip (cntTo per l k).2
theorem gdTo_len (per : Int → Bool) (l : List (Int × Int)) (k : Nat) : (gdTo per l k).length = (cntTo per l k).1.length := by
  unfold gdTo; rw [List.length_zip, ← (cntTo_len per l k).1, Nat.min_self]
theorem gdTo_fst (per : Int → Bool) (l : List (Int × Int)) (k : Nat) : (gdTo per l k).map Prod.fst = (cntTo per l k).1 := by
  unfold gdTo; rw [List.map_fst_zip (Nat.le_of_eq (cntTo_len per l k).1)]
theorem gdTo_snd (per : Int → Bool) (l : List (Int × Int)) (k : Nat) : (gdTo per l k).map Prod.snd = (cntTo per l k).2 := by
  unfold gdTo; rw [List.map_snd_zip (Nat.le_of_eq (cntTo_len per l k).1.symm)]
theorem gdTo_succ (per : Int → Bool) (l : List (Int × Int)) (k : Nat) : gdTo per l (k + 1) = if (ptB (shAt l k).1 && per (shAt l k).2) && !inTo (cntTo per l k).1 (cntTo per l k).1.length (shAt l k).1 then gdTo per l k ++ [shAt l k] else gdTo per l k := by
  unfold gdTo
  rw [cntTo]
  cases inTo (cntTo per l k).1 (cntTo per l k).1.length (shAt l k).1 <;> cases ptB (shAt l k).1 <;> cases per (shAt l k).2 <;> simp
  rw [List.zip_append (cntTo_len per l k).1]
  rfl
theorem ptAt_fst (g : List (Int × Int)) (j : Nat) : ptAt (g.map Prod.fst) j = (shAt g j).1 := by
  unfold ptAt shAt
  simp only [List.getD, List.getElem?_map]
  cases g[j]? <;> rfl
theorem ptAt_snd (g : List (Int × Int)) (j : Nat) : ptAt (g.map Prod.snd) j = (shAt g j).2 := by
  unfold ptAt shAt
  simp only [List.getD, List.getElem?_map]
  cases g[j]? <;> rfl
theorem and_not_or {f0 a b : Bool} (h : false = (f0 && !b)) : false = (f0 && !(a || b)) := by revert h; cases f0 <;> cases a <;> cases b <;> decide
def perOf (lifted : Bool) : Int → Bool := if lifted then memB else insB

end Go.Proofs.YtalclldccnichaaGreat
