/-
  The walk of counting.
-/
import Derived.Test.YtldkjkjpaiajlaaGreatDoorPa10
import Derived.Test.YtldkjkjpaiajlaaGreatDoorPa02
import Derived.Deep.RegionHeld3
import Derived.Deep.AppendLies
namespace Go.Proofs.YtldkjkjpaiajlaaGreatDoor
open Go.RowKit

theorem Tryz.infoI : (Tryz.prog.info? 3).map (fun i => (i.zero, i.size, i.bytes)) = some (some (.int .i64 0), 1, 8) := by kernel_rfl
def irow (zs : List Int) : List Value := zs.map (Value.int .i64)
theorem irow_length (zs : List Int) : (irow zs).length = zs.length := by simp [irow]
theorem irow_one (zs : List Int) : ∀ u ∈ irow zs, u.oneCell' = true := by
  intro u hu
  obtain ⟨z, _, rfl⟩ := List.mem_map.1 hu
  rfl
theorem irow_append (a b : List Int) : irow (a ++ b) = irow a ++ irow b := by simp [irow]
theorem irow_get (zs : List Int) (i : Nat) (h : i < zs.length) : (irow zs)[i]? = some (.int .i64 (ptAt zs i)) := by simp [irow, ptAt, h]

/-- Shares that came in. -/
def shAt (l : List (Int × Int)) (j : Nat) : Int × Int := l.getD j (0, 0)
/-- At the head of a round of counting. -/
structure Counting (w wr : World) (base : Nat) (mb : Nat) (p q : Value) (pq : List Int × List Int) : Prop where
  pts : wr.ownsRow base 3 1 p pq.1.length (irow pq.1)
  num : wr.ownsRow base 3 1 q pq.2.length (irow pq.2)
  set : SetAt wr mb pq.1.length (inTo pq.1 pq.1.length)
  ne : ∀ k, p.ownBlock = some k → q.ownBlock ≠ some k ∧ k ≠ mb
  nq : ∀ k, q.ownBlock = some k → k ≠ mb
  only : Only (fun _ => False) w wr
theorem Counting.frame {w wr w' : World} {base mb : Nat} {p q : Value} {pq : List Int × List Int} (h : Counting w wr base mb p q pq) (hO : Only (fun _ => False) wr w') : Counting w w' base mb p q pq :=
  ⟨hO.owns h.pts (fun _ _ h => h), hO.owns h.num (fun _ _ h => h), h.set.frame hO (fun h => h), h.ne, h.nq, h.only.trans hO⟩
theorem own_lt {w : World} {base e size n : Nat} {v : Value} {xs : List Value} (h : w.ownsRow base e size v n xs) {k : Nat} (hk : v.ownBlock = some k) : k < w.heap.size ∧ base ≤ k := by
  rcases h.2 with ⟨rfl, _⟩ | ⟨g, cap, cur, rfl, hb, hgg, _⟩
  · simp [Value.ownBlock] at hk
  · simp [Value.ownBlock] at hk; subst hk; exact ⟨(Array.getElem?_eq_some_iff.1 hgg).1, hb⟩

/-- A block beside, with one number. -/
def Tmp (wn : World) (b : Nat) (z : Int) (p q : Value) : Prop := wn.heap[b]? = some (.cells #[.int .i64 z] 3) ∧ p.ownBlock ≠ some b ∧ q.ownBlock ≠ some b
theorem Tmp.alloc {wn : World} {b : Nat} {z : Int} {p q : Value} (h : Tmp wn b z p q) (o : Obj) : Tmp (wn.alloc o) b z p q :=
  ⟨(Below.heap_alloc _ _ _ (Array.getElem?_eq_some_iff.1 h.1).1).trans h.1, h.2⟩
theorem Tmp.left {wn w' : World} {b g cap m : Nat} {z : Int} {p q : Value} (h : Tmp wn b z p q) (hg : wn.grownBy w' p.ownBlock) (hat : p.ownBlock = some g ∨ g = wn.heap.size) : Tmp w' b z (.slice (some ⟨g, 0, none⟩) m cap) q := by
  have hl := (Array.getElem?_eq_some_iff.1 h.1).1
  refine ⟨(hg.block b hl (Ne.symm h.2.1)).trans h.1, fun e => ?_, h.2.2⟩
  have : g = b := by simpa [Value.ownBlock] using e
  subst this
  rcases hat with hat | hat
  · exact h.2.1 hat
  · omega
theorem Tmp.news {wn : World} {b : Nat} {z : Int} {p q : Value} (h : Tmp wn b z p q) : ∀ j u, [Value.int .i64 z][j]? = some u → wn.cell? ((⟨b, 0, none⟩ : Addr).add j) = some u := fun j u hu =>
  World.news_of_block h.1 j u (by simpa using hu)
theorem one_int (z : Int) : ∀ u ∈ [Value.int .i64 z], u.oneCell' = true := by intro u hu; simp at hu; subst hu; rfl
theorem pts_of_own {w : World} {base : Nat} {v : Value} {zs : List Int} (h : w.ownsRow base 3 1 v zs.length (irow zs)) (hm : zs.length ≤ 9223372036854775807) : PtsAt w.heap.size w v zs := by
  cases zs with
  | nil =>
    rcases h.2 with ⟨rfl, _⟩ | ⟨g, cap, cur, rfl, _⟩
    · exact .inl ⟨_, _, rfl, rfl⟩
    · exact .inl ⟨_, _, rfl, rfl⟩
  | cons z zs =>
    rcases h.2 with ⟨_, h0⟩ | ⟨g, cap, cur, rfl, hb, hg, hcap, hcap2, hsz, htk⟩
    · simp at h0
    · refine .inr ⟨g, 0, cap, rfl, (Array.getElem?_eq_some_iff.1 hg).1, hcap, by unfold maxLen at hcap2; omega, fun j hj => ?_⟩
      rw [Nat.zero_add]
      have hc := cell_of_row w g j cur 3 (0, 0) hg
      rw [hc]
      have h1 : (irow (z :: zs))[j]? = some (.int .i64 (ptAt (z :: zs) j)) := irow_get _ j hj
      rw [← htk, List.getElem?_take_of_lt (by omega)] at h1
      simpa using h1
end Go.Proofs.YtldkjkjpaiajlaaGreatDoor
