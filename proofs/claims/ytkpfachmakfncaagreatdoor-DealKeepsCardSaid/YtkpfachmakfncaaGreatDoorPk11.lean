/-
  The walk of counting.
-/
import Derived.Test.YtkpfachmakfncaaGreatDoorPk08
import Derived.Test.YtkpfachmakfncaaGreatDoorPk02
import Derived.Deep.RegionHeld3
import Derived.Deep.AppendLies
namespace Go.Proofs.YtkpfachmakfncaaGreatDoor
open Go.RowKit

theorem Tryz.infoI : (Tryz.prog.info? 3).map (fun i => (i.zero, i.size, i.bytes)) = some (some (.int .i64 0), 1, 8) := by kernel_rfl
def irow (zs : List Int) : List Value := zs.map (Value.int .i64)
theorem irow_length (zs : List Int) : (irow zs).length = zs.length := by simp [irow]
theorem irow_one (zs : List Int) : ∀ u ∈ irow zs, u.oneCell' = true := by
  intro u hu
  obtain ⟨z, _, rfl⟩ := List.mem_map.1 hu
  rfl
theorem irow_append (a b : List Int) : irow (a ++ b) = irow a ++ irow b := by simp [irow]
theorem irow_get (zs : List Int) (i : Nat) (h : i < zs.length) : (irow zs)[i]? = some (.int .i64 (ptAt zs i)) := by simp [irow, ptAt, h]

/-- Inside: from 0 to Q - 1. -/
def insB (y : Int) : Bool := decide (0 ≤ y) && decide (y ≤ 1152921504606845788)
/-- Shares that came in. -/
def shAt (l : List (Int × Int)) (j : Nat) : Int × Int := l.getD j (0, 0)
/-- The points and the numbers of the shares that count, among the first k. -/
def cntTo (per : Int → Bool) (l : List (Int × Int)) : Nat → List Int × List Int
  | 0 => ([], [])
  | k + 1 => if inTo (cntTo per l k).1 (cntTo per l k).1.length (shAt l k).1 || !ptB (shAt l k).1 || !per (shAt l k).2 then cntTo per l k else ((cntTo per l k).1 ++ [(shAt l k).1], (cntTo per l k).2 ++ [(shAt l k).2])
theorem cntTo_len (per : Int → Bool) (l : List (Int × Int)) (k : Nat) : (cntTo per l k).1.length = (cntTo per l k).2.length ∧ (cntTo per l k).1.length ≤ k := by
  induction k with
  | zero => exact ⟨rfl, Nat.le_refl _⟩
  | succ k ih =>
    rw [cntTo]
    split
    · exact ⟨ih.1, by omega⟩
    · simp only [List.length_append, List.length_singleton]; omega
theorem ptAt_append (a : List Int) (x : Int) (j : Nat) : ptAt (a ++ [x]) j = if j < a.length then ptAt a j else if j = a.length then x else 0 := by
  unfold ptAt
  split
  · rename_i h; simp [List.getD, List.getElem?_append_left h]
  · split
    · rename_i h1 h2; subst h2; simp [List.getD]
    · rename_i h1 h2; simp [List.getD, List.getElem?_eq_none (show (a ++ [x]).length ≤ j by simp; omega)]
theorem inTo_append (a : List Int) (x z : Int) : ∀ k, k ≤ a.length → inTo (a ++ [x]) k z = inTo a k z := by
  intro k
  induction k with
  | zero => intro _; rfl
  | succ k ih => intro h; rw [inTo, inTo, ih (by omega), ptAt_append, if_pos (by omega)]
theorem inTo_more (a : List Int) (x z : Int) : inTo (a ++ [x]) (a ++ [x]).length z = (z == x || inTo a a.length z) := by
  rw [List.length_append, List.length_singleton, inTo, inTo_append a x z a.length (Nat.le_refl _), ptAt_append, if_neg (by omega), if_pos rfl]

structure ShsW (l : List (Int × Int)) : Prop where
  wf : ∀ j, (-9223372036854775808 ≤ (shAt l j).1 ∧ (shAt l j).1 ≤ 9223372036854775807) ∧ (-9223372036854775808 ≤ (shAt l j).2 ∧ (shAt l j).2 ≤ 9223372036854775807)

/-- At the head of a round of counting. -/
structure Counting (w wr : World) (base : Nat) (mb : Nat) (p q : Value) (pq : List Int × List Int) : Prop where
  pts : wr.ownsRow base 3 1 p pq.1.length (irow pq.1)
  num : wr.ownsRow base 3 1 q pq.2.length (irow pq.2)
  set : SetAt wr mb pq.1.length (inTo pq.1 pq.1.length)
  ne : ∀ k, p.ownBlock = some k → q.ownBlock ≠ some k ∧ k ≠ mb
  nq : ∀ k, q.ownBlock = some k → k ≠ mb
  only : Only (fun _ => False) w wr
theorem Counting.frame {w wr w' : World} {base mb : Nat} {p q : Value} {pq : List Int × List Int} (h : Counting w wr base mb p q pq) (hO : Only (fun _ => False) wr w') : Counting w w' base mb p q pq :=
  ⟨hO.owns h.pts (fun _ _ h => h), hO.owns h.num (fun _ _ h => h), h.set.frame hO (fun h => h), h.ne, h.nq, h.only.trans hO⟩
theorem own_lt {w : World} {base e size n : Nat} {v : Value} {xs : List Value} (h : w.ownsRow base e size v n xs) {k : Nat} (hk : v.ownBlock = some k) : k < w.heap.size ∧ base ≤ k := by
  rcases h.2 with ⟨rfl, _⟩ | ⟨g, cap, cur, rfl, hb, hgg, _⟩
  · simp [Value.ownBlock] at hk
  · simp [Value.ownBlock] at hk; subst hk; exact ⟨(Array.getElem?_eq_some_iff.1 hgg).1, hb⟩

/-- Amid the two appends. -/
structure Mid (w wn : World) (base mb B n : Nat) (S : Int → Bool) (x y : Int) (p q : Value) (pl ql : List Int) : Prop where
  pts : wn.ownsRow base 3 1 p pl.length (irow pl)
  num : wn.ownsRow base 3 1 q ql.length (irow ql)
  set : SetAt wn mb n S
  ne : ∀ k, p.ownBlock = some k → q.ownBlock ≠ some k
  np : ∀ k, p.ownBlock = some k → k ≠ mb ∧ k ≠ B
  nq : ∀ k, q.ownBlock = some k → k ≠ mb ∧ k ≠ B
  blk : wn.heap[B]? = some (.cells #[.int .i64 x, .int .i64 y] 48 (0, 0))
  only : Only (fun _ => False) w wn
  low : w.heap.size ≤ base
theorem Mid.Bl {w wn : World} {base mb B n : Nat} {S : Int → Bool} {x y : Int} {p q : Value} {pl ql : List Int} (h : Mid w wn base mb B n S x y p q pl ql) : B < wn.heap.size := (Array.getElem?_eq_some_iff.1 h.blk).1
theorem Mid.alloc {w wn : World} {base mb B n : Nat} {S : Int → Bool} {x y : Int} {p q : Value} {pl ql : List Int} (h : Mid w wn base mb B n S x y p q pl ql) (o : Obj) : Mid w (wn.alloc o) base mb B n S x y p q pl ql := by
  have hO := (Only.refl (fun _ => False) wn).alloc o
  exact ⟨hO.owns h.pts (fun _ _ h => h), hO.owns h.num (fun _ _ h => h), h.set.frame hO (fun h => h), h.ne, h.np, h.nq, (hO.block B h.Bl (fun h => h)).trans h.blk, h.only.trans hO, h.low⟩
theorem Mid.drew {w wn : World} {base mb B n : Nat} {S : Int → Bool} {x y : Int} {p q : Value} {pl ql : List Int} (h : Mid w wn base mb B n S x y p q pl ql) : Mid w wn.drew base mb B n S x y p q pl ql := by
  have hO := (Only.refl (fun _ => False) wn).drew
  exact ⟨hO.owns h.pts (fun _ _ h => h), hO.owns h.num (fun _ _ h => h), h.set.frame hO (fun h => h), h.ne, h.np, h.nq, h.blk, h.only.drew, h.low⟩
theorem Mid.cells {w wn : World} {base mb B n : Nat} {S : Int → Bool} {x y : Int} {p q : Value} {pl ql : List Int} (h : Mid w wn base mb B n S x y p q pl ql) :
    wn.cell? ⟨B, 0, none⟩ = some (.int .i64 x) ∧ wn.cell? ⟨B, 1, none⟩ = some (.int .i64 y) := by
  have s0 := cell_of_row wn B 0 _ 48 (0, 0) h.blk
  have s1 := cell_of_row wn B 1 _ 48 (0, 0) h.blk
  simpa using ⟨s0, s1⟩
theorem Mid.left {w wn w' : World} {base mb B n : Nat} {S : Int → Bool} {x y : Int} {p q : Value} {pl ql : List Int} (h : Mid w wn base mb B n S x y p q pl ql) {g cap : Nat}
    (hown : w'.ownsRow base 3 1 (.slice (some ⟨g, 0, none⟩) (pl.length + 1) cap) (pl.length + 1) (irow pl ++ [.int .i64 x])) (hg : wn.grownBy w' p.ownBlock) (hat : p.ownBlock = some g ∨ g = wn.heap.size) :
    Mid w w' base mb B n S x y (.slice (some ⟨g, 0, none⟩) (pl.length + 1) cap) q (pl ++ [x]) ql := by
  have hO : Only (fun k => p.ownBlock = some k) wn w' := (Only.refl _ wn).grown hg (fun k e _ => e)
  have hB := h.Bl
  have hmb := h.set.lt
  have e : ∀ k, (Value.slice (some ⟨g, 0, none⟩) (pl.length + 1) cap).ownBlock = some k → k = g := fun k hk => by simpa [Value.ownBlock] using hk.symm
  refine ⟨by rw [List.length_append, List.length_singleton, irow_append]; exact hown, hO.owns h.num (fun k hq hp => h.ne k hp hq), h.set.frame hO (fun hp => (h.np _ hp).1 rfl), ?_, ?_, h.nq, (hO.block B hB (fun hp => (h.np _ hp).2 rfl)).trans h.blk, ?_, h.low⟩
  · intro k hk hq
    obtain rfl := e k hk
    rcases hat with hat | hat
    · exact h.ne k hat hq
    · have := (own_lt h.num hq).1; omega
  · intro k hk
    obtain rfl := e k hk
    rcases hat with hat | hat
    · exact h.np k hat
    · omega
  · exact h.only.trans' hO (fun i hi hp => by have := (own_lt h.pts hp).2; have := h.low; omega)
theorem Mid.right {w wn w' : World} {base mb B n : Nat} {S : Int → Bool} {x y : Int} {p q : Value} {pl ql : List Int} (h : Mid w wn base mb B n S x y p q pl ql) {g cap : Nat}
    (hown : w'.ownsRow base 3 1 (.slice (some ⟨g, 0, none⟩) (ql.length + 1) cap) (ql.length + 1) (irow ql ++ [.int .i64 y])) (hg : wn.grownBy w' q.ownBlock) (hat : q.ownBlock = some g ∨ g = wn.heap.size) :
    Mid w w' base mb B n S x y p (.slice (some ⟨g, 0, none⟩) (ql.length + 1) cap) pl (ql ++ [y]) := by
  have hO : Only (fun k => q.ownBlock = some k) wn w' := (Only.refl _ wn).grown hg (fun k e _ => e)
  have hB := h.Bl
  have hmb := h.set.lt
  have e : ∀ k, (Value.slice (some ⟨g, 0, none⟩) (ql.length + 1) cap).ownBlock = some k → k = g := fun k hk => by simpa [Value.ownBlock] using hk.symm
  refine ⟨hO.owns h.pts (fun k hp hq => h.ne k hp hq), by rw [List.length_append, List.length_singleton, irow_append]; exact hown, h.set.frame hO (fun hp => (h.nq _ hp).1 rfl), ?_, h.np, ?_, (hO.block B hB (fun hp => (h.nq _ hp).2 rfl)).trans h.blk, ?_, h.low⟩
  · intro k hk hq
    obtain rfl := e k hq
    rcases hat with hat | hat
    · exact h.ne k hk hat
    · have := (own_lt h.pts hk).1; omega
  · intro k hk
    obtain rfl := e k hk
    rcases hat with hat | hat
    · exact h.nq k hat
    · omega
  · exact h.only.trans' hO (fun i hi hp => by have := (own_lt h.num hp).2; have := h.low; omega)
/-- A block beside, with one number. -/
def Tmp (wn : World) (b : Nat) (z : Int) (p q : Value) : Prop := wn.heap[b]? = some (.cells #[.int .i64 z] 3) ∧ p.ownBlock ≠ some b ∧ q.ownBlock ≠ some b
theorem Tmp.alloc {wn : World} {b : Nat} {z : Int} {p q : Value} (h : Tmp wn b z p q) (o : Obj) : Tmp (wn.alloc o) b z p q :=
  ⟨(Below.heap_alloc _ _ _ (Array.getElem?_eq_some_iff.1 h.1).1).trans h.1, h.2⟩
theorem Tmp.new {w wn : World} {base mb B n : Nat} {S : Int → Bool} {x y : Int} {p q : Value} {pl ql : List Int} (h : Mid w wn base mb B n S x y p q pl ql) (z : Int) : Tmp (wn.alloc (.cells #[.int .i64 z] 3)) wn.heap.size z p q :=
  ⟨heap_alloc_new wn _, fun e => by have := (own_lt h.pts e).1; omega, fun e => by have := (own_lt h.num e).1; omega⟩
theorem Tmp.left {wn w' : World} {b g cap m : Nat} {z : Int} {p q : Value} (h : Tmp wn b z p q) (hg : wn.grownBy w' p.ownBlock) (hat : p.ownBlock = some g ∨ g = wn.heap.size) : Tmp w' b z (.slice (some ⟨g, 0, none⟩) m cap) q := by
  have hl := (Array.getElem?_eq_some_iff.1 h.1).1
  refine ⟨(hg.block b hl (Ne.symm h.2.1)).trans h.1, fun e => ?_, h.2.2⟩
  have : g = b := by simpa [Value.ownBlock] using e
  subst this
  rcases hat with hat | hat
  · exact h.2.1 hat
  · omega
theorem Tmp.news {wn : World} {b : Nat} {z : Int} {p q : Value} (h : Tmp wn b z p q) : ∀ j u, [Value.int .i64 z][j]? = some u → wn.cell? ((⟨b, 0, none⟩ : Addr).add j) = some u := fun j u hu =>
  World.news_of_block h.1 j u (by simpa using hu)
theorem one_int (z : Int) : ∀ u ∈ [Value.int .i64 z], u.oneCell' = true := by intro u hu; simp at hu; subst hu; rfl
theorem Mid.counting {w wn : World} {base mb B n : Nat} {x y : Int} {p q : Value} {ps qs : List Int} (h : Mid w wn base mb B n (fun z => z == x || inTo ps ps.length z) x y p q (ps ++ [x]) (qs ++ [y])) (hn : n = ps.length + 1) : Counting w wn base mb p q (ps ++ [x], qs ++ [y]) := by
  refine ⟨h.pts, h.num, ?_, fun k hk => ⟨h.ne k hk, (h.np k hk).1⟩, fun k hk => (h.nq k hk).1, h.only⟩
  have := h.set
  have e : (fun z => z == x || inTo ps ps.length z) = inTo (ps ++ [x]) (ps ++ [x]).length := by funext z; rw [inTo_more]
  rw [e, hn] at this
  simpa using this

/-- What counting leaves. -/
def CountPost (w : World) (per : Int → Bool) (l : List (Int × Int)) (need : Int) (e : Ending) (w' : World) : Prop :=
  Only (fun _ => False) w w' ∧ ((1 ≤ need ∧ need ≤ (cntTo per l l.length).1.length ∧ ∃ vp vq, e = .returned (.tuple #[vp, vq, .bool true]) ∧
      PtsAt w'.heap.size w' vp ((cntTo per l l.length).1.take need.toNat) ∧ PtsAt w'.heap.size w' vq ((cntTo per l l.length).2.take need.toNat)) ∨
    ((need < 1 ∨ (cntTo per l l.length).1.length < need) ∧ e = .returned (.tuple #[.slice none 0 0, .slice none 0 0, .bool false])))
theorem cntTo_pre (per : Int → Bool) (l : List (Int × Int)) (k : Nat) : ∀ m, k ≤ m → (cntTo per l k).1 = (cntTo per l m).1.take (cntTo per l k).1.length ∧ (cntTo per l k).2 = (cntTo per l m).2.take (cntTo per l k).1.length := by
  intro m
  induction m with
  | zero => intro h; rw [show k = 0 by omega]; simp [cntTo]
  | succ m ih =>
    intro h
    by_cases e : k = m + 1
    · subst e
      have h1 := (cntTo_len per l (m + 1)).1
      exact ⟨by rw [List.take_length], by rw [h1, List.take_length]⟩
    · have h2 := ih (by omega)
      have h3 : (cntTo per l k).1.length ≤ (cntTo per l m).1.length := by
        have := congrArg List.length h2.1
        simp only [List.length_take] at this; omega
      have h4 := (cntTo_len per l m).1
      rw [cntTo]
      split
      · exact h2
      · refine ⟨h2.1.trans ?_, h2.2.trans ?_⟩
        · rw [List.take_append_of_le_length h3]
        · rw [List.take_append_of_le_length (by omega)]
theorem pts_of_own {w : World} {base : Nat} {v : Value} {zs : List Int} (h : w.ownsRow base 3 1 v zs.length (irow zs)) (hm : zs.length ≤ 9223372036854775807) : PtsAt w.heap.size w v zs := by
  cases zs with
  | nil =>
    rcases h.2 with ⟨rfl, _⟩ | ⟨g, cap, cur, rfl, _⟩
    · exact .inl ⟨_, _, rfl, rfl⟩
    · exact .inl ⟨_, _, rfl, rfl⟩
  | cons z zs =>
    rcases h.2 with ⟨_, h0⟩ | ⟨g, cap, cur, rfl, hb, hg, hcap, hcap2, hsz, htk⟩
    · simp at h0
    · refine .inr ⟨g, 0, cap, rfl, (Array.getElem?_eq_some_iff.1 hg).1, hcap, by unfold maxLen at hcap2; omega, fun j hj => ?_⟩
      rw [Nat.zero_add]
      have hc := cell_of_row w g j cur 3 (0, 0) hg
      rw [hc]
      have h1 : (irow (z :: zs))[j]? = some (.int .i64 (ptAt (z :: zs) j)) := irow_get _ j hj
      rw [← htk, List.getElem?_take_of_lt (by omega)] at h1
      simpa using h1
end Go.Proofs.YtkpfachmakfncaaGreatDoor
