/-
  Members, their points; the walk of the program's Points.
  The walk of the program's Points.
  The reference's total and Points.
  The reference's Points.
  The reference's Ints, Same; the law's lists.
  Small functions, and sanity.
-/
import Derived.Test.YtkpfachmakfncaaGreatDoorPk12
import Derived.Deep.OwnRows
import Derived.OneCell
namespace Go.Proofs.YtkpfachmakfncaaGreatDoor
open Go.RowKit

/-- A member: Id, Weight, Public. -/
structure Mb where
  id : Int
  wt : Int
  pb : Int
def mbAt (l : List Mb) (j : Nat) : Mb := l.getD j ⟨0, 0, 0⟩
def ids (l : List Mb) : List Int := l.map Mb.id
theorem ptAt_ids (l : List Mb) (j : Nat) : ptAt (ids l) j = (mbAt l j).id := by
  unfold ptAt ids mbAt
  simp only [List.getD, List.getElem?_map]
  cases l[j]? <;> rfl
structure MbsW (l : List Mb) : Prop where
  wf : ∀ j, (-9223372036854775808 ≤ (mbAt l j).id ∧ (mbAt l j).id ≤ 9223372036854775807) ∧ (-9223372036854775808 ≤ (mbAt l j).wt ∧ (mbAt l j).wt ≤ 9223372036854775807)
/-- Members in a slice. -/
def MbsAt (W : World) (sv : Value) (l : List Mb) : Prop :=
  (∃ a c, sv = .slice a 0 c ∧ l = []) ∨ ∃ b off cap, sv = .slice (some ⟨b, off, none⟩) l.length cap ∧ b < W.heap.size ∧ l.length ≤ cap ∧ cap ≤ 9223372036854775807 ∧
    ∀ j, j < l.length → W.cell? ⟨b, off + j * 3, none⟩ = some (.int .i64 (mbAt l j).id) ∧ W.cell? ⟨b, off + j * 3 + 1, none⟩ = some (.int .i64 (mbAt l j).wt) ∧ W.cell? ⟨b, off + j * 3 + 2, none⟩ = some (.int .i64 (mbAt l j).pb)
theorem MbsAt.only {A B : World} (h : Only (fun _ => False) A B) {sv : Value} {l : List Mb} : MbsAt A sv l → MbsAt B sv l
  | .inl e => .inl e
  | .inr ⟨b, off, cap, e, hb, h1, h2, hc⟩ => .inr ⟨b, off, cap, e, Nat.lt_of_lt_of_le hb h.size, h1, h2, fun j hj => ⟨h.cell (hc j hj).1 (fun h => h), h.cell (hc j hj).2.1 (fun h => h), h.cell (hc j hj).2.2 (fun h => h)⟩⟩

/-- Are the first k right? -/
def mbOk (l : List Mb) : Nat → Bool
  | 0 => true
  | k + 1 => mbOk l k && (!inTo (ids l) k (mbAt l k).id && (decide (1 ≤ (mbAt l k).wt) && decide ((mbAt l k).wt ≤ 20)))
def sumTo (l : List Mb) : Nat → Int
  | 0 => 0
  | k + 1 => sumTo l k + (mbAt l k).wt
def rightB (l : List Mb) : Bool := decide (1 ≤ l.length) && decide (l.length ≤ 13) && (mbOk l l.length && decide (sumTo l l.length ≤ 60))
/-- n numbers from s + 1 on. -/
def upI (s : Int) : Nat → List Int
  | 0 => []
  | k + 1 => upI s k ++ [s + k + 1]
theorem upI_len (s : Int) (k : Nat) : (upI s k).length = k := by
  induction k with
  | zero => rfl
  | succ k ih => rw [upI, List.length_append, ih]; rfl
def rowsAt (l : List Mb) (i : Nat) : List Int := upI (sumTo l i) (mbAt l i).wt.toNat
def pointsOf (l : List Mb) : List (List Int) := (List.range l.length).map (rowsAt l)
theorem mbOk_false (l : List Mb) : ∀ (k j : Nat), j ≤ k → mbOk l j = false → mbOk l k = false := by
  intro k
  induction k with
  | zero => intro j hj h; rw [show j = 0 by omega] at h; exact h
  | succ k ih =>
    intro j hj h
    by_cases e : j = k + 1
    · rw [← e]; exact h
    · rw [mbOk, ih j (by omega) h]; rfl
theorem mbOk_wt (l : List Mb) : ∀ k, mbOk l k = true → (∀ j, j < k → 1 ≤ (mbAt l j).wt ∧ (mbAt l j).wt ≤ 20) ∧ (∀ j, j ≤ k → 0 ≤ sumTo l j ∧ sumTo l j ≤ 20 * j) := by
  intro k
  induction k with
  | zero => intro _; exact ⟨fun j hj => by omega, fun j hj => by rw [show j = 0 by omega]; simp [sumTo]⟩
  | succ k ih =>
    intro h
    rw [mbOk] at h
    simp only [Bool.and_eq_true, decide_eq_true_eq] at h
    obtain ⟨h1, _, h3, h4⟩ := h
    have h5 := ih h1
    refine ⟨fun j hj => ?_, fun j hj => ?_⟩
    · by_cases e : j = k
      · subst e; exact ⟨h3, h4⟩
      · exact h5.1 j (by omega)
    · by_cases e : j = k + 1
      · subst e
        have := h5.2 k (Nat.le_refl _)
        rw [sumTo]; omega
      · exact h5.2 j (by omega)
/-- A slice of lists. -/
def GridAt (W : World) (v : Value) (rows : List (List Int)) : Prop :=
  (∃ a c, v = .slice a 0 c ∧ rows = []) ∨ ∃ b off cap, v = .slice (some ⟨b, off, none⟩) rows.length cap ∧ b < W.heap.size ∧ rows.length ≤ cap ∧ cap ≤ 9223372036854775807 ∧
    ∀ j, j < rows.length → ∃ u, W.cell? ⟨b, off + j, none⟩ = some u ∧ PtsAt W.heap.size W u (rows.getD j [])
theorem GridAt.only {A B : World} (h : Only (fun _ => False) A B) {sv : Value} {l : List (List Int)} : GridAt A sv l → GridAt B sv l
  | .inl e => .inl e
  | .inr ⟨b, off, cap, e, hb, h1, h2, hc⟩ => .inr ⟨b, off, cap, e, Nat.lt_of_lt_of_le hb h.size, h1, h2, fun j hj => by
      obtain ⟨u, hu, hp⟩ := hc j hj
      exact ⟨u, h.cell hu (fun h => h), hp.only h⟩⟩

/-- Rows that are being built in a block. -/
structure Build (w wr : World) (base g n : Nat) (vs : Nat → Value) (rows : Nat → List Int) : Prop where
  row : wr.rowIs g 22 n vs
  own : ∀ j, j < n → wr.ownsRow base 3 1 (vs j) (rows j).length (irow (rows j))
  ne : ∀ i j, i < n → j < n → i ≠ j → ∀ b, (vs i).ownBlock = some b → (vs j).ownBlock ≠ some b
  far : ∀ j, j < n → (vs j).ownBlock ≠ some g
  only : Only (fun _ => False) w wr
  low : w.heap.size ≤ base
  gl : w.heap.size ≤ g
theorem Build.frame {w wr w' : World} {base g n : Nat} {vs : Nat → Value} {rows : Nat → List Int} (h : Build w wr base g n vs rows) (hO : Only (fun _ => False) wr w') : Build w w' base g n vs rows :=
  ⟨h.row.of_block (hO.block g h.row.lt (fun h => h)), fun j hj => hO.owns (h.own j hj) (fun _ _ h => h), h.ne, h.far, h.only.trans hO, h.low, h.gl⟩
theorem Build.push {w wn w' : World} {base g n k : Nat} {x : Int} {vs : Nat → Value} {rows : Nat → List Int} (h : Build w wn base g n vs rows) (hk : k < n) {b cap : Nat}
    (hown : w'.ownsRow base 3 1 (.slice (some ⟨b, 0, none⟩) ((rows k).length + 1) cap) ((rows k).length + 1) (irow (rows k) ++ [.int .i64 x])) (hg : wn.grownBy w' (vs k).ownBlock) (hat : (vs k).ownBlock = some b ∨ b = wn.heap.size) :
    Build w (w'.setCell ⟨g, k, none⟩ (.slice (some ⟨b, 0, none⟩) ((rows k).length + 1) cap)) base g n (fun j => if j = k then .slice (some ⟨b, 0, none⟩) ((rows k).length + 1) cap else vs j) (fun j => if j = k then rows k ++ [x] else rows j) := by
  have hO : Only (fun i => (vs k).ownBlock = some i) wn w' := (Only.refl _ wn).grown hg (fun i e _ => e)
  have hgl := h.row.lt
  have hbg : b ≠ g := by
    rcases hat with hat | hat
    · intro e; subst e; exact h.far k hk hat
    · omega
  have hrow : w'.rowIs g 22 n vs := h.row.of_block (hO.block g hgl (h.far k hk))
  have hob : (Value.slice (some ⟨b, 0, none⟩) ((rows k).length + 1) cap).ownBlock = some b := rfl
  refine ⟨hrow.set k _, fun j hj => ?_, fun i j hi hj hne c hc => ?_, fun j hj => ?_, ?_, h.low, h.gl⟩
  · by_cases e : j = k
    · subst e
      simp only [if_pos]
      refine ownsRow_setCell_other ?_ (by rw [hob]; simpa using hbg) _
      rw [List.length_append, List.length_singleton, irow_append]; exact hown
    · simp only [if_neg e]
      refine ownsRow_setCell_other (hO.owns (h.own j hj) (fun c hc e2 => h.ne k j hk hj (Ne.symm e) c e2 hc)) (by simpa using h.far j hj) _
  · by_cases e : i = k
    · subst e
      simp only [if_pos] at hc
      rw [if_neg (Ne.symm hne)]
      rw [hob] at hc
      obtain rfl : b = c := by simpa using hc
      intro e2
      rcases hat with hat | hat
      · exact h.ne i j hi hj hne b hat e2
      · have := (own_lt (h.own j hj) e2).1; omega
    · simp only [if_neg e] at hc
      by_cases e2 : j = k
      · subst e2
        simp only [if_pos]
        rw [hob]
        intro e3
        obtain rfl : b = c := by simpa using e3
        rcases hat with hat | hat
        · exact h.ne i j hi hj hne b hc hat
        · have := (own_lt (h.own i hi) hc).1; omega
      · simp only [if_neg e2]
        exact h.ne i j hi hj hne c hc
  · by_cases e : j = k
    · subst e
      simp only [if_pos]
      rw [hob]; simpa using hbg
    · simp only [if_neg e]; exact h.far j hj
  · exact (h.only.trans' hO (fun i hi e => by have := (own_lt (h.own k hk) e).2; have := h.low; omega)).setCell (.inr h.gl) _
theorem Build.congr {w wr : World} {base g n : Nat} {vs : Nat → Value} {rows rows' : Nat → List Int} (h : Build w wr base g n vs rows) (e : ∀ j, j < n → rows j = rows' j) : Build w wr base g n vs rows' :=
  ⟨h.row, fun j hj => by rw [← e j hj]; exact h.own j hj, h.ne, h.far, h.only, h.low, h.gl⟩
theorem Build.grid {w wr : World} {base g n : Nat} {vs : Nat → Value} {rows : List (List Int)} (h : Build w wr base g n vs (fun j => rows.getD j [])) (hn : rows.length = n) (hm : n ≤ 9223372036854775807) (hr : ∀ j, j < n → (rows.getD j []).length ≤ 9223372036854775807) :
    GridAt wr (.slice (some ⟨g, 0, none⟩) n n) rows := by
  subst hn
  refine .inr ⟨g, 0, rows.length, rfl, h.row.lt, Nat.le_refl _, hm, fun j hj => ⟨vs j, by rw [Nat.zero_add]; exact h.row.cell hj, pts_of_own (h.own j hj) (hr j hj)⟩⟩
end Go.Proofs.YtkpfachmakfncaaGreatDoor

namespace Go.Proofs.YtkpfachmakfncaaGreatDoor
open Go.RowKit

theorem Tryz.infoI2 : (Tryz.prog.info? 22).map (fun i => (i.zero, i.size, i.bytes)) = some (some (.slice none 0 0), 1, 24) := by kernel_rfl
/-- What Points leaves. -/
def PtsPost (w : World) (l : List Mb) (e : Ending) (w' : World) : Prop :=
  Only (fun _ => False) w w' ∧ ((rightB l = true ∧ ∃ v, e = .returned (.tuple #[v, .bool true]) ∧ GridAt w' v (pointsOf l)) ∨ (rightB l = false ∧ e = .returned (.tuple #[.slice none 0 0, .bool false])))
theorem pointsOf_at (l : List Mb) (j : Nat) (h : j < l.length) : (pointsOf l).getD j [] = rowsAt l j := by
  unfold pointsOf; simp [List.getD, h]
theorem pointsOf_len (l : List Mb) : (pointsOf l).length = l.length := by unfold pointsOf; simp

theorem Build.push' {w wn w' : World} {base g n k t : Nat} {x : Int} {vs : Nat → Value} {rows rows' : Nat → List Int} (h : Build w wn base g n vs rows) (hk : k < n) (r : List Int) (hr : rows k = r) (ht : r.length = t) {b cap : Nat}
    (hown : w'.ownsRow base 3 1 (.slice (some ⟨b, 0, none⟩) (t + 1) cap) (t + 1) (irow r ++ [.int .i64 x])) (hg : wn.grownBy w' (vs k).ownBlock) (hat : (vs k).ownBlock = some b ∨ b = wn.heap.size) (hrr : ∀ j, j < n → (if j = k then r ++ [x] else rows j) = rows' j) :
    Build w (w'.setCell ⟨g, k, none⟩ (.slice (some ⟨b, 0, none⟩) (t + 1) cap)) base g n (fun j => if j = k then .slice (some ⟨b, 0, none⟩) (t + 1) cap else vs j) rows' := by
  subst hr ht
  exact (h.push hk hown hg hat).congr hrr
/-- The rows while row k is at t. -/
def rowsIn (l : List Mb) (k t : Nat) (j : Nat) : List Int := if j < k then rowsAt l j else if j = k then upI (sumTo l k) t else []
theorem rowsIn_at (l : List Mb) (k t : Nat) : rowsIn l k t k = upI (sumTo l k) t := by unfold rowsIn; rw [if_neg (by omega), if_pos rfl]
theorem rowsIn_step (l : List Mb) (k t j : Nat) : (if j = k then upI (sumTo l k) t ++ [sumTo l k + t + 1] else rowsIn l k t j) = rowsIn l k (t + 1) j := by
  unfold rowsIn
  by_cases e : j = k
  · subst e; rw [if_pos rfl, if_neg (by omega), if_pos rfl]; rfl
  · rw [if_neg e, if_neg e, if_neg e]
theorem rowsIn_next (l : List Mb) (k j : Nat) : rowsIn l k (mbAt l k).wt.toNat j = rowsIn l (k + 1) 0 j := by
  unfold rowsIn
  by_cases h1 : j < k
  · rw [if_pos h1, if_pos (by omega)]
  · by_cases e : j = k
    · subst e; rw [if_neg h1, if_pos rfl, if_pos (by omega)]; rfl
    · rw [if_neg h1, if_neg e, if_neg (by omega)]
      split <;> rfl
theorem rowsIn_done (l : List Mb) (j : Nat) (h : j < l.length) : rowsIn l l.length 0 j = (pointsOf l).getD j [] := by
  unfold rowsIn; rw [if_pos h, pointsOf_at l j h]

end Go.Proofs.YtkpfachmakfncaaGreatDoor

namespace Go.Proofs.YtkpfachmakfncaaGreatDoor
open Go.RowKit

theorem inTo_mono (zs : List Int) (z : Int) {k j : Nat} (h : j ≤ k) : inTo zs j z = true → inTo zs k z = true := by
  induction k with
  | zero => intro h1; rw [show j = 0 by omega] at h1; exact h1
  | succ k ih =>
    intro h1
    by_cases e : j = k + 1
    · rw [← e]; exact h1
    · rw [inTo, ih (by omega) h1]; simp
def totZ (l : List Mb) : Int := if rightB l then sumTo l l.length else 0
theorem rightB_spec {l : List Mb} (h : rightB l = true) : 1 ≤ l.length ∧ l.length ≤ 13 ∧ mbOk l l.length = true ∧ sumTo l l.length ≤ 60 := by
  unfold rightB at h
  simp only [Bool.and_eq_true, decide_eq_true_eq] at h
  exact ⟨h.1.1, h.1.2, h.2.1, h.2.2⟩
theorem sumTo_pos (l : List Mb) : ∀ k, mbOk l k = true → (k : Int) ≤ sumTo l k := by
  intro k
  induction k with
  | zero => intro _; simp [sumTo]
  | succ k ih =>
    intro h
    have h1 := (mbOk_wt l (k + 1) h).1 k (by omega)
    have h2 : mbOk l k = true := by
      cases e : mbOk l k
      · rw [mbOk_false l (k + 1) k (by omega) e] at h; exact h
      · rfl
    have := ih h2
    rw [sumTo]; omega
theorem totZ_pos {l : List Mb} (h : rightB l = true) : 1 ≤ totZ l ∧ totZ l ≤ 60 := by
  obtain ⟨h1, _, h3, h4⟩ := rightB_spec h
  have := sumTo_pos l l.length h3
  unfold totZ; rw [if_pos h]; omega

end Go.Proofs.YtkpfachmakfncaaGreatDoor

namespace Go.Proofs.YtkpfachmakfncaaGreatDoor
open Go.RowKit

/-- Rows that are collected, and the row that is being made. -/
structure Coll (w wr : World) (base : Nat) (v : Value) (us : List Value) (rows : List (List Int)) (o : Value) (r : List Int) : Prop where
  out : wr.ownsRow base 22 1 v us.length us
  len : us.length = rows.length
  own : ∀ j, j < us.length → wr.ownsRow base 3 1 (us.getD j undef) (rows.getD j []).length (irow (rows.getD j []))
  cur : wr.ownsRow base 3 1 o r.length (irow r)
  f1 : ∀ b, v.ownBlock = some b → o.ownBlock ≠ some b
  f2 : ∀ b, v.ownBlock = some b → ∀ j, j < us.length → (us.getD j undef).ownBlock ≠ some b
  f3 : ∀ b, o.ownBlock = some b → ∀ j, j < us.length → (us.getD j undef).ownBlock ≠ some b
  only : Only (fun _ => False) w wr
  low : w.heap.size ≤ base
theorem Coll.frame {w wr w' : World} {base : Nat} {v o : Value} {us : List Value} {rows : List (List Int)} {r : List Int} (h : Coll w wr base v us rows o r) (hO : Only (fun _ => False) wr w') : Coll w w' base v us rows o r :=
  ⟨hO.owns h.out (fun _ _ h => h), h.len, fun j hj => hO.owns (h.own j hj) (fun _ _ h => h), hO.owns h.cur (fun _ _ h => h), h.f1, h.f2, h.f3, h.only.trans hO, h.low⟩
theorem Coll.grow {w wn w' : World} {base t : Nat} {v o : Value} {us : List Value} {rows : List (List Int)} {r : List Int} (h : Coll w wn base v us rows o r) (ht : r.length = t) {g cap : Nat} {x : Int}
    (hown : w'.ownsRow base 3 1 (.slice (some ⟨g, 0, none⟩) (t + 1) cap) (t + 1) (irow r ++ [.int .i64 x])) (hg : wn.grownBy w' o.ownBlock) (hat : o.ownBlock = some g ∨ g = wn.heap.size) :
    Coll w w' base v us rows (.slice (some ⟨g, 0, none⟩) (t + 1) cap) (r ++ [x]) := by
  subst ht
  have hO : Only (fun k => o.ownBlock = some k) wn w' := (Only.refl _ wn).grown hg (fun k e _ => e)
  have e : ∀ k, (Value.slice (some ⟨g, 0, none⟩) (r.length + 1) cap).ownBlock = some k → k = g := fun k hk => by simpa [Value.ownBlock] using hk.symm
  refine ⟨hO.owns h.out (fun k hv ho => h.f1 k hv ho), h.len, fun j hj => hO.owns (h.own j hj) (fun k hu ho => h.f3 k ho j hj hu), by rw [List.length_append, List.length_singleton, irow_append]; exact hown, ?_, h.f2, ?_, ?_, h.low⟩
  · intro b hb he
    obtain rfl := e b he
    rcases hat with hat | hat
    · exact h.f1 b hb hat
    · have := (own_lt h.out hb).1; omega
  · intro b he j hj hu
    obtain rfl := e b he
    rcases hat with hat | hat
    · exact h.f3 b hat j hj hu
    · have := (own_lt (h.own j hj) hu).1; omega
  · exact h.only.trans' hO (fun i hi hp => by have := (own_lt h.cur hp).2; have := h.low; omega)
theorem getD_snoc {α : Type} (a : List α) (x d : α) (j : Nat) : (a ++ [x]).getD j d = if j < a.length then a.getD j d else if j = a.length then x else d := by
  simp only [List.getD]
  split
  · rename_i h; rw [List.getElem?_append_left h]
  · split
    · rename_i h1 h2; subst h2; simp
    · rename_i h1 h2; rw [List.getElem?_eq_none (by simp; omega)]; rfl
theorem Coll.shut {w wn w' : World} {base n : Nat} {v o : Value} {us : List Value} {rows : List (List Int)} {r : List Int} (h : Coll w wn base v us rows o r) (hn : us.length = n) {g cap : Nat}
    (hown : w'.ownsRow base 22 1 (.slice (some ⟨g, 0, none⟩) (n + 1) cap) (n + 1) (us ++ [o])) (hg : wn.grownBy w' v.ownBlock) (hat : v.ownBlock = some g ∨ g = wn.heap.size) :
    Coll w w' base (.slice (some ⟨g, 0, none⟩) (n + 1) cap) (us ++ [o]) (rows ++ [r]) (.slice none 0 0) [] := by
  subst hn
  have hO : Only (fun k => v.ownBlock = some k) wn w' := (Only.refl _ wn).grown hg (fun k e _ => e)
  have e : ∀ k, (Value.slice (some ⟨g, 0, none⟩) (us.length + 1) cap).ownBlock = some k → k = g := fun k hk => by simpa [Value.ownBlock] using hk.symm
  refine ⟨by rw [List.length_append, List.length_singleton]; exact hown, by simp [h.len], fun j hj => ?_, World.ownsRow_nil _ _ _ _, fun b _ hb => by simp [Value.ownBlock] at hb, fun b he j hj hu => ?_, fun b hb => by simp [Value.ownBlock] at hb, ?_, h.low⟩
  · rw [List.length_append, List.length_singleton] at hj
    rw [getD_snoc, getD_snoc, ← h.len]
    by_cases h1 : j < us.length
    · rw [if_pos h1, if_pos h1]
      exact hO.owns (h.own j h1) (fun k hu hv => h.f2 k hv j h1 hu)
    · rw [if_neg h1, if_neg h1, if_pos (by omega), if_pos (by omega)]
      exact hO.owns h.cur (fun k ho hv => h.f1 k hv ho)
  · obtain rfl := e b he
    rw [List.length_append, List.length_singleton] at hj
    rw [getD_snoc] at hu
    by_cases h1 : j < us.length
    · rw [if_pos h1] at hu
      rcases hat with hat | hat
      · exact h.f2 b hat j h1 hu
      · have := (own_lt (h.own j h1) hu).1; omega
    · rw [if_neg h1, if_pos (by omega)] at hu
      rcases hat with hat | hat
      · exact h.f1 b hat hu
      · have := (own_lt h.cur hu).1; omega
  · exact h.only.trans' hO (fun i hi hp => by have := (own_lt h.out hp).2; have := h.low; omega)
theorem Coll.slices {w wr : World} {base : Nat} {v o : Value} {us : List Value} {rows : List (List Int)} {r : List Int} (h : Coll w wr base v us rows o r) : ∀ u ∈ us ++ [o], u.oneCell' = true := by
  intro u hu
  rw [List.mem_append] at hu
  rcases hu with hu | hu
  · obtain ⟨j, hj, rfl⟩ := List.mem_iff_getElem.1 hu
    obtain ⟨a, c, e⟩ := slice_of_own (h.own j hj)
    rw [show us.getD j undef = us[j] by simp [List.getD, hj]] at e
    rw [e]; rfl
  · simp at hu; subst hu
    obtain ⟨a, c, e⟩ := slice_of_own h.cur
    rw [e]; rfl
/-- Rows in a block, all of them from base on. -/
structure GridOwn (base : Nat) (W : World) (v : Value) (us : List Value) (rows : List (List Int)) : Prop where
  out : W.ownsRow base 22 1 v us.length us
  len : us.length = rows.length
  own : ∀ j, j < us.length → W.ownsRow base 3 1 (us.getD j undef) (rows.getD j []).length (irow (rows.getD j []))
  f2 : ∀ b, v.ownBlock = some b → ∀ j, j < us.length → (us.getD j undef).ownBlock ≠ some b
theorem GridOwn.grid {wr : World} {base : Nat} {v : Value} {us : List Value} {rows : List (List Int)} (h : GridOwn base wr v us rows) (hp : 0 < rows.length) (hr : ∀ j, j < rows.length → (rows.getD j []).length ≤ 9223372036854775807) : GridAt wr v rows := by
  rcases h.out.2 with ⟨_, h0⟩ | ⟨g, cap, cur, rfl, hb, hg, hcap, hcap2, hsz, htk⟩
  · have := h.len; omega
  · rw [h.len]
    refine .inr ⟨g, 0, cap, rfl, (Array.getElem?_eq_some_iff.1 hg).1, by rw [← h.len]; exact hcap, by unfold maxLen at hcap2; omega, fun j hj => ?_⟩
    have hj2 : j < us.length := by rw [h.len]; exact hj
    refine ⟨us.getD j undef, ?_, pts_of_own (h.own j hj2) (hr j hj)⟩
    rw [Nat.zero_add]
    have hc := cell_of_row wr g j cur 22 (0, 0) hg
    rw [hc]
    have h1 : us[j]? = some (us.getD j undef) := by simp [List.getD, hj2]
    rw [← h1, ← htk, List.getElem?_take_of_lt (by omega)]
    simp
theorem GridOwn.keep {S : Nat → Prop} {A B : World} {base : Nat} {v : Value} {us : List Value} {rows : List (List Int)} (h : GridOwn base A v us rows) (hO : Only S A B) (hS : ∀ k, base ≤ k → ¬ S k) : GridOwn base B v us rows :=
  ⟨hO.owns h.out (fun g hg => hS g (own_lt h.out hg).2), h.len, fun j hj => hO.owns (h.own j hj) (fun g hg => hS g (own_lt (h.own j hj) hg).2), h.f2⟩
theorem Coll.grid {w wr : World} {base : Nat} {v o : Value} {us : List Value} {rows : List (List Int)} {r : List Int} (h : Coll w wr base v us rows o r) : GridOwn base wr v us rows := ⟨h.out, h.len, h.own, h.f2⟩
/-- What Points leaves, with who owns it. -/
def RPtsPost (w : World) (l : List Mb) (e : Ending) (w' : World) : Prop :=
  Only (fun _ => False) w w' ∧ ((rightB l = true ∧ ∃ v us, e = .returned (.tuple #[v, .bool true]) ∧ GridOwn w.heap.size w' v us (pointsOf l)) ∨ (rightB l = false ∧ e = .returned (.tuple #[.slice none 0 0, .bool false])))

theorem rowsAt_len (l : List Mb) (j : Nat) : (rowsAt l j).length = (mbAt l j).wt.toNat := upI_len _ _
theorem pointsTo_snoc (l : List Mb) (k : Nat) : (List.range (k + 1)).map (rowsAt l) = (List.range k).map (rowsAt l) ++ [rowsAt l k] := by rw [List.range_succ, List.map_append]; rfl

theorem points_grid {base : Nat} {W : World} {v : Value} {us : List Value} {l : List Mb} (h : GridOwn base W v us (pointsOf l)) (hr : rightB l = true) : GridAt W v (pointsOf l) := by
  unfold rightB at hr
  simp only [Bool.and_eq_true, decide_eq_true_eq] at hr
  refine h.grid (by rw [pointsOf_len]; omega) (fun j hj => ?_)
  rw [pointsOf_len] at hj
  rw [pointsOf_at l j hj, rowsAt_len]
  have := ((mbOk_wt l l.length hr.2.1).1 j hj).2
  omega
end Go.Proofs.YtkpfachmakfncaaGreatDoor

namespace Go.Proofs.YtkpfachmakfncaaGreatDoor
open Go.RowKit

theorem ext_ptAt {xs ys : List Int} (hl : xs.length = ys.length) (h : ∀ j, j < xs.length → ptAt xs j = ptAt ys j) : xs = ys := by
  apply List.ext_getElem hl
  intro j h1 h2
  have := h j h1
  unfold ptAt at this
  simpa [List.getD, h1, h2] using this

theorem quiet_add_more {P : Program} {f : FuncId} {args : Array Value} {w : World} {a n : Nat} {v : Value}
    (h : ∀ k, Calls P f args (w.drewN k) fun e w' => e = .returned v ∧ ∃ m, w' = (w.drewN k).drewN m) :
    Calls P f args (w.drewN (a + n)) fun e w'' => e = .returned v ∧ ∃ m, w'' = w.drewN (a + m) :=
  (h (a + n)).mono fun _ _ ⟨he, m, hm⟩ => ⟨he, n + m, by rw [hm, World.drewN_drewN, Nat.add_assoc]⟩
theorem ext_getD {xs ys : List (List Int)} (hl : xs.length = ys.length) (h : ∀ j, j < xs.length → xs.getD j [] = ys.getD j []) : xs = ys := by
  apply List.ext_getElem hl
  intro j h1 h2
  have := h j h1
  simpa [List.getD, h1, h2] using this
theorem GridAt.slice {W : World} {v : Value} {rows : List (List Int)} (h : GridAt W v rows) : ∃ a c, v = .slice a rows.length c := by
  rcases h with ⟨a, c, rfl, rfl⟩ | ⟨b, off, cap, rfl, _⟩
  · exact ⟨_, _, rfl⟩
  · exact ⟨_, _, rfl⟩
/-- No list is longer than a machine's number. -/
def Short (rows : List (List Int)) : Prop := ∀ j, (rows.getD j []).length ≤ 9223372036854775807

end Go.Proofs.YtkpfachmakfncaaGreatDoor

namespace Go.Proofs.YtkpfachmakfncaaGreatDoor
open Go.RowKit

def mostZ (n : Int) : Int := if n < 1 then 0 else (n - 1) / 3
def needZ (n : Int) : Int := if n < 1 then 0 else mostZ n + 1
def mrow (l : List Mb) : List Value := l.flatMap (fun m => [.int .i64 m.id, .int .i64 m.wt, .int .i64 m.pb])
theorem mrow_append (a b : List Mb) : mrow (a ++ b) = mrow a ++ mrow b := by simp [mrow]
theorem mrow_at (l : List Mb) : ∀ j, j < l.length → (mrow l)[j * 3]? = some (.int .i64 (mbAt l j).id) ∧ (mrow l)[j * 3 + 1]? = some (.int .i64 (mbAt l j).wt) ∧ (mrow l)[j * 3 + 2]? = some (.int .i64 (mbAt l j).pb) := by
  induction l with
  | nil => intro j h; simp at h
  | cons s l ih =>
    intro j h
    cases j with
    | zero => simp [mrow, mbAt]
    | succ j =>
      have := ih j (by simpa using h)
      have e1 : (j + 1) * 3 = j * 3 + 3 := by omega
      rw [e1]
      simpa [mrow, mbAt] using this
/-- Members by weights, of the first k. -/
def wtsTo (zs : List Int) : Nat → List Mb
  | 0 => []
  | k + 1 => wtsTo zs k ++ [⟨1 + k, ptAt zs k, 0⟩]
theorem wtsTo_len (zs : List Int) (k : Nat) : (wtsTo zs k).length = k := by
  induction k with
  | zero => rfl
  | succ k ih => rw [wtsTo, List.length_append, ih]; rfl

theorem pts_lit (w : World) (zs : List Int) (T : TypeId) (h : zs.length ≤ 9223372036854775807) : PtsAt (w.alloc (.cells (irow zs).toArray T)).heap.size (w.alloc (.cells (irow zs).toArray T)) (.slice (some ⟨w.heap.size, 0, none⟩) zs.length zs.length) zs := by
  refine .inr ⟨w.heap.size, 0, zs.length, rfl, by simp, Nat.le_refl _, h, fun j hj => ?_⟩
  rw [Nat.zero_add, cell_of_row _ w.heap.size j (irow zs).toArray T (0, 0) (heap_alloc_new w _)]
  have := irow_get zs j hj
  simpa using this
theorem pts_at (w : World) (zs : List Int) (T : TypeId) (n : Nat) (hn : w.heap.size = n) (h : zs.length ≤ 9223372036854775807) : PtsAt (w.alloc (.cells (irow zs).toArray T)).heap.size (w.alloc (.cells (irow zs).toArray T)) (.slice (some ⟨n, 0, none⟩) zs.length zs.length) zs := by
  subst hn; exact pts_lit w zs T h
theorem shs_lit (w : World) (l : List (Int × Int)) (T : TypeId) (h : l.length ≤ 9223372036854775807) : ShsAt (w.alloc (.cells (srow l).toArray T)) (.slice (some ⟨w.heap.size, 0, none⟩) l.length l.length) l := by
  refine .inr ⟨w.heap.size, 0, l.length, rfl, by simp, Nat.le_refl _, h, fun j hj => ?_⟩
  rw [Nat.zero_add, cell_of_row _ w.heap.size (j * 2) (srow l).toArray T (0, 0) (heap_alloc_new w _), cell_of_row _ w.heap.size (j * 2 + 1) (srow l).toArray T (0, 0) (heap_alloc_new w _)]
  have := srow_at l j hj
  simpa using this
theorem small_shs {l : List (Int × Int)} (h : ∀ s ∈ l, (0 ≤ s.1 ∧ s.1 ≤ 9000000000000000000) ∧ (0 ≤ s.2 ∧ s.2 ≤ 9000000000000000000)) : ShsW l := by
  refine ⟨fun j => ?_⟩
  unfold shAt
  by_cases hj : j < l.length
  · have := h l[j] (List.getElem_mem hj)
    rw [show l.getD j (0, 0) = l[j] by simp [List.getD, hj]]
    omega
  · rw [show l.getD j (0, 0) = (0, 0) by simp [List.getD, List.getElem?_eq_none (by omega : l.length ≤ j)]]
    simp

theorem grid_lit (w : World) : GridAt ((((w.alloc (.cells #[.int .i64 1, .int .i64 2] 3)).alloc (.cells #[.int .i64 3] 3)).alloc (.cells #[.int .i64 4, .int .i64 5, .int .i64 6] 3)).alloc
      (.cells #[.slice (some ⟨w.heap.size, 0, none⟩) 2 2, .slice (some ⟨w.heap.size + 1, 0, none⟩) 1 1, .slice (some ⟨w.heap.size + 1 + 1, 0, none⟩) 3 3] 22)) (.slice (some ⟨w.heap.size + 1 + 1 + 1, 0, none⟩) 3 3) [[1, 2], [3], [4, 5, 6]] := by
  have p1 := pts_lit w [1, 2] 3 (by decide)
  have p2 := pts_at (w.alloc (.cells #[.int .i64 1, .int .i64 2] 3)) [3] 3 (w.heap.size + 1) (by simp) (by decide)
  have p3 := pts_at ((w.alloc (.cells #[.int .i64 1, .int .i64 2] 3)).alloc (.cells #[.int .i64 3] 3)) [4, 5, 6] 3 (w.heap.size + 1 + 1) (by simp) (by decide)
  have hn := heap_alloc_new (((w.alloc (.cells #[.int .i64 1, .int .i64 2] 3)).alloc (.cells #[.int .i64 3] 3)).alloc (.cells #[.int .i64 4, .int .i64 5, .int .i64 6] 3)) (.cells #[.slice (some ⟨w.heap.size, 0, none⟩) 2 2, .slice (some ⟨w.heap.size + 1, 0, none⟩) 1 1, .slice (some ⟨w.heap.size + 1 + 1, 0, none⟩) 3 3] 22)
  simp only [World.size_alloc] at hn
  refine .inr ⟨w.heap.size + 1 + 1 + 1, 0, 3, rfl, by simp, by decide, by decide, fun j hj => ?_⟩
  rw [Nat.zero_add, cell_of_row _ _ j _ _ _ hn]
  match j, hj with
  | 0, _ => exact ⟨_, rfl, p1.only ((((Only.refl _ _).alloc _).alloc _).alloc _)⟩
  | 1, _ => exact ⟨_, rfl, p2.only (((Only.refl _ _).alloc _).alloc _)⟩
  | 2, _ => exact ⟨_, rfl, p3.only ((Only.refl _ _).alloc _)⟩
theorem short_lit : Short [[1, 2], [3], [4, 5, 6]] := fun j => by
  match j with
  | 0 => decide
  | 1 => decide
  | 2 => decide
  | j + 3 => simp [List.getD]
theorem small_12 : IntsW [1, 2] := ⟨fun j => by
  match j with
  | 0 => decide
  | 1 => decide
  | j + 2 => simp [ptAt, List.getD]⟩

end Go.Proofs.YtkpfachmakfncaaGreatDoor
