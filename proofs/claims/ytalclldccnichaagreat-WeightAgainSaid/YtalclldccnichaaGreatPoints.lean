/-
  Members, their points; the walk of the program's Points.
-/
import Derived.Test.YtalclldccnichaaGreatRefJoin
import Derived.Deep.OwnRows
import Derived.OneCell
namespace Go.Proofs.YtalclldccnichaaGreat
open Go.RowKit

/-- A member: Id, Weight, Public. -/
structure Mb where
  id : Int
  wt : Int
  pb : Int
def mbAt (l : List Mb) (j : Nat) : Mb := l.getD j ⟨0, 0, 0⟩
def ids (l : List Mb) : List Int := l.map Mb.id
theorem ptAt_ids (l : List Mb) (j : Nat) : ptAt (ids l) j = (mbAt l j).id := by
  unfold ptAt ids mbAt
  simp only [List.getD, List.getElem?_map]
  cases l[j]? <;> rfl
structure MbsW (l : List Mb) : Prop where
  wf : ∀ j, (-9223372036854775808 ≤ (mbAt l j).id ∧ (mbAt l j).id ≤ 9223372036854775807) ∧ (-9223372036854775808 ≤ (mbAt l j).wt ∧ (mbAt l j).wt ≤ 9223372036854775807)
/-- Members in a slice. -/
def MbsAt (W : World) (sv : Value) (l : List Mb) : Prop :=
  (∃ a c, sv = .slice a 0 c ∧ l = []) ∨ ∃ b off cap, sv = .slice (some ⟨b, off, none⟩) l.length cap ∧ b < W.heap.size ∧ l.length ≤ cap ∧ cap ≤ 9223372036854775807 ∧
    ∀ j, j < l.length → W.cell? ⟨b, off + j * 3, none⟩ = some (.int .i64 (mbAt l j).id) ∧ W.cell? ⟨b, off + j * 3 + 1, none⟩ = some (.int .i64 (mbAt l j).wt) ∧ W.cell? ⟨b, off + j * 3 + 2, none⟩ = some (.int .i64 (mbAt l j).pb)
theorem MbsAt.only {A B : World} (h : Only (fun _ => False) A B) {sv : Value} {l : List Mb} : MbsAt A sv l → MbsAt B sv l
  | .inl e => .inl e
  | .inr ⟨b, off, cap, e, hb, h1, h2, hc⟩ => .inr ⟨b, off, cap, e, Nat.lt_of_lt_of_le hb h.size, h1, h2, fun j hj => ⟨h.cell (hc j hj).1 (fun h => h), h.cell (hc j hj).2.1 (fun h => h), h.cell (hc j hj).2.2 (fun h => h)⟩⟩

/-- Are the first k right? -/
def mbOk (l : List Mb) : Nat → Bool
  | 0 => true
  | k + 1 => mbOk l k && (!inTo (ids l) k (mbAt l k).id && (decide (1 ≤ (mbAt l k).wt) && decide ((mbAt l k).wt ≤ 20)))
def sumTo (l : List Mb) : Nat → Int
  | 0 => 0
  | k + 1 => sumTo l k + (mbAt l k).wt
def rightB (l : List Mb) : Bool := decide (1 ≤ l.length) && decide (l.length ≤ 13) && (mbOk l l.length && decide (sumTo l l.length ≤ 60))
/-- n numbers from s + 1 on. -/
def upI (s : Int) : Nat → List Int
  | 0 => []
  | k + 1 => upI s k ++ [s + k + 1]
theorem upI_len (s : Int) (k : Nat) : (upI s k).length = k := by
  induction k with
  | zero => rfl
  | succ k ih => rw [upI, List.length_append, ih]; rfl
def rowsAt (l : List Mb) (i : Nat) : List Int := upI (sumTo l i) (mbAt l i).wt.toNat
def pointsOf (l : List Mb) : List (List Int) := (List.range l.length).map (rowsAt l)
theorem mbOk_false (l : List Mb) : ∀ (k j : Nat), j ≤ k → mbOk l j = false → mbOk l k = false := by
  intro k
  induction k with
  | zero => intro j hj h; rw [show j = 0 by omega] at h; exact h
  | succ k ih =>
    intro j hj h
    by_cases e : j = k + 1
    · rw [← e]; exact h
    · rw [mbOk, ih j (by omega) h]; rfl
theorem mbOk_wt (l : List Mb) : ∀ k, mbOk l k = true → (∀ j, j < k → 1 ≤ (mbAt l j).wt ∧ (mbAt l j).wt ≤ 20) ∧ (∀ j, j ≤ k → 0 ≤ sumTo l j ∧ sumTo l j ≤ 20 * j) := by
  intro k
  induction k with
  | zero => intro _; exact ⟨fun j hj => by omega, fun j hj => by rw [show j = 0 by omega]; simp [sumTo]⟩
  | succ k ih =>
    intro h
    rw [mbOk] at h
    simp only [Bool.and_eq_true, decide_eq_true_eq] at h
    obtain ⟨h1, _, h3, h4⟩ := h
    have h5 := ih h1
    refine ⟨fun j hj => ?_, fun j hj => ?_⟩
    · by_cases e : j = k
      · subst e; exact ⟨h3, h4⟩
      · exact h5.1 j (by omega)
    · by_cases e : j = k + 1
      · subst e
        have := h5.2 k (Nat.le_refl _)
        rw [sumTo]; omega
      · exact h5.2 j (by omega)
/-- A slice of lists. -/
def GridAt (W : World) (v : Value) (rows : List (List Int)) : Prop :=
  (∃ a c, v = .slice a 0 c ∧ rows = []) ∨ ∃ b off cap, v = .slice (some ⟨b, off, none⟩) rows.length cap ∧ b < W.heap.size ∧ rows.length ≤ cap ∧ cap ≤ 9223372036854775807 ∧
    ∀ j, j < rows.length → ∃ u, W.cell? ⟨b, off + j, none⟩ = some u ∧ PtsAt W.heap.size W u (rows.getD j [])
theorem GridAt.only {A B : World} (h : Only (fun _ => False) A B) {sv : Value} {l : List (List Int)} : GridAt A sv l → GridAt B sv l
  | .inl e => .inl e
  | .inr ⟨b, off, cap, e, hb, h1, h2, hc⟩ => .inr ⟨b, off, cap, e, Nat.lt_of_lt_of_le hb h.size, h1, h2, fun j hj => by
      obtain ⟨u, hu, hp⟩ := hc j hj
      exact ⟨u, h.cell hu (fun h => h), hp.only h⟩⟩

/-- Rows that are being built in a block. -/
structure Build (w wr : World) (base g n : Nat) (vs : Nat → Value) (rows : Nat → List Int) : Prop where
  row : wr.rowIs g 22 n vs
  own : ∀ j, j < n → wr.ownsRow base 3 1 (vs j) (rows j).length (irow (rows j))
  ne : ∀ i j, i < n → j < n → i ≠ j → ∀ b, (vs i).ownBlock = some b → (vs j).ownBlock ≠ some b
  far : ∀ j, j < n → (vs j).ownBlock ≠ some g
  only : Only (fun _ => False) w wr
  low : w.heap.size ≤ base
  gl : w.heap.size ≤ g
theorem Build.frame {w wr w' : World} {base g n : Nat} {vs : Nat → Value} {rows : Nat → List Int} (h : Build w wr base g n vs rows) (hO : Only (fun _ => False) wr w') : Build w w' base g n vs rows :=
  ⟨h.row.of_block (hO.block g h.row.lt (fun h => h)), fun j hj => hO.owns (h.own j hj) (fun _ _ h => h), h.ne, h.far, h.only.trans hO, h.low, h.gl⟩
theorem Build.push {w wn w' : World} {base g n k : Nat} {x : Int} {vs : Nat → Value} {rows : Nat → List Int} (h : Build w wn base g n vs rows) (hk : k < n) {b cap : Nat}
    (hown : w'.ownsRow base 3 1 (.slice (some ⟨b, 0, none⟩) ((rows k).length + 1) cap) ((rows k).length + 1) (irow (rows k) ++ [.int .i64 x])) (hg : wn.grownBy w' (vs k).ownBlock) (hat : (vs k).ownBlock = some b ∨ b = wn.heap.size) :
    Build w (w'.setCell ⟨g, k, none⟩ (.slice (some ⟨b, 0, none⟩) ((rows k).length + 1) cap)) base g n (fun j => if j = k then .slice (some ⟨b, 0, none⟩) ((rows k).length + 1) cap else vs j) (fun j => if j = k then rows k ++ [x] else rows j) := by
  have hO : Only (fun i => (vs k).ownBlock = some i) wn w' := (Only.refl _ wn).grown hg (fun i e _ => e)
  have hgl := h.row.lt
  have hbg : b ≠ g := by
    rcases hat with hat | hat
    · intro e; subst e; exact h.far k hk hat
    · omega
  have hrow : w'.rowIs g 22 n vs := h.row.of_block (hO.block g hgl (h.far k hk))
  have hob : (Value.slice (some ⟨b, 0, none⟩) ((rows k).length + 1) cap).ownBlock = some b := rfl
  refine ⟨hrow.set k _, fun j hj => ?_, fun i j hi hj hne c hc => ?_, fun j hj => ?_, ?_, h.low, h.gl⟩
  · by_cases e : j = k
    · subst e
      simp only [if_pos]
      refine ownsRow_setCell_other ?_ (by rw [hob]; simpa using hbg) _
      rw [List.length_append, List.length_singleton, irow_append]; exact hown
    · simp only [if_neg e]
      refine ownsRow_setCell_other (hO.owns (h.own j hj) (fun c hc e2 => h.ne k j hk hj (Ne.symm e) c e2 hc)) (by simpa using h.far j hj) _
  · by_cases e : i = k
    · subst e
      simp only [if_pos] at hc
      rw [if_neg (Ne.symm hne)]
      rw [hob] at hc
      obtain rfl : b = c := by simpa using hc
      intro e2
      rcases hat with hat | hat
      · exact h.ne i j hi hj hne b hat e2
      · have := (own_lt (h.own j hj) e2).1; omega
    · simp only [if_neg e] at hc
      by_cases e2 : j = k
      · subst e2
        simp only [if_pos]
        rw [hob]
        intro e3
        obtain rfl : b = c := by simpa using e3
        rcases hat with hat | hat
        · exact h.ne i j hi hj hne b hc hat
        · have := (own_lt (h.own i hi) hc).1; omega
      · simp only [if_neg e2]
        exact h.ne i j hi hj hne c hc
  · by_cases e : j = k
    · subst e
      simp only [if_pos]
      rw [hob]; simpa using hbg
    · simp only [if_neg e]; exact h.far j hj
  · exact (h.only.trans' hO (fun i hi e => by have := (own_lt (h.own k hk) e).2; have := h.low; omega)).setCell (.inr h.gl) _
theorem Build.congr {w wr : World} {base g n : Nat} {vs : Nat → Value} {rows rows' : Nat → List Int} (h : Build w wr base g n vs rows) (e : ∀ j, j < n → rows j = rows' j) : Build w wr base g n vs rows' :=
  ⟨h.row, fun j hj => by rw [← e j hj]; exact h.own j hj, h.ne, h.far, h.only, h.low, h.gl⟩
theorem Build.grid {w wr : World} {base g n : Nat} {vs : Nat → Value} {rows : List (List Int)} (h : Build w wr base g n vs (fun j => rows.getD j [])) (hn : rows.length = n) (hm : n ≤ 9223372036854775807) (hr : ∀ j, j < n → (rows.getD j []).length ≤ 9223372036854775807) :
    GridAt wr (.slice (some ⟨g, 0, none⟩) n n) rows := by
  subst hn
  refine .inr ⟨g, 0, rows.length, rfl, h.row.lt, Nat.le_refl _, hm, fun j hj => ⟨vs j, by rw [Nat.zero_add]; exact h.row.cell hj, pts_of_own (h.own j hj) (hr j hj)⟩⟩
end Go.Proofs.YtalclldccnichaaGreat
