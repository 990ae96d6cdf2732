/-
  Members, their points; the walk of the program's Points.
  The walk of the program's Points.
  The reference's total and Points.
-/
import Derived.Test.YtldkjkjpaiajlaaGreatDoorPa13
import Derived.Deep.OwnRows
import Derived.OneCell
namespace Go.Proofs.YtldkjkjpaiajlaaGreatDoor
open Go.RowKit

/-- A member: Id, Weight, Public. -/
structure Mb where
  id : Int
  wt : Int
  pb : Int
def mbAt (l : List Mb) (j : Nat) : Mb := l.getD j ⟨0, 0, 0⟩
def ids (l : List Mb) : List Int := l.map Mb.id
theorem ptAt_ids (l : List Mb) (j : Nat) : ptAt (ids l) j = (mbAt l j).id := by
  unfold ptAt ids mbAt
  simp only [List.getD, List.getElem?_map]
  cases l[j]? <;> rfl
structure MbsW (l : List Mb) : Prop where
  wf : ∀ j, (-9223372036854775808 ≤ (mbAt l j).id ∧ (mbAt l j).id ≤ 9223372036854775807) ∧ (-9223372036854775808 ≤ (mbAt l j).wt ∧ (mbAt l j).wt ≤ 9223372036854775807)
/-- Members in a slice. -/
def MbsAt (W : World) (sv : Value) (l : List Mb) : Prop :=
  (∃ a c, sv = .slice a 0 c ∧ l = []) ∨ ∃ b off cap, sv = .slice (some ⟨b, off, none⟩) l.length cap ∧ b < W.heap.size ∧ l.length ≤ cap ∧ cap ≤ 9223372036854775807 ∧
    ∀ j, j < l.length → W.cell? ⟨b, off + j * 3, none⟩ = some (.int .i64 (mbAt l j).id) ∧ W.cell? ⟨b, off + j * 3 + 1, none⟩ = some (.int .i64 (mbAt l j).wt) ∧ W.cell? ⟨b, off + j * 3 + 2, none⟩ = some (.int .i64 (mbAt l j).pb)
theorem MbsAt.only {A B : World} (h : Only (fun _ => False) A B) {sv : Value} {l : List Mb} : MbsAt A sv l → MbsAt B sv l
  | .inl e => .inl e
  | .inr ⟨b, off, cap, e, hb, h1, h2, hc⟩ => .inr ⟨b, off, cap, e, Nat.lt_of_lt_of_le hb h.size, h1, h2, fun j hj => ⟨h.cell (hc j hj).1 (fun h => h), h.cell (hc j hj).2.1 (fun h => h), h.cell (hc j hj).2.2 (fun h => h)⟩⟩

/-- Are the first k right? -/
def mbOk (l : List Mb) : Nat → Bool
  | 0 => true
  | k + 1 => mbOk l k && (!inTo (ids l) k (mbAt l k).id && (decide (1 ≤ (mbAt l k).wt) && decide ((mbAt l k).wt ≤ 20)))
def sumTo (l : List Mb) : Nat → Int
  | 0 => 0
  | k + 1 => sumTo l k + (mbAt l k).wt
def rightB (l : List Mb) : Bool := decide (1 ≤ l.length) && decide (l.length ≤ 13) && (mbOk l l.length && decide (sumTo l l.length ≤ 60))
/-- n numbers from s + 1 on. -/
def upI (s : Int) : Nat → List Int
  | 0 => []
  | k + 1 => upI s k ++ [s + k + 1]
theorem upI_len (s : Int) (k : Nat) : (upI s k).length = k := by
  induction k with
  | zero => rfl
  | succ k ih => rw [upI, List.length_append, ih]; rfl
def rowsAt (l : List Mb) (i : Nat) : List Int := upI (sumTo l i) (mbAt l i).wt.toNat
def pointsOf (l : List Mb) : List (List Int) := (List.range l.length).map (rowsAt l)
theorem mbOk_false (l : List Mb) : ∀ (k j : Nat), j ≤ k → mbOk l j = false → mbOk l k = false := by
  intro k
  induction k with
  | zero => intro j hj h; rw [show j = 0 by omega] at h; exact h
  | succ k ih =>
    intro j hj h
    by_cases e : j = k + 1
    · rw [← e]; exact h
    · rw [mbOk, ih j (by omega) h]; rfl
theorem mbOk_wt (l : List Mb) : ∀ k, mbOk l k = true → (∀ j, j < k → 1 ≤ (mbAt l j).wt ∧ (mbAt l j).wt ≤ 20) ∧ (∀ j, j ≤ k → 0 ≤ sumTo l j ∧ sumTo l j ≤ 20 * j) := by
  intro k
  induction k with
  | zero => intro _; exact ⟨fun j hj => by omega, fun j hj => by rw [show j = 0 by omega]; simp [sumTo]⟩
  | succ k ih =>
    intro h
    rw [mbOk] at h
    simp only [Bool.and_eq_true, decide_eq_true_eq] at h
    obtain ⟨h1, _, h3, h4⟩ := h
    have h5 := ih h1
    refine ⟨fun j hj => ?_, fun j hj => ?_⟩
    · by_cases e : j = k
      · subst e; exact ⟨h3, h4⟩
      · exact h5.1 j (by omega)
    · by_cases e : j = k + 1
      · subst e
        have := h5.2 k (Nat.le_refl _)
        rw [sumTo]; omega
      · exact h5.2 j (by omega)
/-- A slice of lists. -/
def GridAt (W : World) (v : Value) (rows : List (List Int)) : Prop :=
  (∃ a c, v = .slice a 0 c ∧ rows = []) ∨ ∃ b off cap, v = .slice (some ⟨b, off, none⟩) rows.length cap ∧ b < W.heap.size ∧ rows.length ≤ cap ∧ cap ≤ 9223372036854775807 ∧
    ∀ j, j < rows.length → ∃ u, W.cell? ⟨b, off + j, none⟩ = some u ∧ PtsAt W.heap.size W u (rows.getD j [])
theorem GridAt.only {A B : World} (h : Only (fun _ => False) A B) {sv : Value} {l : List (List Int)} : GridAt A sv l → GridAt B sv l
  | .inl e => .inl e
  | .inr ⟨b, off, cap, e, hb, h1, h2, hc⟩ => .inr ⟨b, off, cap, e, Nat.lt_of_lt_of_le hb h.size, h1, h2, fun j hj => by
      obtain ⟨u, hu, hp⟩ := hc j hj
      exact ⟨u, h.cell hu (fun h => h), hp.only h⟩⟩

/-- Rows that are being built in a block. -/
structure Build (w wr : World) (base g n : Nat) (vs : Nat → Value) (rows : Nat → List Int) : Prop where
  row : wr.rowIs g 26 n vs
  own : ∀ j, j < n → wr.ownsRow base 3 1 (vs j) (rows j).length (irow (rows j))
  ne : ∀ i j, i < n → j < n → i ≠ j → ∀ b, (vs i).ownBlock = some b → (vs j).ownBlock ≠ some b
  far : ∀ j, j < n → (vs j).ownBlock ≠ some g
  only : Only (fun _ => False) w wr
  low : w.heap.size ≤ base
  gl : w.heap.size ≤ g
theorem Build.frame {w wr w' : World} {base g n : Nat} {vs : Nat → Value} {rows : Nat → List Int} (h : Build w wr base g n vs rows) (hO : Only (fun _ => False) wr w') : Build w w' base g n vs rows :=
  ⟨h.row.of_block (hO.block g h.row.lt (fun h => h)), fun j hj => hO.owns (h.own j hj) (fun _ _ h => h), h.ne, h.far, h.only.trans hO, h.low, h.gl⟩
theorem Build.push {w wn w' : World} {base g n k : Nat} {x : Int} {vs : Nat → Value} {rows : Nat → List Int} (h : Build w wn base g n vs rows) (hk : k < n) {b cap : Nat}
    (hown : w'.ownsRow base 3 1 (.slice (some ⟨b, 0, none⟩) ((rows k).length + 1) cap) ((rows k).length + 1) (irow (rows k) ++ [.int .i64 x])) (hg : wn.grownBy w' (vs k).ownBlock) (hat : (vs k).ownBlock = some b ∨ b = wn.heap.size) :
    Build w (w'.setCell ⟨g, k, none⟩ (.slice (some ⟨b, 0, none⟩) ((rows k).length + 1) cap)) base g n (fun j => if j = k then .slice (some ⟨b, 0, none⟩) ((rows k).length + 1) cap else vs j) (fun j => if j = k then rows k ++ [x] else rows j) := by
  have hO : Only (fun i => (vs k).ownBlock = some i) wn w' := (Only.refl _ wn).grown hg (fun i e _ => e)
  have hgl := h.row.lt
  have hbg : b ≠ g := by
    rcases hat with hat | hat
    · intro e; subst e; exact h.far k hk hat
    · omega
  have hrow : w'.rowIs g 26 n vs := h.row.of_block (hO.block g hgl (h.far k hk))
  have hob : (Value.slice (some ⟨b, 0, none⟩) ((rows k).length + 1) cap).ownBlock = some b := rfl
  refine ⟨hrow.set k _, fun j hj => ?_, fun i j hi hj hne c hc => ?_, fun j hj => ?_, ?_, h.low, h.gl⟩
  · by_cases e : j = k
    · subst e
      simp only [if_pos]
      refine ownsRow_setCell_other ?_ (by rw [hob]; simpa using hbg) _
      rw [List.length_append, List.length_singleton, irow_append]; exact hown
    · simp only [if_neg e]
      refine ownsRow_setCell_other (hO.owns (h.own j hj) (fun c hc e2 => h.ne k j hk hj (Ne.symm e) c e2 hc)) (by simpa using h.far j hj) _
  · by_cases e : i = k
    · subst e
      simp only [if_pos] at hc
      rw [if_neg (Ne.symm hne)]
      rw [hob] at hc
      obtain rfl : b = c := by simpa using hc
      intro e2
      rcases hat with hat | hat
      · exact h.ne i j hi hj hne b hat e2
      · have := (own_lt (h.own j hj) e2).1; omega
    · simp only [if_neg e] at hc
      by_cases e2 : j = k
      · subst e2
        simp only [if_pos]
        rw [hob]
        intro e3
        obtain rfl : b = c := by simpa using e3
        rcases hat with hat | hat
        · exact h.ne i j hi hj hne b hc hat
        · have := (own_lt (h.own i hi) hc).1; omega
      · simp only [if_neg e2]
        exact h.ne i j hi hj hne c hc
  · by_cases e : j = k
    · subst e
      simp only [if_pos]
      rw [hob]; simpa using hbg
    · simp only [if_neg e]; exact h.far j hj
  · exact (h.only.trans' hO (fun i hi e => by have := (own_lt (h.own k hk) e).2; have := h.low; omega)).setCell (.inr h.gl) _
theorem Build.congr {w wr : World} {base g n : Nat} {vs : Nat → Value} {rows rows' : Nat → List Int} (h : Build w wr base g n vs rows) (e : ∀ j, j < n → rows j = rows' j) : Build w wr base g n vs rows' :=
  ⟨h.row, fun j hj => by rw [← e j hj]; exact h.own j hj, h.ne, h.far, h.only, h.low, h.gl⟩
theorem Build.grid {w wr : World} {base g n : Nat} {vs : Nat → Value} {rows : List (List Int)} (h : Build w wr base g n vs (fun j => rows.getD j [])) (hn : rows.length = n) (hm : n ≤ 9223372036854775807) (hr : ∀ j, j < n → (rows.getD j []).length ≤ 9223372036854775807) :
    GridAt wr (.slice (some ⟨g, 0, none⟩) n n) rows := by
  subst hn
  refine .inr ⟨g, 0, rows.length, rfl, h.row.lt, Nat.le_refl _, hm, fun j hj => ⟨vs j, by rw [Nat.zero_add]; exact h.row.cell hj, pts_of_own (h.own j hj) (hr j hj)⟩⟩
end Go.Proofs.YtldkjkjpaiajlaaGreatDoor

namespace Go.Proofs.YtldkjkjpaiajlaaGreatDoor
open Go.RowKit

theorem Tryz.infoI2 : (Tryz.prog.info? 26).map (fun i => (i.zero, i.size, i.bytes)) = some (some (.slice none 0 0), 1, 24) := by kernel_rfl
/-- What Points leaves. -/
def PtsPost (w : World) (l : List Mb) (e : Ending) (w' : World) : Prop :=
  Only (fun _ => False) w w' ∧ ((rightB l = true ∧ ∃ v, e = .returned (.tuple #[v, .bool true]) ∧ GridAt w' v (pointsOf l)) ∨ (rightB l = false ∧ e = .returned (.tuple #[.slice none 0 0, .bool false])))
theorem pointsOf_at (l : List Mb) (j : Nat) (h : j < l.length) : (pointsOf l).getD j [] = rowsAt l j := by
  unfold pointsOf; simp [List.getD, h]
theorem pointsOf_len (l : List Mb) : (pointsOf l).length = l.length := by unfold pointsOf; simp

theorem Build.push' {w wn w' : World} {base g n k t : Nat} {x : Int} {vs : Nat → Value} {rows rows' : Nat → List Int} (h : Build w wn base g n vs rows) (hk : k < n) (r : List Int) (hr : rows k = r) (ht : r.length = t) {b cap : Nat}
    (hown : w'.ownsRow base 3 1 (.slice (some ⟨b, 0, none⟩) (t + 1) cap) (t + 1) (irow r ++ [.int .i64 x])) (hg : wn.grownBy w' (vs k).ownBlock) (hat : (vs k).ownBlock = some b ∨ b = wn.heap.size) (hrr : ∀ j, j < n → (if j = k then r ++ [x] else rows j) = rows' j) :
    Build w (w'.setCell ⟨g, k, none⟩ (.slice (some ⟨b, 0, none⟩) (t + 1) cap)) base g n (fun j => if j = k then .slice (some ⟨b, 0, none⟩) (t + 1) cap else vs j) rows' := by
  subst hr ht
  exact (h.push hk hown hg hat).congr hrr
/-- The rows while row k is at t. -/
def rowsIn (l : List Mb) (k t : Nat) (j : Nat) : List Int := if j < k then rowsAt l j else if j = k then upI (sumTo l k) t else []
theorem rowsIn_at (l : List Mb) (k t : Nat) : rowsIn l k t k = upI (sumTo l k) t := by unfold rowsIn; rw [if_neg (by omega), if_pos rfl]
theorem rowsIn_step (l : List Mb) (k t j : Nat) : (if j = k then upI (sumTo l k) t ++ [sumTo l k + t + 1] else rowsIn l k t j) = rowsIn l k (t + 1) j := by
  unfold rowsIn
  by_cases e : j = k
  · subst e; rw [if_pos rfl, if_neg (by omega), if_pos rfl]; rfl
  · rw [if_neg e, if_neg e, if_neg e]
theorem rowsIn_next (l : List Mb) (k j : Nat) : rowsIn l k (mbAt l k).wt.toNat j = rowsIn l (k + 1) 0 j := by
  unfold rowsIn
  by_cases h1 : j < k
  · rw [if_pos h1, if_pos (by omega)]
  · by_cases e : j = k
    · subst e; rw [if_neg h1, if_pos rfl, if_pos (by omega)]; rfl
    · rw [if_neg h1, if_neg e, if_neg (by omega)]
      split <;> rfl
theorem rowsIn_done (l : List Mb) (j : Nat) (h : j < l.length) : rowsIn l l.length 0 j = (pointsOf l).getD j [] := by
  unfold rowsIn; rw [if_pos h, pointsOf_at l j h]

set_option maxRecDepth 100000 in
set_option maxHeartbeats 4000000 in
theorem points_some (b off cap : Nat) (l : List Mb) (w : World) (hw : MbsW l) (hb : b < w.heap.size) (_hcap : l.length ≤ cap) (_hcap2 : cap ≤ 9223372036854775807)
    (hc : ∀ j, j < l.length → w.cell? ⟨b, off + j * 3, none⟩ = some (.int .i64 (mbAt l j).id) ∧ w.cell? ⟨b, off + j * 3 + 1, none⟩ = some (.int .i64 (mbAt l j).wt) ∧ w.cell? ⟨b, off + j * 3 + 2, none⟩ = some (.int .i64 (mbAt l j).pb)) :
    Calls Tryz.prog 31 #[.slice (some ⟨b, off, none⟩) l.length cap] w (PtsPost w l) := by
  have hmm := @run_makeMap Tryz.prog
  obtain ⟨i0, hi0, hz0, hz1, hz2⟩ := info_parts Tryz.infoI
  obtain ⟨j0, hj0, hy0, hy1, hy2⟩ := info_parts Tryz.infoI2
  have HC := Lib.hid hc
  have HW := Lib.hid hw
  clear hc hw
  by_cases hl1 : 1 ≤ l.length
  · by_cases hl2 : l.length ≤ 13
    · have d1 : decide ((l.length : Int) < 1) = false := decide_eq_false (by omega)
      have d2 : decide ((13 : Int) < (l.length : Int)) = false := decide_eq_false (by omega)
      have HRB := Lib.hid (show rightB l = (mbOk l l.length && decide (sumTo l l.length ≤ 60)) by unfold rightB; rw [decide_eq_true hl1, decide_eq_true hl2]; rfl)
      go_enter Tryz.func31, Tryz.ntmps31
      go_wp2_with fail
      have HS0 := Lib.hid (set_new (w.alloc (.map #[] 0)) w.heap.size (heap_alloc_new w _))
      have HO0 := Lib.hid ((Only.refl (fun _ => False) w).alloc (.map #[] 0))
      clear hmm
      go_loopw [5, 23] (fun vs vi wr => ∃ k : Nat, vi = .int .i64 k ∧ vs = .int .i64 (sumTo l k) ∧ k ≤ l.length ∧ mbOk l k = true ∧ SetAt wr w.heap.size k (inTo (ids l) k) ∧ Only (fun _ => False) w wr) (fun _ vi _ => l.length - (intOf vi).toNat)
      case atStart => exact ⟨0, rfl, rfl, Nat.zero_le _, rfl, HS0.out, HO0.out⟩
      case round =>
        clear HS0 HO0
        obtain ⟨k, rfl, rfl, hk, hok, hS, hO⟩ := hrel
        have hsz := hO.size
        have hsm := (mbOk_wt l k hok).2 k (Nat.le_refl _)
        obtain ⟨s0, s1⟩ := hsm
        by_cases hlt : k < l.length
        · obtain ⟨e0, e1, e2⟩ := HC.out k hlt
          have c0 := hO.cell e0 (fun h => h)
          have c1 := hO.cell e1 (fun h => h)
          have c2 := hO.cell e2 (fun h => h)
          have HST := Lib.hid (show mbOk l (k + 1) = (mbOk l k && (!inTo (ids l) k (mbAt l k).id && (decide (1 ≤ (mbAt l k).wt) && decide ((mbAt l k).wt ≤ 20)))) from rfl)
          have HSU := Lib.hid (show sumTo l (k + 1) = sumTo l k + (mbAt l k).wt from rfl)
          have HIN := Lib.hid (fun z => show inTo (ids l) (k + 1) z = (z == (mbAt l k).id || inTo (ids l) k z) by rw [inTo, ptAt_ids])
          obtain ⟨⟨w1, w2⟩, ⟨w3, w4⟩⟩ := HW.out.wf k
          have hbl : b < wr.heap.size := by omega
          have hmb := hS.lt
          generalize mbAt l k = m at *
          obtain ⟨id, wt, pb⟩ := m
          dsimp only at c0 c1 c2 w1 w2 w3 w4
          generalize sumTo l k = s at *
          have hl := fun (o : Obj) => (hS.frame ((Only.refl (fun _ => False) wr).alloc o) (fun h => h)).look id (WalkArith.wf_i64 (by omega))
          have HS := Lib.hid hS
          have HO := Lib.hid hO
          have HOK := Lib.hid hok
          clear hS hO hok e0 e1 e2
          cases hin : inTo (ids l) k id
          · rw [hin] at hl
            have HI := Lib.hid hin
            clear hin
            by_cases h1 : 1 ≤ wt
            · have q1 : decide (wt < 1) = false := decide_eq_false (by omega)
              by_cases h2 : wt ≤ 20
              · have q2 : decide (20 < wt) = false := decide_eq_false (by omega)
                have hO1 : Only (fun _ => False) wr (wr.alloc (.cells #[.int .i64 id, .int .i64 wt, .int .i64 pb] 41)) := (Only.refl _ wr).alloc _
                have hblk : (wr.alloc (.cells #[.int .i64 id, .int .i64 wt, .int .i64 pb] 41)).heap[wr.heap.size]? = some (.cells #[.int .i64 id, .int .i64 wt, .int .i64 pb] 41 (0, 0)) := heap_alloc_new wr _
                obtain ⟨wn, hrun, hS2, hO7⟩ := (HS.out.frame hO1 (fun h => h)).add (by unfold maxLen; omega) id (WalkArith.wf_i64 (by omega))
                have hblk2 : wn.heap[wr.heap.size]? = some (.cells #[.int .i64 id, .int .i64 wt, .int .i64 pb] 41 (0, 0)) := by
                  rw [hO7.block wr.heap.size (by simp) (by omega)]; exact hblk
                have s1 := cell_of_row wn wr.heap.size 1 _ 41 (0, 0) hblk2
                simp at s1
                have hz5 := (Array.getElem?_eq_some_iff.1 hblk2).1
                have HSN := Lib.hid hS2
                have HON := Lib.hid ((HO.out.trans hO1).trans' hO7 (fun i hi e => by omega))
                have HOKN := Lib.hid (show mbOk l (k + 1) = true by rw [HST.out, HOK.out, HI.out, decide_eq_true h1, decide_eq_true h2]; rfl)
                clear hO1 hblk hS2 hO7 hblk2
                go_wp2
                go_roundw
                case rel => exact ⟨k + 1, by go_num, by rw [HSU.out], by omega, HOKN.out, by
                  have := HSN.out
                  have e : (fun z => z == id || inTo (ids l) k z) = inTo (ids l) (k + 1) := by funext z; rw [HIN.out]
                  rw [e] at this; exact this, HON.out⟩
                case measure => simp [intOf]; omega
              · have q2 : decide (20 < wt) = true := decide_eq_true (by omega)
                have HF := Lib.hid (show rightB l = false by
                  rw [HRB.out, mbOk_false l l.length (k + 1) (by omega) (by rw [HST.out, decide_eq_false h2]; simp)]; rfl)
                go_wp2
                go_ret2
                exact ⟨HO.out.alloc _, .inr ⟨HF.out, rfl⟩⟩
            · have q1 : decide (wt < 1) = true := decide_eq_true (by omega)
              have HF := Lib.hid (show rightB l = false by
                rw [HRB.out, mbOk_false l l.length (k + 1) (by omega) (by rw [HST.out, decide_eq_false h1]; simp)]; rfl)
              go_wp2
              go_ret2
              exact ⟨HO.out.alloc _, .inr ⟨HF.out, rfl⟩⟩
          · rw [hin] at hl
            have HF := Lib.hid (show rightB l = false by
              rw [HRB.out, mbOk_false l l.length (k + 1) (by omega) (by rw [HST.out, hin]; simp)]; rfl)
            clear hin
            go_wp2
            go_ret2
            exact ⟨HO.out.alloc _, .inr ⟨HF.out, rfl⟩⟩
        · obtain rfl : k = l.length := by omega
          have HO := Lib.hid hO
          have HWT := Lib.hid (mbOk_wt l l.length hok)
          by_cases h60 : sumTo l l.length ≤ 60
          · have q3 : decide (60 < sumTo l l.length) = false := decide_eq_false (by omega)
            have HR := Lib.hid (show rightB l = true by rw [HRB.out, hok, decide_eq_true h60]; rfl)
            have hmk := run_make_row (P := Tryz.prog) 81 26 j0 _ Tryz.underlying81 hj0 hy0 hy1 rfl .i64 .i64 l.length (by rw [hy2]; omega) (by omega) wr
            have HB0 := Lib.hid (show Build w (wr.alloc (.cells (madeCells #[.slice none 0 0] l.length) 26)) (w.heap.size) wr.heap.size l.length (fun _ => .slice none 0 0) (fun _ => []) from
              ⟨World.rowIs_made wr _ _ _, fun j _ => World.ownsRow_nil _ _ _ _, fun i j _ _ _ b hb => by simp [Value.ownBlock] at hb, fun j _ => by simp [Value.ownBlock], hO.alloc _, Nat.le_refl _, hsz⟩)
            clear hS hO hok
            go_wp2_with fail
            clear hmk
            have HB1 := Lib.hid (HB0.out.congr (rows' := rowsIn l 0 0) (fun j _ => by unfold rowsIn; rw [if_neg (by omega)]; split <;> rfl))
            clear HB0
            generalize wr.heap.size = G at *
            go_loopw [9, 56] (fun vn vi wq => ∃ (k : Nat) (vs : Nat → Value), vi = .int .i64 k ∧ vn = .int .i64 (sumTo l k + 1) ∧ k ≤ l.length ∧ Build w wq w.heap.size G l.length vs (rowsIn l k 0)) (fun _ vi _ => l.length - (intOf vi).toNat)
            case atStart => exact ⟨0, _, rfl, rfl, Nat.zero_le _, HB1.out⟩
            case round =>
              clear HB1
              obtain ⟨k, vs, rfl, rfl, hk, hB⟩ := hrel
              have hsz2 := hB.only.size
              by_cases hlt2 : k < l.length
              · obtain ⟨e0, e1, e2⟩ := HC.out k hlt2
                have c0 := hB.only.cell e0 (fun h => h)
                have c1 := hB.only.cell e1 (fun h => h)
                have c2 := hB.only.cell e2 (fun h => h)
                have hbl : b < wr.heap.size := by omega
                obtain ⟨hw1, hw2⟩ := HWT.out.1 k hlt2
                obtain ⟨hs1, hs2⟩ := HWT.out.2 k (by omega)
                have HSU := Lib.hid (show sumTo l (k + 1) = sumTo l k + (mbAt l k).wt from rfl)
                have HNX := Lib.hid (rowsIn_next l k)
                have HRA := Lib.hid (rowsIn_at l k)
                have HRS := Lib.hid (rowsIn_step l k)
                have HB2 := Lib.hid (hB.frame ((Only.refl (fun _ => False) wr).alloc (.cells #[.int .i64 (mbAt l k).id, .int .i64 (mbAt l k).wt, .int .i64 (mbAt l k).pb] 41)))
                clear hB e0 e1 e2
                generalize mbAt l k = m at *
                obtain ⟨id, wt, pb⟩ := m
                dsimp only at c0 c1 c2 hw1 hw2 HB2
                generalize sumTo l k = s at *
                obtain ⟨wn, rfl⟩ : ∃ wn : Nat, wt = wn := ⟨wt.toNat, by omega⟩
                dsimp only [Int.toNat_natCast] at HNX
                go_wp2_with fail
                go_loopw [9, 63] (fun vn vt wi => ∃ (t : Nat) (us : Nat → Value), vt = .int .i64 t ∧ vn = .int .i64 (s + t + 1) ∧ t ≤ wn ∧ Build w wi w.heap.size G l.length us (rowsIn l k t)) (fun _ vt _ => wn - (intOf vt).toNat)
                case atStart => exact ⟨0, vs, rfl, by simp, Nat.zero_le _, HB2.out⟩
                case round =>
                  clear HB2
                  obtain ⟨t, us, rfl, rfl, ht, hB⟩ := hrel
                  have hsz3 := hB.only.size
                  by_cases htl : t < wn
                  · have p0 := hB.row.cell hlt2
                    have hGl := hB.row.lt
                    have hB3 := hB.frame ((Only.refl (fun _ => False) wr).alloc (.cells #[.int .i64 (s + t + 1)] 3))
                    have HB3 := Lib.hid hB3
                    have hown : (wr.alloc (.cells #[.int .i64 (s + t + 1)] 3)).ownsRow w.heap.size 3 1 (us k) t (irow (upI s t)) := by
                      have := hB3.own k hlt2
                      rw [HRA.out t, upI_len] at this; exact this
                    obtain ⟨a6, c6, hus⟩ := slice_of_own hown
                    have HUS := Lib.hid hus
                    rw [hus] at p0 hown
                    clear hB hB3 hus
                    go_wp2_with (at_builtin; refine wpList_append_lies _ rfl _ _ 26 rfl w.heap.size 3 i0 _ 1 8 Tryz.underlying26 hi0 hz0 hz1 hz2 rfl (by decide) _ t (irow (upI s t)) rfl hown ⟨wr.heap.size, 0, none⟩ 1 1 [.int .i64 (s + t + 1)] rfl rfl (cell_one_new _ _ _) (one_int _) (by decide) ?c1 ?c2 ?c3 _ rfl ?_)
                    case c1 => unfold maxLen; omega
                    case c2 => omega
                    case c3 => first | omega | (simp; omega)
                    intro g1 cp1 w1 ho1 hg1 ha1 hgl1
                    have hg1' : (wr.alloc (.cells #[.int .i64 (s + t + 1)] 3)).grownBy w1 (us k).ownBlock := by rw [HUS.out]; exact hg1
                    have ha1' : (us k).ownBlock = some g1 ∨ g1 = (wr.alloc (.cells #[.int .i64 (s + t + 1)] 3)).heap.size := by rw [HUS.out, World.size_alloc]; exact ha1
                    have HB4 := Lib.hid (HB3.out.push' (rows' := rowsIn l k (t + 1)) hlt2 (upI s t) (HRA.out t) (upI_len s t) ho1 hg1' ha1' (fun j _ => HRS.out t j))
                    have hr1 : w1.rowIs G 26 l.length us := HB3.out.row.of_block (hg1'.block G HB3.out.row.lt (fun e => HB3.out.far k hlt2 e.symm))
                    have p1 := hr1.cell hlt2
                    have p2 := hr1.frozen k
                    have hGl1 := hr1.lt
                    clear hg1' ha1' ho1 hg1 ha1 hown hr1 HB3
                    go_wp2
                    go_roundw
                    case rel => exact ⟨t + 1, _, by go_num, by congr 1; go_num, by omega, HB4.out⟩
                    case measure => simp [intOf]; omega
                  · obtain rfl : t = wn := by omega
                    have HB5 := Lib.hid (hB.congr (rows' := rowsIn l (k + 1) 0) (fun j _ => HNX.out j))
                    clear hB
                    go_wp2
                    go_roundw
                    case rel => exact ⟨k + 1, us, by go_num, by rw [HSU.out], by omega, HB5.out⟩
                    case measure => simp [intOf]; omega
              · obtain rfl : k = l.length := by omega
                have HG := Lib.hid ((hB.congr (rows' := fun j => (pointsOf l).getD j []) (fun j hj => rowsIn_done l j hj)).grid (pointsOf_len l) (by omega) (fun j hj => by
                  rw [pointsOf_at l j hj]; unfold rowsAt; rw [upI_len]; have := (HWT.out.1 j hj).2; omega))
                have HOE := Lib.hid hB.only
                clear hB
                go_wp2
                go_ret2
                exact ⟨HOE.out, .inl ⟨HR.out, _, rfl, HG.out⟩⟩
          · have q3 : decide (60 < sumTo l l.length) = true := decide_eq_true (by omega)
            have HF := Lib.hid (show rightB l = false by rw [HRB.out, decide_eq_false h60, Bool.and_false])
            clear hS hO hok
            go_wp2
            go_ret2
            exact ⟨HO.out, .inr ⟨HF.out, rfl⟩⟩
    · have d2 : decide ((13 : Int) < (l.length : Int)) = true := decide_eq_true (by omega)
      have d1 : decide ((l.length : Int) < 1) = false := decide_eq_false (by omega)
      have HF := Lib.hid (show rightB l = false by unfold rightB; rw [decide_eq_false hl2]; simp)
      go_enter Tryz.func31, Tryz.ntmps31
      go_wp2
      go_ret2
      exact ⟨Only.refl _ _, .inr ⟨HF.out, rfl⟩⟩
  · have d1 : decide ((l.length : Int) < 1) = true := decide_eq_true (by omega)
    have HF := Lib.hid (show rightB l = false by unfold rightB; rw [decide_eq_false hl1]; simp)
    go_enter Tryz.func31, Tryz.ntmps31
    go_wp2
    go_ret2
    exact ⟨Only.refl _ _, .inr ⟨HF.out, rfl⟩⟩
end Go.Proofs.YtldkjkjpaiajlaaGreatDoor

namespace Go.Proofs.YtldkjkjpaiajlaaGreatDoor
open Go.RowKit

theorem points_nil (a : Option Addr) (c : Nat) (w : World) : Calls Tryz.prog 31 #[.slice a 0 c] w (PtsPost w []) := by
  go_enter Tryz.func31, Tryz.ntmps31
  go_wp2
  go_ret2
  exact ⟨Only.refl _ _, .inr ⟨rfl, rfl⟩⟩
theorem points_any (sv : Value) (l : List Mb) (w : World) (hw : MbsW l) (hs : MbsAt w sv l) : Calls Tryz.prog 31 #[sv] w (PtsPost w l) := by
  rcases hs with ⟨a, c, rfl, rfl⟩ | ⟨b, off, cap, rfl, hb, h1, h2, hc⟩
  · exact points_nil a c w
  · exact points_some b off cap l w hw hb h1 h2 hc

theorem inTo_mono (zs : List Int) (z : Int) {k j : Nat} (h : j ≤ k) : inTo zs j z = true → inTo zs k z = true := by
  induction k with
  | zero => intro h1; rw [show j = 0 by omega] at h1; exact h1
  | succ k ih =>
    intro h1
    by_cases e : j = k + 1
    · rw [← e]; exact h1
    · rw [inTo, ih (by omega) h1]; simp
def totZ (l : List Mb) : Int := if rightB l then sumTo l l.length else 0
theorem rightB_spec {l : List Mb} (h : rightB l = true) : 1 ≤ l.length ∧ l.length ≤ 13 ∧ mbOk l l.length = true ∧ sumTo l l.length ≤ 60 := by
  unfold rightB at h
  simp only [Bool.and_eq_true, decide_eq_true_eq] at h
  exact ⟨h.1.1, h.1.2, h.2.1, h.2.2⟩
theorem sumTo_pos (l : List Mb) : ∀ k, mbOk l k = true → (k : Int) ≤ sumTo l k := by
  intro k
  induction k with
  | zero => intro _; simp [sumTo]
  | succ k ih =>
    intro h
    have h1 := (mbOk_wt l (k + 1) h).1 k (by omega)
    have h2 : mbOk l k = true := by
      cases e : mbOk l k
      · rw [mbOk_false l (k + 1) k (by omega) e] at h; exact h
      · rfl
    have := ih h2
    rw [sumTo]; omega
theorem totZ_pos {l : List Mb} (h : rightB l = true) : 1 ≤ totZ l ∧ totZ l ≤ 60 := by
  obtain ⟨h1, _, h3, h4⟩ := rightB_spec h
  have := sumTo_pos l l.length h3
  unfold totZ; rw [if_pos h]; omega

set_option maxRecDepth 100000 in
set_option maxHeartbeats 2000000 in
theorem rtotal_some (b off cap : Nat) (l : List Mb) (z : Int) (w : World) (hw : MbsW l) (_hb : b < w.heap.size) (_hcap : l.length ≤ cap) (_hcap2 : cap ≤ 9223372036854775807) (hz : totZ l = z)
    (hc : ∀ j, j < l.length → w.cell? ⟨b, off + j * 3, none⟩ = some (.int .i64 (mbAt l j).id) ∧ w.cell? ⟨b, off + j * 3 + 1, none⟩ = some (.int .i64 (mbAt l j).wt) ∧ w.cell? ⟨b, off + j * 3 + 2, none⟩ = some (.int .i64 (mbAt l j).pb)) :
    Calls Tryz.prog 80 #[.slice (some ⟨b, off, none⟩) l.length cap] w fun e w' => e = .returned (.int .i64 z) ∧ Only (fun _ => False) w w' := by
  have HC := Lib.hid hc
  have HW := Lib.hid hw
  have HZ := Lib.hid hz
  clear hc hw hz
  by_cases hl1 : 1 ≤ l.length
  · by_cases hl2 : l.length ≤ 13
    · have d1 : decide ((l.length : Int) < 1) = false := decide_eq_false (by omega)
      have d2 : decide ((13 : Int) < (l.length : Int)) = false := decide_eq_false (by omega)
      have HRB := Lib.hid (show rightB l = (mbOk l l.length && decide (sumTo l l.length ≤ 60)) by unfold rightB; rw [decide_eq_true hl1, decide_eq_true hl2]; rfl)
      have HF := Lib.hid (show rightB l = false → z = 0 from fun h => by rw [← HZ.out]; unfold totZ; rw [h]; rfl)
      go_enter Tryz.func80, Tryz.ntmps80
      go_wp2_with fail
      go_loopw [3, 4] (fun vs vi wr => ∃ k n : Nat, vi = .int .i64 k ∧ vs = .int .i64 (sumTo l k) ∧ k ≤ l.length ∧ mbOk l k = true ∧ wr = w.drewN n) (fun _ vi _ => l.length - (intOf vi).toNat)
      case atStart => exact ⟨0, 0, rfl, rfl, Nat.zero_le _, rfl, rfl⟩
      case round =>
        obtain ⟨k, n, rfl, rfl, hk, hok, rfl⟩ := hrel
        have hsm := (mbOk_wt l k hok).2 k (Nat.le_refl _)
        obtain ⟨s0, s1⟩ := hsm
        by_cases hlt : k < l.length
        · obtain ⟨c0, c1, _⟩ := HC.out k hlt
          have HST := Lib.hid (show mbOk l (k + 1) = (mbOk l k && (!inTo (ids l) k (mbAt l k).id && (decide (1 ≤ (mbAt l k).wt) && decide ((mbAt l k).wt ≤ 20)))) from rfl)
          have HSU := Lib.hid (show sumTo l (k + 1) = sumTo l k + (mbAt l k).wt from rfl)
          generalize mbAt l k = m at *
          obtain ⟨id, wt, pb⟩ := m
          dsimp only at c0 c1
          generalize sumTo l k = s at *
          have HOK := Lib.hid hok
          clear hok
          by_cases h1 : 1 ≤ wt
          · have q1 : decide (wt < 1) = false := decide_eq_false (by omega)
            by_cases h2 : wt ≤ 20
            · have q2 : decide (20 < wt) = false := decide_eq_false (by omega)
              have HQ := Lib.hid (show decide (1 ≤ wt) = true ∧ decide (wt ≤ 20) = true from ⟨decide_eq_true h1, decide_eq_true h2⟩)
              go_wp2_with fail
              go_loopw [5] (fun vj wi => ∃ (j nn : Nat), j ≤ k ∧ vj = .int .i64 j ∧ inTo (ids l) j id = false ∧ wi = w.drewN nn) (fun vj _ => k - (intOf vj).toNat)
              case atStart => exact ⟨0, n, Nat.zero_le _, rfl, rfl, rfl⟩
              case round =>
                obtain ⟨j, nn, hj, rfl, hin, rfl⟩ := hrel
                have HIN := Lib.hid hin
                clear hin
                by_cases hjl : j < k
                · obtain ⟨p0, _, _⟩ := HC.out j (by omega)
                  have HI2 := Lib.hid (show inTo (ids l) (j + 1) id = (id == (mbAt l j).id || inTo (ids l) j id) by rw [inTo, ptAt_ids])
                  generalize (mbAt l j).id = u at *
                  by_cases he : u = id
                  · have q : (u == id) = true := by simp [he]
                    have HZ0 := Lib.hid (HF.out (by
                      rw [HRB.out]
                      have h3 : inTo (ids l) (j + 1) id = true := by rw [HI2.out, he]; simp
                      have h4 : inTo (ids l) k id = true := inTo_mono (ids l) id (by omega) h3
                      rw [mbOk_false l l.length (k + 1) (by omega) (by rw [HST.out, h4]; simp)]; rfl))
                    clear he
                    go_wp2_with fail
                    go_quiet (fail)
                    go_wp2
                    go_ret
                    exact ⟨ret_int HZ0.out.symm, ((Only.refl _ w).drewN _).drewN _⟩
                  · have q : (u == id) = false := by simp [he]
                    have HN := Lib.hid (show inTo (ids l) (j + 1) id = false by
                      rw [HI2.out, HIN.out]; simp; exact fun h => he h.symm)
                    clear he
                    go_wp2_with fail
                    go_quiet (fail)
                    go_wp2
                    go_roundw
                    case rel => exact ⟨j + 1, nn + nq, by omega, by go_num, HN.out, by first | rfl | trivial⟩
                    case measure => simp [intOf]; omega
                · obtain rfl : j = k := by omega
                  have HOKN := Lib.hid (show mbOk l (j + 1) = true by rw [HST.out, HOK.out, HIN.out, HQ.out.1, HQ.out.2]; rfl)
                  go_wp2
                  go_roundw
                  case rel => exact ⟨j + 1, nn, by go_num, by rw [HSU.out], by omega, HOKN.out, rfl⟩
                  case measure => simp [intOf]; omega
            · have q2 : decide (20 < wt) = true := decide_eq_true (by omega)
              have HZ0 := Lib.hid (HF.out (by
                rw [HRB.out, mbOk_false l l.length (k + 1) (by omega) (by rw [HST.out, decide_eq_false h2]; simp)]; rfl))
              go_wp2
              go_ret
              exact ⟨ret_int HZ0.out.symm, (Only.refl _ w).drewN _⟩
          · have q1 : decide (wt < 1) = true := decide_eq_true (by omega)
            have HZ0 := Lib.hid (HF.out (by
              rw [HRB.out, mbOk_false l l.length (k + 1) (by omega) (by rw [HST.out, decide_eq_false h1]; simp)]; rfl))
            go_wp2
            go_ret
            exact ⟨ret_int HZ0.out.symm, (Only.refl _ w).drewN _⟩
        · obtain rfl : k = l.length := by omega
          by_cases h60 : sumTo l l.length ≤ 60
          · have q3 : decide (60 < sumTo l l.length) = false := decide_eq_false (by omega)
            have HR := Lib.hid (show sumTo l l.length = z by rw [← HZ.out]; unfold totZ; rw [HRB.out, hok, decide_eq_true h60]; rfl)
            clear hok
            go_wp2
            go_ret
            exact ⟨ret_int HR.out, (Only.refl _ w).drewN _⟩
          · have q3 : decide (60 < sumTo l l.length) = true := decide_eq_true (by omega)
            have HZ0 := Lib.hid (HF.out (by rw [HRB.out, decide_eq_false h60, Bool.and_false]))
            clear hok
            go_wp2
            go_ret
            exact ⟨ret_int HZ0.out.symm, (Only.refl _ w).drewN _⟩
    · have d2 : decide ((13 : Int) < (l.length : Int)) = true := decide_eq_true (by omega)
      have d1 : decide ((l.length : Int) < 1) = false := decide_eq_false (by omega)
      have HZ0 := Lib.hid (show z = 0 by rw [← HZ.out]; unfold totZ rightB; rw [decide_eq_false hl2]; simp)
      go_enter Tryz.func80, Tryz.ntmps80
      go_wp2
      go_ret
      exact ⟨ret_int HZ0.out.symm, Only.refl _ _⟩
  · have d1 : decide ((l.length : Int) < 1) = true := decide_eq_true (by omega)
    have HZ0 := Lib.hid (show z = 0 by rw [← HZ.out]; unfold totZ rightB; rw [decide_eq_false hl1]; simp)
    go_enter Tryz.func80, Tryz.ntmps80
    go_wp2
    go_ret
    exact ⟨ret_int HZ0.out.symm, Only.refl _ _⟩
theorem rtotal_nil (a : Option Addr) (c : Nat) (w : World) : Calls Tryz.prog 80 #[.slice a 0 c] w fun e w' => e = .returned (.int .i64 0) ∧ Only (fun _ => False) w w' := by
  go_enter Tryz.func80, Tryz.ntmps80
  go_wp2
  go_ret
  exact ⟨rfl, Only.refl _ _⟩
theorem rtotal_any (sv : Value) (l : List Mb) (z : Int) (w : World) (hw : MbsW l) (hs : MbsAt w sv l) (hz : totZ l = z) : Calls Tryz.prog 80 #[sv] w fun e w' => e = .returned (.int .i64 z) ∧ Only (fun _ => False) w w' := by
  rcases hs with ⟨a, c, rfl, rfl⟩ | ⟨b, off, cap, rfl, hb, h1, h2, hc⟩
  · obtain rfl : z = 0 := by rw [← hz]; rfl
    exact rtotal_nil a c w
  · exact rtotal_some b off cap l z w hw hb h1 h2 hz hc
end Go.Proofs.YtldkjkjpaiajlaaGreatDoor
