/-
  Members, their points; the walk of the program's Points.
  The walk of the program's Points.
  The reference's total and Points.
  The reference's Points.
  The reference's Ints, Same; the law's lists.
  Small functions, and sanity.
  The reference's Ints of layer 9.
-/
import Derived.Test.YtlhfgbkonmgahaaGreatDoorPt11
import Derived.Deep.OwnRows
import Derived.OneCell
namespace Go.Proofs.YtlhfgbkonmgahaaGreatDoor
open Go.RowKit

/-- A member: Id, Weight, Public. -/
structure Mb where
  id : Int
  wt : Int
  pb : Int
def mbAt (l : List Mb) (j : Nat) : Mb := l.getD j ⟨0, 0, 0⟩
def ids (l : List Mb) : List Int := l.map Mb.id
theorem ptAt_ids (l : List Mb) (j : Nat) : ptAt (ids l) j = (mbAt l j).id := by
  unfold ptAt ids mbAt
  simp only [List.getD, List.getElem?_map]
  cases l[j]? <;> rfl
structure MbsW (l : List Mb) : Prop where
  wf : ∀ j, (-9223372036854775808 ≤ (mbAt l j).id ∧ (mbAt l j).id ≤ 9223372036854775807) ∧ (-9223372036854775808 ≤ (mbAt l j).wt ∧ (mbAt l j).wt ≤ 9223372036854775807)
/-- Members in a slice. -/
def MbsAt (W : World) (sv : Value) (l : List Mb) : Prop :=
  (∃ a c, sv = .slice a 0 c ∧ l = []) ∨ ∃ b off cap, sv = .slice (some ⟨b, off, none⟩) l.length cap ∧ b < W.heap.size ∧ l.length ≤ cap ∧ cap ≤ 9223372036854775807 ∧
    ∀ j, j < l.length → W.cell? ⟨b, off + j * 3, none⟩ = some (.int .i64 (mbAt l j).id) ∧ W.cell? ⟨b, off + j * 3 + 1, none⟩ = some (.int .i64 (mbAt l j).wt) ∧ W.cell? ⟨b, off + j * 3 + 2, none⟩ = some (.int .i64 (mbAt l j).pb)
theorem MbsAt.only {A B : World} (h : Only (fun _ => False) A B) {sv : Value} {l : List Mb} : MbsAt A sv l → MbsAt B sv l
  | .inl e => .inl e
  | .inr ⟨b, off, cap, e, hb, h1, h2, hc⟩ => .inr ⟨b, off, cap, e, Nat.lt_of_lt_of_le hb h.size, h1, h2, fun j hj => ⟨h.cell (hc j hj).1 (fun h => h), h.cell (hc j hj).2.1 (fun h => h), h.cell (hc j hj).2.2 (fun h => h)⟩⟩

/-- Are the first k right? -/
def mbOk (l : List Mb) : Nat → Bool
  | 0 => true
  | k + 1 => mbOk l k && (!inTo (ids l) k (mbAt l k).id && (decide (1 ≤ (mbAt l k).wt) && decide ((mbAt l k).wt ≤ 20)))
def sumTo (l : List Mb) : Nat → Int
  | 0 => 0
  | k + 1 => sumTo l k + (mbAt l k).wt
def rightB (l : List Mb) : Bool := decide (1 ≤ l.length) && decide (l.length ≤ 13) && (mbOk l l.length && decide (sumTo l l.length ≤ 60))
/-- n numbers from s + 1 on. -/
def upI (s : Int) : Nat → List Int
  | 0 => []
  | k + 1 => upI s k ++ [s + k + 1]
theorem upI_len (s : Int) (k : Nat) : (upI s k).length = k := by
  induction k with
  | zero => rfl
  | succ k ih => rw [upI, List.length_append, ih]; rfl
def rowsAt (l : List Mb) (i : Nat) : List Int := upI (sumTo l i) (mbAt l i).wt.toNat
def pointsOf (l : List Mb) : List (List Int) := (List.range l.length).map (rowsAt l)
theorem mbOk_false (l : List Mb) : ∀ (k j : Nat), j ≤ k → mbOk l j = false → mbOk l k = false := by
  intro k
  induction k with
  | zero => intro j hj h; rw [show j = 0 by omega] at h; exact h
  | succ k ih =>
    intro j hj h
    by_cases e : j = k + 1
    · rw [← e]; exact h
    · rw [mbOk, ih j (by omega) h]; rfl
theorem mbOk_wt (l : List Mb) : ∀ k, mbOk l k = true → (∀ j, j < k → 1 ≤ (mbAt l j).wt ∧ (mbAt l j).wt ≤ 20) ∧ (∀ j, j ≤ k → 0 ≤ sumTo l j ∧ sumTo l j ≤ 20 * j) := by
  intro k
  induction k with
  | zero => intro _; exact ⟨fun j hj => by omega, fun j hj => by rw [show j = 0 by omega]; simp [sumTo]⟩
  | succ k ih =>
    intro h
    rw [mbOk] at h
    simp only [Bool.and_eq_true, decide_eq_true_eq] at h
    obtain ⟨h1, _, h3, h4⟩ := h
    have h5 := ih h1
    refine ⟨fun j hj => ?_, fun j hj => ?_⟩
    · by_cases e : j = k
      · subst e; exact ⟨h3, h4⟩
      · exact h5.1 j (by omega)
    · by_cases e : j = k + 1
      · subst e
        have := h5.2 k (Nat.le_refl _)
        rw [sumTo]; omega
      · exact h5.2 j (by omega)
/-- A slice of lists. -/
def GridAt (W : World) (v : Value) (rows : List (List Int)) : Prop :=
  (∃ a c, v = .slice a 0 c ∧ rows = []) ∨ ∃ b off cap, v = .slice (some ⟨b, off, none⟩) rows.length cap ∧ b < W.heap.size ∧ rows.length ≤ cap ∧ cap ≤ 9223372036854775807 ∧
    ∀ j, j < rows.length → ∃ u, W.cell? ⟨b, off + j, none⟩ = some u ∧ PtsAt W.heap.size W u (rows.getD j [])
theorem GridAt.only {A B : World} (h : Only (fun _ => False) A B) {sv : Value} {l : List (List Int)} : GridAt A sv l → GridAt B sv l
  | .inl e => .inl e
  | .inr ⟨b, off, cap, e, hb, h1, h2, hc⟩ => .inr ⟨b, off, cap, e, Nat.lt_of_lt_of_le hb h.size, h1, h2, fun j hj => by
      obtain ⟨u, hu, hp⟩ := hc j hj
      exact ⟨u, h.cell hu (fun h => h), hp.only h⟩⟩

/-- Rows that are being built in a block. -/
structure Build (w wr : World) (base g n : Nat) (vs : Nat → Value) (rows : Nat → List Int) : Prop where
  row : wr.rowIs g 34 n vs
  own : ∀ j, j < n → wr.ownsRow base 3 1 (vs j) (rows j).length (irow (rows j))
  ne : ∀ i j, i < n → j < n → i ≠ j → ∀ b, (vs i).ownBlock = some b → (vs j).ownBlock ≠ some b
  far : ∀ j, j < n → (vs j).ownBlock ≠ some g
  only : Only (fun _ => False) w wr
  low : w.heap.size ≤ base
  gl : w.heap.size ≤ g
theorem Build.frame {w wr w' : World} {base g n : Nat} {vs : Nat → Value} {rows : Nat → List Int} (h : Build w wr base g n vs rows) (hO : Only (fun _ => False) wr w') : Build w w' base g n vs rows :=
  ⟨h.row.of_block (hO.block g h.row.lt (fun h => h)), fun j hj => hO.owns (h.own j hj) (fun _ _ h => h), h.ne, h.far, h.only.trans hO, h.low, h.gl⟩
theorem Build.push {w wn w' : World} {base g n k : Nat} {x : Int} {vs : Nat → Value} {rows : Nat → List Int} (h : Build w wn base g n vs rows) (hk : k < n) {b cap : Nat}
    (hown : w'.ownsRow base 3 1 (.slice (some ⟨b, 0, none⟩) ((rows k).length + 1) cap) ((rows k).length + 1) (irow (rows k) ++ [.int .i64 x])) (hg : wn.grownBy w' (vs k).ownBlock) (hat : (vs k).ownBlock = some b ∨ b = wn.heap.size) :
    Build w (w'.setCell ⟨g, k, none⟩ (.slice (some ⟨b, 0, none⟩) ((rows k).length + 1) cap)) base g n (fun j => if j = k then .slice (some ⟨b, 0, none⟩) ((rows k).length + 1) cap else vs j) (fun j => if j = k then rows k ++ [x] else rows j) := by
  have hO : Only (fun i => (vs k).ownBlock = some i) wn w' := (Only.refl _ wn).grown hg (fun i e _ => e)
  have hgl := h.row.lt
  have hbg : b ≠ g := by
    rcases hat with hat | hat
    · intro e; subst e; exact h.far k hk hat
    · omega
  have hrow : w'.rowIs g 34 n vs := h.row.of_block (hO.block g hgl (h.far k hk))
  have hob : (Value.slice (some ⟨b, 0, none⟩) ((rows k).length + 1) cap).ownBlock = some b := rfl
  refine ⟨hrow.set k _, fun j hj => ?_, fun i j hi hj hne c hc => ?_, fun j hj => ?_, ?_, h.low, h.gl⟩
  · by_cases e : j = k
    · subst e
      simp only [if_pos]
      refine ownsRow_setCell_other ?_ (by rw [hob]; simpa using hbg) _
      rw [List.length_append, List.length_singleton, irow_append]; exact hown
    · simp only [if_neg e]
      refine ownsRow_setCell_other (hO.owns (h.own j hj) (fun c hc e2 => h.ne k j hk hj (Ne.symm e) c e2 hc)) (by simpa using h.far j hj) _
  · by_cases e : i = k
    · subst e
      simp only [if_pos] at hc
      rw [if_neg (Ne.symm hne)]
      rw [hob] at hc
      obtain rfl : b = c := by simpa using hc
      intro e2
      rcases hat with hat | hat
      · exact h.ne i j hi hj hne b hat e2
      · have := (own_lt (h.own j hj) e2).1; omega
    · simp only [if_neg e] at hc
      by_cases e2 : j = k
      · subst e2
        simp only [if_pos]
        rw [hob]
        intro e3
        obtain rfl : b = c := by simpa using e3
        rcases hat with hat | hat
        · exact h.ne i j hi hj hne b hc hat
        · have := (own_lt (h.own i hi) hc).1; omega
      · simp only [if_neg e2]
        exact h.ne i j hi hj hne c hc
  · by_cases e : j = k
    · subst e
      simp only [if_pos]
      rw [hob]; simpa using hbg
    · simp only [if_neg e]; exact h.far j hj
  · exact (h.only.trans' hO (fun i hi e => by have := (own_lt (h.own k hk) e).2; have := h.low; omega)).setCell (.inr h.gl) _
theorem Build.congr {w wr : World} {base g n : Nat} {vs : Nat → Value} {rows rows' : Nat → List Int} (h : Build w wr base g n vs rows) (e : ∀ j, j < n → rows j = rows' j) : Build w wr base g n vs rows' :=
  ⟨h.row, fun j hj => by rw [← e j hj]; exact h.own j hj, h.ne, h.far, h.only, h.low, h.gl⟩
theorem Build.grid {w wr : World} {base g n : Nat} {vs : Nat → Value} {rows : List (List Int)} (h : Build w wr base g n vs (fun j => rows.getD j [])) (hn : rows.length = n) (hm : n ≤ 9223372036854775807) (hr : ∀ j, j < n → (rows.getD j []).length ≤ 9223372036854775807) :
    GridAt wr (.slice (some ⟨g, 0, none⟩) n n) rows := by
  subst hn
  refine .inr ⟨g, 0, rows.length, rfl, h.row.lt, Nat.le_refl _, hm, fun j hj => ⟨vs j, by rw [Nat.zero_add]; exact h.row.cell hj, pts_of_own (h.own j hj) (hr j hj)⟩⟩
end Go.Proofs.YtlhfgbkonmgahaaGreatDoor

namespace Go.Proofs.YtlhfgbkonmgahaaGreatDoor
open Go.RowKit

theorem Tryz.infoI2 : (Tryz.prog.info? 34).map (fun i => (i.zero, i.size, i.bytes)) = some (some (.slice none 0 0), 1, 24) := by kernel_rfl
/-- What Points leaves. -/
def PtsPost (w : World) (l : List Mb) (e : Ending) (w' : World) : Prop :=
  Only (fun _ => False) w w' ∧ ((rightB l = true ∧ ∃ v, e = .returned (.tuple #[v, .bool true]) ∧ GridAt w' v (pointsOf l)) ∨ (rightB l = false ∧ e = .returned (.tuple #[.slice none 0 0, .bool false])))
theorem pointsOf_at (l : List Mb) (j : Nat) (h : j < l.length) : (pointsOf l).getD j [] = rowsAt l j := by
  unfold pointsOf; simp [List.getD, h]
theorem pointsOf_len (l : List Mb) : (pointsOf l).length = l.length := by unfold pointsOf; simp

theorem Build.push' {w wn w' : World} {base g n k t : Nat} {x : Int} {vs : Nat → Value} {rows rows' : Nat → List Int} (h : Build w wn base g n vs rows) (hk : k < n) (r : List Int) (hr : rows k = r) (ht : r.length = t) {b cap : Nat}
    (hown : w'.ownsRow base 3 1 (.slice (some ⟨b, 0, none⟩) (t + 1) cap) (t + 1) (irow r ++ [.int .i64 x])) (hg : wn.grownBy w' (vs k).ownBlock) (hat : (vs k).ownBlock = some b ∨ b = wn.heap.size) (hrr : ∀ j, j < n → (if j = k then r ++ [x] else rows j) = rows' j) :
    Build w (w'.setCell ⟨g, k, none⟩ (.slice (some ⟨b, 0, none⟩) (t + 1) cap)) base g n (fun j => if j = k then .slice (some ⟨b, 0, none⟩) (t + 1) cap else vs j) rows' := by
  subst hr ht
  exact (h.push hk hown hg hat).congr hrr
/-- The rows while row k is at t. -/
def rowsIn (l : List Mb) (k t : Nat) (j : Nat) : List Int := if j < k then rowsAt l j else if j = k then upI (sumTo l k) t else []
theorem rowsIn_at (l : List Mb) (k t : Nat) : rowsIn l k t k = upI (sumTo l k) t := by unfold rowsIn; rw [if_neg (by omega), if_pos rfl]
theorem rowsIn_step (l : List Mb) (k t j : Nat) : (if j = k then upI (sumTo l k) t ++ [sumTo l k + t + 1] else rowsIn l k t j) = rowsIn l k (t + 1) j := by
  unfold rowsIn
  by_cases e : j = k
  · subst e; rw [if_pos rfl, if_neg (by omega), if_pos rfl]; rfl
  · rw [if_neg e, if_neg e, if_neg e]
theorem rowsIn_next (l : List Mb) (k j : Nat) : rowsIn l k (mbAt l k).wt.toNat j = rowsIn l (k + 1) 0 j := by
  unfold rowsIn
  by_cases h1 : j < k
  · rw [if_pos h1, if_pos (by omega)]
  · by_cases e : j = k
    · subst e; rw [if_neg h1, if_pos rfl, if_pos (by omega)]; rfl
    · rw [if_neg h1, if_neg e, if_neg (by omega)]
      split <;> rfl
theorem rowsIn_done (l : List Mb) (j : Nat) (h : j < l.length) : rowsIn l l.length 0 j = (pointsOf l).getD j [] := by
  unfold rowsIn; rw [if_pos h, pointsOf_at l j h]

end Go.Proofs.YtlhfgbkonmgahaaGreatDoor

namespace Go.Proofs.YtlhfgbkonmgahaaGreatDoor
open Go.RowKit

theorem inTo_mono (zs : List Int) (z : Int) {k j : Nat} (h : j ≤ k) : inTo zs j z = true → inTo zs k z = true := by
  induction k with
  | zero => intro h1; rw [show j = 0 by omega] at h1; exact h1
  | succ k ih =>
    intro h1
    by_cases e : j = k + 1
    · rw [← e]; exact h1
    · rw [inTo, ih (by omega) h1]; simp
def totZ (l : List Mb) : Int := if rightB l then sumTo l l.length else 0
theorem rightB_spec {l : List Mb} (h : rightB l = true) : 1 ≤ l.length ∧ l.length ≤ 13 ∧ mbOk l l.length = true ∧ sumTo l l.length ≤ 60 := by
  unfold rightB at h
  simp only [Bool.and_eq_true, decide_eq_true_eq] at h
  exact ⟨h.1.1, h.1.2, h.2.1, h.2.2⟩
theorem sumTo_pos (l : List Mb) : ∀ k, mbOk l k = true → (k : Int) ≤ sumTo l k := by
  intro k
  induction k with
  | zero => intro _; simp [sumTo]
  | succ k ih =>
    intro h
    have h1 := (mbOk_wt l (k + 1) h).1 k (by omega)
    have h2 : mbOk l k = true := by
      cases e : mbOk l k
      · rw [mbOk_false l (k + 1) k (by omega) e] at h; exact h
      · rfl
    have := ih h2
    rw [sumTo]; omega
theorem totZ_pos {l : List Mb} (h : rightB l = true) : 1 ≤ totZ l ∧ totZ l ≤ 60 := by
  obtain ⟨h1, _, h3, h4⟩ := rightB_spec h
  have := sumTo_pos l l.length h3
  unfold totZ; rw [if_pos h]; omega

set_option maxRecDepth 100000 in
set_option maxHeartbeats 2000000 in
theorem rtotal_some (b off cap : Nat) (l : List Mb) (z : Int) (w : World) (hw : MbsW l) (_hb : b < w.heap.size) (_hcap : l.length ≤ cap) (_hcap2 : cap ≤ 9223372036854775807) (hz : totZ l = z)
    (hc : ∀ j, j < l.length → w.cell? ⟨b, off + j * 3, none⟩ = some (.int .i64 (mbAt l j).id) ∧ w.cell? ⟨b, off + j * 3 + 1, none⟩ = some (.int .i64 (mbAt l j).wt) ∧ w.cell? ⟨b, off + j * 3 + 2, none⟩ = some (.int .i64 (mbAt l j).pb)) :
    Calls Tryz.prog 75 #[.slice (some ⟨b, off, none⟩) l.length cap] w fun e w' => e = .returned (.int .i64 z) ∧ Only (fun _ => False) w w' := by
  have HC := Lib.hid hc
  have HW := Lib.hid hw
  have HZ := Lib.hid hz
  clear hc hw hz
  by_cases hl1 : 1 ≤ l.length
  · by_cases hl2 : l.length ≤ 13
    · have d1 : decide ((l.length : Int) < 1) = false := decide_eq_false (by omega)
      have d2 : decide ((13 : Int) < (l.length : Int)) = false := decide_eq_false (by omega)
      have HRB := Lib.hid (show rightB l = (mbOk l l.length && decide (sumTo l l.length ≤ 60)) by unfold rightB; rw [decide_eq_true hl1, decide_eq_true hl2]; rfl)
      have HF := Lib.hid (show rightB l = false → z = 0 from fun h => by rw [← HZ.out]; unfold totZ; rw [h]; rfl)
      go_enter Tryz.func75, Tryz.ntmps75
      go_wp2_with fail
      go_loopw [3, 4] (fun vs vi wr => ∃ k n : Nat, vi = .int .i64 k ∧ vs = .int .i64 (sumTo l k) ∧ k ≤ l.length ∧ mbOk l k = true ∧ wr = w.drewN n) (fun _ vi _ => l.length - (intOf vi).toNat)
      case atStart => exact ⟨0, 0, rfl, rfl, Nat.zero_le _, rfl, rfl⟩
      case round =>
        obtain ⟨k, n, rfl, rfl, hk, hok, rfl⟩ := hrel
        have hsm := (mbOk_wt l k hok).2 k (Nat.le_refl _)
        obtain ⟨s0, s1⟩ := hsm
        by_cases hlt : k < l.length
        · obtain ⟨c0, c1, _⟩ := HC.out k hlt
          have HST := Lib.hid (show mbOk l (k + 1) = (mbOk l k && (!inTo (ids l) k (mbAt l k).id && (decide (1 ≤ (mbAt l k).wt) && decide ((mbAt l k).wt ≤ 20)))) from rfl)
          have HSU := Lib.hid (show sumTo l (k + 1) = sumTo l k + (mbAt l k).wt from rfl)
          generalize mbAt l k = m at *
          obtain ⟨id, wt, pb⟩ := m
          dsimp only at c0 c1
          generalize sumTo l k = s at *
          have HOK := Lib.hid hok
          clear hok
          by_cases h1 : 1 ≤ wt
          · have q1 : decide (wt < 1) = false := decide_eq_false (by omega)
            by_cases h2 : wt ≤ 20
            · have q2 : decide (20 < wt) = false := decide_eq_false (by omega)
              have HQ := Lib.hid (show decide (1 ≤ wt) = true ∧ decide (wt ≤ 20) = true from ⟨decide_eq_true h1, decide_eq_true h2⟩)
              go_wp2_with fail
              go_loopw [5] (fun vj wi => ∃ (j nn : Nat), j ≤ k ∧ vj = .int .i64 j ∧ inTo (ids l) j id = false ∧ wi = w.drewN nn) (fun vj _ => k - (intOf vj).toNat)
              case atStart => exact ⟨0, n, Nat.zero_le _, rfl, rfl, rfl⟩
              case round =>
                obtain ⟨j, nn, hj, rfl, hin, rfl⟩ := hrel
                have HIN := Lib.hid hin
                clear hin
                by_cases hjl : j < k
                · obtain ⟨p0, _, _⟩ := HC.out j (by omega)
                  have HI2 := Lib.hid (show inTo (ids l) (j + 1) id = (id == (mbAt l j).id || inTo (ids l) j id) by rw [inTo, ptAt_ids])
                  generalize (mbAt l j).id = u at *
                  by_cases he : u = id
                  · have q : (u == id) = true := by simp [he]
                    have HZ0 := Lib.hid (HF.out (by
                      rw [HRB.out]
                      have h3 : inTo (ids l) (j + 1) id = true := by rw [HI2.out, he]; simp
                      have h4 : inTo (ids l) k id = true := inTo_mono (ids l) id (by omega) h3
                      rw [mbOk_false l l.length (k + 1) (by omega) (by rw [HST.out, h4]; simp)]; rfl))
                    clear he
                    go_wp2_with fail
                    go_quiet (fail)
                    go_wp2
                    go_ret
                    exact ⟨ret_int HZ0.out.symm, ((Only.refl _ w).drewN _).drewN _⟩
                  · have q : (u == id) = false := by simp [he]
                    have HN := Lib.hid (show inTo (ids l) (j + 1) id = false by
                      rw [HI2.out, HIN.out]; simp; exact fun h => he h.symm)
                    clear he
                    go_wp2_with fail
                    go_quiet (fail)
                    go_wp2
                    go_roundw
                    case rel => exact ⟨j + 1, nn + nq, by omega, by go_num, HN.out, by first | rfl | trivial⟩
                    case measure => simp [intOf]; omega
                · obtain rfl : j = k := by omega
                  have HOKN := Lib.hid (show mbOk l (j + 1) = true by rw [HST.out, HOK.out, HIN.out, HQ.out.1, HQ.out.2]; rfl)
                  go_wp2
                  go_roundw
                  case rel => exact ⟨j + 1, nn, by go_num, by rw [HSU.out], by omega, HOKN.out, rfl⟩
                  case measure => simp [intOf]; omega
            · have q2 : decide (20 < wt) = true := decide_eq_true (by omega)
              have HZ0 := Lib.hid (HF.out (by
                rw [HRB.out, mbOk_false l l.length (k + 1) (by omega) (by rw [HST.out, decide_eq_false h2]; simp)]; rfl))
              go_wp2
              go_ret
              exact ⟨ret_int HZ0.out.symm, (Only.refl _ w).drewN _⟩
          · have q1 : decide (wt < 1) = true := decide_eq_true (by omega)
            have HZ0 := Lib.hid (HF.out (by
              rw [HRB.out, mbOk_false l l.length (k + 1) (by omega) (by rw [HST.out, decide_eq_false h1]; simp)]; rfl))
            go_wp2
            go_ret
            exact ⟨ret_int HZ0.out.symm, (Only.refl _ w).drewN _⟩
        · obtain rfl : k = l.length := by omega
          by_cases h60 : sumTo l l.length ≤ 60
          · have q3 : decide (60 < sumTo l l.length) = false := decide_eq_false (by omega)
            have HR := Lib.hid (show sumTo l l.length = z by rw [← HZ.out]; unfold totZ; rw [HRB.out, hok, decide_eq_true h60]; rfl)
            clear hok
            go_wp2
            go_ret
            exact ⟨ret_int HR.out, (Only.refl _ w).drewN _⟩
          · have q3 : decide (60 < sumTo l l.length) = true := decide_eq_true (by omega)
            have HZ0 := Lib.hid (HF.out (by rw [HRB.out, decide_eq_false h60, Bool.and_false]))
            clear hok
            go_wp2
            go_ret
            exact ⟨ret_int HZ0.out.symm, (Only.refl _ w).drewN _⟩
    · have d2 : decide ((13 : Int) < (l.length : Int)) = true := decide_eq_true (by omega)
      have d1 : decide ((l.length : Int) < 1) = false := decide_eq_false (by omega)
      have HZ0 := Lib.hid (show z = 0 by rw [← HZ.out]; unfold totZ rightB; rw [decide_eq_false hl2]; simp)
      go_enter Tryz.func75, Tryz.ntmps75
      go_wp2
      go_ret
      exact ⟨ret_int HZ0.out.symm, Only.refl _ _⟩
  · have d1 : decide ((l.length : Int) < 1) = true := decide_eq_true (by omega)
    have HZ0 := Lib.hid (show z = 0 by rw [← HZ.out]; unfold totZ rightB; rw [decide_eq_false hl1]; simp)
    go_enter Tryz.func75, Tryz.ntmps75
    go_wp2
    go_ret
    exact ⟨ret_int HZ0.out.symm, Only.refl _ _⟩
theorem rtotal_nil (a : Option Addr) (c : Nat) (w : World) : Calls Tryz.prog 75 #[.slice a 0 c] w fun e w' => e = .returned (.int .i64 0) ∧ Only (fun _ => False) w w' := by
  go_enter Tryz.func75, Tryz.ntmps75
  go_wp2
  go_ret
  exact ⟨rfl, Only.refl _ _⟩
theorem rtotal_any (sv : Value) (l : List Mb) (z : Int) (w : World) (hw : MbsW l) (hs : MbsAt w sv l) (hz : totZ l = z) : Calls Tryz.prog 75 #[sv] w fun e w' => e = .returned (.int .i64 z) ∧ Only (fun _ => False) w w' := by
  rcases hs with ⟨a, c, rfl, rfl⟩ | ⟨b, off, cap, rfl, hb, h1, h2, hc⟩
  · obtain rfl : z = 0 := by rw [← hz]; rfl
    exact rtotal_nil a c w
  · exact rtotal_some b off cap l z w hw hb h1 h2 hz hc
end Go.Proofs.YtlhfgbkonmgahaaGreatDoor

namespace Go.Proofs.YtlhfgbkonmgahaaGreatDoor
open Go.RowKit

/-- Rows that are collected, and the row that is being made. -/
structure Coll (w wr : World) (base : Nat) (v : Value) (us : List Value) (rows : List (List Int)) (o : Value) (r : List Int) : Prop where
  out : wr.ownsRow base 34 1 v us.length us
  len : us.length = rows.length
  own : ∀ j, j < us.length → wr.ownsRow base 3 1 (us.getD j undef) (rows.getD j []).length (irow (rows.getD j []))
  cur : wr.ownsRow base 3 1 o r.length (irow r)
  f1 : ∀ b, v.ownBlock = some b → o.ownBlock ≠ some b
  f2 : ∀ b, v.ownBlock = some b → ∀ j, j < us.length → (us.getD j undef).ownBlock ≠ some b
  f3 : ∀ b, o.ownBlock = some b → ∀ j, j < us.length → (us.getD j undef).ownBlock ≠ some b
  only : Only (fun _ => False) w wr
  low : w.heap.size ≤ base
theorem Coll.frame {w wr w' : World} {base : Nat} {v o : Value} {us : List Value} {rows : List (List Int)} {r : List Int} (h : Coll w wr base v us rows o r) (hO : Only (fun _ => False) wr w') : Coll w w' base v us rows o r :=
  ⟨hO.owns h.out (fun _ _ h => h), h.len, fun j hj => hO.owns (h.own j hj) (fun _ _ h => h), hO.owns h.cur (fun _ _ h => h), h.f1, h.f2, h.f3, h.only.trans hO, h.low⟩
theorem Coll.grow {w wn w' : World} {base t : Nat} {v o : Value} {us : List Value} {rows : List (List Int)} {r : List Int} (h : Coll w wn base v us rows o r) (ht : r.length = t) {g cap : Nat} {x : Int}
    (hown : w'.ownsRow base 3 1 (.slice (some ⟨g, 0, none⟩) (t + 1) cap) (t + 1) (irow r ++ [.int .i64 x])) (hg : wn.grownBy w' o.ownBlock) (hat : o.ownBlock = some g ∨ g = wn.heap.size) :
    Coll w w' base v us rows (.slice (some ⟨g, 0, none⟩) (t + 1) cap) (r ++ [x]) := by
  subst ht
  have hO : Only (fun k => o.ownBlock = some k) wn w' := (Only.refl _ wn).grown hg (fun k e _ => e)
  have e : ∀ k, (Value.slice (some ⟨g, 0, none⟩) (r.length + 1) cap).ownBlock = some k → k = g := fun k hk => by simpa [Value.ownBlock] using hk.symm
  refine ⟨hO.owns h.out (fun k hv ho => h.f1 k hv ho), h.len, fun j hj => hO.owns (h.own j hj) (fun k hu ho => h.f3 k ho j hj hu), by rw [List.length_append, List.length_singleton, irow_append]; exact hown, ?_, h.f2, ?_, ?_, h.low⟩
  · intro b hb he
    obtain rfl := e b he
    rcases hat with hat | hat
    · exact h.f1 b hb hat
    · have := (own_lt h.out hb).1; omega
  · intro b he j hj hu
    obtain rfl := e b he
    rcases hat with hat | hat
    · exact h.f3 b hat j hj hu
    · have := (own_lt (h.own j hj) hu).1; omega
  · exact h.only.trans' hO (fun i hi hp => by have := (own_lt h.cur hp).2; have := h.low; omega)
theorem getD_snoc {α : Type} (a : List α) (x d : α) (j : Nat) : (a ++ [x]).getD j d = if j < a.length then a.getD j d else if j = a.length then x else d := by
  simp only [List.getD]
  split
  · rename_i h; rw [List.getElem?_append_left h]
  · split
    · rename_i h1 h2; subst h2; simp
    · rename_i h1 h2; rw [List.getElem?_eq_none (by simp; omega)]; rfl
theorem Coll.shut {w wn w' : World} {base n : Nat} {v o : Value} {us : List Value} {rows : List (List Int)} {r : List Int} (h : Coll w wn base v us rows o r) (hn : us.length = n) {g cap : Nat}
    (hown : w'.ownsRow base 34 1 (.slice (some ⟨g, 0, none⟩) (n + 1) cap) (n + 1) (us ++ [o])) (hg : wn.grownBy w' v.ownBlock) (hat : v.ownBlock = some g ∨ g = wn.heap.size) :
    Coll w w' base (.slice (some ⟨g, 0, none⟩) (n + 1) cap) (us ++ [o]) (rows ++ [r]) (.slice none 0 0) [] := by
  subst hn
  have hO : Only (fun k => v.ownBlock = some k) wn w' := (Only.refl _ wn).grown hg (fun k e _ => e)
  have e : ∀ k, (Value.slice (some ⟨g, 0, none⟩) (us.length + 1) cap).ownBlock = some k → k = g := fun k hk => by simpa [Value.ownBlock] using hk.symm
  refine ⟨by rw [List.length_append, List.length_singleton]; exact hown, by simp [h.len], fun j hj => ?_, World.ownsRow_nil _ _ _ _, fun b _ hb => by simp [Value.ownBlock] at hb, fun b he j hj hu => ?_, fun b hb => by simp [Value.ownBlock] at hb, ?_, h.low⟩
  · rw [List.length_append, List.length_singleton] at hj
    rw [getD_snoc, getD_snoc, ← h.len]
    by_cases h1 : j < us.length
    · rw [if_pos h1, if_pos h1]
      exact hO.owns (h.own j h1) (fun k hu hv => h.f2 k hv j h1 hu)
    · rw [if_neg h1, if_neg h1, if_pos (by omega), if_pos (by omega)]
      exact hO.owns h.cur (fun k ho hv => h.f1 k hv ho)
  · obtain rfl := e b he
    rw [List.length_append, List.length_singleton] at hj
    rw [getD_snoc] at hu
    by_cases h1 : j < us.length
    · rw [if_pos h1] at hu
      rcases hat with hat | hat
      · exact h.f2 b hat j h1 hu
      · have := (own_lt (h.own j h1) hu).1; omega
    · rw [if_neg h1, if_pos (by omega)] at hu
      rcases hat with hat | hat
      · exact h.f1 b hat hu
      · have := (own_lt h.cur hu).1; omega
  · exact h.only.trans' hO (fun i hi hp => by have := (own_lt h.out hp).2; have := h.low; omega)
theorem Coll.slices {w wr : World} {base : Nat} {v o : Value} {us : List Value} {rows : List (List Int)} {r : List Int} (h : Coll w wr base v us rows o r) : ∀ u ∈ us ++ [o], u.oneCell' = true := by
  intro u hu
  rw [List.mem_append] at hu
  rcases hu with hu | hu
  · obtain ⟨j, hj, rfl⟩ := List.mem_iff_getElem.1 hu
    obtain ⟨a, c, e⟩ := slice_of_own (h.own j hj)
    rw [show us.getD j undef = us[j] by simp [List.getD, hj]] at e
    rw [e]; rfl
  · simp at hu; subst hu
    obtain ⟨a, c, e⟩ := slice_of_own h.cur
    rw [e]; rfl
/-- Rows in a block, all of them from base on. -/
structure GridOwn (base : Nat) (W : World) (v : Value) (us : List Value) (rows : List (List Int)) : Prop where
  out : W.ownsRow base 34 1 v us.length us
  len : us.length = rows.length
  own : ∀ j, j < us.length → W.ownsRow base 3 1 (us.getD j undef) (rows.getD j []).length (irow (rows.getD j []))
  f2 : ∀ b, v.ownBlock = some b → ∀ j, j < us.length → (us.getD j undef).ownBlock ≠ some b
theorem GridOwn.grid {wr : World} {base : Nat} {v : Value} {us : List Value} {rows : List (List Int)} (h : GridOwn base wr v us rows) (hp : 0 < rows.length) (hr : ∀ j, j < rows.length → (rows.getD j []).length ≤ 9223372036854775807) : GridAt wr v rows := by
  rcases h.out.2 with ⟨_, h0⟩ | ⟨g, cap, cur, rfl, hb, hg, hcap, hcap2, hsz, htk⟩
  · have := h.len; omega
  · rw [h.len]
    refine .inr ⟨g, 0, cap, rfl, (Array.getElem?_eq_some_iff.1 hg).1, by rw [← h.len]; exact hcap, by unfold maxLen at hcap2; omega, fun j hj => ?_⟩
    have hj2 : j < us.length := by rw [h.len]; exact hj
    refine ⟨us.getD j undef, ?_, pts_of_own (h.own j hj2) (hr j hj)⟩
    rw [Nat.zero_add]
    have hc := cell_of_row wr g j cur 34 (0, 0) hg
    rw [hc]
    have h1 : us[j]? = some (us.getD j undef) := by simp [List.getD, hj2]
    rw [← h1, ← htk, List.getElem?_take_of_lt (by omega)]
    simp
theorem GridOwn.keep {S : Nat → Prop} {A B : World} {base : Nat} {v : Value} {us : List Value} {rows : List (List Int)} (h : GridOwn base A v us rows) (hO : Only S A B) (hS : ∀ k, base ≤ k → ¬ S k) : GridOwn base B v us rows :=
  ⟨hO.owns h.out (fun g hg => hS g (own_lt h.out hg).2), h.len, fun j hj => hO.owns (h.own j hj) (fun g hg => hS g (own_lt (h.own j hj) hg).2), h.f2⟩
theorem Coll.grid {w wr : World} {base : Nat} {v o : Value} {us : List Value} {rows : List (List Int)} {r : List Int} (h : Coll w wr base v us rows o r) : GridOwn base wr v us rows := ⟨h.out, h.len, h.own, h.f2⟩
/-- What Points leaves, with who owns it. -/
def RPtsPost (w : World) (l : List Mb) (e : Ending) (w' : World) : Prop :=
  Only (fun _ => False) w w' ∧ ((rightB l = true ∧ ∃ v us, e = .returned (.tuple #[v, .bool true]) ∧ GridOwn w.heap.size w' v us (pointsOf l)) ∨ (rightB l = false ∧ e = .returned (.tuple #[.slice none 0 0, .bool false])))

theorem rowsAt_len (l : List Mb) (j : Nat) : (rowsAt l j).length = (mbAt l j).wt.toNat := upI_len _ _
theorem pointsTo_snoc (l : List Mb) (k : Nat) : (List.range (k + 1)).map (rowsAt l) = (List.range k).map (rowsAt l) ++ [rowsAt l k] := by rw [List.range_succ, List.map_append]; rfl

set_option maxRecDepth 100000 in
set_option maxHeartbeats 2000000 in
theorem rpoints_some (b off cap : Nat) (l : List Mb) (w : World) (hw : MbsW l) (hb : b < w.heap.size) (hcap : l.length ≤ cap) (hcap2 : cap ≤ 9223372036854775807)
    (hc : ∀ j, j < l.length → w.cell? ⟨b, off + j * 3, none⟩ = some (.int .i64 (mbAt l j).id) ∧ w.cell? ⟨b, off + j * 3 + 1, none⟩ = some (.int .i64 (mbAt l j).wt) ∧ w.cell? ⟨b, off + j * 3 + 2, none⟩ = some (.int .i64 (mbAt l j).pb)) :
    Calls Tryz.prog 40 #[.slice (some ⟨b, off, none⟩) l.length cap] w (RPtsPost w l) := by
  obtain ⟨i0, hi0, hz0, hz1, hz2⟩ := info_parts Tryz.infoI
  obtain ⟨j0, hj0, hy0, hy1, hy2⟩ := info_parts Tryz.infoI2
  have HT := Lib.hid (rtotal_some b off cap l (totZ l) w hw hb hcap hcap2 rfl hc)
  have HC := Lib.hid hc
  clear hc hw
  cases hR : rightB l
  · have hz : totZ l = 0 := by unfold totZ; rw [hR]; rfl
    rw [hz] at HT
    have HR := Lib.hid hR
    clear hR hz
    go_enter Tryz.func40, Tryz.ntmps40
    go_wp2_with fail
    refine HT.out.mono ?_
    rintro e w1 ⟨rfl, hO⟩
    have HO := Lib.hid hO
    clear hO HT
    go_wp2
    go_ret2
    exact ⟨HO.out, .inr ⟨HR.out, rfl⟩⟩
  · obtain ⟨z0, z1⟩ := totZ_pos hR
    obtain ⟨hl1, hl2, hok, _⟩ := rightB_spec hR
    have HWT := Lib.hid (mbOk_wt l l.length hok)
    have HR := Lib.hid hR
    have hzb : (totZ l == 0) = false := beq_eq_false_iff_ne.2 (by omega)
    generalize totZ l = z at *
    clear hR hok
    go_enter Tryz.func40, Tryz.ntmps40
    go_wp2_with fail
    refine HT.out.mono ?_
    rintro e w1 ⟨rfl, hO⟩
    have HO := Lib.hid hO
    clear hO HT
    go_wp2_with fail
    go_loopw [4, 5, 6] (fun v vx vi wr => ∃ (k : Nat) (us : List Value), vi = .int .i64 k ∧ vx = .int .i64 (sumTo l k) ∧ k ≤ l.length ∧ us.length = k ∧ Coll w wr w.heap.size v us ((List.range k).map (rowsAt l)) (.slice none 0 0) []) (fun _ _ vi _ => l.length - (intOf vi).toNat)
    case atStart => exact ⟨0, [], rfl, rfl, Nat.zero_le _, rfl, World.ownsRow_nil _ _ _ _, rfl, fun j hj => by simp at hj, World.ownsRow_nil _ _ _ _, fun b hb => by simp [Value.ownBlock] at hb, fun b hb => by simp [Value.ownBlock] at hb, fun b hb => by simp [Value.ownBlock] at hb, HO.out, Nat.le_refl _⟩
    case round =>
      clear HO
      obtain ⟨k, us, rfl, rfl, hk, hul, hD⟩ := hrel
      have hsz := hD.only.size
      by_cases hlt : k < l.length
      · obtain ⟨e0, e1, e2⟩ := HC.out k hlt
        obtain ⟨hw1, hw2⟩ := HWT.out.1 k hlt
        obtain ⟨hs1, hs2⟩ := HWT.out.2 k (by omega)
        have HSU := Lib.hid (show sumTo l (k + 1) = sumTo l k + (mbAt l k).wt from rfl)
        have HPS := Lib.hid (pointsTo_snoc l k)
        have HRO := Lib.hid (show rowsAt l k = upI (sumTo l k) (mbAt l k).wt.toNat from rfl)
        have HD := Lib.hid hD
        have HUL := Lib.hid hul
        obtain ⟨av, cv, rfl⟩ := slice_of_own hD.out
        clear hD e0 e2 hul
        generalize mbAt l k = m at *
        obtain ⟨id, wt, pb⟩ := m
        dsimp only at e1 hw1 hw2
        generalize sumTo l k = s at *
        obtain ⟨wn, rfl⟩ : ∃ wn : Nat, wt = wn := ⟨wt.toNat, by omega⟩
        dsimp only [Int.toNat_natCast] at HRO
        generalize (List.range k).map (rowsAt l) = rows at *
        go_wp2_with fail
        go_loopw [5, 7, 8] (fun vx vo vt wi => ∃ (t : Nat), vt = .int .i64 t ∧ vx = .int .i64 (s + t) ∧ t ≤ wn ∧ Coll w wi w.heap.size (.slice av us.length cv) us rows vo (upI s t)) (fun _ _ vt _ => wn - (intOf vt).toNat)
        case atStart => exact ⟨0, rfl, by simp, Nat.zero_le _, HD.out⟩
        case round =>
          clear HD
          obtain ⟨t, rfl, rfl, ht, hD⟩ := hrel
          have hsz2 := hD.only.size
          have c1 := hD.only.cell e1 (fun h => h)
          have hbl : b < wr.heap.size := by omega
          by_cases htl : t < wn
          · have HD3 := Lib.hid (hD.frame ((Only.refl (fun _ => False) wr).alloc (.cells #[.int .i64 (s + t + 1)] 3)))
            have hown : (wr.alloc (.cells #[.int .i64 (s + t + 1)] 3)).ownsRow w.heap.size 3 1 u7 t (irow (upI s t)) := by
              have := HD3.out.cur
              rw [upI_len] at this; exact this
            obtain ⟨a6, c6, rfl⟩ := slice_of_own hown
            clear hD
            go_wp2_with (at_builtin; refine wpList_append_lies _ rfl _ _ 34 rfl w.heap.size 3 i0 _ 1 8 Tryz.underlying34 hi0 hz0 hz1 hz2 rfl (by decide) _ t (irow (upI s t)) rfl hown ⟨wr.heap.size, 0, none⟩ 1 1 [.int .i64 (s + t + 1)] rfl rfl (cell_one_new _ _ _) (one_int _) (by decide) ?c1 ?c2 ?c3 _ rfl ?_)
            case c1 => unfold maxLen; omega
            case c2 => omega
            case c3 => first | omega | (simp; omega)
            intro g1 cp1 w1 ho1 hg1 ha1 hgl1
            have HD4 := Lib.hid (HD3.out.grow (upI_len s t) ho1 hg1 (by rw [World.size_alloc]; exact ha1))
            clear ho1 hg1 ha1 hown HD3
            go_wp2
            go_roundw
            case rel => exact ⟨t + 1, by go_num, by congr 1; go_num, by omega, HD4.out⟩
            case measure => simp [intOf]; omega
          · obtain rfl : t = wn := by omega
            have HD3 := Lib.hid (hD.frame ((Only.refl (fun _ => False) wr).alloc (.cells #[u7] 34)))
            have hout := HD3.out.out
            have hsl := HD3.out.slices
            have hul2 : us.length ≤ 13 := by rw [HUL.out]; omega
            obtain ⟨ac, cc, hu7⟩ := slice_of_own hD.cur
            subst hu7
            clear hD
            go_wp2_with (at_builtin; refine wpList_append_lies _ rfl _ _ 39 rfl w.heap.size 34 j0 _ 1 24 Tryz.underlying39 hj0 hy0 hy1 hy2 rfl (by decide) _ us.length us rfl hout ⟨wr.heap.size, 0, none⟩ 1 1 [.slice ac (upI s t).length cc] rfl rfl (cell_one_new _ _ _) ?c0 (by decide) ?c1 ?c2 ?c3 _ rfl ?_)
            case c0 => exact fun u hu => hsl u (List.mem_append_right _ hu)
            case c1 => unfold maxLen; omega
            case c2 => omega
            case c3 => first | omega | (simp; omega)
            intro g1 cp1 w1 ho1 hg1 ha1 hgl1
            have HD4 := Lib.hid (HD3.out.shut rfl ho1 hg1 (by rw [World.size_alloc]; exact ha1))
            clear ho1 hg1 ha1 hout hsl HD3
            go_wp2
            go_roundw
            case rel => exact ⟨k + 1, us ++ [.slice ac (upI s t).length cc], by go_num, by rw [HSU.out], by omega, by rw [List.length_append, HUL.out]; rfl, by rw [HPS.out, HRO.out]; exact HD4.out⟩
            case measure => simp [intOf]; omega
      · obtain rfl : k = l.length := by omega
        have HG := Lib.hid (show GridOwn w.heap.size wr u4 us (pointsOf l) from hD.grid)
        have HOE := Lib.hid hD.only
        clear hD
        go_wp2
        go_ret2
        exact ⟨HOE.out, .inl ⟨HR.out, _, _, rfl, HG.out⟩⟩
theorem rpoints_nil (a : Option Addr) (c : Nat) (w : World) : Calls Tryz.prog 40 #[.slice a 0 c] w (RPtsPost w []) := by
  go_enter Tryz.func40, Tryz.ntmps40
  go_wp2_with fail
  refine (rtotal_nil a c w).mono ?_
  rintro e w1 ⟨rfl, hO⟩
  have HO := Lib.hid hO
  clear hO
  go_wp2
  go_ret2
  exact ⟨HO.out, .inr ⟨rfl, rfl⟩⟩
theorem rpoints_own (sv : Value) (l : List Mb) (w : World) (hw : MbsW l) (hs : MbsAt w sv l) : Calls Tryz.prog 40 #[sv] w (RPtsPost w l) := by
  rcases hs with ⟨a, c, rfl, rfl⟩ | ⟨b, off, cap, rfl, hb, h1, h2, hc⟩
  · exact rpoints_nil a c w
  · exact rpoints_some b off cap l w hw hb h1 h2 hc
theorem points_grid {base : Nat} {W : World} {v : Value} {us : List Value} {l : List Mb} (h : GridOwn base W v us (pointsOf l)) (hr : rightB l = true) : GridAt W v (pointsOf l) := by
  unfold rightB at hr
  simp only [Bool.and_eq_true, decide_eq_true_eq] at hr
  refine h.grid (by rw [pointsOf_len]; omega) (fun j hj => ?_)
  rw [pointsOf_len] at hj
  rw [pointsOf_at l j hj, rowsAt_len]
  have := ((mbOk_wt l l.length hr.2.1).1 j hj).2
  omega
theorem rpoints_any (sv : Value) (l : List Mb) (w : World) (hw : MbsW l) (hs : MbsAt w sv l) : Calls Tryz.prog 40 #[sv] w (PtsPost w l) :=
  (rpoints_own sv l w hw hs).mono fun _ _ ⟨hO, h⟩ => ⟨hO, h.imp (fun ⟨h1, v, _, h2, h3⟩ => ⟨h1, v, h2, points_grid h3 h1⟩) id⟩
end Go.Proofs.YtlhfgbkonmgahaaGreatDoor

namespace Go.Proofs.YtlhfgbkonmgahaaGreatDoor
open Go.RowKit

theorem ext_ptAt {xs ys : List Int} (hl : xs.length = ys.length) (h : ∀ j, j < xs.length → ptAt xs j = ptAt ys j) : xs = ys := by
  apply List.ext_getElem hl
  intro j h1 h2
  have := h j h1
  unfold ptAt at this
  simpa [List.getD, h1, h2] using this

theorem quiet_add_more {P : Program} {f : FuncId} {args : Array Value} {w : World} {a n : Nat} {v : Value}
    (h : ∀ k, Calls P f args (w.drewN k) fun e w' => e = .returned v ∧ ∃ m, w' = (w.drewN k).drewN m) :
    Calls P f args (w.drewN (a + n)) fun e w'' => e = .returned v ∧ ∃ m, w'' = w.drewN (a + m) :=
  (h (a + n)).mono fun _ _ ⟨he, m, hm⟩ => ⟨he, n + m, by rw [hm, World.drewN_drewN, Nat.add_assoc]⟩
theorem ext_getD {xs ys : List (List Int)} (hl : xs.length = ys.length) (h : ∀ j, j < xs.length → xs.getD j [] = ys.getD j []) : xs = ys := by
  apply List.ext_getElem hl
  intro j h1 h2
  have := h j h1
  simpa [List.getD, h1, h2] using this
theorem GridAt.slice {W : World} {v : Value} {rows : List (List Int)} (h : GridAt W v rows) : ∃ a c, v = .slice a rows.length c := by
  rcases h with ⟨a, c, rfl, rfl⟩ | ⟨b, off, cap, rfl, _⟩
  · exact ⟨_, _, rfl⟩
  · exact ⟨_, _, rfl⟩
/-- No list is longer than a machine's number. -/
def Short (rows : List (List Int)) : Prop := ∀ j, (rows.getD j []).length ≤ 9223372036854775807

end Go.Proofs.YtlhfgbkonmgahaaGreatDoor

namespace Go.Proofs.YtlhfgbkonmgahaaGreatDoor
open Go.RowKit

def mostZ (n : Int) : Int := if n < 1 then 0 else (n - 1) / 3
def needZ (n : Int) : Int := if n < 1 then 0 else mostZ n + 1
theorem most_is (n z : Int) (w : World) (hn : n ≤ 9223372036854775807) (hz : mostZ n = z) : Calls Tryz.prog 98 #[.int .i64 n] w fun e w' => e = .returned (.int .i64 z) ∧ w = w' := by
  have HZ := Lib.hid hz
  clear hz
  by_cases h : n < 1
  · have d : decide (n < 1) = true := decide_eq_true h
    have HE := Lib.hid (show z = 0 by rw [← HZ.out]; unfold mostZ; rw [if_pos h])
    go_enter Tryz.func98, Tryz.ntmps98
    go_wp2
    go_ret
    exact ⟨ret_int HE.out.symm, rfl⟩
  · have d : decide (n < 1) = false := decide_eq_false h
    have HE := Lib.hid (show z = (n - 1) / 3 by rw [← HZ.out]; unfold mostZ; rw [if_neg h])
    go_enter Tryz.func98, Tryz.ntmps98
    go_wp2
    go_ret
    exact ⟨ret_int (by rw [HE.out]), rfl⟩
theorem need_is (n z : Int) (w : World) (hn : n ≤ 9223372036854775807) (hz : needZ n = z) : Calls Tryz.prog 78 #[.int .i64 n] w fun e w' => e = .returned (.int .i64 z) ∧ w = w' := by
  have HZ := Lib.hid hz
  clear hz
  by_cases h : n < 1
  · have d : decide (n < 1) = true := decide_eq_true h
    have HE := Lib.hid (show z = 0 by rw [← HZ.out]; unfold needZ; rw [if_pos h])
    go_enter Tryz.func78, Tryz.ntmps78
    go_wp2
    go_ret
    exact ⟨ret_int HE.out.symm, rfl⟩
  · have d : decide (n < 1) = false := decide_eq_false h
    have HE := Lib.hid (show z = mostZ n + 1 by rw [← HZ.out]; unfold needZ; rw [if_neg h])
    have hm : 0 ≤ mostZ n ∧ mostZ n ≤ 4000000000000000000 := by unfold mostZ; rw [if_neg h]; omega
    obtain ⟨m0, m1⟩ := hm
    obtain ⟨m, hm⟩ : ∃ m, mostZ n = m := ⟨_, rfl⟩
    rw [hm] at m0 m1
    have HM := Lib.hid hm
    clear hm
    go_enter Tryz.func78, Tryz.ntmps78
    go_wp2_with fail
    refine (most_is n m _ hn HM.out).mono ?_
    rintro e w' ⟨rfl, rfl⟩
    go_wp2
    go_ret
    exact ⟨ret_int (by rw [HE.out, HM.out]), rfl⟩
theorem Tryz.infoM : (Tryz.prog.info? 76).map (fun i => (i.zero, i.size, i.bytes)) = some (some (.agg #[.int .i64 0, .int .i64 0, .int .i64 0]), 3, 24) := by kernel_rfl
def mrow (l : List Mb) : List Value := l.flatMap (fun m => [.int .i64 m.id, .int .i64 m.wt, .int .i64 m.pb])
theorem mrow_append (a b : List Mb) : mrow (a ++ b) = mrow a ++ mrow b := by simp [mrow]
theorem mrow_at (l : List Mb) : ∀ j, j < l.length → (mrow l)[j * 3]? = some (.int .i64 (mbAt l j).id) ∧ (mrow l)[j * 3 + 1]? = some (.int .i64 (mbAt l j).wt) ∧ (mrow l)[j * 3 + 2]? = some (.int .i64 (mbAt l j).pb) := by
  induction l with
  | nil => intro j h; simp at h
  | cons s l ih =>
    intro j h
    cases j with
    | zero => simp [mrow, mbAt]
    | succ j =>
      have := ih j (by simpa using h)
      have e1 : (j + 1) * 3 = j * 3 + 3 := by omega
      rw [e1]
      simpa [mrow, mbAt] using this
theorem mbs_of_own {w : World} {base : Nat} {v : Value} {l : List Mb} (h : w.ownsRow base 76 3 v l.length (mrow l)) : MbsAt w v l := by
  cases l with
  | nil =>
    rcases h.2 with ⟨rfl, _⟩ | ⟨g, cap, cur, rfl, _⟩
    · exact .inl ⟨_, _, rfl, rfl⟩
    · exact .inl ⟨_, _, rfl, rfl⟩
  | cons z l =>
    rcases h.2 with ⟨_, h0⟩ | ⟨g, cap, cur, rfl, hb, hg, hcap, hcap2, hsz, htk⟩
    · simp at h0
    · refine .inr ⟨g, 0, cap, rfl, (Array.getElem?_eq_some_iff.1 hg).1, hcap, by unfold maxLen at hcap2; omega, fun j hj => ?_⟩
      have h1 := mrow_at (z :: l) j hj
      have c1 := cell_of_row w g (j * 3) cur 76 (0, 0) hg
      have c2 := cell_of_row w g (j * 3 + 1) cur 76 (0, 0) hg
      have c3 := cell_of_row w g (j * 3 + 2) cur 76 (0, 0) hg
      rw [Nat.zero_add, c1, c2, c3]
      rw [← htk, List.getElem?_take_of_lt (by omega), List.getElem?_take_of_lt (by omega), List.getElem?_take_of_lt (by omega)] at h1
      simpa using h1
/-- Members by weights, of the first k. -/
def wtsTo (zs : List Int) : Nat → List Mb
  | 0 => []
  | k + 1 => wtsTo zs k ++ [⟨1 + k, ptAt zs k, 0⟩]
theorem wtsTo_len (zs : List Int) (k : Nat) : (wtsTo zs k).length = k := by
  induction k with
  | zero => rfl
  | succ k ih => rw [wtsTo, List.length_append, ih]; rfl

theorem pts_lit (w : World) (zs : List Int) (T : TypeId) (h : zs.length ≤ 9223372036854775807) : PtsAt (w.alloc (.cells (irow zs).toArray T)).heap.size (w.alloc (.cells (irow zs).toArray T)) (.slice (some ⟨w.heap.size, 0, none⟩) zs.length zs.length) zs := by
  refine .inr ⟨w.heap.size, 0, zs.length, rfl, by simp, Nat.le_refl _, h, fun j hj => ?_⟩
  rw [Nat.zero_add, cell_of_row _ w.heap.size j (irow zs).toArray T (0, 0) (heap_alloc_new w _)]
  have := irow_get zs j hj
  simpa using this
theorem pts_at (w : World) (zs : List Int) (T : TypeId) (n : Nat) (hn : w.heap.size = n) (h : zs.length ≤ 9223372036854775807) : PtsAt (w.alloc (.cells (irow zs).toArray T)).heap.size (w.alloc (.cells (irow zs).toArray T)) (.slice (some ⟨n, 0, none⟩) zs.length zs.length) zs := by
  subst hn; exact pts_lit w zs T h
theorem shs_lit (w : World) (l : List (Int × Int)) (T : TypeId) (h : l.length ≤ 9223372036854775807) : ShsAt (w.alloc (.cells (srow l).toArray T)) (.slice (some ⟨w.heap.size, 0, none⟩) l.length l.length) l := by
  refine .inr ⟨w.heap.size, 0, l.length, rfl, by simp, Nat.le_refl _, h, fun j hj => ?_⟩
  rw [Nat.zero_add, cell_of_row _ w.heap.size (j * 2) (srow l).toArray T (0, 0) (heap_alloc_new w _), cell_of_row _ w.heap.size (j * 2 + 1) (srow l).toArray T (0, 0) (heap_alloc_new w _)]
  have := srow_at l j hj
  simpa using this
theorem small_shs {l : List (Int × Int)} (h : ∀ s ∈ l, (0 ≤ s.1 ∧ s.1 ≤ 9000000000000000000) ∧ (0 ≤ s.2 ∧ s.2 ≤ 9000000000000000000)) : ShsW l := by
  refine ⟨fun j => ?_⟩
  unfold shAt
  by_cases hj : j < l.length
  · have := h l[j] (List.getElem_mem hj)
    rw [show l.getD j (0, 0) = l[j] by simp [List.getD, hj]]
    omega
  · rw [show l.getD j (0, 0) = (0, 0) by simp [List.getD, List.getElem?_eq_none (by omega : l.length ≤ j)]]
    simp

theorem grid_lit (w : World) : GridAt ((((w.alloc (.cells #[.int .i64 1, .int .i64 2] 3)).alloc (.cells #[.int .i64 3] 3)).alloc (.cells #[.int .i64 4, .int .i64 5, .int .i64 6] 3)).alloc
      (.cells #[.slice (some ⟨w.heap.size, 0, none⟩) 2 2, .slice (some ⟨w.heap.size + 1, 0, none⟩) 1 1, .slice (some ⟨w.heap.size + 1 + 1, 0, none⟩) 3 3] 34)) (.slice (some ⟨w.heap.size + 1 + 1 + 1, 0, none⟩) 3 3) [[1, 2], [3], [4, 5, 6]] := by
  have p1 := pts_lit w [1, 2] 3 (by decide)
  have p2 := pts_at (w.alloc (.cells #[.int .i64 1, .int .i64 2] 3)) [3] 3 (w.heap.size + 1) (by simp) (by decide)
  have p3 := pts_at ((w.alloc (.cells #[.int .i64 1, .int .i64 2] 3)).alloc (.cells #[.int .i64 3] 3)) [4, 5, 6] 3 (w.heap.size + 1 + 1) (by simp) (by decide)
  have hn := heap_alloc_new (((w.alloc (.cells #[.int .i64 1, .int .i64 2] 3)).alloc (.cells #[.int .i64 3] 3)).alloc (.cells #[.int .i64 4, .int .i64 5, .int .i64 6] 3)) (.cells #[.slice (some ⟨w.heap.size, 0, none⟩) 2 2, .slice (some ⟨w.heap.size + 1, 0, none⟩) 1 1, .slice (some ⟨w.heap.size + 1 + 1, 0, none⟩) 3 3] 34)
  simp only [World.size_alloc] at hn
  refine .inr ⟨w.heap.size + 1 + 1 + 1, 0, 3, rfl, by simp, by decide, by decide, fun j hj => ?_⟩
  rw [Nat.zero_add, cell_of_row _ _ j _ _ _ hn]
  match j, hj with
  | 0, _ => exact ⟨_, rfl, p1.only ((((Only.refl _ _).alloc _).alloc _).alloc _)⟩
  | 1, _ => exact ⟨_, rfl, p2.only (((Only.refl _ _).alloc _).alloc _)⟩
  | 2, _ => exact ⟨_, rfl, p3.only ((Only.refl _ _).alloc _)⟩
theorem short_lit : Short [[1, 2], [3], [4, 5, 6]] := fun j => by
  match j with
  | 0 => decide
  | 1 => decide
  | 2 => decide
  | j + 3 => simp [List.getD]
theorem small_12 : IntsW [1, 2] := ⟨fun j => by
  match j with
  | 0 => decide
  | 1 => decide
  | j + 2 => simp [ptAt, List.getD]⟩

end Go.Proofs.YtlhfgbkonmgahaaGreatDoor

namespace Go.Proofs.YtlhfgbkonmgahaaGreatDoor
open Go.RowKit

set_option maxHeartbeats 1000000 in
theorem rints9_is (sv nv : Value) (xs ys : List Int) (bb : Bool) (w : World) (_hlen : xs.length ≤ 9223372036854775807) (hI : PtsAt w.heap.size w sv xs) (hN : PtsAt w.heap.size w nv ys) (hb : decide (xs = ys) = bb) :
    Calls Tryz.prog 26 #[sv, nv] w fun e w' => e = .returned (.bool bb) ∧ ∃ n, w' = w.drewN n := by
  obtain ⟨a1, c1, rfl⟩ := hI.slice
  obtain ⟨a2, c2, rfl⟩ := hN.slice
  have HI := Lib.hid hI
  have HN := Lib.hid hN
  have HB := Lib.hid hb
  clear hI hN hb
  by_cases hl : xs.length = ys.length
  · have q : ((xs.length : Int) != (ys.length : Int)) = false := by simp; omega
    have hl1 : xs.length ≤ ys.length := by omega
    have HL := Lib.hid hl
    clear hl
    go_enter Tryz.func26, Tryz.ntmps26
    go_wp2_with fail
    go_loopw [5] (fun vi wr => ∃ (k n : Nat), vi = .int .i64 k ∧ k ≤ xs.length ∧ (∀ j, j < k → ptAt xs j = ptAt ys j) ∧ wr = w.drewN n) (fun vi _ => xs.length - (intOf vi).toNat)
    case atStart => exact ⟨0, 0, rfl, Nat.zero_le _, fun j hj => by omega, rfl⟩
    case round =>
      obtain ⟨k, n, rfl, hk, hall, rfl⟩ := hrel
      have HALL := Lib.hid hall
      clear hall
      by_cases hlt : k < xs.length
      · rcases HI.out with ⟨_, _, _, hx0⟩ | ⟨b1, o1, cp1, hv1, hb1, hc1, hd1, he1⟩
        · rw [hx0] at hlt; simp at hlt
        rcases HN.out with ⟨_, _, _, hy0⟩ | ⟨b2, o2, cp2, hv2, hb2, hc2, hd2, he2⟩
        · rw [hy0] at hl1; simp at hl1; rw [hl1] at hlt; simp at hlt
        simp only [Value.slice.injEq, true_and] at hv1 hv2
        obtain ⟨rfl, rfl⟩ := hv1
        obtain ⟨rfl, rfl⟩ := hv2
        have p0 := he1 k hlt
        have hlt2 : k < ys.length := by omega
        have p1 := he2 k hlt2
        clear he1 he2
        by_cases e : ptAt xs k = ptAt ys k
        · have HN := Lib.hid (show ∀ j, j < k + 1 → ptAt xs j = ptAt ys j from fun j hj => by
            by_cases h : j = k
            · rw [h]; exact e
            · exact HALL.out j (by omega))
          rw [e] at p0
          clear e
          generalize ptAt ys k = y at *
          have q2 : (y != y) = false := by simp
          go_wp2_with fail
          go_quiet (fail)
          go_wp2
          go_roundw
          case rel => exact ⟨k + 1, n + nq, by go_num, by omega, HN.out, by first | rfl | trivial⟩
          case measure => simp [intOf]; omega
        · have HF := Lib.hid (show bb = false by rw [← HB.out]; exact decide_eq_false (fun h => e (by rw [h])))
          have q2 : (ptAt xs k != ptAt ys k) = true := by simp [e]
          clear e
          generalize ptAt xs k = x at *
          generalize ptAt ys k = y at *
          go_wp2_with fail
          go_quiet (fail)
          go_wp2
          go_ret
          exact ⟨by rw [HF.out]; rfl, n + nq, by first | rfl | trivial | simp⟩
      · have HT := Lib.hid (show bb = true by
          rw [← HB.out]; exact decide_eq_true (ext_ptAt HL.out (fun j hj => HALL.out j (by omega))))
        go_wp2
        go_ret
        exact ⟨by rw [HT.out]; rfl, n, rfl⟩
  · have q : ((xs.length : Int) != (ys.length : Int)) = true := by simp; omega
    have HF := Lib.hid (show bb = false by rw [← HB.out]; exact decide_eq_false (fun h => hl (by rw [h])))
    clear hl
    go_enter Tryz.func26, Tryz.ntmps26
    go_wp2
    go_ret
    exact ⟨by rw [HF.out]; rfl, 0, rfl⟩
end Go.Proofs.YtlhfgbkonmgahaaGreatDoor
