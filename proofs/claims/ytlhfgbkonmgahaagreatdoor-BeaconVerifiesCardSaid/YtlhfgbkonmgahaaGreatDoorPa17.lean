/-
  The walk of the law WeightJoins.
-/
import Derived.Test.YtlhfgbkonmgahaaGreatDoorPa14
import Derived.Test.YtlhfgbkonmgahaaGreatDoorPa15
import Derived.Deep.RegionHeld3
namespace Go.Proofs.YtlhfgbkonmgahaaGreatDoor
open Go.RowKit

/-- A slice of pairs, its cells. -/
theorem ShsAt.cellAt {W : World} {a : Option Addr} {len c k : Nat} {l : List (Int × Int)} (h : ShsAt W (.slice a len c) l) (hk : k < l.length) :
    ∃ b off, a = some ⟨b, off, none⟩ ∧ b < W.heap.size ∧ len = l.length ∧ l.length ≤ c ∧ c ≤ 9223372036854775807 ∧ W.cell? ⟨b, off + k * 2, none⟩ = some (.int .i64 (shAt l k).1) ∧ W.cell? ⟨b, off + k * 2 + 1, none⟩ = some (.int .i64 (shAt l k).2) := by
  rcases h with ⟨_, _, _, h0⟩ | ⟨b, off, cap, hv, hb, h1, h2, hc⟩
  · rw [h0] at hk; simp at hk
  · simp only [Value.slice.injEq] at hv
    obtain ⟨rfl, rfl, rfl⟩ := hv
    exact ⟨b, off, rfl, hb, rfl, h1, h2, hc k hk⟩
/-- What is known of a group that was made. -/
theorem made_facts (zs : List Int) : CrewOk (crewZ zs) (ndZ zs) ∧ rightB (crewZ zs) = true ∧ totZ (crewZ zs) = ((boxTo (crewZ zs) (crewZ zs).length).length : Nat) ∧ (coefZ zs).length = ndZ zs ∧ (commZ zs).length = ndZ zs ∧ (∀ j, 0 ≤ ptAt (coefZ zs) j ∧ ptAt (coefZ zs) j < 1152921504606845789) := by
  have h1 : CrewOk (crewZ zs) (ndZ zs) := crew_ok zs 1 (by decide)
  have h2 : rightB (crewZ zs) = true := crew_right zs 1
  exact ⟨h1, h2, (crew_tot h2 h1).1, coefTo_len _ _ _, mixL_len _ _ _, fun j => coefTo_bd _ _ _ j⟩
theorem jnTo_len (F C : List Int) (o : List (Int × Int)) : ∀ i, (jnTo F C o i).length ≤ 4 * i ∧ i ≤ (jnTo F C o i).length
  | 0 => ⟨Nat.le_refl _, Nat.le_refl _⟩
  | i + 1 => by
    have ih := jnTo_len F C o i
    rw [jnTo, List.length_append, jnAt, List.length_append, List.length_singleton]
    split
    · simp only [List.length_cons, List.length_nil]; omega
    · simp only [List.length_nil]; omega
theorem six_int (a b c d e f : Int) : ∀ u ∈ [Value.int .i64 a, .int .i64 b, .int .i64 c, .int .i64 d, .int .i64 e, .int .i64 f], u.oneCell' = true := by
  intro u hu
  simp at hu
  rcases hu with rfl | rfl | rfl | rfl | rfl | rfl <;> rfl
theorem four_int (a b c d : Int) : ∀ u ∈ [Value.int .i64 a, .int .i64 b, .int .i64 c, .int .i64 d], u.oneCell' = true := by
  intro u hu
  simp at hu
  rcases hu with rfl | rfl | rfl | rfl <;> rfl
theorem pair_int (a b : Int) : ∀ u ∈ [Value.int .i64 a, .int .i64 b], u.oneCell' = true := by
  intro u hu
  simp at hu
  rcases hu with rfl | rfl <;> rfl
theorem own_cap {w : World} {base e n cap : Nat} {a : Option Addr} {xs : List Value} {size : Nat} (h : w.ownsRow base e size (.slice a n cap) n xs) (hn : 0 < n) : n ≤ cap ∧ cap ≤ 9223372036854775807 := by
  rcases h.2 with ⟨_, h0⟩ | ⟨g, cap', cur, hv, _, _, hcap, hcap2, _⟩
  · omega
  · simp only [Value.slice.injEq] at hv
    obtain ⟨_, _, rfl⟩ := hv
    unfold maxLen at hcap2
    exact ⟨hcap, by omega⟩
theorem shs_cut {W : World} {a : Option Addr} {m c : Nat} {l : List (Int × Int)} (h : ShsAt W (.slice a m c) l) (n : Nat) (hn : n ≤ m) (hm : m = l.length) : ShsAt W (.slice a n c) (l.take n) := by
  subst hm
  have hl : (l.take n).length = n := by rw [List.length_take]; omega
  rcases h with ⟨a', c', e, rfl⟩ | ⟨b, off, cap, e, hb, h1, h2, hc⟩
  · simp at hn; subst hn; exact .inl ⟨a, c, rfl, by simp⟩
  · simp only [Value.slice.injEq, true_and] at e
    obtain ⟨rfl, rfl⟩ := e
    refine .inr ⟨b, off, c, by rw [hl], hb, by omega, h2, fun j hj => ?_⟩
    rw [hl] at hj
    rw [shAt_take l n j hj]; exact hc j (by omega)
/-- A share of machine numbers. -/
def ShR (s : Int × Int) : Prop := (-9223372036854775808 ≤ s.1 ∧ s.1 ≤ 9223372036854775807) ∧ (-9223372036854775808 ≤ s.2 ∧ s.2 ≤ 9223372036854775807)
theorem shsW_of {l : List (Int × Int)} (h : ∀ s ∈ l, ShR s) : ShsW l := ⟨fun j => by
  by_cases hj : j < l.length
  · have : shAt l j ∈ l := by unfold shAt; simp [List.getD, hj]
    exact h _ this
  · have : shAt l j = (0, 0) := by simp [shAt, List.getD, List.getElem?_eq_none (show l.length ≤ j by omega)]
    rw [this]; decide⟩
theorem valZ_r (C : List Int) (x : Int) : -9223372036854775808 ≤ valZ C x ∧ valZ C x ≤ 9223372036854775807 := by
  have := valZ_bd C x
  have h : gQ = 1152921504606845789 := rfl
  omega
theorem jnTo_r (F C : List Int) (o : List (Int × Int)) (hF : ∀ j, 0 ≤ ptAt F j ∧ ptAt F j ≤ 60) (ho : ShsW o) : ∀ i, ∀ s ∈ jnTo F C o i, ShR s
  | 0, s, h => by simp [jnTo] at h
  | i + 1, s, h => by
    have hf := hF i
    have hv := valZ_r C (ptAt F i)
    have hm := emod_self_lt (shAt o i).2 1000 (by decide)
    rw [jnTo, List.mem_append] at h
    rcases h with h | h
    · exact jnTo_r F C o hF ho i s h
    · rw [jnAt, List.mem_append, List.mem_singleton] at h
      rcases h with h | h
      · split at h
        · simp only [List.mem_cons, List.not_mem_nil, or_false] at h
          rcases h with rfl | rfl | rfl
          · exact ⟨by dsimp only; omega, (ho.wf i).1⟩
          · exact ⟨by dsimp only; omega, by dsimp only; omega⟩
          · exact ⟨by decide, by decide⟩
        · simp at h
      · subst h; exact ⟨by dsimp only; omega, hv⟩
theorem jnTo_w (F C : List Int) (o : List (Int × Int)) (i : Nat) (hF : ∀ j, 0 ≤ ptAt F j ∧ ptAt F j ≤ 60) (ho : ShsW o) : ShsW (jnTo F C o i) := shsW_of (jnTo_r F C o hF ho i)
theorem choZ_bd (zs : List Int) (n nd : Nat) (h : nd ≤ n) (hn : n ≤ 60) (j : Nat) : 0 ≤ ptAt (choZ zs n nd) j ∧ ptAt (choZ zs n nd) j ≤ 60 := by
  by_cases hj : j < (choZ zs n nd).length
  · have : ptAt (choZ zs n nd) j ∈ choZ zs n nd := by unfold ptAt; simp [List.getD, hj]
    have := choZ_mem zs n nd h _ this
    omega
  · have : ptAt (choZ zs n nd) j = 0 := by simp [ptAt, List.getD, List.getElem?_eq_none (show (choZ zs n nd).length ≤ j by omega)]
    rw [this]; decide
/-- The state of the law's loop: shares in a block of their own, made after w4. -/
structure JnAt (w4 wr : World) (v : Value) (l : List (Int × Int)) : Prop where
  own : wr.ownsRow w4.heap.size 23 2 v l.length (srow l)
  only : Only (fun _ => False) w4 wr
theorem JnAt.frame {w4 wr w' : World} {v : Value} {l : List (Int × Int)} (h : JnAt w4 wr v l) (hO : Only (fun _ => False) wr w') : JnAt w4 w' v l := ⟨hO.owns h.own (fun _ _ h => h), h.only.trans hO⟩
theorem JnAt.more {w4 wn w' : World} {n m g cap : Nat} {v : Value} {l t : List (Int × Int)} (h : JnAt w4 wn v l) (hn : l.length = n) (hm : t.length = m)
    (hown : w'.ownsRow w4.heap.size 23 2 (.slice (some ⟨g, 0, none⟩) (n + m) cap) (n + m) (srow l ++ srow t)) (hg : wn.grownBy w' v.ownBlock) : JnAt w4 w' (.slice (some ⟨g, 0, none⟩) (n + m) cap) (l ++ t) := by
  subst hn hm
  have hO : Only (fun i => v.ownBlock = some i) wn w' := (Only.refl _ _).grown hg (fun i e _ => e)
  refine ⟨?_, h.only.trans' hO (fun i hi e => by have := own_low' h.own e; omega)⟩
  rw [List.length_append, srow_append]; exact hown

end Go.Proofs.YtlhfgbkonmgahaaGreatDoor
