/-
  Plain facts for the law NetParts, and its slices.
-/
import Derived.Test.YteblaedfjifdhaaOwnWalk
namespace Go.Proofs.Yteblaedfjifdhaa
open Go.RowKit

theorem Try.info3 : (Try.prog.info? 3).map (fun i => (i.zero, i.size, i.bytes)) = some (some (.int .i64 0), 1, 8) := by kernel_rfl

def irow (zs : List Int) : List Value := zs.map (Value.int .i64)
/-- A slice that reads as the small numbers gs. -/
def I8sAt (w : World) (tv : Value) (gs : List Int) : Prop :=
  (∃ a c, tv = .slice a 0 c ∧ gs = []) ∨ ∃ gb off c, tv = .slice (some ⟨gb, off, none⟩) gs.length c ∧ gb < w.heap.size ∧ 0 < gs.length ∧ gs.length ≤ c ∧ c ≤ maxLen ∧
    ∀ j, j < gs.length → w.cell? ⟨gb, off + j, none⟩ = some (.int .i8 (tat gs j))
def I8sWf (gs : List Int) : Prop := ∀ j, -128 ≤ tat gs j ∧ tat gs j ≤ 127
def pat (ps : List (Int × Int)) (k : Nat) : Int × Int := ps.getD k (0, 0)
/-- A slice that reads as the pairs ps. -/
def PairsAt (w : World) (tv : Value) (ps : List (Int × Int)) : Prop :=
  (∃ a c, tv = .slice a 0 c ∧ ps = []) ∨ ∃ gb off c, tv = .slice (some ⟨gb, off, none⟩) ps.length c ∧ gb < w.heap.size ∧ 0 < ps.length ∧ ps.length ≤ c ∧ c ≤ maxLen ∧
    ∀ j, j < ps.length → w.cell? ⟨gb, off + j * 2, none⟩ = some (.int .u8 (pat ps j).1) ∧ w.cell? ⟨gb, off + j * 2 + 1, none⟩ = some (.int .u8 (pat ps j).2)
def PairsWf (ps : List (Int × Int)) : Prop := ∀ j, (0 ≤ (pat ps j).1 ∧ (pat ps j).1 ≤ 255) ∧ (0 ≤ (pat ps j).2 ∧ (pat ps j).2 ≤ 255)

def zsTo (gs : List Int) : Nat → List Int
  | 0 => []
  | k + 1 => zsTo gs k ++ [(tat gs k).tmod 3]
theorem zsTo_length (gs : List Int) (k : Nat) : (zsTo gs k).length = k := by
  induction k with
  | zero => rfl
  | succ k ih => simp [zsTo, ih]
theorem tmod3_bd (z : Int) : -3 < z.tmod 3 ∧ z.tmod 3 < 3 := ⟨Int.lt_tmod_of_pos z (by decide), Int.tmod_lt_of_pos z (by decide)⟩
theorem zsTo_bd (gs : List Int) (k j : Nat) : -3 < (zsTo gs k).getD j 0 ∧ (zsTo gs k).getD j 0 < 3 := by
  induction k with
  | zero => simp [zsTo]
  | succ k ih =>
    have hl := zsTo_length gs k
    by_cases h : j < k
    · simp only [zsTo, List.getD]
      rw [List.getElem?_append_left (by omega)]
      exact ih
    · by_cases h2 : j = k
      · subst h2
        have : (zsTo gs (j + 1)).getD j 0 = (tat gs j).tmod 3 := by
          simp only [zsTo, List.getD]
          rw [List.getElem?_append_right (by omega), hl]; simp
        rw [this]; exact tmod3_bd _
      · have : (zsTo gs (k + 1)).getD j 0 = 0 := by
          simp only [List.getD]
          rw [List.getElem?_eq_none (by rw [zsTo_length]; omega)]; rfl
        rw [this]; decide
theorem zsTo_wf (gs : List Int) (k : Nat) : IntsWf (zsTo gs k) := fun j _ => by
  have := zsTo_bd gs k j
  exact WalkArith.wf_i64 (by omega)

/-- The net of the law, when nothing waits. -/
def paN (zs : List Int) (k : Nat) : NS := ⟨8, [], grTo 8 zs zs.length, k, []⟩
theorem paN_good (zs : List Int) (k : Nat) : Good (paN zs k) := ⟨List.Pairwise.nil, (fun y h => by cases h), Nat.zero_le _⟩
theorem paN_may (zs : List Int) (k : Nat) (now fr to : Int) (h : 0 ≤ now ∧ now ≤ 100) : MaySend (paN zs k) now fr to :=
  .inr ⟨by omega, by omega, by simp [paN, trOf]⟩
theorem paN_drop {zs : List Int} {k : Nat} {now fr to : Int} (h : dropB (paN zs k) fr to = true) : sendN (paN zs k) now fr to ByteArray.empty = paN zs (k + 1) := by
  unfold sendN; rw [if_pos h]; rfl
theorem paN_keep {zs : List Int} {k : Nat} {now fr to : Int} (h : dropB (paN zs k) fr to = false) :
    (sendN (paN zs k) now fr to ByteArray.empty).L = [⟨fr, to, ByteArray.empty, now + 1 + (0 : Nat), k⟩] ∧ nextN (sendN (paN zs k) now fr to ByteArray.empty) = paN zs (k + 1) := by
  unfold sendN
  rw [if_neg (by simp [h])]
  constructor
  · rfl
  · rfl
/-- The group of a node, as the law reads it. -/
def gOf (zs : List Int) (f : Nat) : Int := if f < zs.length then zs.getD f 0 else 0
theorem grTo_of {zs : List Int} {f : Nat} (h8 : f < 8) : grTo 8 zs zs.length f = gOf zs f := by
  unfold grTo gOf
  by_cases h : f < zs.length
  · rw [if_pos (by omega), if_pos h]; simp
  · rw [if_neg (by omega), if_neg h]
theorem drop_is (zs : List Int) (k f t : Nat) (_hz : zs.length ≤ 8) : dropB (paN zs k) f t = !(decide (t < 8) && (decide (8 ≤ f) || gOf zs f == gOf zs t)) := by
  have hn : ∀ x : Nat, nodeB 8 x = decide (x < 8) := fun x => by
    unfold nodeB
    by_cases h : x < 8 <;> simp [h] <;> omega
  have e : (trOf (paN zs k).s (paN zs k).sent).lost = false := rfl
  unfold dropB
  rw [e]
  show (false || !nodeB 8 t || (nodeB 8 f && grTo 8 zs zs.length f != grTo 8 zs zs.length t)) = _
  rw [hn, hn]
  by_cases ht : t < 8
  · by_cases hf : f < 8
    · rw [grTo_of hf, grTo_of ht]
      simp [ht, hf, show ¬ 8 ≤ f by omega, bne]
    · simp [ht, hf, show 8 ≤ f by omega]
  · simp [ht]

theorem irow_length (zs : List Int) : (irow zs).length = zs.length := by simp [irow]
theorem irow_one (zs : List Int) : ∀ u ∈ irow zs, u.oneCell' = true := by
  intro u hu
  obtain ⟨z, _, rfl⟩ := List.mem_map.1 hu
  rfl
theorem ownI_parts {w : World} {base n c : Nat} {a : Option Addr} {zs : List Int} (h : w.ownsRow base 3 1 (.slice a n c) zs.length (irow zs)) :
    (a = none ∧ c = 0 ∧ zs = []) ∨ ∃ g cur, a = some ⟨g, 0, none⟩ ∧ base ≤ g ∧ w.heap[g]? = some (.cells cur 3 (0, 0)) ∧ zs.length ≤ c ∧ c ≤ maxLen ∧ ∀ i, i < zs.length → cur[i]? = some (.int .i64 (zs.getD i 0)) := by
  rcases h.2 with ⟨h', h0⟩ | ⟨g, cap, cur, h', hb, hg, h1, h2, h3, ht⟩
  · simp only [Value.slice.injEq] at h'
    exact .inl ⟨h'.1, h'.2.2, List.eq_nil_of_length_eq_zero h0⟩
  · simp only [Value.slice.injEq] at h'
    obtain ⟨rfl, rfl, rfl⟩ := h'
    refine .inr ⟨g, cur, rfl, hb, hg, h1, h2, fun i hi => ?_⟩
    have e : (irow zs)[i]? = cur[i]? := by rw [← ht, List.getElem?_take, if_pos (by omega)]; simp
    rw [← e]; simp [irow, hi]
theorem ints_of_own {w : World} {base n c : Nat} {a : Option Addr} {zs : List Int} (hn : n = zs.length) (h : w.ownsRow base 3 1 (.slice a n c) zs.length (irow zs)) : IntsAt w (.slice a n c) zs := by
  subst hn
  rcases ownI_parts h with ⟨rfl, rfl, rfl⟩ | ⟨g, cur, rfl, _, hg, _, _, hc⟩
  · exact .inl ⟨none, 0, rfl, rfl⟩
  · exact .inr ⟨g, 0, c, rfl, (Array.getElem?_eq_some_iff.1 hg).1, fun j hj => by rw [Nat.zero_add, cell_of_row w g j cur 3 (0, 0) hg]; exact hc j hj⟩
/-- A write beside a net. -/
theorem Own.aside {w0 w w' : World} {F : Nat → Prop} {b : Nat} {N : NS} {A : List (Nat × Obj)} (h : Own w0 w F b N A) {g : Nat} (hF : ¬ F g) (hg : w0.heap.size ≤ g) (hA : ∀ t o, (t, o) ∈ A → t ≠ g) (hO : Only (fun k => k = g) w w') : Own w0 w' F b N A :=
  h.other (F := fun k => k = g) (fun k e => by rw [e]; exact hg) hO (fun k e => by rw [e]; exact hF) (fun t o ht e => hA t o ht e)
theorem Own.stepF {w0 w w' : World} {F F' : Nat → Prop} {b : Nat} {N N' : NS} {A : List (Nat × Obj)} (h : Own w0 w F b N A) (h1 : NetAt w' F' b N') (h2 : ∀ k, F' k → F k ∨ w.heap.size ≤ k) (h3 : Only F w w') (hG : Good N') : Own w0 w' F' b N' A := by
  refine ⟨h1, hG, fun k hk => ?_, h.only.trans' h3 (fun i hi hf => ?_), fun t o ht => ?_⟩
  · rcases h2 k hk with h' | h'
    · exact h.new k h'
    · have := h.only.size; omega
  · have := h.new i hf; omega
  · obtain ⟨ha, hb⟩ := h.apart t o ht
    have hlt := (Array.getElem?_eq_some_iff.1 hb).1
    refine ⟨fun hf => ?_, by rw [h3.block t hlt ha]; exact hb⟩
    rcases h2 t hf with h' | h'
    · exact ha h'
    · omega
/-- The net behind Part(nil). -/
def paE (k : Nat) : NS := ⟨8, [], grTo 8 [] 0, k, []⟩
theorem paE_good (k : Nat) : Good (paE k) := ⟨List.Pairwise.nil, (fun y h => by cases h), Nat.zero_le _⟩
theorem last_one (k : Nat) : ((sendN (paE k) 0 0 7 ByteArray.empty).L.length : Int) = 1 := by
  have hg : ∀ z, grTo 8 [] 0 z = 0 := fun z => by unfold grTo; split <;> simp
  have hd : dropB (paE k) 0 7 = false := by
    unfold dropB
    show (false || !nodeB 8 7 || (nodeB 8 0 && grTo 8 [] 0 0 != grTo 8 [] 0 7)) = false
    rw [hg, hg]; decide
  unfold sendN
  rw [if_neg (by rw [hd]; simp)]
  rfl
end Go.Proofs.Yteblaedfjifdhaa
