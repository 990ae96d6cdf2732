/-
  Judgements of what was dealt (plain).
-/
import Derived.Test.YtkpfachmakfncaaGreatDoorPk19
import Derived.Test.YtkpfachmakfncaaGreatDoorPk17
import Derived.Test.YtkpfachmakfncaaGreatDoorPk18
namespace Go.Proofs.YtkpfachmakfncaaGreatDoor
open Go.RowKit

theorem membersB_snoc (a : List Int) (b : Int) : membersB (a ++ [b]) = (membersB a && memB b) := by simp [membersB]
theorem cmTo_mem (cs : List Int) (hcs : ∀ j, j < cs.length → 0 ≤ ptAt cs j ∧ ptAt cs j < 1152921504606845789) : ∀ k, k ≤ cs.length → membersB (cmTo cs k) = true
  | 0, _ => rfl
  | k + 1, h => by
    rw [cmTo, membersB_snoc, cmTo_mem cs hcs k (by omega)]
    have hb := hcs k (by omega)
    exact mem_pow mem4 hb.1 (by omega)
theorem dealOk_parts {cs ks : List Int} (h : dealOk cs ks = true) : 1 ≤ ks.length ∧ ks.length ≤ 60 ∧ 1 ≤ cs.length ∧ cs.length ≤ ks.length ∧ ∀ j, j < cs.length → 0 ≤ ptAt cs j ∧ ptAt cs j < 1152921504606845789 := by
  unfold dealOk at h
  simp only [Bool.and_eq_true, decide_eq_true_eq] at h
  exact ⟨h.1.1.1.1.1, h.1.1.1.1.2, h.1.1.2, h.1.2, fun j hj => inside_bd (inside_all h.2 j hj)⟩
theorem ptAt_out {l : List Int} {j : Nat} (h : l.length ≤ j) : ptAt l j = 0 := by simp [ptAt, List.getD, List.getElem?_eq_none h]
theorem chk_dealt {cs ks : List Int} (seed : ByteArray) (h : dealOk cs ks = true) : chkB (dealZ cs ks seed) ks.length = true := by
  obtain ⟨h1, h2, h3, h4, h5⟩ := dealOk_parts h
  have hn := scalarZ_bd (ptS seed)
  have e1 : (dealZ cs ks seed).bx.length = ks.length := bxTo_len _ _ _ _
  have e2 : (dealZ cs ks seed).cm.length = cs.length := cmTo_len _ _
  have e3 : b16B (dealZ cs ks seed).bx = true := b16_yes _ fun j hj => by
    rw [e1] at hj
    rw [show sAt (dealZ cs ks seed).bx j = boxOf cs ks (scalarZ (ptS seed)) j from bxTo_at _ _ _ _ _ hj]
    unfold boxOf
    rw [strOf_size, sealL_len]
  have e4 : membersB (dealZ cs ks seed).cm = true := cmTo_mem cs h5 _ (Nat.le_refl _)
  have e5 : memB (dealZ cs ks seed).pt = true := mem_pow mem4 hn.1 (by omega)
  unfold chkB
  rw [e1, e2, e3, e4, e5, decide_eq_true rfl, decide_eq_true h3, decide_eq_true h4]
  rfl
theorem pt_dealt (cs ks : List Int) (seed : ByteArray) : memB (dealZ cs ks seed).pt = true := by
  have hn := scalarZ_bd (ptS seed)
  exact mem_pow mem4 hn.1 (by omega)
theorem uns_open {cs ks : List Int} (seed : ByteArray) {s : Int} {k : Nat} (h : dealOk cs ks = true) (hk : k < ks.length) (hkey : ptAt ks k = powM 4 (s % 1152921504606845789) 2305843009213691579) :
    (unsV (dealZ cs ks seed) (seedN (dealZ cs ks seed) s).toNat k).2.2 = true := by
  obtain ⟨h1, h2, h3, h4, h5⟩ := dealOk_parts h
  obtain ⟨x0, x1⟩ := emod_self_lt s 1152921504606845789 (by decide)
  have e : seedN (dealZ cs ks seed) s = seedN (dealZ cs ks seed) (s % 1152921504606845789) := by
    unfold seedN; rw [Int.emod_emod_of_dvd _ (Int.dvd_refl _)]
  rw [e, uns_dealt cs ks seed _ k hk x0 x1 hkey (fun j => by
    by_cases hj : j < cs.length
    · exact h5 j hj
    · rw [ptAt_out (by omega)]; exact ⟨by decide, by decide⟩)]
/-- The owner's own complaint leads to 2. -/
theorem judge_own {cs ks : List Int} (seed : ByteArray) {s : Int} {k : Nat} (h : dealOk cs ks = true) (hk : k < ks.length) (hkey : ptAt ks k = powM 4 (s % 1152921504606845789) 2305843009213691579) :
    judgeZ ks (dealZ cs ks seed) k (seedN (dealZ cs ks seed) s) (pfC (s % 1152921504606845789) 4 (dealZ cs ks seed).pt) (pfZ (s % 1152921504606845789) 4 (dealZ cs ks seed).pt) = 2 := by
  have hv := ver_made (g := 4) (h := (dealZ cs ks seed).pt) (x := s % 1152921504606845789) mem4 (pt_dealt cs ks seed) (emod_self_lt s _ (by decide))
  unfold judgeZ
  rw [if_pos ⟨chk_dealt seed h, by omega, by omega, by rw [Int.toNat_natCast, hkey]; exact hv⟩, Int.toNat_natCast, if_pos (uns_open seed h hk hkey)]
/-- No complaint leads to 1, unless it is forged. -/
theorem judge_other {cs ks : List Int} (seed : ByteArray) {s key c z : Int} {k : Nat} (h : dealOk cs ks = true) (hk : k < ks.length) (hkey : ptAt ks k = powM 4 (s % 1152921504606845789) 2305843009213691579)
    (hj : judgeZ ks (dealZ cs ks seed) k key c z = 1) : (key ≠ seedN (dealZ cs ks seed) s) ∧ verB 4 (ptAt ks k) (dealZ cs ks seed).pt key c z = true := by
  unfold judgeZ at hj
  split at hj
  · next hc =>
    refine ⟨?_, by rw [← Int.toNat_natCast k]; exact hc.2.2.2⟩
    rintro rfl
    rw [Int.toNat_natCast, if_pos (uns_open seed h hk hkey)] at hj
    cases hj
  · cases hj
/-- Nothing was dealt: no complaint counts. -/
theorem judge_none (ks : List Int) (idx key c z : Int) : judgeZ ks ⟨[], 0, []⟩ idx key c z = 0 := by
  apply judgeZ_no
  rintro ⟨h, -⟩
  unfold chkB at h
  simp at h
theorem dealD_sz (cs ks : List Int) (seed : ByteArray) (i : Nat) : (sAt (dealD cs ks seed).bx i).size ≤ 9223372036854775807 := by
  unfold dealD
  split
  · by_cases hi : i < ks.length
    · rw [show sAt (dealZ cs ks seed).bx i = boxOf cs ks (scalarZ (ptS seed)) i from bxTo_at _ _ _ _ _ hi]
      unfold boxOf
      rw [strOf_size, sealL_len]
      decide
    · have e : (dealZ cs ks seed).bx.length = ks.length := bxTo_len _ _ _ _
      have : sAt (dealZ cs ks seed).bx i = ByteArray.empty := by
        unfold sAt
        rw [List.getD, List.getElem?_eq_none (by omega)]; rfl
      rw [this]; decide
  · show (ByteArray.empty).size ≤ _; decide
theorem keysL_at (S : List Int) (k : Nat) (h : k < (keysL S).length) : ptAt (keysL S) k = powM 4 (ptAt S k % 1152921504606845789) 2305843009213691579 := by
  have hl := keysL_len S
  have hk : k < S.length := by omega
  have hk2 : k < 12 := by omega
  unfold keysL
  simp [ptAt, List.getD, hk, hk2, powF4]
/-- A slice lies in a block from lo on, ahead of hi. -/
def Far (lo hi : Nat) (v : Value) : Prop := ∀ b off n c, v = .slice (some ⟨b, off, none⟩) n c → lo ≤ b ∧ b < hi
theorem far_own {W : World} {base e s n lo hi : Nat} {v : Value} {xs : List Value} (h : W.ownsRow base e s v n xs) (h1 : lo ≤ base) (h2 : W.heap.size ≤ hi) : Far lo hi v := by
  intro b off m c hv
  have := own_lt h (k := b) (by rw [hv]; rfl)
  omega
theorem pts_far {S : Nat → Prop} {A B : World} (h : Only S A B) {v : Value} {zs : List Int} {lo hi : Nat} (hf : Far lo hi v) (hS : ∀ b, lo ≤ b → b < hi → ¬ S b) : PtsAt A.heap.size A v zs → PtsAt B.heap.size B v zs
  | .inl e => .inl e
  | .inr ⟨b, off, cap, e, hb, h1, h2, hc⟩ => .inr ⟨b, off, cap, e, Nat.lt_of_lt_of_le hb h.size, h1, h2, fun j hj => h.cell (hc j hj) (hS b (hf b off _ _ e).1 (hf b off _ _ e).2)⟩
theorem strs_far {S : Nat → Prop} {A B : World} (h : Only S A B) {v : Value} {l : List ByteArray} {lo hi : Nat} (hf : Far lo hi v) (hS : ∀ b, lo ≤ b → b < hi → ¬ S b) : StrsAt A v l → StrsAt B v l
  | .inl e => .inl e
  | .inr ⟨b, off, cap, e, hb, h1, h2, hc⟩ => .inr ⟨b, off, cap, e, Nat.lt_of_lt_of_le hb h.size, h1, h2, fun j hj => h.cell (hc j hj) (hS b (hf b off _ _ e).1 (hf b off _ _ e).2)⟩
theorem row_far {S : Nat → Prop} {A B : World} (h : Only S A B) {g : Nat} {o : Obj} (hg : A.heap[g]? = some o) (hS : ¬ S g) : B.heap[g]? = some o := (h.block g (Array.getElem?_eq_some_iff.1 hg).1 hS).trans hg
theorem pts_block {A : World} {n0 : Nat} {b off n c : Nat} {zs : List Int} (h : PtsAt n0 A (.slice (some ⟨b, off, none⟩) n c) zs) (hz : 0 < zs.length) : b < n0 := by
  rcases h with ⟨_, _, _, h0⟩ | ⟨b', off', cap, hv, hb, _⟩
  · rw [h0] at hz; simp at hz
  · simp only [Value.slice.injEq] at hv
    obtain ⟨h1, _, _⟩ := hv
    cases h1; exact hb
/-- One of four. -/
def pick4 (a b c d : Int) : Nat → Int
  | 0 => a
  | 1 => b
  | 2 => c
  | _ => d
/-- The cells of four complaints in a row. -/
theorem cp_cells {W : World} {n : Nat} {k a b c d : Int} {f g : Nat → Int} (h : W.heap[n]? = some (.cells #[.int .i64 k, .int .i64 a, .int .i64 (f 0), .int .i64 (g 0), .int .i64 k, .int .i64 b, .int .i64 (f 1), .int .i64 (g 1), .int .i64 k, .int .i64 c, .int .i64 (f 2), .int .i64 (g 2), .int .i64 k, .int .i64 d, .int .i64 (f 3), .int .i64 (g 3)] 45 (0, 0))) (j : Nat) (hj : j < 4) :
    W.cell? ⟨n, j * 4, none⟩ = some (.int .i64 k) ∧ W.cell? ⟨n, j * 4 + 1, none⟩ = some (.int .i64 (pick4 a b c d j)) ∧ W.cell? ⟨n, j * 4 + 2, none⟩ = some (.int .i64 (f j)) ∧ W.cell? ⟨n, j * 4 + 3, none⟩ = some (.int .i64 (g j)) := by
  match j, hj with
  | 0, _ => exact ⟨cell_of_row _ _ 0 _ _ _ h, cell_of_row _ _ 1 _ _ _ h, cell_of_row _ _ 2 _ _ _ h, cell_of_row _ _ 3 _ _ _ h⟩
  | 1, _ => exact ⟨cell_of_row _ _ 4 _ _ _ h, cell_of_row _ _ 5 _ _ _ h, cell_of_row _ _ 6 _ _ _ h, cell_of_row _ _ 7 _ _ _ h⟩
  | 2, _ => exact ⟨cell_of_row _ _ 8 _ _ _ h, cell_of_row _ _ 9 _ _ _ h, cell_of_row _ _ 10 _ _ _ h, cell_of_row _ _ 11 _ _ _ h⟩
  | 3, _ => exact ⟨cell_of_row _ _ 12 _ _ _ h, cell_of_row _ _ 13 _ _ _ h, cell_of_row _ _ 14 _ _ _ h, cell_of_row _ _ 15 _ _ _ h⟩
/-- What a round of the law leaves. -/
def Forged (J : Int) (wr wx : World) (v : Value) : Prop := ∃ b, v = .bool b ∧ (J = 1 → b = true) ∧ Only (fun _ => False) wr wx
/-- A complaint that is being stored. -/
def CpMid (wr wx : World) (i y c z : Int) (v : Value) : Prop := ∃ B, v = .pointer (some ⟨B, 0, none⟩) ∧ wx.heap[B]? = some (.cells #[.int .i64 i, .int .i64 y, .int .i64 c, .int .i64 z] 45 (0, 0)) ∧ wr.heap.size ≤ B ∧ Only (fun _ => False) wr wx
theorem cp_end1 {wr wO : World} {i y c z : Int} (hO : Only (fun _ => False) wr wO) : CpMid wr (wO.alloc (.cells #[.int .i64 i, .int .i64 y, .int .i64 c, .int .i64 z] 45)) i y c z (.pointer (some ⟨wO.heap.size, 0, none⟩)) :=
  ⟨_, rfl, heap_alloc_last wO _, hO.size, hO.alloc _⟩
theorem cp_end2 {wr wO : World} {i y c z : Int} {B : Nat} (hB : wr.heap.size ≤ B) (hk : wO.heap[B]? = some (.cells #[.int .i64 0, .int .i64 0, .int .i64 0, .int .i64 0] 45 (0, 0))) (hO : Only (fun _ => False) wr wO) :
    CpMid wr ((((wO.setCell ⟨B, 0, none⟩ (.int .i64 i)).setCell ⟨B, 1, none⟩ (.int .i64 y)).setCell ⟨B, 2, none⟩ (.int .i64 c)).setCell ⟨B, 3, none⟩ (.int .i64 z)) i y c z (.pointer (some ⟨B, 0, none⟩)) :=
  ⟨_, rfl, heap_setCell_same _ _ 3 _ _ _ (heap_setCell_same _ _ 2 _ _ _ (heap_setCell_same _ _ 1 _ _ _ (heap_setCell_same _ _ 0 _ _ _ hk))), hB, (((hO.setCell (.inr hB) _).setCell (.inr hB) _).setCell (.inr hB) _).setCell (.inr hB) _⟩
end Go.Proofs.YtkpfachmakfncaaGreatDoor
