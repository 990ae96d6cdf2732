/-
  The reference's reader of a number: what its loop reckons (plain).
-/
import Derived.Test.YtkpfachmakfncaaGreatDoorTxW
import Derived.Test.YtkpfachmakfncaaGreatDoorPk19
namespace Go.Proofs.YtkpfachmakfncaaGreatDoor
open Go.RowKit

/-- Behind k digits from place a on. -/
def nTo (s : ByteArray) (a : Nat) : Nat → Int
  | 0 => 0
  | k + 1 => wrap64 (wrap64 (10 * nTo s a k) - (byteZ s (a + k) - 48))
theorem nTo_in (s : ByteArray) (a k : Nat) : R64 (nTo s a k) := by
  cases k with
  | zero => exact ⟨by show (-9223372036854775808 : Int) ≤ 0; decide, by show (0 : Int) ≤ _; decide⟩
  | succ k =>
    show R64 (wrap64 _)
    unfold R64 wrap64
    omega
def NumP (l : List UInt8) (v : Int) (b : Bool) : Prop := R64 v ∧ (b = true → l = Lib.itoa v) ∧ (b = false → ∀ u, R64 u → l ≠ Lib.itoa u)
theorem decFold_app (x y : List UInt8) (a : Nat) : decFold a (x ++ y) = decFold (decFold a x) y := by unfold decFold; rw [List.foldl_append]
theorem nTo_fold (s : ByteArray) (a : Nat) (hd : ∀ b ∈ s.data.toList.drop a, 48 ≤ b.toNat ∧ b.toNat ≤ 57) (hm : decFold 0 (s.data.toList.drop a) ≤ 9223372036854775808) :
    ∀ k, a + k ≤ s.size → nTo s a k = -(decFold 0 ((s.data.toList.drop a).take k) : Int) := by
  intro k
  induction k with
  | zero => intro _; rfl
  | succ k ih =>
    intro hk
    have hl : s.data.toList.length = s.size := Array.length_toList
    have hlt : k < (s.data.toList.drop a).length := by rw [List.length_drop]; omega
    have hlt2 : a + k < s.data.toList.length := by omega
    have e1 : (s.data.toList.drop a).take (k + 1) = (s.data.toList.drop a).take k ++ [s.data.toList[a + k]] := by
      rw [List.take_add_one, List.getElem?_eq_getElem hlt, List.getElem_drop]
      rfl
    have hb : byteZ s (a + k) = (s.data.toList[a + k].toNat : Int) := by
      unfold byteZ
      rw [List.getD_eq_getElem?_getD, List.getElem?_eq_getElem hlt2]
      rfl
    obtain ⟨d0, d1⟩ := hd s.data.toList[a + k] (List.mem_iff_getElem.2 ⟨k, hlt, by rw [List.getElem_drop]⟩)
    have e2 : decFold 0 ((s.data.toList.drop a).take (k + 1)) = decFold 0 ((s.data.toList.drop a).take k) * 10 + (s.data.toList[a + k].toNat - 48) := by
      rw [e1, decFold_app, decFold_cons]
      rfl
    have h1 := ih (by omega)
    have h2 : decFold 0 ((s.data.toList.drop a).take (k + 1)) ≤ 9223372036854775808 := by
      refine Nat.le_trans (decFold_ge ((s.data.toList.drop a).drop (k + 1)) _) ?_
      rw [← decFold_app, List.take_append_drop]
      exact hm
    show wrap64 (wrap64 (10 * nTo s a k) - (byteZ s (a + k) - 48)) = _
    rw [h1, hb, e2]
    rw [e2] at h2
    generalize decFold 0 ((s.data.toList.drop a).take k) = q at *
    generalize s.data.toList[a + k].toNat = c at *
    have h3 : wrap64 (10 * -(q : Int)) = 10 * -(q : Int) := by unfold wrap64; omega
    rw [h3]
    unfold wrap64
    omega
theorem byte_of {s : ByteArray} {j : Nat} (h : j < s.size) : ∃ b ∈ s.data.toList, s.data.toList[j]? = some b ∧ byteZ s j = (b.toNat : Int) := by
  have hl : s.data.toList.length = s.size := Array.length_toList
  have hlt : j < s.data.toList.length := by omega
  refine ⟨s.data.toList[j], List.getElem_mem _, List.getElem?_eq_getElem hlt, ?_⟩
  unfold byteZ
  rw [List.getD_eq_getElem?_getD, List.getElem?_eq_getElem hlt]
  rfl
theorem num_pos {s : ByteArray} {u : Int} (hu : R64 u) (h : s.data.toList = Lib.itoa u) (h0 : 0 ≤ u) :
    1 ≤ s.size ∧ s.size ≤ 20 ∧ (∀ j, j < s.size → 48 ≤ byteZ s j ∧ byteZ s j ≤ 57) ∧ nTo s 0 s.size = -u := by
  have hl : s.data.toList.length = s.size := Array.length_toList
  obtain ⟨u0, u1⟩ := hu
  rw [itoa_digs h0] at h
  obtain ⟨l1, l2⟩ := digs_len 18 u.toNat (by have : (10 : Nat) ^ (18 + 1) = 10000000000000000000 := by decide
                                             omega)
  rw [h] at hl
  have hd := digs_range u.toNat
  rw [← h] at hd
  have hf := decFold_digs u.toNat
  rw [← h] at hf
  refine ⟨by omega, by omega, fun j hj => ?_, ?_⟩
  · obtain ⟨b, hb, _, e⟩ := byte_of hj
    have := hd b hb
    omega
  · have h1 := nTo_fold s 0 (by rw [List.drop_zero]; exact hd) (by rw [List.drop_zero, hf]; omega) s.size (by omega)
    rw [h1, List.drop_zero, List.take_of_length_le (by rw [h]; omega), hf]
    omega
theorem num_neg {s : ByteArray} {u : Int} (hu : R64 u) (h : s.data.toList = Lib.itoa u) (h0 : u < 0) :
    2 ≤ s.size ∧ s.size ≤ 20 ∧ byteZ s 0 = 45 ∧ (∀ j, j < s.size → 1 ≤ j → 48 ≤ byteZ s j ∧ byteZ s j ≤ 57) ∧ nTo s 1 (s.size - 1) = u := by
  have hl : s.data.toList.length = s.size := Array.length_toList
  obtain ⟨u0, u1⟩ := hu
  rw [itoa_minus h0] at h
  obtain ⟨l1, l2⟩ := digs_len 18 u.natAbs (by have : (10 : Nat) ^ (18 + 1) = 10000000000000000000 := by decide
                                              omega)
  have hdr : s.data.toList.drop 1 = Lib.decDigits u.natAbs := by rw [h]; rfl
  rw [h, List.length_cons] at hl
  have hd := digs_range u.natAbs
  rw [← hdr] at hd
  have hf := decFold_digs u.natAbs
  rw [← hdr] at hf
  refine ⟨by omega, by omega, ?_, fun j hj j1 => ?_, ?_⟩
  · unfold byteZ
    rw [h]
    rfl
  · obtain ⟨b, _, e1, e⟩ := byte_of hj
    have := hd b (List.mem_iff_getElem?.2 ⟨j - 1, by rw [List.getElem?_drop, show 1 + (j - 1) = j by omega, e1]⟩)
    omega
  · have h1 := nTo_fold s 1 hd (by rw [hf]; omega) (s.size - 1) (by omega)
    rw [h1, List.take_of_length_le (by rw [hdr]; omega), hf]
    omega
theorem tl_iff {a b : ByteArray} : ((a.toList == b.toList) = true) ↔ a = b := by
  rw [beq_iff_eq, ByteArray.toList_eq, ByteArray.toList_eq]
  refine ⟨fun h => ?_, fun h => by rw [h]⟩
  obtain ⟨⟨a⟩⟩ := a
  obtain ⟨⟨b⟩⟩ := b
  exact congrArg (fun l => ByteArray.mk (Array.mk l)) h
theorem num_end {s : ByteArray} {v : Int} (hv : R64 v) (h : ∀ u, R64 u → s.data.toList = Lib.itoa u → u = v) : NumP s.data.toList v ((decI v).toList == s.toList) := by
  refine ⟨hv, fun e => ?_, fun e u hu he => ?_⟩
  · rw [← tl_iff.1 e]
    rfl
  · obtain rfl := h u hu he
    have e2 : decI u = s := by
      unfold decI
      rw [← he]
    rw [tl_iff.2 e2] at e
    cases e
end Go.Proofs.YtkpfachmakfncaaGreatDoor
