/-
  Texts of dealings (plain): their words; what a reader of dealings answers.
-/
import Derived.Test.YtkpfachmakfncaaGreatDoorPk18
import Derived.Test.YtkpfachmakfncaaGreatDoorTxW
import Derived.Test.YtkpfachmakfncaaGreatDoorPk17
namespace Go.Proofs.YtkpfachmakfncaaGreatDoor
open Go.RowKit

theorem joinTail_cons (x : List UInt8) (r : List (List UInt8)) : Lib.joinTail [32] (x :: r) = 32 :: (x ++ Lib.joinTail [32] r) := by simp [Lib.joinTail]
theorem joinTail_app (a b : List (List UInt8)) : Lib.joinTail [32] (a ++ b) = Lib.joinTail [32] a ++ Lib.joinTail [32] b := by simp [Lib.joinTail]
theorem numsB_tail : ∀ l : List Int, numsB l = Lib.joinTail [32] (l.map Lib.itoa)
  | [] => rfl
  | a :: l => by
    have e1 : numsB (a :: l) = numB a ++ numsB l := rfl
    rw [e1, numsB_tail l, List.map_cons, joinTail_cons]
    rfl
theorem boxesB_tail : ∀ l : List ByteArray, boxesB l = Lib.joinTail [32] (l.map hexB)
  | [] => rfl
  | a :: l => by
    have e1 : boxesB (a :: l) = boxTB a ++ boxesB l := rfl
    rw [e1, boxesB_tail l, List.map_cons, joinTail_cons]
    rfl
def dealW : List UInt8 := [100, 101, 97, 108]
/-- The words of a dealing's text behind the first. -/
def wordsD (d : Dl) : List (List UInt8) := Lib.itoa d.cm.length :: (d.cm.map Lib.itoa ++ Lib.itoa d.pt :: d.bx.map hexB)
theorem textL_join (d : Dl) : textL d = Lib.join (dealW :: wordsD d) [32] := by
  rw [Lib.join_cons]
  unfold wordsD textL
  rw [joinTail_cons, joinTail_app, joinTail_cons, numsB_tail, boxesB_tail]
  simp [dealW, numB]
theorem hexDig_range (n : Nat) (h : n < 16) : 48 ≤ (hexDig n).toNat ∧ hexDig n ≠ 32 := by
  have : ∀ n : Fin 16, 48 ≤ (hexDig n.1).toNat ∧ hexDig n.1 ≠ 32 := by decide +kernel
  exact this ⟨n, h⟩
theorem hexDig_inj {a b : Nat} (ha : a < 16) (hb : b < 16) (h : hexDig a = hexDig b) : a = b := by
  have : ∀ a b : Fin 16, hexDig a.1 = hexDig b.1 → a.1 = b.1 := by decide +kernel
  exact this ⟨a, ha⟩ ⟨b, hb⟩ h
theorem byteZ_lt (s : ByteArray) (k : Nat) : (byteZ s k).toNat < 256 ∧ byteZ s k = ((byteZ s k).toNat : Int) := by
  obtain ⟨n, hn, e⟩ := byteZ_nat s k
  rw [e]
  exact ⟨by simpa using hn, by simp⟩
theorem hexTo_noSp (s : ByteArray) : ∀ k, noSp (hexTo s k)
  | 0 => fun b hb => by cases hb
  | k + 1 => by
    intro b hb
    have h := (byteZ_lt s k).1
    rcases List.mem_append.1 hb with hb | hb
    · exact hexTo_noSp s k b hb
    · rcases List.mem_cons.1 hb with hb | hb
      · rw [hb]; exact (hexDig_range _ (by omega)).2
      · rw [List.mem_singleton.1 hb]; exact (hexDig_range _ (by omega)).2
theorem hexB_noSp (s : ByteArray) : noSp (hexB s) := hexTo_noSp s _
theorem dealW_noSp : noSp dealW := by
  intro b hb
  simp only [dealW, List.mem_cons, List.mem_nil_iff, or_false] at hb
  rcases hb with rfl | rfl | rfl | rfl <;> decide
theorem wordsD_noSp (d : Dl) : ∀ l ∈ dealW :: wordsD d, noSp l := by
  intro l hl
  simp only [wordsD, List.mem_cons, List.mem_append, List.mem_map] at hl
  rcases hl with rfl | rfl | ⟨x, _, rfl⟩ | rfl | ⟨x, _, rfl⟩
  · exact dealW_noSp
  · exact itoa_noSp _
  · exact itoa_noSp _
  · exact itoa_noSp _
  · exact hexB_noSp _
theorem textB_data (d : Dl) : (textB d).data.toList = textL d := rfl
theorem words_textB (d : Dl) : (wordsB (textB d)).map (·.data.toList) = dealW :: wordsD d := words_of _ _ _ (wordsD_noSp d) (by rw [textB_data, textL_join])
theorem textB_flat (d : Dl) : (textB d).data.toList ++ [32] = flatW (dealW :: wordsD d) := by rw [textB_data, textL_join]; exact join_flat _ _
theorem byteZ_ext {s t : ByteArray} (h : s.size = t.size) (hb : ∀ j, j < s.size → byteZ s j = byteZ t j) : s = t := by
  apply ByteArray.ext
  apply Array.ext
  · exact h
  · intro i h1 h2
    have e := hb i h1
    rw [← byteZ_eq s i h1, ← byteZ_eq t i h2] at e
    exact UInt8.toNat_inj.1 (Int.ofNat_inj.1 e)
theorem hexTo_inj {s t : ByteArray} : ∀ k, hexTo s k = hexTo t k → ∀ j, j < k → byteZ s j = byteZ t j
  | 0, _, j, hj => absurd hj (Nat.not_lt_zero _)
  | k + 1, h, j, hj => by
    obtain ⟨e1, e2⟩ := List.append_inj h (by rw [hexTo_len, hexTo_len])
    rcases Nat.lt_or_ge j k with h1 | h1
    · exact hexTo_inj k e1 j h1
    · obtain rfl : j = k := by omega
      simp only [List.cons.injEq, and_true] at e2
      have a := byteZ_lt s j
      have b := byteZ_lt t j
      have q1 := hexDig_inj (by omega) (by omega) e2.1
      have q2 := hexDig_inj (by omega) (by omega) e2.2
      omega
theorem hexB_inj {s t : ByteArray} (h : hexB s = hexB t) : s = t := by
  have hl := congrArg List.length h
  unfold hexB at hl h
  rw [hexTo_len, hexTo_len] at hl
  have e : s.size = t.size := by omega
  rw [← e] at h
  exact byteZ_ext e (hexTo_inj _ h)
theorem hexB_len (s : ByteArray) : (hexB s).length = 2 * s.size := hexTo_len s _
theorem itoa_nat_inj {a b : Nat} (h : Lib.itoa (a : Int) = Lib.itoa (b : Int)) : a = b := by
  rw [itoa_digs (by omega), itoa_digs (by omega)] at h
  have e1 := decFold_digs (a : Int).toNat
  rw [h, decFold_digs] at e1
  omega
/-- The numbers of a dealing are Go's. -/
def DlR (d : Dl) : Prop := (∀ v ∈ d.cm, R64 v) ∧ R64 d.pt
theorem map_itoa_inj : ∀ {a b : List Int}, (∀ v ∈ a, R64 v) → (∀ v ∈ b, R64 v) → a.map Lib.itoa = b.map Lib.itoa → a = b
  | [], [], _, _, _ => rfl
  | [], _ :: _, _, _, h => by cases h
  | _ :: _, [], _, _, h => by cases h
  | x :: a, y :: b, ha, hb, h => by
    simp only [List.map_cons, List.cons.injEq] at h
    rw [itoa_inj (ha x List.mem_cons_self) (hb y List.mem_cons_self) h.1, map_itoa_inj (fun v hv => ha v (List.mem_cons_of_mem _ hv)) (fun v hv => hb v (List.mem_cons_of_mem _ hv)) h.2]
theorem map_hexB_inj : ∀ {a b : List ByteArray}, a.map hexB = b.map hexB → a = b
  | [], [], _ => rfl
  | [], _ :: _, h => by cases h
  | _ :: _, [], h => by cases h
  | x :: a, y :: b, h => by
    simp only [List.map_cons, List.cons.injEq] at h
    rw [hexB_inj h.1, map_hexB_inj h.2]
theorem wordsD_inj {p q : Dl} (hp : DlR p) (hq : DlR q) (h : wordsD p = wordsD q) : p = q := by
  obtain ⟨c1, p1, b1⟩ := p
  obtain ⟨c2, p2, b2⟩ := q
  simp only [wordsD, List.cons.injEq] at h
  obtain ⟨h1, h2⟩ := h
  have hl := itoa_nat_inj h1
  obtain ⟨e1, e2⟩ := List.append_inj h2 (by rw [List.length_map, List.length_map, hl])
  simp only [List.cons.injEq] at e2
  have f1 := map_itoa_inj hp.1 hq.1 e1
  have f2 := itoa_inj hp.2 hq.2 e2.1
  have f3 := map_hexB_inj e2.2
  dsimp only at f1 f2 f3
  rw [f1, f2, f3]
theorem textB_inj {p q : Dl} (hp : DlR p) (hq : DlR q) (h : textB p = textB q) : p = q := by
  have h1 := words_textB p
  rw [h, words_textB q] at h1
  simp only [List.cons.injEq, true_and] at h1
  exact wordsD_inj hp hq h1.symm
/-- What a reader of dealings answers: 'd' is the dealing, 'b' whether there is one. -/
def ReadsD (s : ByteArray) (d : Dl) (b : Bool) : Prop := (b = true → s = textB d ∧ DlR d) ∧ (b = false → d = ⟨[], 0, []⟩ ∧ ∀ q, DlR q → s ≠ textB q)
theorem readsD_same {s : ByteArray} {p q : Dl} {b c : Bool} (h1 : ReadsD s p b) (h2 : ReadsD s q c) : p = q ∧ b = c := by
  cases b <;> cases c
  · exact ⟨(h1.2 rfl).1.trans (h2.2 rfl).1.symm, rfl⟩
  · exact absurd (h2.1 rfl).1 ((h1.2 rfl).2 q (h2.1 rfl).2)
  · exact absurd (h1.1 rfl).1 ((h2.2 rfl).2 p (h1.1 rfl).2)
  · exact ⟨textB_inj (h1.1 rfl).2 (h2.1 rfl).2 ((h1.1 rfl).1.symm.trans (h2.1 rfl).1), rfl⟩
theorem readsD_no {s : ByteArray} (h : ∀ q, DlR q → s ≠ textB q) : ReadsD s ⟨[], 0, []⟩ false := ⟨fun e => (by cases e), fun _ => ⟨rfl, h⟩⟩
theorem readsD_yes {s : ByteArray} {p : Dl} (h : s = textB p ∧ DlR p) : ReadsD s p true := ⟨fun _ => h, fun e => (by cases e)⟩
/-- Bytes out of digits. -/
def unhex (vs : List Nat) : ByteArray := strOfNums ((List.range (vs.length / 2)).map (fun m => ((16 * vs.getD (2 * m) 0 + vs.getD (2 * m + 1) 0 : Nat) : Int)))
theorem unhex_size (vs : List Nat) : (unhex vs).size = vs.length / 2 := by unfold unhex; rw [strOfNums_size]; simp
theorem unhex_at {vs : List Nat} (hv : ∀ v ∈ vs, v < 16) {m : Nat} (hm : 2 * m + 1 < vs.length) : byteZ (unhex vs) m = ((16 * vs.getD (2 * m) 0 + vs.getD (2 * m + 1) 0 : Nat) : Int) := by
  have h1 : vs.getD (2 * m) 0 < 16 := by
    rw [List.getD_eq_getElem?_getD, List.getElem?_eq_getElem (show 2 * m < vs.length by omega)]
    exact hv _ (List.getElem_mem _)
  have h2 : vs.getD (2 * m + 1) 0 < 16 := by
    rw [List.getD_eq_getElem?_getD, List.getElem?_eq_getElem hm]
    exact hv _ (List.getElem_mem _)
  have e : ptAt ((List.range (vs.length / 2)).map (fun m => ((16 * vs.getD (2 * m) 0 + vs.getD (2 * m + 1) 0 : Nat) : Int))) m = ((16 * vs.getD (2 * m) 0 + vs.getD (2 * m + 1) 0 : Nat) : Int) := by
    unfold ptAt
    rw [List.getD_eq_getElem?_getD, List.getElem?_map, List.getElem?_range (by omega)]
    rfl
  unfold unhex
  rw [byteZ_strOf _ _ (by simp; omega) (by rw [e]; omega) (by rw [e]; omega), e]
theorem hexTo_unhex {vs : List Nat} (hv : ∀ v ∈ vs, v < 16) : ∀ k, 2 * k ≤ vs.length → hexTo (unhex vs) k = (vs.take (2 * k)).map hexDig
  | 0, _ => rfl
  | k + 1, hk => by
    have h1 : vs.getD (2 * k) 0 < 16 := by
      rw [List.getD_eq_getElem?_getD, List.getElem?_eq_getElem (show 2 * k < vs.length by omega)]
      exact hv _ (List.getElem_mem _)
    have h2 : vs.getD (2 * k + 1) 0 < 16 := by
      rw [List.getD_eq_getElem?_getD, List.getElem?_eq_getElem (show 2 * k + 1 < vs.length by omega)]
      exact hv _ (List.getElem_mem _)
    have e1 : vs.take (2 * (k + 1)) = vs.take (2 * k) ++ [vs.getD (2 * k) 0, vs.getD (2 * k + 1) 0] := by
      rw [List.getD_eq_getElem?_getD, List.getD_eq_getElem?_getD, show 2 * (k + 1) = 2 * k + 1 + 1 by omega, List.take_add_one (i := 2 * k + 1), List.take_add_one (i := 2 * k)]
      rw [List.getElem?_eq_getElem (show 2 * k < vs.length by omega), List.getElem?_eq_getElem (show 2 * k + 1 < vs.length by omega), List.append_assoc]
      rfl
    rw [hexTo, hexTo_unhex hv k (by omega), unhex_at hv (by omega), e1, List.map_append]
    generalize vs.getD (2 * k) 0 = a at *
    generalize vs.getD (2 * k + 1) 0 = b at *
    rw [Int.toNat_natCast, show (16 * a + b) / 16 = a by omega, show (16 * a + b) % 16 = b by omega]
    rfl
theorem hexB_unhex {vs : List Nat} (hv : ∀ v ∈ vs, v < 16) (he : vs.length % 2 = 0) : hexB (unhex vs) = vs.map hexDig := by
  unfold hexB
  rw [unhex_size, hexTo_unhex hv _ (by omega), List.take_of_length_le (by omega)]
theorem hexB_digs (s : ByteArray) : ∀ k, ∀ b ∈ hexTo s k, ∃ n, n < 16 ∧ b = hexDig n
  | 0, b, hb => by cases hb
  | k + 1, b, hb => by
    have h := (byteZ_lt s k).1
    rcases List.mem_append.1 hb with hb | hb
    · exact hexB_digs s k b hb
    · rcases List.mem_cons.1 hb with hb | hb
      · exact ⟨_, by omega, hb⟩
      · exact ⟨_, by omega, List.mem_singleton.1 hb⟩
end Go.Proofs.YtkpfachmakfncaaGreatDoor
