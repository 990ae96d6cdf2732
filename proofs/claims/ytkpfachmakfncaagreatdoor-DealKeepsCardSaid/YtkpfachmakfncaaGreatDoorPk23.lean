/-
  The reference's reader of dealings: what its methods answer, what its loops hold (plain).
  The program's reader of dealings: its words (plain).
  Both readers of dealings: the dealing that is being read; what comes back.
  The reference's reader of dealings: sees, digit.
  The reference's texts of dealings: hex, Text.
-/
import Derived.Test.YtkpfachmakfncaaGreatDoorPk21
import Derived.Test.YtkpfachmakfncaaGreatDoorPk22
import Derived.Test.YtkpfachmakfncaaGreatDoorPk17
import Derived.Test.YtkpfachmakfncaaGreatDoorPk19
import Derived.IntWalk
import Derived.Test.YtkpfachmakfncaaGreatDoorPk15
import Derived.Test.YtkpfachmakfncaaGreatDoorPk18
namespace Go.Proofs.YtkpfachmakfncaaGreatDoor
open Go.RowKit

/-- Nothing, or a blank. -/
def Ends (r : List UInt8) : Prop := r = [] ∨ ∃ t, r = 32 :: t
/-- What number() answers: it starts at 'a' and ends at 'c'; bad before and behind. -/
structure NumQ (s : ByteArray) (a c : Nat) (b0 b1 : Bool) (v : Int) : Prop where
  lo : a ≤ c
  hi : c ≤ s.size
  rg : R64 v
  sound : b1 = false → b0 = false ∧ a < c ∧ s.data.toList.take c = s.data.toList.take a ++ Lib.itoa v
  comp : b0 = false → ∀ u r, R64 u → s.data.toList.drop a = Lib.itoa u ++ r → Ends r → v = u ∧ b1 = false
theorem len_of (s : ByteArray) : s.data.toList.length = s.size := Array.length_toList
theorem nTo_dig {s : ByteArray} {a : Nat} (ds r : List UInt8) (hs : s.data.toList.drop a = ds ++ r) (hd : ∀ b ∈ ds, 48 ≤ b.toNat ∧ b.toNat ≤ 57) (hm : decFold 0 ds ≤ 9223372036854775808) :
    ∀ k, k ≤ ds.length → nTo s a k = -(decFold 0 (ds.take k) : Int) := by
  intro k
  induction k with
  | zero => intro _; rfl
  | succ k ih =>
    intro hk
    have hlt : k < ds.length := by omega
    have e1 : ds.take (k + 1) = ds.take k ++ [ds[k]] := by
      rw [List.take_add_one, List.getElem?_eq_getElem hlt]
      rfl
    have hg : s.data.toList[a + k]? = some ds[k] := by
      rw [← List.getElem?_drop, hs, List.getElem?_append_left hlt, List.getElem?_eq_getElem hlt]
    have hb : byteZ s (a + k) = (ds[k].toNat : Int) := by
      unfold byteZ
      rw [List.getD_eq_getElem?_getD, hg]
      rfl
    obtain ⟨d0, d1⟩ := hd ds[k] (List.getElem_mem _)
    have e2 : decFold 0 (ds.take (k + 1)) = decFold 0 (ds.take k) * 10 + (ds[k].toNat - 48) := by
      rw [e1, decFold_app, decFold_cons]
      rfl
    have h1 := ih (by omega)
    have h2 : decFold 0 (ds.take (k + 1)) ≤ 9223372036854775808 := by
      refine Nat.le_trans (decFold_ge (ds.drop (k + 1)) _) ?_
      rw [← decFold_app, List.take_append_drop]
      exact hm
    show wrap64 (wrap64 (10 * nTo s a k) - (byteZ s (a + k) - 48)) = _
    rw [h1, hb, e2]
    rw [e2] at h2
    generalize decFold 0 (ds.take k) = q at *
    generalize ds[k].toNat = c at *
    have h3 : wrap64 (10 * -(q : Int)) = 10 * -(q : Int) := by unfold wrap64; omega
    rw [h3]
    unfold wrap64
    omega
theorem byte_at {s : ByteArray} {a : Nat} {x r : List UInt8} (hs : s.data.toList.drop a = x ++ r) {k : Nat} (hk : k < x.length) : a + k < s.size ∧ byteZ s (a + k) = (x[k].toNat : Int) := by
  have hg : s.data.toList[a + k]? = some x[k] := by
    rw [← List.getElem?_drop, hs, List.getElem?_append_left hk, List.getElem?_eq_getElem hk]
  refine ⟨?_, ?_⟩
  · rcases Nat.lt_or_ge (a + k) s.data.toList.length with h | h
    · rw [len_of] at h; exact h
    · rw [List.getElem?_eq_none h] at hg; cases hg
  · unfold byteZ
    rw [List.getD_eq_getElem?_getD, hg]
    rfl
theorem byte_end {s : ByteArray} {a : Nat} {x r : List UInt8} (hs : s.data.toList.drop a = x ++ r) (hr : Ends r) (h : a + x.length < s.size) : byteZ s (a + x.length) = 32 := by
  rcases hr with rfl | ⟨t, rfl⟩
  · have h1 := congrArg List.length hs
    rw [List.append_nil, List.length_drop, len_of] at h1
    omega
  · have h : s.data.toList[a + x.length]? = some 32 := by
      rw [← List.getElem?_drop, hs, List.getElem?_append_right (Nat.le_refl _), Nat.sub_self]
      rfl
    unfold byteZ
    rw [List.getD_eq_getElem?_getD, h]
    rfl
/-- Where a loop over digits ends. -/
theorem dig_exit {s : ByteArray} {a k : Nat} {ds r : List UInt8} (hs : s.data.toList.drop a = ds ++ r) (hr : Ends r) (hd : ∀ b ∈ ds, 48 ≤ b.toNat ∧ b.toNat ≤ 57) (hl : ds.length ≤ 19)
    (hk : ∀ j, j < k → 48 ≤ byteZ s (a + j) ∧ byteZ s (a + j) ≤ 57) (hle : a + k ≤ s.size) (hex : a + k = s.size ∨ byteZ s (a + k) < 48 ∨ 57 < byteZ s (a + k) ∨ k = 19) : k = ds.length := by
  rcases Nat.lt_trichotomy k ds.length with h | h | h
  · obtain ⟨h1, h2⟩ := byte_at hs h
    have := hd _ (List.getElem_mem h)
    omega
  · exact h
  · have := byte_end hs hr (by omega)
    have := hk _ h
    omega
theorem itoa_pos_len {u : Int} (hu : R64 u) : (Lib.decDigits u.natAbs).length ≤ 19 := by
  obtain ⟨u0, u1⟩ := hu
  exact (digs_len 18 u.natAbs (by have : (10 : Nat) ^ (18 + 1) = 10000000000000000000 := by decide
                                  omega)).1
theorem ext_take {s : ByteArray} {a c : Nat} (h : a ≤ c) {x : List UInt8} (e : (s.extract a c).data.toList = x) : s.data.toList.take c = s.data.toList.take a ++ x := by
  rw [← e, ByteArray.data_extract, Array.toList_extract, List.extract_eq_take_drop]
  obtain ⟨m, rfl⟩ : ∃ m, c = a + m := ⟨c - a, by omega⟩
  rw [show a + m - a = m by omega, List.take_add]
theorem take_ext {s : ByteArray} {a c : Nat} {x r : List UInt8} (h : c = a + x.length) (e : s.data.toList.drop a = x ++ r) : (s.extract a c).data.toList = x := by
  rw [ByteArray.data_extract, Array.toList_extract, List.extract_eq_take_drop, e, h, show a + x.length - a = x.length by omega, List.take_left]
theorem decI_ne0 (v : Int) : 1 ≤ (Lib.itoa v).length := by
  unfold Lib.itoa
  split
  · simp
  · obtain ⟨c, r, h, _⟩ := digs_cons v.toNat
    rw [h]
    simp
/-- The end of number(): 'm': a minus was seen. -/
theorem numQ_fits {s : ByteArray} {a st k : Nat} {b0 m : Bool} {v : Int} (hst : st = if m then a + 1 else a) (hm : m = true → byteZ s a = 45) (hm0 : m = false → b0 = false → a < s.size → byteZ s a ≠ 45) (hle : st + k ≤ s.size)
    (hk : ∀ j, j < k → 48 ≤ byteZ s (st + j) ∧ byteZ s (st + j) ≤ 57) (hex : st + k = s.size ∨ byteZ s (st + k) < 48 ∨ 57 < byteZ s (st + k) ∨ k = 19) (hv : v = if m then nTo s st k else wrap64 (-(nTo s st k)))
    (hb : b0 = false) {u : Int} {r : List UInt8} (hu : R64 u) (e : s.data.toList.drop a = Lib.itoa u ++ r) (hr : Ends r) : v = u ∧ (s.extract a (st + k)).data.toList = Lib.itoa u := by
  have hl := itoa_pos_len hu
  have hdr := digs_range u.natAbs
  have hdf := decFold_digs u.natAbs
  obtain ⟨u0, u1⟩ := hu
  by_cases hn : u < 0
  · have e45 := itoa_minus hn
    obtain ⟨h1, h2⟩ := byte_at (x := Lib.itoa u) (r := r) e (k := 0) (by rw [e45]; simp)
    rw [Nat.add_zero] at h1 h2
    have h3 : byteZ s a = 45 := by rw [h2]; simp only [e45, List.getElem_cons_zero]; rfl
    obtain rfl : m = true := by
      cases m with
      | true => rfl
      | false => exact absurd h3 (hm0 rfl hb h1)
    rw [if_pos rfl] at hst hv
    subst hst
    have e2 : s.data.toList.drop (a + 1) = Lib.decDigits u.natAbs ++ r := by
      rw [← List.drop_drop, e, e45]
      rfl
    have hkl := dig_exit e2 hr hdr hl hk hle hex
    have hno := nTo_dig _ r e2 hdr (by rw [hdf]; omega) k (by omega)
    rw [hv, hno, hkl, List.take_length, hdf]
    refine ⟨by omega, take_ext (r := r) ?_ e⟩
    rw [e45, List.length_cons]
    omega
  · have e45 := itoa_digs (show 0 ≤ u by omega)
    rw [show u.toNat = u.natAbs by omega] at e45
    rw [e45] at e
    obtain ⟨c0, r0, hc, hc1, hc2⟩ := digs_cons u.natAbs
    obtain ⟨h1, h2⟩ := byte_at e (k := 0) (by rw [hc]; simp)
    rw [Nat.add_zero] at h1 h2
    have h3 : byteZ s a ≠ 45 := by
      have := hdr _ (List.getElem_mem (show 0 < (Lib.decDigits u.natAbs).length by rw [hc]; simp))
      omega
    obtain rfl : m = false := by
      cases m with
      | true => exact absurd (hm rfl) h3
      | false => rfl
    simp only [Bool.false_eq_true, if_false] at hst hv
    subst hst
    have hkl := dig_exit e hr hdr hl hk hle hex
    have hno := nTo_dig _ r e hdr (by rw [hdf]; omega) k (by omega)
    rw [hv, hno, hkl, List.take_length, hdf]
    refine ⟨by unfold wrap64; omega, ?_⟩
    rw [e45]
    exact take_ext (r := r) rfl e
theorem numQ_eq {s : ByteArray} {a st k : Nat} {b0 m : Bool} {v : Int} (hst : st = if m then a + 1 else a) (hv0 : R64 v) (hm : m = true → byteZ s a = 45) (hm0 : m = false → b0 = false → a < s.size → byteZ s a ≠ 45) (hle : st + k ≤ s.size)
    (hk : ∀ j, j < k → 48 ≤ byteZ s (st + j) ∧ byteZ s (st + j) ≤ 57) (hex : st + k = s.size ∨ byteZ s (st + k) < 48 ∨ 57 < byteZ s (st + k) ∨ k = 19) (hv : v = if m then nTo s st k else wrap64 (-(nTo s st k)))
    (he : decI v = s.extract a (st + k)) : NumQ s a (st + k) b0 b0 v := by
  have hlo : a ≤ st + k := by cases m <;> simp at hst <;> omega
  have h2 : (s.extract a (st + k)).data.toList = Lib.itoa v := by rw [← he]; rfl
  refine ⟨hlo, hle, hv0, fun h => ⟨h, ?_, ext_take hlo h2⟩, fun hb u r hu e hr => ⟨(numQ_fits hst hm hm0 hle hk hex hv hb hu e hr).1, hb⟩⟩
  have h3 := congrArg List.length h2
  have := decI_ne0 v
  rw [len_of, ByteArray.size_extract] at h3
  omega
theorem numQ_ne {s : ByteArray} {a st k : Nat} {b0 m : Bool} {v : Int} (hst : st = if m then a + 1 else a) (hv0 : R64 v) (hm : m = true → byteZ s a = 45) (hm0 : m = false → b0 = false → a < s.size → byteZ s a ≠ 45) (hle : st + k ≤ s.size)
    (hk : ∀ j, j < k → 48 ≤ byteZ s (st + j) ∧ byteZ s (st + j) ≤ 57) (hex : st + k = s.size ∨ byteZ s (st + k) < 48 ∨ 57 < byteZ s (st + k) ∨ k = 19) (hv : v = if m then nTo s st k else wrap64 (-(nTo s st k)))
    (he : decI v ≠ s.extract a (st + k)) : NumQ s a (st + k) b0 true v := by
  have hlo : a ≤ st + k := by cases m <;> simp at hst <;> omega
  refine ⟨hlo, hle, hv0, fun h => (by cases h), fun hb u r hu e hr => ?_⟩
  obtain ⟨e1, e2⟩ := numQ_fits hst hm hm0 hle hk hex hv hb hu e hr
  refine absurd ?_ he
  apply ByteArray.ext
  apply Array.ext'
  rw [e2, e1]
  rfl
/-- What sees() answers. -/
structure SeesQ (s : ByteArray) (a : Nat) (b0 : Bool) (x : List UInt8) (res : Bool) : Prop where
  yes : res = true → b0 = false ∧ a + x.length ≤ s.size ∧ s.data.toList.take (a + x.length) = s.data.toList.take a ++ x
  no : res = false → b0 = false → ∀ r, s.data.toList.drop a ≠ x ++ r
theorem sees_minus {s : ByteArray} {a : Nat} {bad m : Bool} (h : SeesQ s a bad [45] m) :
    (m = true → byteZ s a = 45 ∧ a < s.size ∧ bad = false) ∧ (m = false → bad = false → a < s.size → byteZ s a ≠ 45) := by
  refine ⟨fun hm => ?_, fun hm hb hlt e => ?_⟩
  · obtain ⟨h1, h2, h3⟩ := h.yes hm
    have hlt : a < s.size := h2
    obtain ⟨b, _, e1, e2⟩ := byte_of hlt
    have h4 : s.data.toList.take (a + 1) = s.data.toList.take a ++ [45] := h3
    rw [List.take_add_one, e1] at h4
    have h5 := List.append_cancel_left h4
    have h6 : b = 45 := by simpa using h5
    exact ⟨by rw [e2, h6]; rfl, hlt, h1⟩
  · obtain ⟨b, _, e1, e2⟩ := byte_of hlt
    have h6 : b = 45 := UInt8.toNat_inj.1 (by show b.toNat = 45; omega)
    have h7 : a < s.data.toList.length := by rw [len_of]; exact hlt
    refine h.no hm hb (s.data.toList.drop (a + 1)) ?_
    rw [List.drop_eq_getElem_cons h7]
    rw [List.getElem?_eq_getElem h7] at e1
    injection e1 with e1
    rw [e1, h6]
    rfl
/-- What bytes() answers. -/
structure BytQ (s : ByteArray) (a c : Nat) (y : ByteArray) : Prop where
  lo : a ≤ c
  hi : c ≤ s.size
  sound : s.data.toList.take c = s.data.toList.take a ++ hexB y
  comp : ∀ z r, s.data.toList.drop a = hexB z ++ r → Ends r → y = z
/-- Behind 'a' bytes: what is read is 'done', and every dealing whose text this is fits P. -/
structure StD (s : ByteArray) (a : Nat) (bad : Bool) (done : List UInt8) (P : Dl → Prop) : Prop where
  le : a ≤ s.size
  sound : bad = false → s.data.toList.take a = done
  comp : ∀ q, DlR q → s = textB q → bad = false ∧ P q
theorem StD.rest {s : ByteArray} {a : Nat} {bad : Bool} {done tail : List UInt8} {P : Dl → Prop} (h : StD s a bad done P) {q : Dl} (hq : DlR q) (e : s = textB q) (ht : textL q = done ++ tail) : s.data.toList.drop a = tail := by
  have h1 := h.sound (h.comp q hq e).1
  have h2 := List.take_append_drop a s.data.toList
  rw [h1] at h2
  have h3 : s.data.toList = textL q := by rw [e]; rfl
  rw [h3, ht] at h2
  rw [h3, ht]
  exact List.append_cancel_left h2
theorem StD.start (s : ByteArray) : StD s 0 false [] (fun _ => True) := ⟨Nat.zero_le _, fun _ => rfl, fun _ _ _ => ⟨rfl, trivial⟩⟩
theorem StD.sees {s : ByteArray} {a : Nat} {bad : Bool} {done x : List UInt8} {P : Dl → Prop} (h : StD s a bad done P) (hs : SeesQ s a bad x true) : StD s (a + x.length) bad (done ++ x) P := by
  obtain ⟨h1, h2, h3⟩ := hs.yes rfl
  exact ⟨h2, fun hb => by rw [h3, h.sound hb], h.comp⟩
theorem StD.unseen {s : ByteArray} {a : Nat} {bad : Bool} {done x : List UInt8} {P : Dl → Prop} (h : StD s a bad done P) (hs : SeesQ s a bad x false) (hP : ∀ q, DlR q → P q → ∃ r, textL q = done ++ (x ++ r)) : ∀ q, DlR q → s ≠ textB q := by
  intro q hq e
  obtain ⟨h1, h2⟩ := h.comp q hq e
  obtain ⟨r, hr⟩ := hP q hq h2
  exact hs.no rfl h1 r (h.rest hq e hr)
theorem StD.num {s : ByteArray} {a c : Nat} {bad b1 : Bool} {done : List UInt8} {P P' : Dl → Prop} {v : Int} (h : StD s a bad done P) (hn : NumQ s a c bad b1 v)
    (hP : ∀ q, DlR q → P q → ∃ u r, R64 u ∧ textL q = done ++ (Lib.itoa u ++ r) ∧ Ends r ∧ (v = u → P' q)) : StD s c b1 (done ++ Lib.itoa v) P' := by
  refine ⟨hn.hi, fun hb => ?_, fun q hq e => ?_⟩
  · obtain ⟨h1, _, h2⟩ := hn.sound hb
    rw [h2, h.sound h1]
  · obtain ⟨h1, h2⟩ := h.comp q hq e
    obtain ⟨u, r, hu, ht, hr, hp⟩ := hP q hq h2
    obtain ⟨e1, e2⟩ := hn.comp h1 u r hu (h.rest hq e ht) hr
    exact ⟨e2, hp e1⟩
theorem StD.bytes {s : ByteArray} {a c : Nat} {bad : Bool} {done : List UInt8} {P P' : Dl → Prop} {y : ByteArray} (h : StD s a bad done P) (hn : BytQ s a c y)
    (hP : ∀ q, DlR q → P q → ∃ u r, textL q = done ++ (hexB u ++ r) ∧ Ends r ∧ (y = u → P' q)) : StD s c bad (done ++ hexB y) P' := by
  refine ⟨hn.hi, fun hb => ?_, fun q hq e => ?_⟩
  · rw [hn.sound, h.sound hb]
  · obtain ⟨h1, h2⟩ := h.comp q hq e
    obtain ⟨u, r, ht, hr, hp⟩ := hP q hq h2
    exact ⟨h1, hp (hn.comp u r (h.rest hq e ht) hr)⟩
theorem StD.none {s : ByteArray} {a : Nat} {done : List UInt8} {P : Dl → Prop} (h : a ≤ s.size) (hn : ∀ q, DlR q → s ≠ textB q) : StD s a true done P := ⟨h, fun e => (by cases e), fun q hq e => absurd e (hn q hq)⟩
theorem StD.of_bad {s : ByteArray} {a : Nat} {done : List UInt8} {P : Dl → Prop} (h : StD s a true done P) : ∀ q, DlR q → s ≠ textB q := fun q hq e => by cases (h.comp q hq e).1
/-- The stages. -/
def dAt0 : List UInt8 := [100, 101, 97, 108, 32]
def dAt1 (n : Int) : List UInt8 := dAt0 ++ Lib.itoa n
def dAt2 (n : Int) (cs : List Int) : List UInt8 := dAt1 n ++ numsB cs
def dAt3 (n : Int) (cs : List Int) (p : Int) : List UInt8 := dAt2 n cs ++ numB p
def dAt4 (n : Int) (cs : List Int) (p : Int) (ys : List ByteArray) : List UInt8 := dAt3 n cs p ++ boxesB ys
def dP2 (n : Int) (cs : List Int) (q : Dl) : Prop := n = q.cm.length ∧ cs.length ≤ q.cm.length ∧ cs = q.cm.take cs.length
def dP3 (cs : List Int) (p : Int) (q : Dl) : Prop := cs = q.cm ∧ p = q.pt
def dP4 (cs : List Int) (p : Int) (ys : List ByteArray) (q : Dl) : Prop := cs = q.cm ∧ p = q.pt ∧ ys.length ≤ q.bx.length ∧ ys = q.bx.take ys.length
theorem textL_at (q : Dl) : textL q = dAt4 q.cm.length q.cm q.pt q.bx := by
  simp [textL, dAt4, dAt3, dAt2, dAt1, dAt0, numB]
theorem ends_nums (l : List Int) (r : List UInt8) (hr : Ends r) : Ends (numsB l ++ r) := by
  cases l with
  | nil => exact hr
  | cons a l => exact .inr ⟨Lib.itoa a ++ numsB l ++ r, by simp [numsB, numB]⟩
theorem ends_boxes (l : List ByteArray) : Ends (boxesB l) := by
  cases l with
  | nil => exact .inl rfl
  | cons a l => exact .inr ⟨hexB a ++ boxesB l, by simp [boxesB, boxTB]⟩
theorem ends_num (p : Int) (r : List UInt8) : Ends (numB p ++ r) := .inr ⟨Lib.itoa p ++ r, by simp [numB]⟩
theorem nums_add (l : List Int) (v : Int) : numsB (l ++ [v]) = numsB l ++ numB v := by simp [numsB]
theorem boxes_add (l : List ByteArray) (y : ByteArray) : boxesB (l ++ [y]) = boxesB l ++ boxTB y := by simp [boxesB]
theorem nums_cut (l : List Int) (k : Nat) (h : k < l.length) : numsB l = numsB (l.take k) ++ (numB l[k] ++ numsB (l.drop (k + 1))) := by
  have e : l = l.take k ++ (l[k] :: l.drop (k + 1)) := by rw [List.getElem_cons_drop, List.take_append_drop]
  have e2 := congrArg numsB e
  rw [e2]
  unfold numsB
  rw [List.flatMap_append, List.flatMap_cons]
theorem boxes_cut (l : List ByteArray) (k : Nat) (h : k < l.length) : boxesB l = boxesB (l.take k) ++ (boxTB l[k] ++ boxesB (l.drop (k + 1))) := by
  have e : l = l.take k ++ (l[k] :: l.drop (k + 1)) := by rw [List.getElem_cons_drop, List.take_append_drop]
  have e2 := congrArg boxesB e
  rw [e2]
  unfold boxesB
  rw [List.flatMap_append, List.flatMap_cons]
theorem take_more {α : Type} {cs l : List α} {v : α} (hl : cs.length < l.length) (h : cs = l.take cs.length) (hv : v = l[cs.length]) : cs ++ [v] = l.take (cs ++ [v]).length := by
  rw [List.length_append, List.length_singleton, List.take_add_one, ← h, List.getElem?_eq_getElem hl, hv]
  rfl
theorem st_no0 {s : ByteArray} (hs : SeesQ s 0 false dAt0 false) : ∀ q, DlR q → s ≠ textB q :=
  (StD.start s).unseen hs (fun q _ _ => ⟨Lib.itoa q.cm.length ++ numsB q.cm ++ numB q.pt ++ boxesB q.bx, by rw [textL_at]; simp [dAt4, dAt3, dAt2, dAt1]⟩)
theorem st_count {s : ByteArray} {c : Nat} {b1 : Bool} {n : Int} (hs : SeesQ s 0 false dAt0 true) (hn : NumQ s 5 c false b1 n) (hs64 : s.size < 9223372036854775807) : StD s c b1 (dAt2 n []) (dP2 n []) := by
  have h0 := (StD.start s).sees hs
  have h1 : StD s c b1 (dAt0 ++ Lib.itoa n) (fun q => dP2 n [] q) := by
    refine StD.num (P := fun q => s = textB q) (P' := fun q => dP2 n [] q) ⟨h0.le, h0.sound, fun q hq e => ⟨rfl, e⟩⟩ hn (fun q hq e => ⟨q.cm.length, numsB q.cm ++ (numB q.pt ++ boxesB q.bx), ?_, ?_, ?_, ?_⟩)
    · have h2 := congrArg List.length (words_textB q)
      rw [← e, List.length_map, wordsB_len] at h2
      have h3 := Lib.countB_le ⟨#[32]⟩ (by decide) s.size s (Nat.le_refl _)
      simp only [wordsD, List.length_cons, List.length_append, List.length_map] at h2
      exact ⟨by omega, by omega⟩
    · rw [textL_at]; simp [dAt4, dAt3, dAt2, dAt1]
    · exact ends_nums _ _ (ends_num _ _)
    · intro e2
      exact ⟨e2, Nat.zero_le _, rfl⟩
  exact ⟨h1.le, fun hb => by rw [h1.sound hb]; simp [dAt2, dAt1, numsB], h1.comp⟩
theorem st_blank_no {s : ByteArray} {a : Nat} {bad : Bool} {n : Int} {cs : List Int} (h : StD s a bad (dAt2 n cs) (dP2 n cs)) (hs : SeesQ s a bad [32] false) : ∀ q, DlR q → s ≠ textB q := by
  refine h.unseen hs (fun q hq hp => ?_)
  obtain ⟨e1, e2, e3⟩ := hp
  rw [textL_at]
  rcases Nat.lt_or_ge cs.length q.cm.length with hlt | hge
  · refine ⟨Lib.itoa q.cm[cs.length] ++ (numsB (q.cm.drop (cs.length + 1)) ++ (numB q.pt ++ boxesB q.bx)), ?_⟩
    have := nums_cut q.cm cs.length hlt
    rw [← e3] at this
    simp only [dAt4, dAt3, dAt2, dAt1]
    rw [this, ← e1]
    simp [numB]
  · have e4 : cs = q.cm := by rw [e3, List.take_of_length_le (by omega)]
    refine ⟨Lib.itoa q.pt ++ boxesB q.bx, ?_⟩
    simp only [dAt4, dAt3, dAt2, dAt1]
    rw [← e4] at e1
    rw [← e4, e1]
    simp [numB]
theorem st_commit {s : ByteArray} {a c : Nat} {bad b1 : Bool} {n v : Int} {cs : List Int} (h : StD s a bad (dAt2 n cs) (dP2 n cs)) (hk : (cs.length : Int) < n) (hs : SeesQ s a bad [32] true) (hn : NumQ s (a + 1) c bad b1 v) :
    StD s c b1 (dAt2 n (cs ++ [v])) (dP2 n (cs ++ [v])) := by
  have h1 := (h.sees hs).num (P' := dP2 n (cs ++ [v])) hn (fun q hq hp => by
    obtain ⟨e1, e2, e3⟩ := hp
    have hlt : cs.length < q.cm.length := by omega
    refine ⟨q.cm[cs.length], numsB (q.cm.drop (cs.length + 1)) ++ (numB q.pt ++ boxesB q.bx), hq.1 _ (List.getElem_mem hlt), ?_, ends_nums _ _ (ends_num _ _), fun ev => ⟨e1, by rw [List.length_append, List.length_singleton]; omega, take_more hlt e3 ev⟩⟩
    rw [textL_at]
    have := nums_cut q.cm cs.length hlt
    rw [← e3] at this
    simp only [dAt4, dAt3, dAt2, dAt1]
    rw [this, ← e1]
    simp [numB])
  exact ⟨h1.le, fun hb => by rw [h1.sound hb]; simp [dAt2, nums_add, numB], h1.comp⟩
theorem st_point {s : ByteArray} {a c : Nat} {bad b1 : Bool} {n v : Int} {cs : List Int} (h : StD s a bad (dAt2 n cs) (dP2 n cs)) (hk : (cs.length : Int) = n) (hs : SeesQ s a bad [32] true) (hn : NumQ s (a + 1) c bad b1 v) :
    StD s c b1 (dAt4 n cs v []) (dP4 cs v []) := by
  have h1 := (h.sees hs).num (P' := dP4 cs v []) hn (fun q hq hp => by
    obtain ⟨e1, e2, e3⟩ := hp
    have e4 : cs = q.cm := by rw [e3, List.take_of_length_le (by omega)]
    refine ⟨q.pt, boxesB q.bx, hq.2, ?_, ends_boxes _, fun ev => ⟨e4, ev, Nat.zero_le _, rfl⟩⟩
    rw [textL_at]
    simp only [dAt4, dAt3, dAt2, dAt1]
    rw [← e4, ← hk]
    simp [numB])
  exact ⟨h1.le, fun hb => by rw [h1.sound hb]; simp [dAt4, dAt3, dAt2, numB, boxesB], h1.comp⟩
theorem st_box {s : ByteArray} {a c : Nat} {bad : Bool} {n p : Int} {cs : List Int} {ys : List ByteArray} {y : ByteArray} (h : StD s a bad (dAt4 n cs p ys) (dP4 cs p ys)) (hk : (cs.length : Int) = n) (hs : SeesQ s a bad [32] true) (hn : BytQ s (a + 1) c y) :
    StD s c bad (dAt4 n cs p (ys ++ [y])) (dP4 cs p (ys ++ [y])) := by
  have hbad := (hs.yes rfl).1
  have h1 := (h.sees hs)
  have h2 : StD s (a + 1) bad (dAt4 n cs p ys ++ [32]) (fun q => dP4 cs p ys q ∧ ys.length < q.bx.length) := by
    refine ⟨h1.le, h1.sound, fun q hq e => ⟨hbad, (h1.comp q hq e).2, ?_⟩⟩
    obtain ⟨e1, e2, e3, e4⟩ := (h.comp q hq e).2
    rcases Nat.lt_or_ge ys.length q.bx.length with hlt | hge
    · exact hlt
    · have e5 : ys = q.bx := by rw [e4, List.take_of_length_le (by omega)]
      have h3 := h.rest hq e (tail := []) (by rw [textL_at, ← e1, ← e2, ← e5, hk, List.append_nil])
      have h4 := congrArg List.length h3
      have h5 := h1.le
      rw [List.length_drop, len_of] at h4
      simp at h4 h5
      omega
  have h3 := h2.bytes (P' := dP4 cs p (ys ++ [y])) hn (fun q hq hp => by
    obtain ⟨⟨e1, e2, e3, e4⟩, hlt⟩ := hp
    refine ⟨q.bx[ys.length], boxesB (q.bx.drop (ys.length + 1)), ?_, ends_boxes _, fun ev => ⟨e1, e2, by rw [List.length_append, List.length_singleton]; omega, take_more hlt e4 ev⟩⟩
    rw [textL_at]
    have := boxes_cut q.bx ys.length hlt
    rw [← e4] at this
    simp only [dAt4, dAt3, dAt2, dAt1]
    rw [this, ← e1, ← e2, hk]
    simp [boxTB])
  exact ⟨h3.le, fun hb => by rw [h3.sound hb]; simp [dAt4, boxes_add, boxTB], h3.comp⟩
theorem st_end_no {s : ByteArray} {a : Nat} {bad : Bool} {n p : Int} {cs : List Int} {ys : List ByteArray} (h : StD s a bad (dAt4 n cs p ys) (dP4 cs p ys)) (hk : (cs.length : Int) = n) (hs : SeesQ s a bad [32] false) (he : bad = true ∨ a ≠ s.size) : ∀ q, DlR q → s ≠ textB q := by
  intro q hq e
  obtain ⟨hb, e1, e2, e3, e4⟩ := h.comp q hq e
  rcases he with he | he
  · rw [hb] at he; cases he
  · rcases Nat.lt_or_ge ys.length q.bx.length with hlt | hge
    · refine hs.no rfl hb (hexB q.bx[ys.length] ++ boxesB (q.bx.drop (ys.length + 1))) (h.rest hq e ?_)
      rw [textL_at]
      have := boxes_cut q.bx ys.length hlt
      rw [← e4] at this
      simp only [dAt4, dAt3, dAt2, dAt1]
      rw [this, ← e1, ← e2, hk]
      simp [boxTB]
    · have e5 : ys = q.bx := by rw [e4, List.take_of_length_le (by omega)]
      have h3 := h.rest hq e (tail := []) (by rw [textL_at, ← e1, ← e2, ← e5, hk, List.append_nil])
      have h4 := congrArg List.length h3
      have h5 := h.le
      rw [List.length_drop, len_of] at h4
      simp at h4
      omega
theorem st_end_yes {s : ByteArray} {n p : Int} {cs : List Int} {ys : List ByteArray} (h : StD s s.size false (dAt4 n cs p ys) (dP4 cs p ys)) (hk : (cs.length : Int) = n) : s = textB ⟨cs, p, ys⟩ := by
  have h1 := h.sound rfl
  rw [List.take_of_length_le (by rw [len_of]; omega)] at h1
  apply ByteArray.ext
  apply Array.ext'
  rw [h1, textB_data, textL_at, ← hk]
/-- The value of a digit. -/
def hexV (c : Int) : Int := if 48 ≤ c ∧ c ≤ 57 then c - 48 else if 97 ≤ c ∧ c ≤ 102 then c - 97 + 10 else -1
theorem hexV_dig {n : Nat} (h : n < 16) : hexV ((hexDig n).toNat : Int) = n := by
  have : ∀ n : Fin 16, hexV ((hexDig n.1).toNat : Int) = n.1 := by decide +kernel
  exact this ⟨n, h⟩
theorem hexV_yes {c : Int} (h : 0 ≤ hexV c) : ∃ n : Nat, n < 16 ∧ hexV c = n ∧ c = ((hexDig n).toNat : Int) := by
  unfold hexV at h ⊢
  split
  · rename_i h1
    have e : ∀ n : Fin 10, ((hexDig n.1).toNat : Int) = 48 + n.1 := by decide +kernel
    have := e ⟨(c - 48).toNat, by omega⟩
    exact ⟨(c - 48).toNat, by omega, by omega, by simp only at this; omega⟩
  · split
    · rename_i h1
      have e : ∀ n : Fin 6, ((hexDig (10 + n.1)).toNat : Int) = 97 + n.1 := by decide +kernel
      have := e ⟨(c - 97).toNat, by omega⟩
      exact ⟨10 + (c - 97).toNat, by omega, by omega, by simp only at this; omega⟩
    · rename_i h1 h2
      rw [if_neg h1, if_neg h2] at h
      omega
/-- The pairs of digits from 'a' on. -/
def unhexL (vs : List Nat) : List Int := (List.range (vs.length / 2)).map (fun m => ((16 * vs.getD (2 * m) 0 + vs.getD (2 * m + 1) 0 : Nat) : Int))
theorem unhexL_len (vs : List Nat) : (unhexL vs).length = vs.length / 2 := by simp [unhexL]
theorem unhex_str (vs : List Nat) : strOfNums (unhexL vs) = unhex vs := rfl
theorem unhexL_add {vs : List Nat} (he : vs.length % 2 = 0) (x y : Nat) : unhexL (vs ++ [x, y]) = unhexL vs ++ [((16 * x + y : Nat) : Int)] := by
  unfold unhexL
  have e1 : (vs ++ [x, y]).length / 2 = vs.length / 2 + 1 := by rw [List.length_append]; simp only [List.length_cons, List.length_nil]; omega
  rw [e1, List.range_succ, List.map_append, List.map_singleton]
  congr 1
  · apply List.map_congr_left
    intro m hm
    rw [List.mem_range] at hm
    rw [List.getD_eq_getElem?_getD, List.getD_eq_getElem?_getD, List.getD_eq_getElem?_getD, List.getD_eq_getElem?_getD, List.getElem?_append_left (by omega), List.getElem?_append_left (by omega)]
  · have e2 : 2 * (vs.length / 2) = vs.length := by omega
    rw [e2, List.getD_eq_getElem?_getD, List.getD_eq_getElem?_getD, List.getElem?_append_right (Nat.le_refl _), List.getElem?_append_right (by omega), Nat.sub_self, show vs.length + 1 - vs.length = 1 by omega]
    rfl
/-- What the loop over pairs of digits holds. -/
structure HxL (s : ByteArray) (a : Nat) (vs : List Nat) : Prop where
  hi : a + vs.length ≤ s.size
  ev : vs.length % 2 = 0
  lt : ∀ v ∈ vs, v < 16
  eq : s.data.toList.take (a + vs.length) = s.data.toList.take a ++ vs.map hexDig
theorem take_byte {s : ByteArray} {k : Nat} (h : k < s.size) {n : Nat} (e : byteZ s k = ((hexDig n).toNat : Int)) : s.data.toList.take (k + 1) = s.data.toList.take k ++ [hexDig n] := by
  obtain ⟨b, _, e1, e2⟩ := byte_of h
  rw [List.take_add_one, e1]
  have : b = hexDig n := UInt8.toNat_inj.1 (by omega)
  rw [this]
  rfl
theorem HxL.more {s : ByteArray} {a : Nat} {vs : List Nat} (h : HxL s a vs) (h2 : a + vs.length + 1 < s.size) {x y : Nat} (hx : x < 16) (hy : y < 16) (ex : byteZ s (a + vs.length) = ((hexDig x).toNat : Int)) (ey : byteZ s (a + vs.length + 1) = ((hexDig y).toNat : Int)) :
    HxL s a (vs ++ [x, y]) := by
  refine ⟨by rw [List.length_append]; simp; omega, by rw [List.length_append]; simp; exact h.ev, fun v hv => ?_, ?_⟩
  · rcases List.mem_append.1 hv with hv | hv
    · exact h.lt v hv
    · simp at hv
      rcases hv with rfl | rfl <;> assumption
  · rw [List.length_append, List.map_append]
    show s.data.toList.take (a + vs.length + 1 + 1) = _
    rw [take_byte h2 ey, take_byte (by omega) ex, h.eq]
    simp
theorem HxL.fin {s : ByteArray} {a : Nat} {vs : List Nat} (h : HxL s a vs) (hex : s.size ≤ a + vs.length + 1 ∨ hexV (byteZ s (a + vs.length)) < 0 ∨ hexV (byteZ s (a + vs.length + 1)) < 0) : BytQ s a (a + vs.length) (unhex vs) := by
  refine ⟨by omega, h.hi, by rw [hexB_unhex h.lt h.ev]; exact h.eq, fun z r e hr => ?_⟩
  have hlz := hexB_len z
  have hal : a ≤ s.size := by have := h.hi; omega
  have hdrop : s.data.toList.drop a = vs.map hexDig ++ s.data.toList.drop (a + vs.length) := by
    have h1 := List.take_append_drop (a + vs.length) s.data.toList
    rw [h.eq, List.append_assoc] at h1
    have h2 := List.take_append_drop a s.data.toList
    exact List.append_cancel_left (h2.trans h1.symm)
  have hm : vs.length = 2 * z.size := by
    rcases Nat.lt_trichotomy vs.length (2 * z.size) with h1 | h1 | h1
    · have hev := h.ev
      obtain ⟨a1, a2⟩ := byte_at e (k := vs.length) (by omega)
      obtain ⟨a3, a4⟩ := byte_at e (k := vs.length + 1) (by omega)
      obtain ⟨n1, l1, e1⟩ := hexB_digs z _ _ (List.getElem_mem (show vs.length < (hexB z).length by omega))
      obtain ⟨n2, l2, e2⟩ := hexB_digs z _ _ (List.getElem_mem (show vs.length + 1 < (hexB z).length by omega))
      rw [a2, e1, hexV_dig l1, show a + vs.length + 1 = a + (vs.length + 1) by omega, a4, e2, hexV_dig l2] at hex
      omega
    · exact h1
    · have hlt : a + (hexB z).length < s.size := by have := h.hi; omega
      have b1 := byte_end e hr hlt
      obtain ⟨_, b2⟩ := byte_at hdrop (k := (hexB z).length) (by rw [List.length_map]; omega)
      rw [b1] at b2
      rw [List.getElem_map] at b2
      have b3 := (hexDig_range _ (h.lt _ (List.getElem_mem (show (hexB z).length < vs.length by omega)))).1
      omega
  apply hexB_inj
  rw [hexB_unhex h.lt h.ev]
  rw [e] at hdrop
  exact (List.append_inj hdrop (by rw [List.length_map]; omega)).1.symm
end Go.Proofs.YtkpfachmakfncaaGreatDoor

namespace Go.Proofs.YtkpfachmakfncaaGreatDoor
open Go.RowKit

/-- Word j of a text. -/
def dwAt (s : ByteArray) (j : Nat) : ByteArray := (wordsB s).getD j ByteArray.empty
theorem wd_data {s : ByteArray} {q : Dl} (e : s = textB q) {j : Nat} {x : List UInt8} (h : (dealW :: wordsD q)[j]? = some x) : (dwAt s j).data.toList = x := by
  have h1 := words_textB q
  rw [← e] at h1
  rw [← h1, List.getElem?_map] at h
  unfold dwAt
  rw [List.getD_eq_getElem?_getD]
  cases hj : (wordsB s)[j]? with
  | none => rw [hj] at h; cases h
  | some y => rw [hj] at h; exact Option.some.inj h
theorem wd_len {s : ByteArray} {q : Dl} (e : s = textB q) : (wordsB s).length = 3 + q.cm.length + q.bx.length := by
  have h1 := congrArg List.length (words_textB q)
  rw [← e, List.length_map] at h1
  rw [h1]
  simp only [wordsD, List.length_cons, List.length_append, List.length_map]
  omega
theorem wd_deal {s : ByteArray} {q : Dl} (e : s = textB q) : (dwAt s 0).data.toList = dealW := wd_data e rfl
theorem wd_count {s : ByteArray} {q : Dl} (e : s = textB q) : (dwAt s 1).data.toList = Lib.itoa q.cm.length := wd_data e rfl
theorem wd_commit {s : ByteArray} {q : Dl} (e : s = textB q) {i : Nat} (h : i < q.cm.length) : (dwAt s (2 + i)).data.toList = Lib.itoa q.cm[i] := by
  refine wd_data e ?_
  rw [show 2 + i = i + 1 + 1 by omega, List.getElem?_cons_succ, wordsD, List.getElem?_cons_succ, List.getElem?_append_left (by rw [List.length_map]; exact h), List.getElem?_map, List.getElem?_eq_getElem h]
  rfl
theorem wd_point {s : ByteArray} {q : Dl} (e : s = textB q) : (dwAt s (2 + q.cm.length)).data.toList = Lib.itoa q.pt := by
  refine wd_data e ?_
  rw [show 2 + q.cm.length = q.cm.length + 1 + 1 by omega, List.getElem?_cons_succ, wordsD, List.getElem?_cons_succ, List.getElem?_append_right (by rw [List.length_map]; exact Nat.le_refl _), List.length_map, Nat.sub_self]
  rfl
theorem wd_box {s : ByteArray} {q : Dl} (e : s = textB q) {i : Nat} (h : i < q.bx.length) : (dwAt s (3 + q.cm.length + i)).data.toList = hexB q.bx[i] := by
  refine wd_data e ?_
  rw [show 3 + q.cm.length + i = q.cm.length + (i + 1) + 1 + 1 by omega, List.getElem?_cons_succ, wordsD, List.getElem?_cons_succ, List.getElem?_append_right (by rw [List.length_map]; omega), List.length_map,
    show q.cm.length + (i + 1) - q.cm.length = i + 1 by omega, List.getElem?_cons_succ, List.getElem?_map, List.getElem?_eq_getElem h]
  rfl
theorem len_R64 {s : ByteArray} {q : Dl} (e : s = textB q) (hs : s.size < 9223372036854775807) : R64 q.cm.length := by
  have h1 := wd_len e
  have h3 := Lib.countB_le ⟨#[32]⟩ (by decide) s.size s (Nat.le_refl _)
  rw [wordsB_len] at h1
  exact ⟨by omega, by omega⟩
/-- Why a text is refused. -/
theorem no_few {s : ByteArray} (h : (wordsB s).length < 3) : ∀ q, DlR q → s ≠ textB q := fun q _ e => by have := wd_len e; omega
theorem no_deal {s : ByteArray} (h : (dwAt s 0).data.toList ≠ dealW) : ∀ q, DlR q → s ≠ textB q := fun _ _ e => h (wd_deal e)
theorem no_count {s : ByteArray} (hs : s.size < 9223372036854775807) (h : ∀ u, Lib.atoiAll (dwAt s 1).data.toList ≠ .ok u) : ∀ q, DlR q → s ≠ textB q := fun q _ e => h _ (by rw [wd_count e]; exact atoi_itoa (len_R64 e hs))
theorem count_is {s : ByteArray} (hs : s.size < 9223372036854775807) {n : Int} (h : Lib.atoiAll (dwAt s 1).data.toList = .ok n) {q : Dl} (e : s = textB q) : n = q.cm.length := by
  rw [wd_count e, atoi_itoa (len_R64 e hs)] at h
  exact (by injection h with h; exact h.symm)
theorem no_range {s : ByteArray} (hs : s.size < 9223372036854775807) {n : Int} (h : Lib.atoiAll (dwAt s 1).data.toList = .ok n) (h2 : n < 0 ∨ ((wordsB s).length : Int) - 3 < n) : ∀ q, DlR q → s ≠ textB q := fun q _ e => by
  have := count_is hs h e
  have := wd_len e
  omega
theorem no_commit {s : ByteArray} (hs : s.size < 9223372036854775807) {n i : Nat} (h : Lib.atoiAll (dwAt s 1).data.toList = .ok (n : Int)) (hi : i < n) (h2 : ∀ u, Lib.atoiAll (dwAt s (2 + i)).data.toList ≠ .ok u) : ∀ q, DlR q → s ≠ textB q := fun q hq e => by
  have := count_is hs h e
  have hl : i < q.cm.length := by omega
  exact h2 _ (by rw [wd_commit e hl]; exact atoi_itoa (hq.1 _ (List.getElem_mem hl)))
theorem no_point {s : ByteArray} (hs : s.size < 9223372036854775807) {n : Nat} (h : Lib.atoiAll (dwAt s 1).data.toList = .ok (n : Int)) (h2 : ∀ u, Lib.atoiAll (dwAt s (2 + n)).data.toList ≠ .ok u) : ∀ q, DlR q → s ≠ textB q := fun q hq e => by
  have := count_is hs h e
  obtain rfl : n = q.cm.length := by omega
  exact h2 _ (by rw [wd_point e]; exact atoi_itoa hq.2)
theorem no_box {s : ByteArray} (hs : s.size < 9223372036854775807) {n i : Nat} (h : Lib.atoiAll (dwAt s 1).data.toList = .ok (n : Int)) (hi : 3 + n + i < (wordsB s).length) (h2 : ∀ z, (dwAt s (3 + n + i)).data.toList ≠ hexB z) : ∀ q, DlR q → s ≠ textB q := fun q hq e => by
  have := count_is hs h e
  have := wd_len e
  obtain rfl : n = q.cm.length := by omega
  exact h2 _ (wd_box e (i := i) (by omega))
/-- What the two loops read. -/
def CmsOk (s : ByteArray) (cs : List Int) : Prop := ∀ i, (h : i < cs.length) → Lib.atoiAll (dwAt s (2 + i)).data.toList = .ok cs[i]
def BxsOk (s : ByteArray) (n : Nat) (ys : List ByteArray) : Prop := ∀ i, (h : i < ys.length) → (dwAt s (3 + n + i)).data.toList = hexB ys[i]
theorem CmsOk.nil (s : ByteArray) : CmsOk s [] := fun _ h => absurd h (Nat.not_lt_zero _)
theorem BxsOk.nil (s : ByteArray) (n : Nat) : BxsOk s n [] := fun _ h => absurd h (Nat.not_lt_zero _)
theorem CmsOk.add {s : ByteArray} {cs : List Int} {v : Int} (h : CmsOk s cs) (hv : Lib.atoiAll (dwAt s (2 + cs.length)).data.toList = .ok v) : CmsOk s (cs ++ [v]) := fun i hi => by
  rw [List.length_append, List.length_singleton] at hi
  rcases Nat.lt_or_ge i cs.length with h1 | h1
  · rw [List.getElem_append_left h1]; exact h i h1
  · obtain rfl : i = cs.length := by omega
    rw [List.getElem_append_right (Nat.le_refl _)]
    simpa using hv
theorem BxsOk.add {s : ByteArray} {n : Nat} {ys : List ByteArray} {y : ByteArray} (h : BxsOk s n ys) (hy : (dwAt s (3 + n + ys.length)).data.toList = hexB y) : BxsOk s n (ys ++ [y]) := fun i hi => by
  rw [List.length_append, List.length_singleton] at hi
  rcases Nat.lt_or_ge i ys.length with h1 | h1
  · rw [List.getElem_append_left h1]; exact h i h1
  · obtain rfl : i = ys.length := by omega
    rw [List.getElem_append_right (Nat.le_refl _)]
    simpa using hy
theorem no_end {s : ByteArray} (hs : s.size < 9223372036854775807) {cs : List Int} {p : Int} {ys : List ByteArray} (h : Lib.atoiAll (dwAt s 1).data.toList = .ok (cs.length : Int)) (hc : CmsOk s cs) (hp : Lib.atoiAll (dwAt s (2 + cs.length)).data.toList = .ok p)
    (hy : BxsOk s cs.length ys) (hl : 3 + cs.length + ys.length = (wordsB s).length) (ht : textB ⟨cs, p, ys⟩ ≠ s) : ∀ q, DlR q → s ≠ textB q := fun q hq e => by
  have h1 := count_is hs h e
  have h2 := wd_len e
  have hcl : cs.length = q.cm.length := by omega
  have e1 : cs = q.cm := by
    apply List.ext_getElem hcl
    intro i a b
    have := hc i a
    rw [wd_commit e b, atoi_itoa (hq.1 _ (List.getElem_mem b))] at this
    injection this with this
    exact this.symm
  have e2 : p = q.pt := by
    rw [hcl, wd_point e, atoi_itoa hq.2] at hp
    injection hp with hp
    exact hp.symm
  have e3 : ys = q.bx := by
    apply List.ext_getElem (by omega)
    intro i a b
    have := hy i a
    rw [hcl, wd_box e b] at this
    exact (hexB_inj this).symm
  apply ht
  rw [e, e1, e2, e3]
theorem dwAt_le (s : ByteArray) (j : Nat) : (dwAt s j).size ≤ s.size := by
  unfold dwAt
  rw [List.getD_eq_getElem?_getD]
  cases h : (wordsB s)[j]? with
  | none => exact Nat.zero_le _
  | some y => exact words_le s y (List.mem_of_getElem? h)
end Go.Proofs.YtkpfachmakfncaaGreatDoor

namespace Go.Proofs.YtkpfachmakfncaaGreatDoor
open Go.RowKit

theorem DealC.stay {w wr wz : World} {Bd : Nat} {vc vb : Value} {L : List Int} {p : Int} {X : List ByteArray} (h : DealC w wr Bd vc vb L p X) (hO : Only (fun i => w.heap.size ≤ i ∧ i < Bd) wr wz) : DealC w wz Bd vc vb L p X := by
  have hlt := (Array.getElem?_eq_some_iff.1 h.blk).1
  refine ⟨(hO.block Bd hlt (by omega)).trans h.blk, hO.owns h.own (fun i hi e => ?_), hO.owns h.ownS (fun i hi e => ?_), h.apart, h.low, h.only.trans' hO (fun i hi e => by omega)⟩
  · have := own_low' h.own hi; omega
  · have := own_low' h.ownS hi; omega
theorem DealC.point {w wr : World} {Bd : Nat} {vc vb : Value} {L : List Int} {p : Int} {X : List ByteArray} (h : DealC w wr Bd vc vb L p X) (q : Int) : DealC w (wr.setCell ⟨Bd, 1, none⟩ (.int .i64 q)) Bd vc vb L q X := by
  refine ⟨heap_setCell_same wr Bd 1 _ _ _ h.blk, ownsRow_setCell_other h.own (fun e => ?_) _, ownsRow_setCell_other h.ownS (fun e => ?_) _, h.apart, h.low, h.only.setCell (.inr (by show w.heap.size ≤ Bd; exact h.low)) _⟩
  · have := own_low' h.own (show vc.ownBlock = some Bd from e); omega
  · have := own_low' h.ownS (show vb.ownBlock = some Bd from e); omega
theorem DealC.slices {w wr : World} {Bd : Nat} {vc vb : Value} {L : List Int} {p : Int} {X : List ByteArray} (h : DealC w wr Bd vc vb L p X) : ∃ a k b l, vc = .slice a L.length k ∧ vb = .slice b X.length l := by
  obtain ⟨a, k, e1⟩ := slice_of_own h.own
  obtain ⟨b, l, e2⟩ := slice_of_own h.ownS
  exact ⟨a, k, b, l, e1, e2⟩
theorem DealC.later {w wr wz : World} {Bd : Nat} {vc vb : Value} {L : List Int} {p : Int} {X : List ByteArray} (h : DealC w wr Bd vc vb L p X) (hO : Only (fun _ => False) wr wz) : DealC w wz Bd vc vb L p X :=
  h.stay (hO.mono (fun _ _ h => h.elim))
theorem DealC.fin {w wr : World} {Bd : Nat} {vc vb : Value} {L : List Int} {p : Int} {X : List ByteArray} (h : DealC w wr Bd vc vb L p X) {v : World} (hv : v.heap.size ≤ Bd) : DlOwn v.heap.size wr vc vb ⟨L, p, X⟩ :=
  ⟨own_base h.own (by omega), own_base h.ownS (by omega)⟩
/-- A dealing comes back from a reader. -/
def ReadOut (s : ByteArray) (w w' : World) (e : Ending) : Prop :=
  ∃ (c0 c2 : Value) (d : Dl) (b : Bool), e = .returned (.tuple #[.agg #[c0, .int .i64 d.pt, c2], .bool b]) ∧ DlOwn w.heap.size w' c0 c2 d ∧ ReadsD s d b ∧ Only (fun _ => False) w w'
theorem dlOwn_none (base : Nat) (w : World) : DlOwn base w (.slice none 0 0) (.slice none 0 0) ⟨[], 0, []⟩ := ⟨World.ownsRow_nil _ _ _ _, World.ownsRow_nil _ _ _ _⟩
theorem readOut_no {s : ByteArray} {w w' : World} (h : ∀ q, DlR q → s ≠ textB q) (hO : Only (fun _ => False) w w') : ReadOut s w w' (.returned (.tuple #[.agg #[.slice none 0 0, .int .i64 0, .slice none 0 0], .bool false])) :=
  ⟨_, _, ⟨[], 0, []⟩, false, rfl, dlOwn_none _ _, readsD_no h, hO⟩
theorem readOut_yes {s : ByteArray} {w w' : World} {d : Dl} {c0 c2 : Value} (h : s = textB d ∧ DlR d) (hD : DlOwn w.heap.size w' c0 c2 d) (hO : Only (fun _ => False) w w') : ReadOut s w w' (.returned (.tuple #[.agg #[c0, .int .i64 d.pt, c2], .bool true])) :=
  ⟨_, _, d, true, rfl, hD, readsD_yes h, hO⟩
/-- The result's row is stored into: what the dealing owns stays. -/
theorem DealC.res {w wr w3 : World} {Bd : Nat} {vc vb : Value} {L : List Int} {p : Int} {X : List ByteArray} (h : DealC w wr Bd vc vb L p X) (hB : w.heap.size < Bd) (hO : Only (fun k => k = w.heap.size) wr w3) : DlOwn w.heap.size w3 vc vb ⟨L, p, X⟩ ∧ Only (fun _ => False) w w3 :=
  ⟨⟨own_base (hO.owns h.own (fun g hg e => by have := own_low' h.own hg; omega)) (by omega), own_base (hO.owns h.ownS (fun g hg e => by have := own_low' h.ownS hg; omega)) (by omega)⟩, h.only.trans' hO (fun i hi e => by omega)⟩
theorem setRow_only (w : World) (g : Nat) (cs : Array Value) : Only (fun k => k = g) w (w.setRow g cs) := ⟨rfl, rfl, rfl, by simp, fun k _ hk => heap_setRow_other _ _ _ _ hk⟩
/-- An append and a store into the dealing's block: what lies below stays. -/
theorem low_row {wz w1 : World} {Bd j k : Nat} {v x : Value} {o : Obj} (hw : wz.heap[k]? = some o) (hk : k < Bd) (hown : ∀ g, v.ownBlock = some g → Bd < g) (hg : wz.grownBy w1 v.ownBlock) : (w1.setCell ⟨Bd, j, none⟩ x).heap[k]? = some o := by
  rw [heap_setCell_other _ _ _ _ (by show k ≠ Bd; omega)]
  have hO := (Only.refl (fun i => v.ownBlock = some i) _).grown hg (fun i e _ => e)
  rw [hO.block k (Array.getElem?_eq_some_iff.1 hw).1 (fun e => by have := hown k e; omega)]
  exact hw
end Go.Proofs.YtkpfachmakfncaaGreatDoor

namespace Go.Proofs.YtkpfachmakfncaaGreatDoor
open Go.RowKit

def RdrRow (W : World) (b : Nat) (s : ByteArray) (a : Nat) (bad : Bool) : Prop := W.heap[b]? = some (.cells #[.string s, .int .i64 a, .bool bad] 71 (0, 0))
def SeesR (s : ByteArray) (a b : Nat) (bad : Bool) (x : ByteArray) (w w' : World) (e : Ending) : Prop :=
  ∃ res : Bool, e = .returned (.bool res) ∧ SeesQ s a bad x.data.toList res ∧ RdrRow w' b s (if res then a + x.size else a) bad ∧ Only (fun k => k = b) w w'
theorem RdrRow.only {A B : World} {b : Nat} {s : ByteArray} {a : Nat} {bad : Bool} (hO : Only (fun _ => False) A B) (h : RdrRow A b s a bad) : RdrRow B b s a bad := row_still hO h
theorem RdrRow.put {W : World} {b : Nat} {s : ByteArray} {a : Nat} {bad : Bool} (h : RdrRow W b s a bad) (c : Nat) : RdrRow (W.setCell ⟨b, 1, none⟩ (.int .i64 c)) b s c bad := heap_setCell_same W b 1 _ _ _ h
theorem RdrRow.spoil {W : World} {b : Nat} {s : ByteArray} {a : Nat} {bad : Bool} (h : RdrRow W b s a bad) : RdrRow (W.setCell ⟨b, 2, none⟩ (.bool true)) b s a true := heap_setCell_same W b 2 _ _ _ h
theorem extract_list (s : ByteArray) (a n : Nat) : (s.extract a (a + n)).data.toList = (s.data.toList.drop a).take n := by
  rw [ByteArray.data_extract, Array.toList_extract, List.extract_eq_take_drop, show a + n - a = n by omega]
theorem sees_yes {s x : ByteArray} {a : Nat} (h : s.extract a (a + x.size) = x) (hle : a + x.size ≤ s.size) : SeesQ s a false x.data.toList true := by
  have hl : x.data.toList.length = x.size := Array.length_toList
  refine ⟨fun _ => ⟨rfl, by omega, ?_⟩, fun h => by cases h⟩
  rw [hl]
  exact ext_take (by omega) (congrArg (·.data.toList) h)
theorem sees_no {s x : ByteArray} {a : Nat} {bad : Bool} (ha : a ≤ s.size) (h : bad = false → a + x.size ≤ s.size → s.extract a (a + x.size) ≠ x) : SeesQ s a bad x.data.toList false := by
  have hl : x.data.toList.length = x.size := Array.length_toList
  refine ⟨fun h => (by cases h), fun _ hb r e => ?_⟩
  have h1 := congrArg List.length e
  rw [List.length_drop, len_of, List.length_append, hl] at h1
  by_cases hx : x.size = 0
  · have hd : x.data.toList = [] := List.length_eq_zero_iff.1 (by omega)
    refine h hb (by omega) ?_
    apply ByteArray.ext
    apply Array.ext'
    rw [extract_list, hx, hd]
    rfl
  · refine h hb (by omega) ?_
    apply ByteArray.ext
    apply Array.ext'
    rw [extract_list, e, ← hl, List.take_left]
set_option maxHeartbeats 1000000 in
theorem sees_any (b a : Nat) (s x : ByteArray) (bad : Bool) (w : World) (hs : s.size ≤ 100000000000000) (ha : a ≤ s.size) (hx : x.size ≤ 100) (h : RdrRow w b s a bad) :
    Calls Tryz.prog 32 #[.pointer (some ⟨b, 0, none⟩), .string x] w fun e w' => SeesR s a b bad x w w' e := by
  have c0 : w.cell? ⟨b, 0, none⟩ = some (.string s) := cell_of_row _ _ 0 _ _ _ h
  have c1 : w.cell? ⟨b, 1, none⟩ = some (.int .i64 a) := cell_of_row _ _ 1 _ _ _ h
  have c2 : w.cell? ⟨b, 2, none⟩ = some (.bool bad) := cell_of_row _ _ 2 _ _ _ h
  have f1 := frozen_of_row _ _ 1 _ _ h
  have l1 := (Array.getElem?_eq_some_iff.1 h).1
  have H := Lib.hid h
  have k1 : IntKind.i64.wrap ((a : Int) + x.size) = a + x.size := IntWalk.i64_in _ (by omega)
  have k2 : 0 ≤ (a : Int) + x.size := by omega
  have k3 : ((a : Int) + x.size).toNat = a + x.size := by omega
  clear h
  cases bad
  · by_cases hle : a + x.size ≤ s.size
    · have d1 : decide ((s.size : Int) < a + x.size) = false := decide_eq_false (by omega)
      have d2 : (a : Int) ≤ a + x.size := by omega
      have d3 : (a : Int) + x.size ≤ s.size := by omega
      by_cases he : s.extract a (a + x.size) = x
      · have HE := Lib.hid (sees_yes he hle)
        have q1 : ((s.extract a (a + x.size)).toList == x.toList) = true := by rw [he]; simp
        clear he
        go_enter Tryz.func32, Tryz.ntmps32
        go_wp2_with fail
        go_quiet (fail)
        go_wp2
        go_ret
        refine ⟨true, rfl, HE.out, ?_, ?_⟩
        · exact (H.out.only ((Only.refl (fun _ => False) w).drewN _)).put (a + x.size)
        · exact ((Only.refl (fun k => k = b) w).drewN _).setCell (.inl rfl) _
      · have HE := Lib.hid (sees_no (s := s) (x := x) (a := a) (bad := false) ha (fun _ _ => he))
        have q1 : ((s.extract a (a + x.size)).toList == x.toList) = false := by
          cases hb : (s.extract a (a + x.size)).toList == x.toList with
          | false => rfl
          | true => exact absurd (tl_iff.1 hb) he
        clear he
        go_enter Tryz.func32, Tryz.ntmps32
        go_wp2_with fail
        go_quiet (fail)
        go_wp2
        go_ret
        exact ⟨false, rfl, HE.out, H.out.only ((Only.refl _ w).drewN _), (Only.refl _ w).drewN _⟩
    · have d1 : decide ((s.size : Int) < a + x.size) = true := decide_eq_true (by omega)
      have HE := Lib.hid (sees_no (s := s) (x := x) (a := a) (bad := false) ha (fun _ h => absurd h hle))
      go_enter Tryz.func32, Tryz.ntmps32
      go_wp2_with fail
      go_quiet (fail)
      go_wp2
      go_ret
      exact ⟨false, rfl, HE.out, H.out.only ((Only.refl _ w).drewN _), (Only.refl _ w).drewN _⟩
  · have HE := Lib.hid (sees_no (s := s) (x := x) (a := a) (bad := true) ha (fun e => by cases e))
    go_enter Tryz.func32, Tryz.ntmps32
    go_wp2_with fail
    go_quiet (fail)
    go_wp2
    go_ret
    exact ⟨false, rfl, HE.out, H.out.only ((Only.refl _ w).drewN _), (Only.refl _ w).drewN _⟩
end Go.Proofs.YtkpfachmakfncaaGreatDoor

namespace Go.Proofs.YtkpfachmakfncaaGreatDoor
open Go.RowKit

def bOf (l : List UInt8) : ByteArray := ⟨l.toArray⟩
theorem bOf_size (l : List UInt8) : (bOf l).size = l.length := by simp [bOf, ByteArray.size]
theorem bOf_app (a b : List UInt8) : bOf a ++ bOf b = bOf (a ++ b) := by
  apply ByteArray.ext
  apply Array.ext'
  simp [bOf]
theorem bOf_dec (v : Int) : decI v = bOf (Lib.itoa v) := rfl
def numsOf (l : List UInt8) : List Int := l.map (fun b => (b.toNat : Int))
theorem numsOf_app (a b : List UInt8) : numsOf (a ++ b) = numsOf a ++ numsOf b := by simp [numsOf]
theorem numsOf_len (l : List UInt8) : (numsOf l).length = l.length := by simp [numsOf]
theorem str_numsOf (l : List UInt8) : strOfNums (numsOf l) = bOf l := by
  apply ByteArray.ext
  apply Array.ext'
  have h : ∀ l : List UInt8, List.map ((fun n : Int => UInt8.ofNat n.toNat) ∘ fun b : UInt8 => (b.toNat : Int)) l = l := fun l => by
    induction l with
    | nil => rfl
    | cons a l ih => simp only [List.map_cons, ih, Function.comp, Int.toNat_natCast, UInt8.ofNat_toNat]
  simp [strOfNums, numsOf, bOf, h]
theorem hexS_byte : ∀ n : Nat, n < 16 → byteZ hexS n = ((hexDig n).toNat : Int) := by
  intro n hn
  have : ∀ n : Fin 16, byteZ hexS n.1 = ((hexDig n.1).toNat : Int) := by decide +kernel
  exact this ⟨n, hn⟩
set_option maxHeartbeats 2000000 in
set_option maxRecDepth 100000 in
theorem rhex_any (s : ByteArray) (w : World) (hs : s.size ≤ 100000000000) :
    Calls Tryz.prog 31 #[.string s] w fun e w' => e = .returned (.string (bOf (hexB s))) ∧ Only (fun _ => False) w w' := by
  obtain ⟨i0, hi0, hz0, hz1, hz2⟩ := info_parts Tryz.infoB
  have hh16 : hexS.size = 16 := rfl
  have HHB := Lib.hid hexS_byte
  go_enter Tryz.func31, Tryz.ntmps31
  go_wp2_with fail
  change Code.wp _ _ _ ⟨#[_, _, _, .string hexS, _, _, _, _, _, _, _, _, _, _, _, _, _, _, _, _, _, _, _, _, _, _, _, _, _], _⟩ _
  generalize hexS = H at *
  go_loopw [4, 5] (fun vb kv wr => ∃ k : Nat, k ≤ s.size ∧ kv = .int .i64 k ∧ wr.ownsRow w.heap.size 5 1 vb (2 * k) (brow (numsOf (hexTo s k))) ∧ Only (fun _ => False) w wr) (fun _ kv _ => s.size - (intOf kv).toNat)
  case atStart => exact ⟨0, Nat.zero_le _, rfl, World.ownsRow_nil _ _ _ _, Only.refl _ _⟩
  case round =>
    obtain ⟨k, hk, rfl, hown, hO⟩ := hrel
    have HOWN := Lib.hid hown
    have HO := Lib.hid hO
    have hsz := hO.size
    obtain ⟨av, cv, rfl⟩ := slice_of_own hown
    clear hown hO
    by_cases hlt : k < s.size
    · have b0 := byteZ_eq s k hlt
      obtain ⟨y, hy, ey⟩ := byteZ_nat s k
      have HST := Lib.hid (show hexTo s (k + 1) = hexTo s k ++ [hexDig ((byteZ s k).toNat / 16), hexDig ((byteZ s k).toNat % 16)] from rfl)
      rw [ey, Int.toNat_natCast] at HST
      rw [ey] at b0
      obtain ⟨q, hq⟩ : ∃ q, q = y / 16 := ⟨_, rfl⟩
      obtain ⟨r, hr⟩ : ∃ r, r = y % 16 := ⟨_, rfl⟩
      rw [← hq, ← hr] at HST
      have hq2 : q < 16 := by omega
      have hr2 : r < 16 := by omega
      have hq3 : q < H.size := by omega
      have hr3 : r < H.size := by omega
      have d0 := byteZ_eq H q hq3
      have d1 := byteZ_eq H r hr3
      rw [HHB.out _ hq2] at d0
      rw [HHB.out _ hr2] at d1
      generalize hexDig q = x0 at *
      generalize hexDig r = x1 at *
      have k1 : IntKind.u8.wrap ((y : Int).tdiv 16) = (q : Int) := by rw [Int.tdiv_eq_ediv_of_nonneg (by omega)]; show ((y : Int) / 16) % 256 = _; omega
      have k3 : IntKind.u8.wrap ((y : Int).tmod 16) = (r : Int) := by rw [Int.tmod_eq_emod_of_nonneg (by omega)]; show ((y : Int) % 16) % 256 = _; omega
      have k4 : (y : Int).tmod 16 = (r : Int) := by rw [Int.tmod_eq_emod_of_nonneg (by omega)]; omega
      have k5 : IntKind.u8.wrap ((y : Int) / 16) = (q : Int) := by show ((y : Int) / 16) % 256 = _; omega
      have k6 : IntKind.u8.wrap ((y : Int) % 16) = (r : Int) := by show ((y : Int) % 16) % 256 = _; omega
      have k7 : (y : Int) % 16 = (r : Int) := by omega
      clear hq hr
      have j0 : (k : Int) < s.size := by omega
      have j1 : 0 ≤ (k : Int) := by omega
      have j2 : (q : Int) < H.size := by omega
      have j3 : (r : Int) < H.size := by omega
      have j4 : 0 ≤ (q : Int) := by omega
      have j5 : 0 ≤ (r : Int) := by omega
      clear hh16
      go_wp2_with fail
      go_region_held3 (fun _ => True)
        (trivial)
        ((refine step_append_lies _ (by rfl) _ _ _ (by rfl) w.heap.size 5 i0 _ 1 1 Tryz.underlying33 hi0 hz0 hz1 hz2 rfl (by omega) (.slice av (2 * k) cv) (2 * k) (brow (numsOf (hexTo s k))) (by rfl) ((HOWN.out.alloc _).drew) ⟨wr.heap.size, 0, none⟩ 2 2 [.int .u8 (x0.toNat : Int), .int .u8 (x1.toNat : Int)] (by rfl) (by rfl) (World.news_of_block (cs := #[.int .u8 (x0.toNat : Int), .int .u8 (x1.toNat : Int)]) (t := 5) (fr := (0, 0)) (heap_alloc_new wr _)) (by simp [Value.oneCell']) (by omega) (by unfold maxLen; omega) (by omega) (by simp; omega) (wr.heap.size + 1) (by simp) ?_; intro gg cap w3 hown1 hgrow hat hlt))
      all_goals (have HO3 := Lib.hid (((HO.out.alloc _).drew).grown hgrow (fun k e hk => by have := own_low' HOWN.out e; omega)))
      all_goals (have HOW3 := Lib.hid (show World.ownsRow _ w.heap.size 5 1 _ (2 * (k + 1)) (brow (numsOf (hexTo s (k + 1)))) from by
        rw [HST.out, numsOf_app, brow_append]
        exact hown1))
      all_goals (clear hown1 hgrow hat)
      all_goals (go_wp2)
      all_goals (go_roundw)
      all_goals (first
        | exact ⟨k + 1, by omega, by go_num, HOW3.out, HO3.out⟩
        | (simp [intOf]; omega))
    · obtain rfl : k = s.size := by omega
      have j0 : ¬ (s.size : Int) < s.size := by omega
      have hcv := conv_own 9 Tryz.underlying9 HOWN.out (by rw [numsOf_len, hexTo_len])
      rw [str_numsOf] at hcv
      have HE := Lib.hid (show hexTo s s.size = hexB s from rfl)
      rw [HE.out] at hcv
      obtain ⟨R, hR⟩ : ∃ R, bOf (hexB s) = R := ⟨_, rfl⟩
      rw [hR] at hcv
      have HR := Lib.hid hR
      clear hlt hk HE hR
      go_wp2
      go_ret
      exact ⟨by rw [HR.out]; rfl, HO.out⟩
theorem dAt1_len (n : Nat) (h : n ≤ 2000000) : (dAt1 n).length ≤ 26 := by
  have := numB_len n (by omega) (by omega)
  simp only [numB, List.length_cons] at this
  unfold dAt1 dAt0
  rw [List.length_append]
  simp only [List.length_cons, List.length_nil]
  omega
theorem dAt2_more (n : Int) (l : List Int) (v : Int) : dAt2 n l ++ [32] ++ Lib.itoa v = dAt2 n (l ++ [v]) := by
  simp [dAt2, nums_add, numB]
theorem dAt4_more (n : Int) (l : List Int) (p : Int) (ys : List ByteArray) (y : ByteArray) : dAt4 n l p ys ++ [32] ++ hexB y = dAt4 n l p (ys ++ [y]) := by
  simp [dAt4, boxes_add, boxTB]
theorem dAt3_more (n : Int) (l : List Int) (p : Int) : dAt2 n l ++ [32] ++ Lib.itoa p = dAt4 n l p [] := by
  simp [dAt4, dAt3, numB, boxesB]
theorem take_step {α : Type} {l : List α} {k : Nat} (h : k < l.length) (v : α) : l.take (k + 1) = l.take k ++ [l.getD k v] := by
  rw [List.take_add_one, List.getElem?_eq_getElem h, List.getD_eq_getElem?_getD, List.getElem?_eq_getElem h]
  rfl
theorem dAt2_len (n : Nat) (l : List Int) (hn : n ≤ 2000000) (hl : l.length ≤ 2000000) (h : ∀ x ∈ l, -9223372036854775808 ≤ x ∧ x ≤ 9223372036854775807) : (dAt2 n l).length ≤ 44000026 := by
  have h1 := dAt1_len n hn
  have h2 := numsB_len l h
  unfold dAt2
  rw [List.length_append]
  omega
theorem dAt4_len (n : Nat) (l : List Int) (p : Int) (ys : List ByteArray) (hn : n ≤ 2000000) (hl : l.length ≤ 2000000) (h : ∀ x ∈ l, -9223372036854775808 ≤ x ∧ x ≤ 9223372036854775807) (hp0 : -9223372036854775808 ≤ p) (hp1 : p ≤ 9223372036854775807) (hy : ys.length ≤ 2000000) (hs : ∀ s ∈ ys, s.size ≤ 2000000) : (dAt4 n l p ys).length ≤ 10000000000000 := by
  have h1 := dAt2_len n l hn hl h
  have h2 := numB_len p hp0 hp1
  have h3 := boxesB_lenN 2000000 ys hs
  have h4 : (2 * 2000000 + 1) * ys.length ≤ (2 * 2000000 + 1) * 2000000 := Nat.mul_le_mul_left _ hy
  unfold dAt4 dAt3
  rw [List.length_append, List.length_append]
  omega
set_option maxRecDepth 100000 in
set_option maxHeartbeats 4000000 in
theorem rtext7_any (a0 a2 : Option Addr) (k0 k2 : Nat) (d : Dl) (w : World) (hD : DlAt w (.slice a0 d.cm.length k0) (.int .i64 d.pt) (.slice a2 d.bx.length k2) d) (hcm : d.cm.length ≤ 2000000) (hbx : d.bx.length ≤ 2000000) (hp : IntsW d.cm ∧ -9223372036854775808 ≤ d.pt ∧ d.pt ≤ 9223372036854775807) (hs : ∀ i, (sAt d.bx i).size ≤ 2000000) :
    Calls Tryz.prog 8 #[.agg #[.slice a0 d.cm.length k0, .int .i64 d.pt, .slice a2 d.bx.length k2]] w fun e w' => e = .returned (.string (textB d)) ∧ Only (fun _ => False) w w' := by
  obtain ⟨hcw, hp0, hp1⟩ := hp
  have hA := (Only.refl (fun _ => False) w).alloc (.cells #[.slice a0 d.cm.length k0, .int .i64 d.pt, .slice a2 d.bx.length k2] 25)
  have HZ := Lib.hid (heap_alloc_last w (.cells #[.slice a0 d.cm.length k0, .int .i64 d.pt, .slice a2 d.bx.length k2] 25))
  have HD := Lib.hid (fun W (hO : Only (fun _ => False) w W) => hD.only hO)
  have HCW := Lib.hid hcw
  have HSS := Lib.hid hs
  have HA := Lib.hid hA
  have HTX := Lib.hid (show textB d = bOf (dAt4 d.cm.length d.cm d.pt d.bx) by unfold textB; rw [textL_at]; rfl)
  have HL2 := Lib.hid (fun k => dAt2_len d.cm.length (d.cm.take k) hcm (by rw [List.length_take]; omega) (fun x hx => mem_ptAt hcw x (List.mem_of_mem_take hx)))
  have HL4 := Lib.hid (fun k => dAt4_len d.cm.length d.cm d.pt (d.bx.take k) hcm hcm (mem_ptAt hcw) hp0 hp1 (by rw [List.length_take]; omega) (fun x hx => mem_sAt hs x (List.mem_of_mem_take hx)))
  clear hA hD hcw hs
  go_enter Tryz.func8, Tryz.ntmps8
  have f0 : _ = some (Value.slice a0 d.cm.length k0) := cell_of_row _ _ 0 _ _ _ HZ.out
  go_wp2_with fail
  refine (rdecI7_any d.cm.length _ (by omega) (by omega)).mono ?_
  rintro e w1 ⟨rfl, hO1⟩
  have hsz1 := decI_size (z := (d.cm.length : Int)) (by omega) (by omega)
  have HO1 := Lib.hid (HA.out.trans hO1)
  have HZ1 := Lib.hid (row_still hO1 HZ.out)
  have HE := Lib.hid (show (⟨#[100, 101, 97, 108, 32]⟩ : ByteArray) ++ decI d.cm.length = bOf (dAt2 d.cm.length []) by
    rw [bOf_dec, show (⟨#[100, 101, 97, 108, 32]⟩ : ByteArray) = bOf [100, 101, 97, 108, 32] from rfl, bOf_app]
    simp [dAt2, dAt1, dAt0, numsB])
  clear hO1 HA f0
  have f0 : _ = some (Value.slice a0 d.cm.length k0) := cell_of_row _ _ 0 _ _ _ HZ1.out
  go_wp2_with fail
  rw [HE.out]
  go_loopw [3, 4] (fun sv kv wr => ∃ k : Nat, k ≤ d.cm.length ∧ kv = .int .i64 k ∧ sv = .string (bOf (dAt2 d.cm.length (d.cm.take k))) ∧ Only (fun _ => False) w1 wr) (fun _ kv _ => d.cm.length - (intOf kv).toNat)
  case atStart => exact ⟨0, Nat.zero_le _, rfl, by rw [List.take_zero], Only.refl _ _⟩
  case round =>
    clear f0 HE hsz1
    obtain ⟨k, hk, rfl, rfl, hO⟩ := hrel
    have f0 : _ = some (Value.slice a0 d.cm.length k0) := cell_of_row _ _ 0 _ _ _ (row_still hO HZ1.out)
    have HO := Lib.hid hO
    have HSZ := Lib.hid (HL2.out k)
    by_cases hlt : k < d.cm.length
    · obtain ⟨bc, oc, rfl, hb, hl0, hcp1, hcp2, hcell⟩ := (HD.out wr (HO1.out.trans hO)).cm.cellAt hlt
      have HSTEP := Lib.hid (show bOf (dAt2 d.cm.length (d.cm.take k)) ++ (⟨#[32]⟩ : ByteArray) ++ decI (ptAt d.cm k) = bOf (dAt2 d.cm.length (d.cm.take (k + 1))) by
        rw [bOf_dec, show (⟨#[32]⟩ : ByteArray) = bOf [32] from rfl, bOf_app, bOf_app, dAt2_more, take_step hlt 0]
        rfl)
      obtain ⟨z0, z1⟩ := HCW.out.wf k
      have hsd := decI_size z0 z1
      have hss : (bOf (dAt2 d.cm.length (d.cm.take k))).size ≤ 44000026 := by rw [bOf_size]; exact HSZ.out
      generalize ptAt d.cm k = z at *
      generalize bOf (dAt2 d.cm.length (d.cm.take k)) = S at *
      have t0 : (S ++ (⟨#[32]⟩ : ByteArray)).size ≤ 44000027 := by rw [ByteArray.size_append]; show _ + 1 ≤ _; omega
      have i1 : (k : Int) < d.cm.length := by omega
      clear hl0 hk hO
      go_wp2_with fail
      refine (rdecI7_any z _ z0 z1).mono ?_
      rintro e w3 ⟨rfl, hO3⟩
      have HO3 := Lib.hid (HO.out.trans hO3)
      have t1 : (S ++ (⟨#[32]⟩ : ByteArray) ++ decI z).size ≤ 44000048 := by rw [ByteArray.size_append]; omega
      clear hO3
      go_wp2
      go_roundw
      case rel => exact ⟨k + 1, by omega, by go_num, by rw [HSTEP.out], HO3.out⟩
      case measure => simp [intOf]; omega
    · obtain rfl : k = d.cm.length := by omega
      rw [List.take_length] at HSZ ⊢
      have i1 : ¬ (d.cm.length : Int) < d.cm.length := by omega
      have f1 : _ = some (Value.int .i64 d.pt) := cell_of_row _ _ 1 _ _ _ (row_still hO HZ1.out)
      have HSTEP := Lib.hid (show bOf (dAt2 d.cm.length d.cm) ++ (⟨#[32]⟩ : ByteArray) ++ decI d.pt = bOf (dAt4 d.cm.length d.cm d.pt []) by
        rw [bOf_dec, show (⟨#[32]⟩ : ByteArray) = bOf [32] from rfl, bOf_app, bOf_app, dAt3_more])
      have hss : (bOf (dAt2 d.cm.length d.cm)).size ≤ 44000026 := by rw [bOf_size]; exact HSZ.out
      have hsd := decI_size hp0 hp1
      generalize bOf (dAt2 d.cm.length d.cm) = S at *
      have t0 : (S ++ (⟨#[32]⟩ : ByteArray)).size ≤ 44000027 := by rw [ByteArray.size_append]; show _ + 1 ≤ _; omega
      clear hO hlt hk
      go_wp2_with fail
      refine (rdecI7_any d.pt _ hp0 hp1).mono ?_
      rintro e w3 ⟨rfl, hO3⟩
      have HO3 := Lib.hid (HO1.out.trans (HO.out.trans hO3))
      have HZ3 := Lib.hid (row_still (HO.out.trans hO3) HZ1.out)
      have t1 : (S ++ (⟨#[32]⟩ : ByteArray) ++ decI d.pt).size ≤ 44000048 := by rw [ByteArray.size_append]; omega
      clear hO3 f0 f1
      have f2 : _ = some (Value.slice a2 d.bx.length k2) := cell_of_row _ _ 2 _ _ _ HZ3.out
      go_wp2_with fail
      rw [HSTEP.out]
      go_loopw [3, 5] (fun sv kv wr => ∃ k : Nat, k ≤ d.bx.length ∧ kv = .int .i64 k ∧ sv = .string (bOf (dAt4 d.cm.length d.cm d.pt (d.bx.take k))) ∧ Only (fun _ => False) w3 wr) (fun _ kv _ => d.bx.length - (intOf kv).toNat)
      case atStart => exact ⟨0, Nat.zero_le _, rfl, by rw [List.take_zero], Only.refl _ _⟩
      case round =>
        clear f2 HSTEP hsd t0 t1
        obtain ⟨k, hk, rfl, rfl, hO⟩ := hrel
        have f2 : _ = some (Value.slice a2 d.bx.length k2) := cell_of_row _ _ 2 _ _ _ (row_still hO HZ3.out)
        have HO := Lib.hid hO
        have HSZ := Lib.hid (HL4.out k)
        by_cases hlt : k < d.bx.length
        · obtain ⟨bc, oc, rfl, hb, hcp1, hcp2, hcell⟩ := strs_cellAt (HD.out _ (HO3.out.trans hO)).bx hlt
          have HSTEP := Lib.hid (show bOf (dAt4 d.cm.length d.cm d.pt (d.bx.take k)) ++ (⟨#[32]⟩ : ByteArray) ++ bOf (hexB (sAt d.bx k)) = bOf (dAt4 d.cm.length d.cm d.pt (d.bx.take (k + 1))) by
            rw [show (⟨#[32]⟩ : ByteArray) = bOf [32] from rfl, bOf_app, bOf_app, dAt4_more, take_step hlt ByteArray.empty]
            rfl)
          have hsz := HSS.out k
          have hsd : (bOf (hexB (sAt d.bx k))).size ≤ 4000000 := by rw [bOf_size, hexB, hexTo_len]; omega
          have hss : (bOf (dAt4 d.cm.length d.cm d.pt (d.bx.take k))).size ≤ 10000000000000 := by rw [bOf_size]; exact HSZ.out
          generalize sAt d.bx k = y at *
          generalize bOf (dAt4 d.cm.length d.cm d.pt (d.bx.take k)) = S at *
          have t0 : (S ++ (⟨#[32]⟩ : ByteArray)).size ≤ 10000000000001 := by rw [ByteArray.size_append]; show _ + 1 ≤ _; omega
          have i1 : (k : Int) < d.bx.length := by omega
          clear hk hO
          go_wp2_with fail
          refine (rhex_any y _ (by omega)).mono ?_
          rintro e w5 ⟨rfl, hO5⟩
          have HO5 := Lib.hid (HO.out.trans hO5)
          have t1 : (S ++ (⟨#[32]⟩ : ByteArray) ++ bOf (hexB y)).size ≤ 10000004000002 := by rw [ByteArray.size_append]; omega
          clear hO5
          go_wp2
          go_roundw
          case rel => exact ⟨k + 1, by omega, by go_num, by rw [HSTEP.out], HO5.out⟩
          case measure => simp [intOf]; omega
        · obtain rfl : k = d.bx.length := by omega
          rw [List.take_length]
          have i1 : ¬ (d.bx.length : Int) < d.bx.length := by omega
          have HOF := Lib.hid (HO3.out.trans hO)
          rw [← HTX.out]
          clear hO hlt hk
          go_wp2
          go_ret
          exact ⟨rfl, HOF.out⟩
end Go.Proofs.YtkpfachmakfncaaGreatDoor
