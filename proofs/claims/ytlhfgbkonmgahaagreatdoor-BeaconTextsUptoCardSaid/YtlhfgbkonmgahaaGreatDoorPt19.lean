/-
  Plain facts on texts of numbers: words between blanks, and numerals.
  The reference's reader of a number: what its loop reckons (plain).
  The reference's reader of a number (sortesref06).
  The reference's reader of a proof (sortesref06.Read).
  The reference's text of a partial (sortesref09.Text).
  The reference's reader of a partial: what its loop holds (plain).
  The reference's reader of a partial (sortesref09.Read).
-/
import Derived.Test.YtlhfgbkonmgahaaGreatDoorPt18
import Derived.Lib.SplitLaws
import Derived.Lib.AtoiAll
import Derived.Test.YtlhfgbkonmgahaaGreatDoorPt14
import Derived.Lib.IndexBytes
namespace Go.Proofs.YtlhfgbkonmgahaaGreatDoor
open Go.RowKit

def noC (d : UInt8) (l : List UInt8) : Prop := ∀ b ∈ l, b ≠ d
abbrev noSp (l : List UInt8) : Prop := noC 32 l
theorem dig_val {d : Nat} (h : d < 10) : (UInt8.ofNat (48 + d)).toNat = 48 + d := by
  rw [UInt8.toNat_ofNat']
  omega
theorem digs_range (u : Nat) : ∀ b ∈ Lib.decDigits u, 48 ≤ b.toNat ∧ b.toNat ≤ 57 := by
  induction u using Nat.strongRecOn with
  | _ u ih =>
    intro b hb
    rw [Lib.decDigits] at hb
    split at hb
    · next h =>
      have hb := List.mem_singleton.1 hb
      have := dig_val h
      rw [hb]
      omega
    · next h =>
      rcases List.mem_append.1 hb with hb | hb
      · exact ih (u / 10) (by omega) b hb
      · have hb := List.mem_singleton.1 hb
        have := dig_val (Nat.mod_lt u (show 0 < 10 by decide))
        rw [hb]
        omega
theorem digs_len (k : Nat) : ∀ u, u < 10 ^ (k + 1) → (Lib.decDigits u).length ≤ k + 1 ∧ 1 ≤ (Lib.decDigits u).length := by
  induction k with
  | zero =>
    intro u hu
    rw [Lib.decDigits, dif_pos (by simpa using hu)]
    exact ⟨Nat.le_refl _, Nat.le_refl _⟩
  | succ k ih =>
    intro u hu
    rw [Lib.decDigits]
    split
    · exact ⟨by simp, Nat.le_refl _⟩
    · have := ih (u / 10) (by rw [Nat.pow_succ] at hu; omega)
      rw [List.length_append, List.length_singleton]
      omega
def decFold (a : Nat) (l : List UInt8) : Nat := l.foldl (fun a c => a * 10 + (c.toNat - 48)) a
theorem decFold_cons (a : Nat) (c : UInt8) (l : List UInt8) : decFold a (c :: l) = decFold (a * 10 + (c.toNat - 48)) l := by unfold decFold; rw [List.foldl_cons]
theorem decFold_ge : ∀ (l : List UInt8) (a : Nat), a ≤ decFold a l
  | [], a => Nat.le_refl _
  | c :: l, a => by
    have := decFold_ge l (a * 10 + (c.toNat - 48))
    rw [decFold_cons]
    omega
theorem decFold_digs (u : Nat) : decFold 0 (Lib.decDigits u) = u := by
  induction u using Nat.strongRecOn with
  | _ u ih =>
    rw [Lib.decDigits]
    split
    · next h =>
      have e : decFold 0 [UInt8.ofNat (48 + u)] = 0 * 10 + ((UInt8.ofNat (48 + u)).toNat - 48) := by unfold decFold; rw [List.foldl_cons, List.foldl_nil]
      rw [e, dig_val h]
      omega
    · next h =>
      unfold decFold
      rw [List.foldl_append]
      have := ih (u / 10) (by omega)
      unfold decFold at this
      rw [this, List.foldl_cons, List.foldl_nil, dig_val (Nat.mod_lt u (show 0 < 10 by decide))]
      omega
theorem parse_fold : ∀ (l : List UInt8) (a : Nat), (∀ b ∈ l, 48 ≤ b.toNat ∧ b.toNat ≤ 57) → decFold a l < 18446744073709551616 → Lib.parseUint10 a l = .ok (decFold a l)
  | [], a, _, _ => rfl
  | c :: l, a, hd, h => by
    rw [decFold_cons] at h ⊢
    have h1 := decFold_ge l (a * 10 + (c.toNat - 48))
    rw [Lib.parseUint10, if_pos (hd c List.mem_cons_self), if_neg (by omega), if_neg (by omega)]
    exact parse_fold l _ (fun b hb => hd b (List.mem_cons_of_mem _ hb)) h
theorem itoa_digs {v : Int} (h : 0 ≤ v) : Lib.itoa v = Lib.decDigits v.toNat := by unfold Lib.itoa; rw [if_neg (by omega)]
theorem itoa_minus {v : Int} (h : v < 0) : Lib.itoa v = 45 :: Lib.decDigits v.natAbs := by unfold Lib.itoa; rw [if_pos h]
theorem digs_cons (u : Nat) : ∃ c r, Lib.decDigits u = c :: r ∧ 48 ≤ c.toNat ∧ c.toNat ≤ 57 := by
  have h1 := digs_range u
  have h2 := (digs_len u u (Nat.lt_of_lt_of_le (Nat.lt_pow_self (by decide : 1 < 10)) (Nat.pow_le_pow_right (by decide) (Nat.le_succ u)))).2
  cases hl : Lib.decDigits u with
  | nil => rw [hl] at h2; exact absurd h2 (by decide)
  | cons c r => exact ⟨c, r, rfl, h1 c (by rw [hl]; exact List.mem_cons_self)⟩
theorem atoi_itoa {v : Int} (h : R64 v) : Lib.atoiAll (Lib.itoa v) = .ok v := by
  obtain ⟨h0, h1⟩ := h
  by_cases hv : 0 ≤ v
  · rw [itoa_digs hv]
    obtain ⟨c, r, hc, c0, c1⟩ := digs_cons v.toNat
    have hp := parse_fold (Lib.decDigits v.toNat) 0 (digs_range _) (by rw [decFold_digs]; omega)
    rw [decFold_digs, hc] at hp
    have hq : Lib.parseMag (c :: r) = .ok v.toNat := by unfold Lib.parseMag; rw [if_neg (by simp)]; exact hp
    rw [hc]
    unfold Lib.atoiAll
    dsimp only
    rw [if_neg (by omega), hq]
    dsimp only
    rw [if_neg (by omega), if_neg (by omega), if_neg (by omega), Int.toNat_of_nonneg hv]
  · rw [itoa_minus (by omega)]
    obtain ⟨c, r, hc, c0, c1⟩ := digs_cons v.natAbs
    have hp := parse_fold (Lib.decDigits v.natAbs) 0 (digs_range _) (by rw [decFold_digs]; omega)
    rw [decFold_digs, hc] at hp
    have hq : Lib.parseMag (c :: r) = .ok v.natAbs := by unfold Lib.parseMag; rw [if_neg (by simp)]; exact hp
    rw [hc]
    unfold Lib.atoiAll
    dsimp only
    rw [if_pos (.inr (by decide)), hq]
    dsimp only
    rw [if_neg (by simp), if_neg (by simp; omega), if_pos (by decide)]
    congr 1
    omega
theorem itoa_noC {d : UInt8} (hd : d.toNat < 48) (h45 : d ≠ 45) (v : Int) : noC d (Lib.itoa v) := by
  intro b hb he
  by_cases hv : 0 ≤ v
  · rw [itoa_digs hv] at hb
    have := digs_range _ b hb
    rw [he] at this
    omega
  · rw [itoa_minus (by omega)] at hb
    rcases List.mem_cons.1 hb with hb | hb
    · exact h45 (he.symm.trans hb)
    · have := digs_range _ b hb
      rw [he] at this
      omega
theorem itoa_noSp (v : Int) : noSp (Lib.itoa v) := itoa_noC (by decide) (by decide) v
theorem itoa_inj {v u : Int} (hv : R64 v) (hu : R64 u) (h : Lib.itoa v = Lib.itoa u) : v = u := by
  have h1 := atoi_itoa hv
  rw [h, atoi_itoa hu] at h1
  exact (by injection h1 with h; exact h.symm)

def flatW (ws : List (List UInt8)) : List UInt8 := (ws.map (· ++ [32])).flatten
theorem flatW_cons (x : List UInt8) (ws : List (List UInt8)) : flatW (x :: ws) = x ++ 32 :: flatW ws := by simp [flatW]
theorem flatW_add (ws : List (List UInt8)) (x : List UInt8) : flatW (ws ++ [x]) = flatW ws ++ x ++ [32] := by simp [flatW]
theorem tail_flat : ∀ r : List (List UInt8), Lib.joinTail [32] r ++ [32] = 32 :: flatW r
  | [] => rfl
  | x :: r => by
    have h := tail_flat r
    have e : Lib.joinTail [32] (x :: r) = [32] ++ x ++ Lib.joinTail [32] r := by simp [Lib.joinTail]
    rw [e, List.append_assoc, h, flatW_cons]
    simp
theorem join_flat (x : List UInt8) (r : List (List UInt8)) : Lib.join (x :: r) [32] ++ [32] = flatW (x :: r) := by
  rw [Lib.join_cons, List.append_assoc, tail_flat, flatW_cons]
theorem word_cut {d : UInt8} : ∀ {x y r s : List UInt8}, noC d x → noC d y → x ++ d :: r = y ++ d :: s → x = y ∧ r = s
  | [], [], r, s, _, _, h => ⟨rfl, by simpa using h⟩
  | [], b :: y, r, s, _, hy, h => by
    simp only [List.nil_append, List.cons_append, List.cons.injEq] at h
    exact absurd h.1.symm (hy b List.mem_cons_self)
  | a :: x, [], r, s, hx, _, h => by
    simp only [List.nil_append, List.cons_append, List.cons.injEq] at h
    exact absurd h.1 (hx a List.mem_cons_self)
  | a :: x, b :: y, r, s, hx, hy, h => by
    simp only [List.cons_append, List.cons.injEq] at h
    obtain ⟨e1, e2⟩ := word_cut (fun b hb => hx b (List.mem_cons_of_mem _ hb)) (fun b hb => hy b (List.mem_cons_of_mem _ hb)) h.2
    exact ⟨by rw [h.1, e1], e2⟩
theorem noC_rev {d : UInt8} {l : List UInt8} (h : noC d l) : noC d l.reverse := fun b hb => h b (List.mem_reverse.1 hb)
theorem word_cut_r {d : UInt8} {x y r s : List UInt8} (hr : noC d r) (hs : noC d s) (h : x ++ d :: r = y ++ d :: s) : x = y ∧ r = s := by
  have e := congrArg List.reverse h
  simp only [List.reverse_append, List.reverse_cons, List.append_assoc, List.singleton_append] at e
  obtain ⟨e1, e2⟩ := word_cut (noC_rev hr) (noC_rev hs) e
  exact ⟨by simpa using congrArg List.reverse e2, by simpa using congrArg List.reverse e1⟩
theorem flat_cut : ∀ (vs ps : List (List UInt8)) (x r : List UInt8), (∀ l ∈ vs, noSp l) → (∀ l ∈ ps, noSp l) → noSp x → flatW vs ++ x ++ 32 :: r = flatW ps → ps[vs.length]? = some x ∧ vs = ps.take vs.length
  | [], [], x, r, _, _, _, h => by
    have := congrArg List.length h
    simp [flatW] at this
  | [], p :: ps, x, r, _, hp, hx, h => by
    rw [flatW_cons] at h
    obtain ⟨e1, _⟩ := word_cut hx (hp p List.mem_cons_self) (by simpa [flatW] using h)
    exact ⟨by simp [e1], rfl⟩
  | v :: vs, [], x, r, _, _, _, h => by
    have := congrArg List.length h
    simp [flatW] at this
  | v :: vs, p :: ps, x, r, hv, hp, hx, h => by
    rw [flatW_cons, flatW_cons] at h
    obtain ⟨e1, e2⟩ := word_cut (r := flatW vs ++ x ++ 32 :: r) (hv v List.mem_cons_self) (hp p List.mem_cons_self) (by simpa using h)
    obtain ⟨i1, i2⟩ := flat_cut vs ps x r (fun l hl => hv l (List.mem_cons_of_mem _ hl)) (fun l hl => hp l (List.mem_cons_of_mem _ hl)) hx e2
    exact ⟨by simpa using i1, by rw [List.length_cons, List.take_succ_cons, ← i2, e1]⟩
theorem flat_inj : ∀ (vs ps : List (List UInt8)), (∀ l ∈ vs, noSp l) → (∀ l ∈ ps, noSp l) → flatW vs = flatW ps → vs = ps
  | [], [], _, _, _ => rfl
  | [], p :: ps, _, _, h => by
    have := congrArg List.length h
    simp [flatW] at this
  | v :: vs, [], _, _, h => by
    have := congrArg List.length h
    simp [flatW] at this
  | v :: vs, p :: ps, hv, hp, h => by
    rw [flatW_cons, flatW_cons] at h
    obtain ⟨e1, e2⟩ := word_cut (hv v List.mem_cons_self) (hp p List.mem_cons_self) h
    rw [e1, flat_inj vs ps (fun l hl => hv l (List.mem_cons_of_mem _ hl)) (fun l hl => hp l (List.mem_cons_of_mem _ hl)) e2]

theorem index_sp : ∀ (l r : List UInt8), noSp l → Lib.index (l ++ 32 :: r) [32] = l.length
  | [], r, _ => by simp [Lib.index]
  | b :: l, r, h => by
    have hb := h b List.mem_cons_self
    have ih := index_sp l r (fun c hc => h c (List.mem_cons_of_mem _ hc))
    have e : ((32 : UInt8) == b) = false := by
      rw [beq_eq_false_iff_ne]
      exact fun e => hb e.symm
    have m : ¬ ((l.length : Int) == -1) = true := fun e => by have := beq_iff_eq.1 e; omega
    rw [List.cons_append, Lib.index, ih]
    simp only [List.isPrefixOf, e, Bool.false_and, Bool.false_eq_true, if_false, if_neg m, List.length_cons]
    omega
theorem split_words : ∀ (ws : List (List UInt8)) (x : List UInt8), (∀ l ∈ x :: ws, noSp l) → Lib.splitK [32] 0 ws.length (x ++ Lib.joinTail [32] ws) = x :: ws
  | [], x, _ => by simp [Lib.splitK, Lib.joinTail]
  | y :: ws, x, h => by
    have ih := split_words ws y (fun l hl => h l (List.mem_cons_of_mem _ hl))
    have e : x ++ Lib.joinTail [32] (y :: ws) = x ++ 32 :: (y ++ Lib.joinTail [32] ws) := by simp [Lib.joinTail]
    have hx := index_sp x (y ++ Lib.joinTail [32] ws) (h x List.mem_cons_self)
    have m : ¬ ((x.length : Int) == -1) = true := fun e => by have := beq_iff_eq.1 e; omega
    rw [e, List.length_cons, Lib.splitK, hx, if_neg m]
    have e2 : (x ++ 32 :: (y ++ Lib.joinTail [32] ws)).drop (((x.length : Int)).toNat + [(32 : UInt8)].length) = y ++ Lib.joinTail [32] ws := by
      rw [Int.toNat_natCast, ← List.drop_drop, List.drop_left]
      rfl
    rw [e2, ih]
    simp
theorem count_words : ∀ (ws : List (List UInt8)) (x : List UInt8), (∀ l ∈ x :: ws, noSp l) → Lib.count (x ++ Lib.joinTail [32] ws) [32] = ws.length
  | ws, x, h => by
    rw [Lib.count_one, List.count_append]
    have hz : ∀ l, noSp l → l.count 32 = 0 := fun l hl => List.count_eq_zero.2 fun hm => hl 32 hm rfl
    rw [hz x (h x List.mem_cons_self), Nat.zero_add]
    have hw : ∀ l ∈ ws, noSp l := fun l hl => h l (List.mem_cons_of_mem _ hl)
    clear h
    induction ws with
    | nil => rfl
    | cons y ws ih =>
      have e : Lib.joinTail [32] (y :: ws) = 32 :: (y ++ Lib.joinTail [32] ws) := by simp [Lib.joinTail]
      rw [e, List.count_cons_self, List.count_append, hz y (hw y List.mem_cons_self), ih (fun l hl => hw l (List.mem_cons_of_mem _ hl)), List.length_cons]
      omega
/-- The words of a text. -/
def wordsB (s : ByteArray) : List ByteArray := Lib.splitB ⟨#[32]⟩ 0 (Lib.countB s ⟨#[32]⟩) s
theorem wordsB_len (s : ByteArray) : (wordsB s).length = Lib.countB s ⟨#[32]⟩ + 1 := Lib.splitB_all ⟨#[32]⟩ (by decide) 0 _ s rfl
theorem words_of (s : ByteArray) (x : List UInt8) (ws : List (List UInt8)) (hn : ∀ l ∈ x :: ws, noSp l) (h : s.data.toList = Lib.join (x :: ws) [32]) : (wordsB s).map (·.data.toList) = x :: ws := by
  unfold wordsB
  rw [Lib.splitB_data]
  have e : Lib.countB s ⟨#[32]⟩ = ws.length := by
    show Lib.count s.data.toList [32] = _
    rw [h, Lib.join_cons, count_words ws x hn]
  rw [e, h, Lib.join_cons]
  exact split_words ws x hn
def P4ok (p : Pt4) : Prop := R64 p.1 ∧ R64 p.2.1 ∧ R64 p.2.2.1 ∧ R64 p.2.2.2
def lst4 (p : Pt4) : List (List UInt8) := [Lib.itoa p.1, Lib.itoa p.2.1, Lib.itoa p.2.2.1, Lib.itoa p.2.2.2]
theorem lst4_noSp (p : Pt4) : ∀ l ∈ lst4 p, noSp l := by
  intro l hl
  simp only [lst4, List.mem_cons, List.mem_nil_iff, or_false] at hl
  rcases hl with rfl | rfl | rfl | rfl <;> exact itoa_noSp _
theorem textP_data (p : Pt4) : (textP p).data.toList = Lib.join (lst4 p) [32] := rfl
theorem textP_flat (p : Pt4) : (textP p).data.toList ++ [32] = flatW (lst4 p) := by rw [textP_data]; exact join_flat _ _
theorem words_textP (p : Pt4) : (wordsB (textP p)).map (·.data.toList) = lst4 p := words_of _ _ _ (lst4_noSp p) (textP_data p)
theorem lst4_inj {p q : Pt4} (hp : P4ok p) (hq : P4ok q) (h : lst4 p = lst4 q) : p = q := by
  obtain ⟨a, b, c, d⟩ := p
  obtain ⟨e, f, g, i⟩ := q
  obtain ⟨p1, p2, p3, p4⟩ := hp
  obtain ⟨q1, q2, q3, q4⟩ := hq
  dsimp only at p1 p2 p3 p4 q1 q2 q3 q4
  simp only [lst4, List.cons.injEq, and_true] at h
  obtain ⟨h1, h2, h3, h4⟩ := h
  rw [itoa_inj p1 q1 h1, itoa_inj p2 q2 h2, itoa_inj p3 q3 h3, itoa_inj p4 q4 h4]
theorem textP_inj {p q : Pt4} (hp : P4ok p) (hq : P4ok q) (h : textP p = textP q) : p = q := by
  have h1 := words_textP p
  rw [h, words_textP q] at h1
  exact lst4_inj hp hq h1.symm
/-- What a reader of partials answers: 'p' is the partial, 'b' whether there is one. -/
def ReadsP (s : ByteArray) (p : Pt4) (b : Bool) : Prop := (b = true → s = textP p ∧ P4ok p) ∧ (b = false → p = (0, 0, 0, 0) ∧ ∀ q, P4ok q → s ≠ textP q)
theorem reads_same {s : ByteArray} {p q : Pt4} {b c : Bool} (h1 : ReadsP s p b) (h2 : ReadsP s q c) : p = q ∧ b = c := by
  cases b <;> cases c
  · exact ⟨by rw [(h1.2 rfl).1, (h2.2 rfl).1], rfl⟩
  · obtain ⟨e, o⟩ := h2.1 rfl
    exact absurd e ((h1.2 rfl).2 q o)
  · obtain ⟨e, o⟩ := h1.1 rfl
    exact absurd e ((h2.2 rfl).2 p o)
  · obtain ⟨e, o⟩ := h1.1 rfl
    obtain ⟨e2, o2⟩ := h2.1 rfl
    exact ⟨textP_inj o o2 (e.symm.trans e2), rfl⟩
end Go.Proofs.YtlhfgbkonmgahaaGreatDoor

namespace Go.Proofs.YtlhfgbkonmgahaaGreatDoor
open Go.RowKit

/-- Behind k digits from place a on. -/
def nTo (s : ByteArray) (a : Nat) : Nat → Int
  | 0 => 0
  | k + 1 => wrap64 (wrap64 (10 * nTo s a k) - (byteZ s (a + k) - 48))
theorem nTo_in (s : ByteArray) (a k : Nat) : R64 (nTo s a k) := by
  cases k with
  | zero => exact ⟨by show (-9223372036854775808 : Int) ≤ 0; decide, by show (0 : Int) ≤ _; decide⟩
  | succ k =>
    show R64 (wrap64 _)
    unfold R64 wrap64
    omega
def NumP (l : List UInt8) (v : Int) (b : Bool) : Prop := R64 v ∧ (b = true → l = Lib.itoa v) ∧ (b = false → ∀ u, R64 u → l ≠ Lib.itoa u)
theorem decFold_app (x y : List UInt8) (a : Nat) : decFold a (x ++ y) = decFold (decFold a x) y := by unfold decFold; rw [List.foldl_append]
theorem nTo_fold (s : ByteArray) (a : Nat) (hd : ∀ b ∈ s.data.toList.drop a, 48 ≤ b.toNat ∧ b.toNat ≤ 57) (hm : decFold 0 (s.data.toList.drop a) ≤ 9223372036854775808) :
    ∀ k, a + k ≤ s.size → nTo s a k = -(decFold 0 ((s.data.toList.drop a).take k) : Int) := by
  intro k
  induction k with
  | zero => intro _; rfl
  | succ k ih =>
    intro hk
    have hl : s.data.toList.length = s.size := Array.length_toList
    have hlt : k < (s.data.toList.drop a).length := by rw [List.length_drop]; omega
    have hlt2 : a + k < s.data.toList.length := by omega
    have e1 : (s.data.toList.drop a).take (k + 1) = (s.data.toList.drop a).take k ++ [s.data.toList[a + k]] := by
      rw [List.take_add_one, List.getElem?_eq_getElem hlt, List.getElem_drop]
      rfl
    have hb : byteZ s (a + k) = (s.data.toList[a + k].toNat : Int) := by
      unfold byteZ
      rw [List.getD_eq_getElem?_getD, List.getElem?_eq_getElem hlt2]
      rfl
    obtain ⟨d0, d1⟩ := hd s.data.toList[a + k] (List.mem_iff_getElem.2 ⟨k, hlt, by rw [List.getElem_drop]⟩)
    have e2 : decFold 0 ((s.data.toList.drop a).take (k + 1)) = decFold 0 ((s.data.toList.drop a).take k) * 10 + (s.data.toList[a + k].toNat - 48) := by
      rw [e1, decFold_app, decFold_cons]
      rfl
    have h1 := ih (by omega)
    have h2 : decFold 0 ((s.data.toList.drop a).take (k + 1)) ≤ 9223372036854775808 := by
      refine Nat.le_trans (decFold_ge ((s.data.toList.drop a).drop (k + 1)) _) ?_
      rw [← decFold_app, List.take_append_drop]
      exact hm
    show wrap64 (wrap64 (10 * nTo s a k) - (byteZ s (a + k) - 48)) = _
    rw [h1, hb, e2]
    rw [e2] at h2
    generalize decFold 0 ((s.data.toList.drop a).take k) = q at *
    generalize s.data.toList[a + k].toNat = c at *
    have h3 : wrap64 (10 * -(q : Int)) = 10 * -(q : Int) := by unfold wrap64; omega
    rw [h3]
    unfold wrap64
    omega
theorem byte_of {s : ByteArray} {j : Nat} (h : j < s.size) : ∃ b ∈ s.data.toList, s.data.toList[j]? = some b ∧ byteZ s j = (b.toNat : Int) := by
  have hl : s.data.toList.length = s.size := Array.length_toList
  have hlt : j < s.data.toList.length := by omega
  refine ⟨s.data.toList[j], List.getElem_mem _, List.getElem?_eq_getElem hlt, ?_⟩
  unfold byteZ
  rw [List.getD_eq_getElem?_getD, List.getElem?_eq_getElem hlt]
  rfl
theorem num_pos {s : ByteArray} {u : Int} (hu : R64 u) (h : s.data.toList = Lib.itoa u) (h0 : 0 ≤ u) :
    1 ≤ s.size ∧ s.size ≤ 20 ∧ (∀ j, j < s.size → 48 ≤ byteZ s j ∧ byteZ s j ≤ 57) ∧ nTo s 0 s.size = -u := by
  have hl : s.data.toList.length = s.size := Array.length_toList
  obtain ⟨u0, u1⟩ := hu
  rw [itoa_digs h0] at h
  obtain ⟨l1, l2⟩ := digs_len 18 u.toNat (by have : (10 : Nat) ^ (18 + 1) = 10000000000000000000 := by decide
                                             omega)
  rw [h] at hl
  have hd := digs_range u.toNat
  rw [← h] at hd
  have hf := decFold_digs u.toNat
  rw [← h] at hf
  refine ⟨by omega, by omega, fun j hj => ?_, ?_⟩
  · obtain ⟨b, hb, _, e⟩ := byte_of hj
    have := hd b hb
    omega
  · have h1 := nTo_fold s 0 (by rw [List.drop_zero]; exact hd) (by rw [List.drop_zero, hf]; omega) s.size (by omega)
    rw [h1, List.drop_zero, List.take_of_length_le (by rw [h]; omega), hf]
    omega
theorem num_neg {s : ByteArray} {u : Int} (hu : R64 u) (h : s.data.toList = Lib.itoa u) (h0 : u < 0) :
    2 ≤ s.size ∧ s.size ≤ 20 ∧ byteZ s 0 = 45 ∧ (∀ j, j < s.size → 1 ≤ j → 48 ≤ byteZ s j ∧ byteZ s j ≤ 57) ∧ nTo s 1 (s.size - 1) = u := by
  have hl : s.data.toList.length = s.size := Array.length_toList
  obtain ⟨u0, u1⟩ := hu
  rw [itoa_minus h0] at h
  obtain ⟨l1, l2⟩ := digs_len 18 u.natAbs (by have : (10 : Nat) ^ (18 + 1) = 10000000000000000000 := by decide
                                              omega)
  have hdr : s.data.toList.drop 1 = Lib.decDigits u.natAbs := by rw [h]; rfl
  rw [h, List.length_cons] at hl
  have hd := digs_range u.natAbs
  rw [← hdr] at hd
  have hf := decFold_digs u.natAbs
  rw [← hdr] at hf
  refine ⟨by omega, by omega, ?_, fun j hj j1 => ?_, ?_⟩
  · unfold byteZ
    rw [h]
    rfl
  · obtain ⟨b, _, e1, e⟩ := byte_of hj
    have := hd b (List.mem_iff_getElem?.2 ⟨j - 1, by rw [List.getElem?_drop, show 1 + (j - 1) = j by omega, e1]⟩)
    omega
  · have h1 := nTo_fold s 1 hd (by rw [hf]; omega) (s.size - 1) (by omega)
    rw [h1, List.take_of_length_le (by rw [hdr]; omega), hf]
    omega
theorem tl_iff {a b : ByteArray} : ((a.toList == b.toList) = true) ↔ a = b := by
  rw [beq_iff_eq, ByteArray.toList_eq, ByteArray.toList_eq]
  refine ⟨fun h => ?_, fun h => by rw [h]⟩
  obtain ⟨⟨a⟩⟩ := a
  obtain ⟨⟨b⟩⟩ := b
  exact congrArg (fun l => ByteArray.mk (Array.mk l)) h
theorem num_end {s : ByteArray} {v : Int} (hv : R64 v) (h : ∀ u, R64 u → s.data.toList = Lib.itoa u → u = v) : NumP s.data.toList v ((decI v).toList == s.toList) := by
  refine ⟨hv, fun e => ?_, fun e u hu he => ?_⟩
  · rw [← tl_iff.1 e]
    rfl
  · obtain rfl := h u hu he
    have e2 : decI u = s := by
      unfold decI
      rw [← he]
    rw [tl_iff.2 e2] at e
    cases e
end Go.Proofs.YtlhfgbkonmgahaaGreatDoor

namespace Go.Proofs.YtlhfgbkonmgahaaGreatDoor
open Go.RowKit

def NumR (l : List UInt8) (w w' : World) (e : Ending) : Prop := ∃ v b, e = .returned (.tuple #[.int .i64 v, .bool b]) ∧ NumP l v b ∧ Only (fun _ => False) w w'
theorem num_none {l : List UInt8} (h : ∀ u, R64 u → l ≠ Lib.itoa u) : NumP l 0 false := ⟨⟨by decide, by decide⟩, fun e => (by cases e), fun _ => h⟩
set_option maxHeartbeats 2000000 in
set_option maxRecDepth 100000 in
theorem rnumb6_any (s : ByteArray) (w : World) (hs : s.size ≤ 281474976710656) :
    Calls Tryz.prog 91 #[.string s] w fun e w' => NumR s.data.toList w w' e := by
  have HP := Lib.hid (fun u (hu : R64 u) (h : s.data.toList = Lib.itoa u) (h0 : 0 ≤ u) => num_pos hu h h0)
  have HN := Lib.hid (fun u (hu : R64 u) (h : s.data.toList = Lib.itoa u) (h0 : u < 0) => num_neg hu h h0)
  by_cases hz : s.size = 0
  · have i1 : ¬ (0 : Int) < s.size := by omega
    have i2 : (s.size : Int) = 0 := by omega
    have HE := Lib.hid (num_none (l := s.data.toList) (fun u hu h => by
      by_cases h0 : 0 ≤ u
      · have := (HP.out u hu h h0).1; omega
      · have := (HN.out u hu h (by omega)).1; omega))
    go_enter Tryz.func91, Tryz.ntmps91
    go_wp2
    all_goals go_ret2
    all_goals exact ⟨_, _, rfl, HE.out, Only.refl _ _⟩
  · have i1 : (0 : Int) < s.size := by omega
    have hb := byteZ_eq s 0 (by omega)
    by_cases h45 : byteZ s 0 = 45
    · have HA := Lib.hid h45
      by_cases hlen : s.size = 1 ∨ 20 < s.size
      · have i4 : (1 : Int) = s.size ∨ (20 : Int) < s.size := by omega
        have HE := Lib.hid (num_none (l := s.data.toList) (fun u hu h => by
          by_cases h0 : 0 ≤ u
          · obtain ⟨a1, a2, a3, _⟩ := HP.out u hu h h0; have := a3 0 (by omega); omega
          · obtain ⟨a1, a2, a3, a4, _⟩ := HN.out u hu h (by omega); omega))
        rw [h45] at hb
        go_enter Tryz.func91, Tryz.ntmps91
        go_wp2
        all_goals go_ret2
        all_goals exact ⟨_, _, rfl, HE.out, Only.refl _ _⟩
      · have i4 : ¬ (1 : Int) = s.size := by omega
        have i5 : ¬ (20 : Int) < s.size := by omega
        rw [h45] at hb
        go_enter Tryz.func91, Tryz.ntmps91
        go_wp2_with fail
        go_loopw [5, 6] (fun nv vi wr => ∃ k : Nat, 1 + k ≤ s.size ∧ vi = .int .i64 ((1 + k : Nat) : Int) ∧ nv = .int .i64 (nTo s 1 k) ∧ Only (fun _ => False) w wr) (fun _ vi _ => s.size - (intOf vi).toNat)
        case atStart => exact ⟨0, by omega, by rfl, rfl, Only.refl _ _⟩
        case round =>
          obtain ⟨k, hk, rfl, rfl, hO⟩ := hrel
          have HO := Lib.hid hO
          clear hO hb
          by_cases hlt : 1 + k < s.size
          · have j1 : ((1 + k : Nat) : Int) < s.size := by omega
            have j2 : 0 ≤ ((1 + k : Nat) : Int) := by omega
            have hc := byteZ_eq s (1 + k) hlt
            obtain ⟨y0, y1⟩ : 0 ≤ byteZ s (1 + k) ∧ byteZ s (1 + k) ≤ 255 := by obtain ⟨n, hn, e⟩ := byteZ_nat s (1 + k); omega
            have HD := Lib.hid (show byteZ s (1 + k) < 48 ∨ 57 < byteZ s (1 + k) → NumP s.data.toList 0 false from fun hd => num_none fun u hu h => by
              by_cases h0 : 0 ≤ u
              · obtain ⟨a1, a2, a3, _⟩ := HP.out u hu h h0
                have := a3 (1 + k) hlt
                omega
              · obtain ⟨a1, a2, a3, a4, _⟩ := HN.out u hu h (by omega)
                have e := HA.out
                have := a4 (1 + k) hlt (by omega); omega)
            have HX := Lib.hid (show nTo s 1 (k + 1) = wrap64 (wrap64 (10 * nTo s 1 k) - (byteZ s (1 + k) - 48)) from rfl)
            obtain ⟨n0, n1⟩ := nTo_in s 1 k
            generalize nTo s 1 k = n at *
            generalize byteZ s (1 + k) = y at *
            by_cases hd : y < 48 ∨ 57 < y
            · have HE := Lib.hid (HD.out hd)
              rcases hd with hd | hd
              · go_wp2
                all_goals go_ret2
                all_goals exact ⟨_, _, rfl, HE.out, HO.out⟩
              · have hd2 : ¬ y < 48 := by omega
                go_wp2
                all_goals go_ret2
                all_goals exact ⟨_, _, rfl, HE.out, HO.out⟩
            · have d1 : ¬ y < 48 := by omega
              have d2 : ¬ 57 < y := by omega
              have d3 : (y - 48) % 256 = y - 48 := by omega
              clear hd
              go_wp2_with fail
              go_roundw
              case rel => exact ⟨k + 1, by omega, by go_num, by rw [HX.out], HO.out⟩
              case measure => simp [intOf]; omega
          · have j1 : ¬ ((1 + k : Nat) : Int) < s.size := by omega
            obtain rfl : k = s.size - 1 := by omega
            obtain ⟨n0, n1⟩ := nTo_in s 1 (s.size - 1)

            have HE := Lib.hid (num_end (v := nTo s 1 (s.size - 1)) ⟨n0, n1⟩ (fun u hu h => by
              by_cases h0 : 0 ≤ u
              · obtain ⟨a1, a2, a3, a4⟩ := HP.out u hu h h0
                have := a3 0 (by omega); have e := HA.out; omega
              · obtain ⟨a1, a2, a3, a4, a5⟩ := HN.out u hu h (by omega)
                exact a5.symm))
            have HDC := Lib.hid (rdecI6_any (nTo s 1 (s.size - 1)) wr n0 n1)
            generalize nTo s 1 (s.size - 1) = n at *
            go_wp2_with fail
            with_reducible refine HDC.out.mono ?_
            rintro e w2 ⟨rfl, hO2⟩
            have HO2 := Lib.hid (HO.out.trans hO2)
            clear hO2
            go_wp2
            all_goals go_ret2
            all_goals exact ⟨_, _, rfl, HE.out, HO2.out⟩
    · have HA := Lib.hid h45
      by_cases hlen : 20 < s.size
      · have i4 : (20 : Int) < s.size := by omega
        have i6 : ¬ (0 : Int) = s.size := by omega
        have HE := Lib.hid (num_none (l := s.data.toList) (fun u hu h => by
          by_cases h0 : 0 ≤ u
          · obtain ⟨a1, a2, a3, _⟩ := HP.out u hu h h0; have := a3 0 (by omega); omega
          · obtain ⟨a1, a2, a3, a4, _⟩ := HN.out u hu h (by omega); omega))
        have h46 := h45
        generalize byteZ s 0 = y at hb h46
        go_enter Tryz.func91, Tryz.ntmps91
        go_wp2
        all_goals go_ret2
        all_goals exact ⟨_, _, rfl, HE.out, Only.refl _ _⟩
      · have i4 : ¬ (0 : Int) = s.size := by omega
        have i5 : ¬ (20 : Int) < s.size := by omega
        have h46 := h45
        generalize byteZ s 0 = y at hb h46
        go_enter Tryz.func91, Tryz.ntmps91
        go_wp2_with fail
        go_loopw [5, 6] (fun nv vi wr => ∃ k : Nat, k ≤ s.size ∧ vi = .int .i64 ((k : Nat) : Int) ∧ nv = .int .i64 (nTo s 0 k) ∧ Only (fun _ => False) w wr) (fun _ vi _ => s.size - (intOf vi).toNat)
        case atStart => exact ⟨0, by omega, by rfl, rfl, Only.refl _ _⟩
        case round =>
          obtain ⟨k, hk, rfl, rfl, hO⟩ := hrel
          have HO := Lib.hid hO
          clear hO hb h46
          by_cases hlt : k < s.size
          · have j1 : ((k : Nat) : Int) < s.size := by omega
            have j2 : 0 ≤ ((k : Nat) : Int) := by omega
            have hc := byteZ_eq s (k) hlt
            obtain ⟨y0, y1⟩ : 0 ≤ byteZ s (k) ∧ byteZ s (k) ≤ 255 := by obtain ⟨n, hn, e⟩ := byteZ_nat s (k); omega
            have HD := Lib.hid (show byteZ s (k) < 48 ∨ 57 < byteZ s (k) → NumP s.data.toList 0 false from fun hd => num_none fun u hu h => by
              by_cases h0 : 0 ≤ u
              · obtain ⟨a1, a2, a3, _⟩ := HP.out u hu h h0
                have := a3 (k) hlt
                omega
              · obtain ⟨a1, a2, a3, a4, _⟩ := HN.out u hu h (by omega)
                have e := HA.out
                omega)
            have HX := Lib.hid (show nTo s 0 (k + 1) = wrap64 (wrap64 (10 * nTo s 0 k) - (byteZ s (k) - 48)) from (by rw [show nTo s 0 (k + 1) = wrap64 (wrap64 (10 * nTo s 0 k) - (byteZ s (0 + k) - 48)) from rfl, Nat.zero_add]))
            obtain ⟨n0, n1⟩ := nTo_in s 0 k
            generalize nTo s 0 k = n at *
            generalize byteZ s (k) = y at *
            by_cases hd : y < 48 ∨ 57 < y
            · have HE := Lib.hid (HD.out hd)
              rcases hd with hd | hd
              · go_wp2
                all_goals go_ret2
                all_goals exact ⟨_, _, rfl, HE.out, HO.out⟩
              · have hd2 : ¬ y < 48 := by omega
                go_wp2
                all_goals go_ret2
                all_goals exact ⟨_, _, rfl, HE.out, HO.out⟩
            · have d1 : ¬ y < 48 := by omega
              have d2 : ¬ 57 < y := by omega
              have d3 : (y - 48) % 256 = y - 48 := by omega
              clear hd
              go_wp2_with fail
              go_roundw
              case rel => exact ⟨k + 1, by omega, by go_num, by rw [HX.out], HO.out⟩
              case measure => simp [intOf]; omega
          · have j1 : ¬ ((k : Nat) : Int) < s.size := by omega
            obtain rfl : k = s.size := by omega
            obtain ⟨n0, n1⟩ := nTo_in s 0 (s.size)
            have hv0 : R64 (wrap64 (-nTo s 0 s.size)) := by unfold R64 wrap64; omega
            have HE := Lib.hid (num_end (v := wrap64 (-nTo s 0 s.size)) hv0 (fun u hu h => by
              by_cases h0 : 0 ≤ u
              · obtain ⟨a1, a2, a3, a4⟩ := HP.out u hu h h0
                rw [a4]; obtain ⟨u0, u1⟩ := hu; unfold wrap64; omega
              · obtain ⟨a1, a2, a3, a4, a5⟩ := HN.out u hu h (by omega)
                have e := HA.out; omega))
            have HDC := Lib.hid (rdecI6_any (wrap64 (-nTo s 0 s.size)) wr hv0.1 hv0.2)
            generalize nTo s 0 (s.size) = n at *
            go_wp2_with fail
            with_reducible refine HDC.out.mono ?_
            rintro e w2 ⟨rfl, hO2⟩
            have HO2 := Lib.hid (HO.out.trans hO2)
            clear hO2
            go_wp2
            all_goals go_ret2
            all_goals exact ⟨_, _, rfl, HE.out, HO2.out⟩
end Go.Proofs.YtlhfgbkonmgahaaGreatDoor

namespace Go.Proofs.YtlhfgbkonmgahaaGreatDoor
open Go.RowKit

theorem extract_front (s : ByteArray) (k : Nat) : (s.extract 0 k).data.toList = s.data.toList.take k := by
  rw [ByteArray.data_extract, Array.toList_extract]
  simp
/-- What a reader of proofs answers. -/
def ProofP (l : List UInt8) (c z : Int) (b : Bool) : Prop := (b = true → R64 c ∧ R64 z ∧ l = Lib.itoa c ++ 46 :: Lib.itoa z) ∧ (b = false → c = 0 ∧ z = 0 ∧ ∀ u v, R64 u → R64 v → l ≠ Lib.itoa u ++ 46 :: Lib.itoa v)
def ProofR (l : List UInt8) (w w' : World) (e : Ending) : Prop := ∃ c z b, e = .returned (.tuple #[.agg #[.int .i64 c, .int .i64 z], .bool b]) ∧ ProofP l c z b ∧ Only (fun _ => False) w w'
theorem itoa_noDot (v : Int) : noC 46 (Lib.itoa v) := itoa_noC (by decide) (by decide) v
theorem dot_cut {l : List UInt8} {k : Nat} {c z : Int} (hn : ∀ j, j < k → l[j]? ≠ some 46) (hk : l[k]? = some 46) (h : l = Lib.itoa c ++ 46 :: Lib.itoa z) : l.take k = Lib.itoa c ∧ l.drop (k + 1) = Lib.itoa z := by
  have hlt : k < l.length := by
    rcases Nat.lt_or_ge k l.length with h | h
    · exact h
    · rw [List.getElem?_eq_none h] at hk; cases hk
  have e : l.take k ++ 46 :: l.drop (k + 1) = l := by
    rw [List.getElem?_eq_getElem hlt] at hk
    injection hk with hk
    rw [← hk, List.getElem_cons_drop, List.take_append_drop]
  have hx : noC 46 (l.take k) := fun b hb he => by
    obtain ⟨j, hj, e2⟩ := List.mem_iff_getElem.1 hb
    rw [List.length_take] at hj
    refine hn j (by omega) ?_
    rw [List.getElem_take] at e2
    rw [List.getElem?_eq_getElem (by omega), e2, he]
  obtain ⟨e1, e2⟩ := word_cut hx (itoa_noDot c) (e.trans h)
  exact ⟨e1, e2⟩
theorem dot_none {l : List UInt8} (hn : ∀ j, j < l.length → l[j]? ≠ some 46) (u v : Int) : l ≠ Lib.itoa u ++ 46 :: Lib.itoa v := by
  intro h
  refine hn (Lib.itoa u).length ?_ ?_
  · rw [h]; simp
  · rw [h]; simp
theorem proof_end {l : List UInt8} {k : Nat} {c z : Int} {b1 b2 : Bool} (hn : ∀ j, j < k → l[j]? ≠ some 46) (hk : l[k]? = some 46) (h1 : NumP (l.take k) c b1) (h2 : NumP (l.drop (k + 1)) z b2) :
    (b1 = true → b2 = true → ProofP l c z true) ∧ (¬ (b1 = true ∧ b2 = true) → ProofP l 0 0 false) := by
  obtain ⟨r1, y1, n1⟩ := h1
  obtain ⟨r2, y2, n2⟩ := h2
  refine ⟨fun e1 e2 => ⟨fun _ => ⟨r1, r2, ?_⟩, fun e => by cases e⟩, fun hb => ⟨fun e => (by cases e), fun _ => ⟨rfl, rfl, fun u v hu hv h => ?_⟩⟩⟩
  · have hlt : k < l.length := by
      rcases Nat.lt_or_ge k l.length with h | h
      · exact h
      · rw [List.getElem?_eq_none h] at hk; cases hk
    rw [← y1 e1, ← y2 e2]
    rw [List.getElem?_eq_getElem hlt] at hk
    injection hk with hk
    rw [← hk, List.getElem_cons_drop, List.take_append_drop]
  · obtain ⟨e1, e2⟩ := dot_cut hn hk h
    cases b1
    · exact n1 rfl u hu e1
    · cases b2
      · exact n2 rfl v hv e2
      · exact hb ⟨rfl, rfl⟩
theorem byte_at {s : ByteArray} {j : Nat} (h : j < s.size) : (byteZ s j = 46 ↔ s.data.toList[j]? = some 46) := by
  obtain ⟨b, _, e1, e2⟩ := byte_of h
  rw [e1, e2]
  constructor
  · intro h
    have : b.toNat = 46 := by omega
    rw [show b = 46 from UInt8.toNat_inj.1 this]
  · intro h
    injection h with h
    rw [h]
    rfl
set_option maxHeartbeats 2000000 in
set_option maxRecDepth 100000 in
theorem rread6_any (s : ByteArray) (w : World) (hs : s.size ≤ 281474976710656) :
    Calls Tryz.prog 63 #[.string s] w fun e w' => ProofR s.data.toList w w' e := by
  have hA := (Only.refl (fun _ => False) w).alloc (.cells #[.int .i64 0, .int .i64 0] 28)
  have HA := Lib.hid hA
  have HZ := Lib.hid (heap_alloc_last w (.cells #[.int .i64 0, .int .i64 0] 28))
  have hlen : s.data.toList.length = s.size := Array.length_toList
  have HNO := Lib.hid (show (∀ j, j < s.size → s.data.toList[j]? ≠ some 46) → ProofP s.data.toList 0 0 false from fun hn => ⟨fun e => (by cases e), fun _ => ⟨rfl, rfl, fun u v _ _ => dot_none (by rw [hlen]; exact hn) u v⟩⟩)
  go_enter Tryz.func63, Tryz.ntmps63
  go_wp2_with fail
  clear hA
  go_loopw [4] (fun vi wr => ∃ k : Nat, k ≤ s.size ∧ vi = .int .i64 k ∧ (∀ j, j < k → s.data.toList[j]? ≠ some 46) ∧ Only (fun _ => False) w wr ∧ wr.heap[w.heap.size]? = some (.cells #[.int .i64 0, .int .i64 0] 28 (0, 0))) (fun vi _ => s.size - (intOf vi).toNat)
  case atStart => exact ⟨0, Nat.zero_le _, rfl, fun j hj => by omega, HA.out, HZ.out⟩
  case round =>
    obtain ⟨k, hk, rfl, hn, hO, hz⟩ := hrel
    have HN := Lib.hid hn
    have HO := Lib.hid hO
    have HZr := Lib.hid hz
    clear hn hO hz
    by_cases hlt : k < s.size
    · have j1 : (k : Int) < s.size := by omega
      have j2 : 0 ≤ (k : Int) := by omega
      have hc := byteZ_eq s k hlt
      have HB := Lib.hid (byte_at hlt)
      generalize byteZ s k = y at *
      by_cases h46 : y = 46
      · have HK := Lib.hid (HB.out.1 h46)
        go_wp2_with fail
        with_reducible refine (rnumb6_any (s.extract 0 k) wr (by rw [ByteArray.size_extract]; omega)).mono ?_
        rintro e w2 ⟨c, b1, rfl, hp1, hO2⟩
        have HP1 := Lib.hid (show NumP (s.data.toList.take k) c b1 by rw [← extract_front]; exact hp1)
        have HO2 := Lib.hid (HO.out.trans hO2)
        have HZ2 := Lib.hid (row_still hO2 HZr.out)
        have j3 : (k : Int) + 1 ≤ s.size := by omega
        have j4 : 0 ≤ (k : Int) + 1 := by omega
        have j5 : ((k : Int) + 1).toNat = k + 1 := by omega
        clear hp1 hO2
        go_wp2_with fail
        with_reducible refine (rnumb6_any (s.extract (k + 1) s.size) w2 (by rw [ByteArray.size_extract]; omega)).mono ?_
        rintro e w3 ⟨z, b2, rfl, hp2, hO3⟩
        have HO3 := Lib.hid (HO2.out.trans hO3)
        have HZ3 := Lib.hid (row_still hO3 HZ2.out)
        obtain ⟨hyes, hno⟩ := proof_end HN.out HK.out HP1.out (show NumP (s.data.toList.drop (k + 1)) z b2 by rw [← Lib.extract_to_end]; exact hp2)
        clear hp2 hO3
        by_cases hb : b1 = true ∧ b2 = true
        · obtain ⟨rfl, rfl⟩ := hb
          have HE := Lib.hid (hyes rfl rfl)
          clear hyes hno
          go_wp2_with (first | (refine wpList_store_row rfl 28 _ _ rfl w.heap.size #[.int .i64 c, .int .i64 z] rfl rfl 28 _ HZ3.out Tryz.infoPr rfl (pr_one _ _) ?_))
          exact bodyPost_ret (v := .tuple #[.agg #[.int .i64 c, .int .i64 z], .bool true]) (results_cell_tmp (p := 2) (q := 3) rfl _ _ w.heap.size 28 #[.int .i64 c, .int .i64 z] (0, 0) _ rfl (setRow_heap _ _ _ _ _ _ HZ3.out) Tryz.underlying28 rfl Tryz.infoPr _ rfl) rfl ⟨_, _, _, rfl, HE.out, HO3.out.setRow (Nat.le_refl _) _⟩
        · have HE := Lib.hid (hno hb)
          clear hyes hno
          cases b1
          all_goals (cases b2)
          all_goals (first | exact absurd ⟨rfl, rfl⟩ hb | skip)
          all_goals (clear hb)
          all_goals (go_wp2_with (first | (refine wpList_store_row rfl 28 _ _ rfl w.heap.size #[.int .i64 0, .int .i64 0] rfl rfl 28 _ HZ3.out Tryz.infoPr rfl (pr_one _ _) ?_)))
          all_goals (exact bodyPost_ret (v := .tuple #[.agg #[.int .i64 0, .int .i64 0], .bool false]) (results_cell_tmp (p := 2) (q := 3) rfl _ _ w.heap.size 28 #[.int .i64 0, .int .i64 0] (0, 0) _ rfl (setRow_heap _ _ _ _ _ _ HZ3.out) Tryz.underlying28 rfl Tryz.infoPr _ rfl) rfl ⟨_, _, _, rfl, HE.out, HO3.out.setRow (Nat.le_refl _) _⟩)
      · have HK := Lib.hid (fun e => h46 (HB.out.2 e))
        go_wp2_with fail
        go_roundw
        case rel => exact ⟨k + 1, by omega, by go_num, fun j hj => by
            by_cases hjk : j = k
            · rw [hjk]; exact HK.out
            · exact HN.out j (by omega), HO.out, HZr.out⟩
        case measure => simp [intOf]; omega
    · have j1 : ¬ (k : Int) < s.size := by omega
      obtain rfl : k = s.size := by omega
      have HE := Lib.hid (HNO.out HN.out)
      go_wp2_with (first | (refine wpList_store_row rfl 28 _ _ rfl w.heap.size #[.int .i64 0, .int .i64 0] rfl rfl 28 _ HZr.out Tryz.infoPr rfl (pr_one _ _) ?_))
      exact bodyPost_ret (v := .tuple #[.agg #[.int .i64 0, .int .i64 0], .bool false]) (results_cell_tmp (p := 2) (q := 3) rfl _ _ w.heap.size 28 #[.int .i64 0, .int .i64 0] (0, 0) _ rfl (setRow_heap _ _ _ _ _ _ HZr.out) Tryz.underlying28 rfl Tryz.infoPr _ rfl) rfl ⟨_, _, _, rfl, HE.out, HO.out.setRow (Nat.le_refl _) _⟩
end Go.Proofs.YtlhfgbkonmgahaaGreatDoor

namespace Go.Proofs.YtlhfgbkonmgahaaGreatDoor
open Go.RowKit

theorem textP_parts (x v c z : Int) : textP (x, v, c, z) = decI x ++ (⟨#[32]⟩ : ByteArray) ++ decI v ++ (⟨#[32]⟩ : ByteArray) ++ decI c ++ (⟨#[32]⟩ : ByteArray) ++ decI z := by
  apply ByteArray.ext
  apply Array.ext'
  show (textP (x, v, c, z)).data.toList = _
  rw [textP_data]
  simp only [lst4]
  rw [Lib.join_cons]
  simp [Lib.joinTail, decI]
set_option maxHeartbeats 2000000 in
set_option maxRecDepth 100000 in
theorem rtext9_any (x v c z : Int) (w : World) (hx : R64 x) (hv : R64 v) (hc : R64 c) (hz : R64 z) :
    Calls Tryz.prog 30 #[.agg #[.int .i64 x, .int .i64 v, .int .i64 c, .int .i64 z]] w fun e w' => e = .returned (.string (textP (x, v, c, z))) ∧ Only (fun _ => False) w w' := by
  rw [textP_parts]
  have HA := Lib.hid ((Only.refl (fun _ => False) w).alloc (.cells #[.int .i64 x, .int .i64 v, .int .i64 c, .int .i64 z] 30))
  have hz0 := heap_alloc_last w (.cells #[.int .i64 x, .int .i64 v, .int .i64 c, .int .i64 z] 30)
  have e0 : _ = some (Value.int .i64 x) := cell_of_row _ _ 0 _ _ _ hz0
  have e1 : _ = some (Value.int .i64 v) := cell_of_row _ _ 1 _ _ _ hz0
  have e2 : _ = some (Value.int .i64 c) := cell_of_row _ _ 2 _ _ _ hz0
  have e3 : _ = some (Value.int .i64 z) := cell_of_row _ _ 3 _ _ _ hz0
  have H0 := Lib.hid (fun w => rdec9_any x w hx.1 hx.2)
  have H1 := Lib.hid (fun w => rdec9_any v w hv.1 hv.2)
  have H2 := Lib.hid (fun w => rdec9_any c w hc.1 hc.2)
  have H3 := Lib.hid (fun w => rdec9_any z w hz.1 hz.2)
  have s0 := decI_size hx.1 hx.2
  have s1 := decI_size hv.1 hv.2
  have s2 := decI_size hc.1 hc.2
  have s3 := decI_size hz.1 hz.2
  clear hz0
  generalize decI x = D at *
  generalize decI v = E at *
  generalize decI c = F at *
  generalize decI z = G at *
  have t0 : (D ++ (⟨#[32]⟩ : ByteArray)).size ≤ 22 := by rw [ByteArray.size_append]; show _ + 1 ≤ _; omega
  have t1 : (D ++ (⟨#[32]⟩ : ByteArray) ++ E).size ≤ 43 := by rw [ByteArray.size_append]; omega
  have t2 : (D ++ (⟨#[32]⟩ : ByteArray) ++ E ++ (⟨#[32]⟩ : ByteArray)).size ≤ 44 := by rw [ByteArray.size_append]; show _ + 1 ≤ _; omega
  have t3 : (D ++ (⟨#[32]⟩ : ByteArray) ++ E ++ (⟨#[32]⟩ : ByteArray) ++ F).size ≤ 65 := by rw [ByteArray.size_append]; omega
  have t4 : (D ++ (⟨#[32]⟩ : ByteArray) ++ E ++ (⟨#[32]⟩ : ByteArray) ++ F ++ (⟨#[32]⟩ : ByteArray)).size ≤ 66 := by rw [ByteArray.size_append]; show _ + 1 ≤ _; omega
  have t5 : (D ++ (⟨#[32]⟩ : ByteArray) ++ E ++ (⟨#[32]⟩ : ByteArray) ++ F ++ (⟨#[32]⟩ : ByteArray) ++ G).size ≤ 87 := by rw [ByteArray.size_append]; omega
  go_enter Tryz.func30, Tryz.ntmps30
  go_wp2_with fail
  generalize w.heap.size = blk at *
  generalize w.alloc (.cells #[.int .i64 x, .int .i64 v, .int .i64 c, .int .i64 z] 30) = w1 at *
  have y0 := fun (d : Nat) (os : Array Obj) => cell_regrown e0 d os
  have y1 := fun (d : Nat) (os : Array Obj) => cell_regrown e1 d os
  have y2 := fun (d : Nat) (os : Array Obj) => cell_regrown e2 d os
  have y3 := fun (d : Nat) (os : Array Obj) => cell_regrown e3 d os
  clear e0 e1 e2 e3
  refine wp_region_quiet_below (by kernel_rfl) (by kernel_rfl) ?_
  repeat (go_big_quiet_step ((first | (go_at_call 36; with_reducible exact Calls.regrown_of ((H0.out _).mono fun _ _ h => ⟨h.1, h.2.below (Nat.le_refl _) (fun _ _ h => h)⟩)) | (go_at_call 36; with_reducible exact Calls.regrown_of ((H1.out _).mono fun _ _ h => ⟨h.1, h.2.below (Nat.le_refl _) (fun _ _ h => h)⟩)) | (go_at_call 36; with_reducible exact Calls.regrown_of ((H2.out _).mono fun _ _ h => ⟨h.1, h.2.below (Nat.le_refl _) (fun _ _ h => h)⟩)) | (go_at_call 36; with_reducible exact Calls.regrown_of ((H3.out _).mono fun _ _ h => ⟨h.1, h.2.below (Nat.le_refl _) (fun _ _ h => h)⟩)))))
  refine wpQuiet_nil ?_
  intro w2 hw'
  obtain ⟨pq, hw''⟩ := hw'
  have HO := Lib.hid (HA.out.trans (Only.ofBelow (below_regrown w1 pq.d pq.os) (fun _ => False)))
  rw [← hw''] at HO
  clear hw'' y0 y1 y2 y3
  go_wp2
  go_ret
  exact ⟨rfl, HO.out⟩
end Go.Proofs.YtlhfgbkonmgahaaGreatDoor

namespace Go.Proofs.YtlhfgbkonmgahaaGreatDoor
open Go.RowKit

/-- Behind k bytes: the numbers that are read, and the word that is under way. -/
structure Rd9 (s : ByteArray) (vs : List Int) (word : ByteArray) (k : Nat) : Prop where
  len : vs.length ≤ 4
  rg : ∀ v ∈ vs, R64 v
  ns : noSp word.data.toList
  eq : (s.data.toList ++ [32]).take k = flatW (vs.map Lib.itoa) ++ word.data.toList
  last : k = s.size + 1 → word = ⟨#[]⟩
theorem rd9_start (s : ByteArray) : Rd9 s [] ⟨#[]⟩ 0 := ⟨by decide, fun v hv => (by cases hv), fun b hb => (by cases hb), rfl, fun _ => rfl⟩
theorem pad_len (s : ByteArray) : (s.data.toList ++ [32]).length = s.size + 1 := by
  rw [List.length_append]
  show s.data.toList.length + 1 = _
  rw [show s.data.toList.length = s.size from Array.length_toList]
theorem pad_take {s : ByteArray} {k : Nat} {b : UInt8} (hb : (s.data.toList ++ [32])[k]? = some b) : (s.data.toList ++ [32]).take (k + 1) = (s.data.toList ++ [32]).take k ++ [b] := by
  rw [List.take_add_one, hb]
  rfl
theorem pad_byte {s : ByteArray} {k : Nat} (hk : k < s.size) : ∃ b, (s.data.toList ++ [32])[k]? = some b ∧ s.data.toList[k]? = some b ∧ byteZ s k = (b.toNat : Int) := by
  obtain ⟨b, _, e1, e2⟩ := byte_of hk
  refine ⟨b, ?_, e1, e2⟩
  rw [List.getElem?_append_left (by rw [show s.data.toList.length = s.size from Array.length_toList]; exact hk)]
  exact e1
theorem Rd9.word_size {s : ByteArray} {vs : List Int} {word : ByteArray} {k : Nat} (h : Rd9 s vs word k) : word.size ≤ s.size + 1 := by
  have h1 := congrArg List.length h.eq
  rw [List.length_take, pad_len, List.length_append] at h1
  have : word.data.toList.length = word.size := Array.length_toList
  omega
theorem Rd9.byte {s : ByteArray} {vs : List Int} {word : ByteArray} {k : Nat} (h : Rd9 s vs word k) (hk : k < s.size) (hb : byteZ s k ≠ 32) : Rd9 s vs (word ++ s.extract k (k + 1)) (k + 1) := by
  obtain ⟨b, e1, e2, e3⟩ := pad_byte hk
  have hx : (s.extract k (k + 1)).data.toList = [b] := by
    rw [ByteArray.data_extract, Array.toList_extract]
    have hlt : k < s.data.toList.length := by rw [show s.data.toList.length = s.size from Array.length_toList]; exact hk
    rw [List.getElem?_eq_getElem hlt] at e2
    injection e2 with e2
    simp [List.extract, List.drop_eq_getElem_cons hlt, e2]
  have hw : (word ++ s.extract k (k + 1)).data.toList = word.data.toList ++ [b] := by
    rw [ByteArray.data_append, Array.toList_append, hx]
  refine ⟨h.len, h.rg, ?_, ?_, fun e => by omega⟩
  · rw [hw]
    intro c hc he
    rcases List.mem_append.1 hc with hc | hc
    · exact h.ns c hc he
    · have := List.mem_singleton.1 hc
      refine hb ?_
      rw [e3, ← this, he]
      rfl
  · rw [pad_take e1, h.eq, hw, List.append_assoc]
theorem pad_blank {s : ByteArray} {k : Nat} (hk : k ≤ s.size) (hb : k < s.size → byteZ s k = 32) : (s.data.toList ++ [32])[k]? = some 32 := by
  rcases Nat.lt_or_ge k s.size with h | h
  · obtain ⟨b, e1, _, e3⟩ := pad_byte h
    have := hb h
    have e : b.toNat = 32 := by omega
    rw [e1, show b = 32 from UInt8.toNat_inj.1 e]
  · have hl : s.data.toList.length = s.size := Array.length_toList
    rw [List.getElem?_append_right (by omega), show k - s.data.toList.length = 0 by omega]
    rfl
theorem lst4_of (q : Pt4) (i : Nat) (x : List UInt8) (hq : P4ok q) (h : (lst4 q)[i]? = some x) : ∃ u, R64 u ∧ x = Lib.itoa u := by
  obtain ⟨q1, q2, q3, q4⟩ := hq
  match i, h with
  | 0, h => exact ⟨_, q1, (Option.some.inj h).symm⟩
  | 1, h => exact ⟨_, q2, (Option.some.inj h).symm⟩
  | 2, h => exact ⟨_, q3, (Option.some.inj h).symm⟩
  | 3, h => exact ⟨_, q4, (Option.some.inj h).symm⟩
  | i + 4, h => simp [lst4] at h
theorem dot0 (word : ByteArray) : (word ++ (⟨#[46, 48]⟩ : ByteArray)).data.toList = word.data.toList ++ 46 :: Lib.itoa 0 := by
  rw [ByteArray.data_append, Array.toList_append]
  have : Lib.itoa 0 = [48] := by
    have := itoa_digs (v := 0) (by decide)
    rw [this, Lib.decDigits]
    rfl
  rw [this]
theorem cut_at {l : List UInt8} {k : Nat} {b : UInt8} (h : l[k]? = some b) : l.take k ++ b :: l.drop (k + 1) = l := by
  have hlt : k < l.length := by
    rcases Nat.lt_or_ge k l.length with h' | h'
    · exact h'
    · rw [List.getElem?_eq_none h'] at h; cases h
  rw [List.getElem?_eq_getElem hlt] at h
  injection h with h
  rw [← h, List.getElem_cons_drop, List.take_append_drop]
theorem Rd9.rej {s : ByteArray} {vs : List Int} {word : ByteArray} {k : Nat} (h : Rd9 s vs word k) (hk : k ≤ s.size) (hb : k < s.size → byteZ s k = 32) {c z : Int} {ok : Bool}
    (hp : ProofP (word ++ (⟨#[46, 48]⟩ : ByteArray)).data.toList c z ok) (hr : ok = false ∨ 3 < vs.length) (q : Pt4) (hq : P4ok q) : s ≠ textP q := by
  intro e
  have hblank := pad_blank hk hb
  have hs : s.data.toList ++ [32] = flatW (lst4 q) := by rw [e]; exact textP_flat q
  have hcut : flatW (vs.map Lib.itoa) ++ word.data.toList ++ 32 :: (s.data.toList ++ [32]).drop (k + 1) = flatW (lst4 q) := by
    rw [← h.eq, ← hs]
    exact cut_at hblank
  obtain ⟨e1, _⟩ := flat_cut (vs.map Lib.itoa) (lst4 q) word.data.toList _ (fun l hl => by
    obtain ⟨v, _, rfl⟩ := List.mem_map.1 hl
    exact itoa_noSp v) (lst4_noSp q) h.ns hcut
  rw [List.length_map] at e1
  rcases hr with hr | hr
  · obtain ⟨u, hu, hx⟩ := lst4_of q _ _ hq e1
    refine ((hp.2 hr).2.2 u 0 hu ⟨by decide, by decide⟩) ?_
    rw [dot0, hx]
  · have hl : vs.length < (lst4 q).length := by
      rcases Nat.lt_or_ge vs.length (lst4 q).length with h | h
      · exact h
      · rw [List.getElem?_eq_none h] at e1; cases e1
    have : (lst4 q).length = 4 := rfl
    omega
theorem Rd9.acc {s : ByteArray} {vs : List Int} {word : ByteArray} {k : Nat} (h : Rd9 s vs word k) (hk : k ≤ s.size) (hb : k < s.size → byteZ s k = 32) {c z : Int}
    (hp : ProofP (word ++ (⟨#[46, 48]⟩ : ByteArray)).data.toList c z true) (hr : vs.length ≤ 3) : Rd9 s (vs ++ [c]) ⟨#[]⟩ (k + 1) := by
  obtain ⟨hc, _, e⟩ := hp.1 rfl
  rw [dot0] at e
  obtain ⟨e1, _⟩ := word_cut_r (itoa_noDot 0) (itoa_noDot z) e
  refine ⟨by rw [List.length_append, List.length_singleton]; omega, fun v hv => ?_, fun b hb => (by cases hb), ?_, fun _ => rfl⟩
  · rcases List.mem_append.1 hv with hv | hv
    · exact h.rg v hv
    · rw [List.mem_singleton.1 hv]; exact hc
  · rw [pad_take (pad_blank hk hb), h.eq, e1, List.map_append, List.map_singleton, flatW_add]
    simp
theorem Rd9.fin {s : ByteArray} {vs : List Int} {word : ByteArray} (h : Rd9 s vs word (s.size + 1)) : s.data.toList ++ [32] = flatW (vs.map Lib.itoa) := by
  have e := h.eq
  rw [h.last rfl, List.take_of_length_le (by rw [pad_len]; omega)] at e
  simpa using e
theorem Rd9.no {s : ByteArray} {vs : List Int} {word : ByteArray} (h : Rd9 s vs word (s.size + 1)) (hn : vs.length ≠ 4) (q : Pt4) : s ≠ textP q := by
  intro e
  have hs : s.data.toList ++ [32] = flatW (lst4 q) := by rw [e]; exact textP_flat q
  have := flat_inj _ _ (fun l hl => by
    obtain ⟨v, _, rfl⟩ := List.mem_map.1 hl
    exact itoa_noSp v) (lst4_noSp q) (h.fin.symm.trans hs)
  have := congrArg List.length this
  rw [List.length_map] at this
  exact hn this
theorem Rd9.yes {s : ByteArray} {a b c d : Int} {word : ByteArray} (h : Rd9 s [a, b, c, d] word (s.size + 1)) : s = textP (a, b, c, d) ∧ P4ok (a, b, c, d) := by
  have e := h.fin.trans (textP_flat (a, b, c, d)).symm
  have e2 := List.append_cancel_right e
  refine ⟨?_, h.rg a (by simp), h.rg b (by simp), h.rg c (by simp), h.rg d (by simp)⟩
  apply ByteArray.ext
  exact Array.ext' e2
theorem reads_no {s : ByteArray} (h : ∀ q, P4ok q → s ≠ textP q) : ReadsP s (0, 0, 0, 0) false := ⟨fun e => (by cases e), fun _ => ⟨rfl, h⟩⟩
theorem reads_yes {s : ByteArray} {p : Pt4} (h : s = textP p ∧ P4ok p) : ReadsP s p true := ⟨fun _ => h, fun e => (by cases e)⟩
end Go.Proofs.YtlhfgbkonmgahaaGreatDoor

namespace Go.Proofs.YtlhfgbkonmgahaaGreatDoor
open Go.RowKit

def ReadsR (s : ByteArray) (w w' : World) (e : Ending) : Prop := ∃ x v c z b, e = .returned (.tuple #[.agg #[.int .i64 x, .int .i64 v, .int .i64 c, .int .i64 z], .bool b]) ∧ ReadsP s (x, v, c, z) b ∧ Only (fun _ => False) w w'
structure RdW (w wr : World) (vs : List Int) : Prop where
  row : wr.rowIs (w.heap.size + 1) 102 4 (fun j => .int .i64 (ptAt vs j))
  res : wr.heap[w.heap.size]? = some (.cells #[.int .i64 0, .int .i64 0, .int .i64 0, .int .i64 0] 30 (0, 0))
  only : Only (fun _ => False) w wr
theorem RdW.next {w a b : World} {vs : List Int} (h : RdW w a vs) (hO : Only (fun _ => False) a b) : RdW w b vs :=
  ⟨h.row.of_block (hO.block _ h.row.lt (fun e => e)), row_still hO h.res, h.only.trans hO⟩
theorem RdW.put {w a : World} {vs : List Int} (h : RdW w a vs) (c : Int) : RdW w (a.setCell ⟨w.heap.size + 1, vs.length, none⟩ (.int .i64 c)) (vs ++ [c]) := by
  refine ⟨(h.row.set vs.length _).congr (fun j _ => ?_), ?_, h.only.setCell (.inr (Nat.le_succ _)) _⟩
  · unfold ptAt
    by_cases e : j = vs.length
    · rw [if_pos e, e]
      simp [List.getD]
    · rw [if_neg e]
      rcases Nat.lt_or_ge j vs.length with h1 | h1
      · simp [List.getD, List.getElem?_append_left h1]
      · simp [List.getD, List.getElem?_eq_none h1, List.getElem?_eq_none (show (vs ++ [c]).length ≤ j by rw [List.length_append, List.length_singleton]; omega)]
  · rw [heap_setCell_other _ _ _ _ (by show w.heap.size ≠ w.heap.size + 1; omega)]
    exact h.res
theorem four_of {vs : List Int} (h : vs.length = 4) : ∃ a b c d, vs = [a, b, c, d] := by
  match vs, h with
  | [a, b, c, d], _ => exact ⟨a, b, c, d, rfl⟩
set_option maxHeartbeats 4000000 in
set_option maxRecDepth 100000 in
theorem rread9_any (s : ByteArray) (w : World) (hs : s.size ≤ 100000000000000) :
    Calls Tryz.prog 31 #[.string s] w fun e w' => ReadsR s w w' e := by
  have HS := Lib.hid (show RdW w ((w.alloc (.cells #[.int .i64 0, .int .i64 0, .int .i64 0, .int .i64 0] 30)).alloc (.cells #[.int .i64 0, .int .i64 0, .int .i64 0, .int .i64 0] 102)) [] by
    have h1 := World.rowIs_alloc (w.alloc (.cells #[.int .i64 0, .int .i64 0, .int .i64 0, .int .i64 0] 30)) #[.int .i64 0, .int .i64 0, .int .i64 0, .int .i64 0] 102 (fun _ => .int .i64 0) (fun i hi => by
      match i, hi with
      | 0, _ => rfl
      | 1, _ => rfl
      | 2, _ => rfl
      | 3, _ => rfl)
    rw [World.size_alloc] at h1
    exact ⟨h1.congr (fun j _ => by simp [ptAt]), row_still ((Only.refl (fun _ => False) _).alloc _) (heap_alloc_last w _), ((Only.refl _ w).alloc _).alloc _⟩)
  go_enter Tryz.func31, Tryz.ntmps31
  go_wp2_with fail
  generalize hW : World.alloc (World.alloc w _) _ = W at *
  clear hW
  go_loopw [5, 6, 7] (fun nv wv vi wr => ∃ (k : Nat) (vs : List Int) (word : ByteArray), k ≤ s.size + 1 ∧ nv = .int .i64 vs.length ∧ wv = .string word ∧ vi = .int .i64 k ∧ Rd9 s vs word k ∧ RdW w wr vs) (fun _ _ vi _ => s.size + 1 - (intOf vi).toNat)
  case atStart => exact ⟨0, [], ⟨#[]⟩, Nat.zero_le _, rfl, rfl, rfl, rd9_start s, HS.out⟩
  case round =>
    clear HS
    obtain ⟨k, vs, word, hk, rfl, rfl, rfl, hR, hW⟩ := hrel
    have HR := Lib.hid hR
    have HW := Lib.hid hW
    have hws := hR.word_size
    have hvl := hR.len
    clear hR hW
    by_cases hle : k ≤ s.size
    · have j1 : (k : Int) ≤ s.size := by omega
      have j2 : 0 ≤ (k : Int) := by omega
      by_cases hch : k < s.size ∧ byteZ s k ≠ 32
      · obtain ⟨hlt, hb⟩ := hch
        have j3 : (k : Int) < s.size := by omega
        have j4 : (k : Int) + 1 ≤ s.size := by omega
        have HN := Lib.hid (HR.out.byte hlt hb)
        have hc := byteZ_eq s k hlt
        have hsz : (word ++ s.extract k (k + 1)).size ≤ 100000000000002 := by rw [ByteArray.size_append, ByteArray.size_extract]; omega
        generalize byteZ s k = y at *
        go_wp2_with fail
        go_roundw
        case rel => exact ⟨k + 1, vs, _, by omega, rfl, rfl, by go_num, HN.out, HW.out⟩
        case measure => simp [intOf]; omega
      · have HB := Lib.hid (show k < s.size → byteZ s k = 32 from fun h => by
          rcases Classical.em (byteZ s k = 32) with e | e
          · exact e
          · exact absurd ⟨h, e⟩ hch)
        have hd : (word ++ (⟨#[46, 48]⟩ : ByteArray)).size ≤ 100000000000003 := by rw [ByteArray.size_append]; show _ + 2 ≤ _; omega
        have HRD := Lib.hid (rread6_any (word ++ (⟨#[46, 48]⟩ : ByteArray)) wr (by omega))
        by_cases hlt : k < s.size
        · have j3 : (k : Int) < s.size := by omega
          have hc := byteZ_eq s k hlt
          have hc32 := HB.out hlt
          rw [hc32] at hc
          clear hch hc32
          go_wp2_with fail
          refine HRD.out.mono ?_
          rintro e w2 ⟨c, z, ok, rfl, hp, hO2⟩
          have HP := Lib.hid hp
          have HW2 := Lib.hid (HW.out.next hO2)
          have HW3 := Lib.hid (HW2.out.next ((Only.refl (fun _ => False) w2).alloc (.cells #[.int .i64 c, .int .i64 z] 28)))
          have hzx := heap_alloc_last w2 (.cells #[.int .i64 c, .int .i64 z] 28)
          have c0 : _ = some (Value.int .i64 c) := cell_of_row _ _ 0 _ _ _ hzx
          clear hp hO2 hzx
          by_cases hrej : ok = false ∨ 3 < vs.length
          · have HE := Lib.hid (reads_no (HR.out.rej hle HB.out HP.out hrej))
            have HZ := Lib.hid HW3.out.res
            have HO := Lib.hid HW3.out.only
            cases ok
            all_goals (try (have h3 : (3 : Int) < vs.length := by rcases hrej with h | h <;> first | cases h | omega))
            all_goals (clear hrej c0)
            all_goals (go_wp2_with (first | (refine wpList_store_row rfl 30 _ _ rfl w.heap.size #[.int .i64 0, .int .i64 0, .int .i64 0, .int .i64 0] rfl rfl 30 _ HZ.out Tryz.infoPt rfl (pt_one _ _ _ _) ?_)))
            all_goals (exact bodyPost_ret (v := .tuple #[.agg #[.int .i64 0, .int .i64 0, .int .i64 0, .int .i64 0], .bool false]) (results_cell_tmp (p := 2) (q := 3) rfl _ _ w.heap.size 30 #[.int .i64 0, .int .i64 0, .int .i64 0, .int .i64 0] (0, 0) _ rfl (setRow_heap _ _ _ _ _ _ HZ.out) Tryz.underlying30 rfl Tryz.infoPt _ rfl) rfl ⟨_, _, _, _, _, rfl, HE.out, HO.out.setRow (Nat.le_refl _) _⟩)
          · obtain rfl : ok = true := by cases ok <;> simp_all
            have h3 : ¬ (3 : Int) < vs.length := by omega
            have h3n : vs.length ≤ 3 := by omega
            have h4 : (vs.length : Int) < 4 := by omega
            have h5 : 0 ≤ (vs.length : Int) := by omega
            have HRN := Lib.hid (HR.out.acc hle HB.out HP.out h3n)
            have HWN := Lib.hid (HW3.out.put c)
            have hcell := HW3.out.row.cell (i := vs.length) (by omega)
            have hf := HW3.out.row.frozen vs.length
            have hl := HW3.out.row.lt
            have hll : (vs ++ [c]).length = vs.length + 1 := by rw [List.length_append, List.length_singleton]
            have HLL := Lib.hid hll
            clear hrej hll
            go_wp2_with fail
            go_roundw
            case rel => exact ⟨k + 1, vs ++ [c], ⟨#[]⟩, by omega, by rw [HLL.out]; go_num, rfl, by go_num, HRN.out, HWN.out⟩
            case measure => simp [intOf]; omega
        · have j3 : ¬ (k : Int) < s.size := by omega
          clear hch
          go_wp2_with fail
          refine HRD.out.mono ?_
          rintro e w2 ⟨c, z, ok, rfl, hp, hO2⟩
          have HP := Lib.hid hp
          have HW2 := Lib.hid (HW.out.next hO2)
          have HW3 := Lib.hid (HW2.out.next ((Only.refl (fun _ => False) w2).alloc (.cells #[.int .i64 c, .int .i64 z] 28)))
          have hzx := heap_alloc_last w2 (.cells #[.int .i64 c, .int .i64 z] 28)
          have c0 : _ = some (Value.int .i64 c) := cell_of_row _ _ 0 _ _ _ hzx
          clear hp hO2 hzx
          by_cases hrej : ok = false ∨ 3 < vs.length
          · have HE := Lib.hid (reads_no (HR.out.rej hle HB.out HP.out hrej))
            have HZ := Lib.hid HW3.out.res
            have HO := Lib.hid HW3.out.only
            cases ok
            all_goals (try (have h3 : (3 : Int) < vs.length := by rcases hrej with h | h <;> first | cases h | omega))
            all_goals (clear hrej c0)
            all_goals (go_wp2_with (first | (refine wpList_store_row rfl 30 _ _ rfl w.heap.size #[.int .i64 0, .int .i64 0, .int .i64 0, .int .i64 0] rfl rfl 30 _ HZ.out Tryz.infoPt rfl (pt_one _ _ _ _) ?_)))
            all_goals (exact bodyPost_ret (v := .tuple #[.agg #[.int .i64 0, .int .i64 0, .int .i64 0, .int .i64 0], .bool false]) (results_cell_tmp (p := 2) (q := 3) rfl _ _ w.heap.size 30 #[.int .i64 0, .int .i64 0, .int .i64 0, .int .i64 0] (0, 0) _ rfl (setRow_heap _ _ _ _ _ _ HZ.out) Tryz.underlying30 rfl Tryz.infoPt _ rfl) rfl ⟨_, _, _, _, _, rfl, HE.out, HO.out.setRow (Nat.le_refl _) _⟩)
          · obtain rfl : ok = true := by cases ok <;> simp_all
            have h3 : ¬ (3 : Int) < vs.length := by omega
            have h3n : vs.length ≤ 3 := by omega
            have h4 : (vs.length : Int) < 4 := by omega
            have h5 : 0 ≤ (vs.length : Int) := by omega
            have HRN := Lib.hid (HR.out.acc hle HB.out HP.out h3n)
            have HWN := Lib.hid (HW3.out.put c)
            have hcell := HW3.out.row.cell (i := vs.length) (by omega)
            have hf := HW3.out.row.frozen vs.length
            have hl := HW3.out.row.lt
            have hll : (vs ++ [c]).length = vs.length + 1 := by rw [List.length_append, List.length_singleton]
            have HLL := Lib.hid hll
            clear hrej hll
            go_wp2_with fail
            go_roundw
            case rel => exact ⟨k + 1, vs ++ [c], ⟨#[]⟩, by omega, by rw [HLL.out]; go_num, rfl, by go_num, HRN.out, HWN.out⟩
            case measure => simp [intOf]; omega
    · obtain rfl : k = s.size + 1 := by omega
      have j1 : ¬ ((s.size + 1 : Nat) : Int) ≤ s.size := by omega
      have r0 := HW.out.row.cell (i := 0) (by decide)
      have r1 := HW.out.row.cell (i := 1) (by decide)
      have r2 := HW.out.row.cell (i := 2) (by decide)
      have r3 := HW.out.row.cell (i := 3) (by decide)
      have rl := HW.out.row.lt
      by_cases h4 : vs.length = 4
      · obtain ⟨a, b, c, d, rfl⟩ := four_of h4
        obtain ⟨e, ho⟩ := HR.out.yes
        have HE := Lib.hid (reads_yes ⟨e, ho⟩)
        have HTX := Lib.hid (fun W => rtext9_any a b c d W ho.1 ho.2.1 ho.2.2.1 ho.2.2.2)
        rw [← e] at HTX
        have g0 : ptAt [a, b, c, d] 0 = a := rfl
        have g1 : ptAt [a, b, c, d] 1 = b := rfl
        have g2 : ptAt [a, b, c, d] 2 = c := rfl
        have g3 : ptAt [a, b, c, d] 3 = d := rfl
        rw [g0] at r0
        rw [g1] at r1
        rw [g2] at r2
        rw [g3] at r3
        have HWA := Lib.hid (HW.out.next ((Only.refl (fun _ => False) wr).alloc (.cells #[.int .i64 a, .int .i64 b, .int .i64 c, .int .i64 d] 30)))
        have HZA := Lib.hid (heap_alloc_last wr (.cells #[.int .i64 a, .int .i64 b, .int .i64 c, .int .i64 d] 30))
        have q1 : (s.toList != s.toList) = false := by simp
        clear e ho g0 g1 g2 g3 hvl h4
        go_wp2_with fail
        refine (HTX.out _).mono ?_
        rintro e w2 ⟨rfl, hO2⟩
        have HW2 := Lib.hid (HWA.out.next hO2)
        have HZ2 := Lib.hid (row_still hO2 HZA.out)
        have HR2 := Lib.hid HW2.out.res
        have HO2 := Lib.hid HW2.out.only
        clear hO2 r0 r1 r2 r3 rl
        go_wp2_with (first | (refine wpList_load_row rfl 30 _ rfl wr.heap.size rfl 30 #[.int .i64 a, .int .i64 b, .int .i64 c, .int .i64 d] (0, 0) _ HZ2.out Tryz.underlying30 rfl Tryz.infoPt ?_) | (refine wpList_store_row rfl 30 _ _ rfl w.heap.size #[.int .i64 a, .int .i64 b, .int .i64 c, .int .i64 d] rfl rfl 30 _ HR2.out Tryz.infoPt rfl (pt_one _ _ _ _) ?_))
        all_goals (exact bodyPost_ret (v := .tuple #[.agg #[.int .i64 a, .int .i64 b, .int .i64 c, .int .i64 d], .bool true]) (results_cell_tmp (p := 2) (q := 3) rfl _ _ w.heap.size 30 #[.int .i64 a, .int .i64 b, .int .i64 c, .int .i64 d] (0, 0) _ rfl (setRow_heap _ _ _ _ _ _ HR2.out) Tryz.underlying30 rfl Tryz.infoPt _ rfl) rfl ⟨_, _, _, _, _, rfl, HE.out, HO2.out.setRow (Nat.le_refl _) _⟩)
      · have h5 : ((vs.length : Int) == 4) = false := by
          rw [beq_eq_false_iff_ne]
          omega
        have h6 : ¬ (vs.length : Int) = 4 := by omega
        have HE := Lib.hid (reads_no (fun q _ => HR.out.no h4 q))
        generalize ptAt vs 0 = a at *
        generalize ptAt vs 1 = b at *
        generalize ptAt vs 2 = c at *
        generalize ptAt vs 3 = d at *
        have HWA := Lib.hid (HW.out.next ((Only.refl (fun _ => False) wr).alloc (.cells #[.int .i64 a, .int .i64 b, .int .i64 c, .int .i64 d] 30)))
        have HZ := Lib.hid HWA.out.res
        have HO := Lib.hid HWA.out.only
        clear h4
        go_wp2_with (first | (refine wpList_store_row rfl 30 _ _ rfl w.heap.size #[.int .i64 0, .int .i64 0, .int .i64 0, .int .i64 0] rfl rfl 30 _ HZ.out Tryz.infoPt rfl (pt_one _ _ _ _) ?_))
        all_goals (exact bodyPost_ret (v := .tuple #[.agg #[.int .i64 0, .int .i64 0, .int .i64 0, .int .i64 0], .bool false]) (results_cell_tmp (p := 2) (q := 3) rfl _ _ w.heap.size 30 #[.int .i64 0, .int .i64 0, .int .i64 0, .int .i64 0] (0, 0) _ rfl (setRow_heap _ _ _ _ _ _ HZ.out) Tryz.underlying30 rfl Tryz.infoPt _ rfl) rfl ⟨_, _, _, _, _, rfl, HE.out, HO.out.setRow (Nat.le_refl _) _⟩)
end Go.Proofs.YtlhfgbkonmgahaaGreatDoor
