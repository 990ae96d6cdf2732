/-
  Plain facts on texts of numbers: words between blanks, and numerals.
-/
import Derived.Test.YtldkjkjpaiajlaaGreatDoorPa04
import Derived.Lib.SplitLaws
import Derived.Lib.AtoiAll
import Derived.Lib.Join
import Derived.Lib.ItoaLen
namespace Go.Proofs.YtldkjkjpaiajlaaGreatDoor
open Go.RowKit

def R64 (z : Int) : Prop := -9223372036854775808 ≤ z ∧ z ≤ 9223372036854775807
def noC (d : UInt8) (l : List UInt8) : Prop := ∀ b ∈ l, b ≠ d
abbrev noSp (l : List UInt8) : Prop := noC 32 l
theorem dig_val {d : Nat} (h : d < 10) : (UInt8.ofNat (48 + d)).toNat = 48 + d := by
  rw [UInt8.toNat_ofNat']
  omega
theorem digs_range (u : Nat) : ∀ b ∈ Lib.decDigits u, 48 ≤ b.toNat ∧ b.toNat ≤ 57 := by
  induction u using Nat.strongRecOn with
  | _ u ih =>
    intro b hb
    rw [Lib.decDigits] at hb
    split at hb
    · next h =>
      have hb := List.mem_singleton.1 hb
      have := dig_val h
      rw [hb]
      omega
    · next h =>
      rcases List.mem_append.1 hb with hb | hb
      · exact ih (u / 10) (by omega) b hb
      · have hb := List.mem_singleton.1 hb
        have := dig_val (Nat.mod_lt u (show 0 < 10 by decide))
        rw [hb]
        omega
theorem digs_len (k : Nat) : ∀ u, u < 10 ^ (k + 1) → (Lib.decDigits u).length ≤ k + 1 ∧ 1 ≤ (Lib.decDigits u).length := by
  induction k with
  | zero =>
    intro u hu
    rw [Lib.decDigits, dif_pos (by simpa using hu)]
    exact ⟨Nat.le_refl _, Nat.le_refl _⟩
  | succ k ih =>
    intro u hu
    rw [Lib.decDigits]
    split
    · exact ⟨by simp, Nat.le_refl _⟩
    · have := ih (u / 10) (by rw [Nat.pow_succ] at hu; omega)
      rw [List.length_append, List.length_singleton]
      omega
def decFold (a : Nat) (l : List UInt8) : Nat := l.foldl (fun a c => a * 10 + (c.toNat - 48)) a
theorem decFold_cons (a : Nat) (c : UInt8) (l : List UInt8) : decFold a (c :: l) = decFold (a * 10 + (c.toNat - 48)) l := by unfold decFold; rw [List.foldl_cons]
theorem decFold_ge : ∀ (l : List UInt8) (a : Nat), a ≤ decFold a l
  | [], a => Nat.le_refl _
  | c :: l, a => by
    have := decFold_ge l (a * 10 + (c.toNat - 48))
    rw [decFold_cons]
    omega
theorem decFold_digs (u : Nat) : decFold 0 (Lib.decDigits u) = u := by
  induction u using Nat.strongRecOn with
  | _ u ih =>
    rw [Lib.decDigits]
    split
    · next h =>
      have e : decFold 0 [UInt8.ofNat (48 + u)] = 0 * 10 + ((UInt8.ofNat (48 + u)).toNat - 48) := by unfold decFold; rw [List.foldl_cons, List.foldl_nil]
      rw [e, dig_val h]
      omega
    · next h =>
      unfold decFold
      rw [List.foldl_append]
      have := ih (u / 10) (by omega)
      unfold decFold at this
      rw [this, List.foldl_cons, List.foldl_nil, dig_val (Nat.mod_lt u (show 0 < 10 by decide))]
      omega
theorem parse_fold : ∀ (l : List UInt8) (a : Nat), (∀ b ∈ l, 48 ≤ b.toNat ∧ b.toNat ≤ 57) → decFold a l < 18446744073709551616 → Lib.parseUint10 a l = .ok (decFold a l)
  | [], a, _, _ => rfl
  | c :: l, a, hd, h => by
    rw [decFold_cons] at h ⊢
    have h1 := decFold_ge l (a * 10 + (c.toNat - 48))
    rw [Lib.parseUint10, if_pos (hd c List.mem_cons_self), if_neg (by omega), if_neg (by omega)]
    exact parse_fold l _ (fun b hb => hd b (List.mem_cons_of_mem _ hb)) h
theorem itoa_digs {v : Int} (h : 0 ≤ v) : Lib.itoa v = Lib.decDigits v.toNat := by unfold Lib.itoa; rw [if_neg (by omega)]
theorem itoa_minus {v : Int} (h : v < 0) : Lib.itoa v = 45 :: Lib.decDigits v.natAbs := by unfold Lib.itoa; rw [if_pos h]
theorem digs_cons (u : Nat) : ∃ c r, Lib.decDigits u = c :: r ∧ 48 ≤ c.toNat ∧ c.toNat ≤ 57 := by
  have h1 := digs_range u
  have h2 := (digs_len u u (Nat.lt_of_lt_of_le (Nat.lt_pow_self (by decide : 1 < 10)) (Nat.pow_le_pow_right (by decide) (Nat.le_succ u)))).2
  cases hl : Lib.decDigits u with
  | nil => rw [hl] at h2; exact absurd h2 (by decide)
  | cons c r => exact ⟨c, r, rfl, h1 c (by rw [hl]; exact List.mem_cons_self)⟩
theorem atoi_itoa {v : Int} (h : R64 v) : Lib.atoiAll (Lib.itoa v) = .ok v := by
  obtain ⟨h0, h1⟩ := h
  by_cases hv : 0 ≤ v
  · rw [itoa_digs hv]
    obtain ⟨c, r, hc, c0, c1⟩ := digs_cons v.toNat
    have hp := parse_fold (Lib.decDigits v.toNat) 0 (digs_range _) (by rw [decFold_digs]; omega)
    rw [decFold_digs, hc] at hp
    have hq : Lib.parseMag (c :: r) = .ok v.toNat := by unfold Lib.parseMag; rw [if_neg (by simp)]; exact hp
    rw [hc]
    unfold Lib.atoiAll
    dsimp only
    rw [if_neg (by omega), hq]
    dsimp only
    rw [if_neg (by omega), if_neg (by omega), if_neg (by omega), Int.toNat_of_nonneg hv]
  · rw [itoa_minus (by omega)]
    obtain ⟨c, r, hc, c0, c1⟩ := digs_cons v.natAbs
    have hp := parse_fold (Lib.decDigits v.natAbs) 0 (digs_range _) (by rw [decFold_digs]; omega)
    rw [decFold_digs, hc] at hp
    have hq : Lib.parseMag (c :: r) = .ok v.natAbs := by unfold Lib.parseMag; rw [if_neg (by simp)]; exact hp
    rw [hc]
    unfold Lib.atoiAll
    dsimp only
    rw [if_pos (.inr (by decide)), hq]
    dsimp only
    rw [if_neg (by simp), if_neg (by simp; omega), if_pos (by decide)]
    congr 1
    omega
theorem index_sp : ∀ (l r : List UInt8), noSp l → Lib.index (l ++ 32 :: r) [32] = l.length
  | [], r, _ => by simp [Lib.index]
  | b :: l, r, h => by
    have hb := h b List.mem_cons_self
    have ih := index_sp l r (fun c hc => h c (List.mem_cons_of_mem _ hc))
    have e : ((32 : UInt8) == b) = false := by
      rw [beq_eq_false_iff_ne]
      exact fun e => hb e.symm
    have m : ¬ ((l.length : Int) == -1) = true := fun e => by have := beq_iff_eq.1 e; omega
    rw [List.cons_append, Lib.index, ih]
    simp only [List.isPrefixOf, e, Bool.false_and, Bool.false_eq_true, if_false, if_neg m, List.length_cons]
    omega
theorem split_words : ∀ (ws : List (List UInt8)) (x : List UInt8), (∀ l ∈ x :: ws, noSp l) → Lib.splitK [32] 0 ws.length (x ++ Lib.joinTail [32] ws) = x :: ws
  | [], x, _ => by simp [Lib.splitK, Lib.joinTail]
  | y :: ws, x, h => by
    have ih := split_words ws y (fun l hl => h l (List.mem_cons_of_mem _ hl))
    have e : x ++ Lib.joinTail [32] (y :: ws) = x ++ 32 :: (y ++ Lib.joinTail [32] ws) := by simp [Lib.joinTail]
    have hx := index_sp x (y ++ Lib.joinTail [32] ws) (h x List.mem_cons_self)
    have m : ¬ ((x.length : Int) == -1) = true := fun e => by have := beq_iff_eq.1 e; omega
    rw [e, List.length_cons, Lib.splitK, hx, if_neg m]
    have e2 : (x ++ 32 :: (y ++ Lib.joinTail [32] ws)).drop (((x.length : Int)).toNat + [(32 : UInt8)].length) = y ++ Lib.joinTail [32] ws := by
      rw [Int.toNat_natCast, ← List.drop_drop, List.drop_left]
      rfl
    rw [e2, ih]
    simp
theorem count_words : ∀ (ws : List (List UInt8)) (x : List UInt8), (∀ l ∈ x :: ws, noSp l) → Lib.count (x ++ Lib.joinTail [32] ws) [32] = ws.length
  | ws, x, h => by
    rw [Lib.count_one, List.count_append]
    have hz : ∀ l, noSp l → l.count 32 = 0 := fun l hl => List.count_eq_zero.2 fun hm => hl 32 hm rfl
    rw [hz x (h x List.mem_cons_self), Nat.zero_add]
    have hw : ∀ l ∈ ws, noSp l := fun l hl => h l (List.mem_cons_of_mem _ hl)
    clear h
    induction ws with
    | nil => rfl
    | cons y ws ih =>
      have e : Lib.joinTail [32] (y :: ws) = 32 :: (y ++ Lib.joinTail [32] ws) := by simp [Lib.joinTail]
      rw [e, List.count_cons_self, List.count_append, hz y (hw y List.mem_cons_self), ih (fun l hl => hw l (List.mem_cons_of_mem _ hl)), List.length_cons]
      omega
/-- The words of a text. -/
def wordsB (s : ByteArray) : List ByteArray := Lib.splitB ⟨#[32]⟩ 0 (Lib.countB s ⟨#[32]⟩) s
theorem wordsB_len (s : ByteArray) : (wordsB s).length = Lib.countB s ⟨#[32]⟩ + 1 := Lib.splitB_all ⟨#[32]⟩ (by decide) 0 _ s rfl
theorem words_of (s : ByteArray) (x : List UInt8) (ws : List (List UInt8)) (hn : ∀ l ∈ x :: ws, noSp l) (h : s.data.toList = Lib.join (x :: ws) [32]) : (wordsB s).map (·.data.toList) = x :: ws := by
  unfold wordsB
  rw [Lib.splitB_data]
  have e : Lib.countB s ⟨#[32]⟩ = ws.length := by
    show Lib.count s.data.toList [32] = _
    rw [h, Lib.join_cons, count_words ws x hn]
  rw [e, h, Lib.join_cons]
  exact split_words ws x hn
end Go.Proofs.YtldkjkjpaiajlaaGreatDoor
