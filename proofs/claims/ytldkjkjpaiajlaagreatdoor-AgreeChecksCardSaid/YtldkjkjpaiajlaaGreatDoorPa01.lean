/-
  Natural numbers as strings of bytes, plainly.
-/
import Derived.Lib.ItoaNum
namespace Go.Proofs.YtldkjkjpaiajlaaGreatDoor

/-- The bytes of a number, the first one not 0. -/
def beL (n : Nat) : List UInt8 := if _h : n = 0 then [] else beL (n / 256) ++ [UInt8.ofNat (n % 256)]
termination_by n
decreasing_by omega
theorem beL_zero : beL 0 = [] := by rw [beL]; simp
theorem beL_pos {n : Nat} (h : n ≠ 0) : beL n = beL (n / 256) ++ [UInt8.ofNat (n % 256)] := by rw [beL, dif_neg h]
theorem beL_nil {n : Nat} (h : beL n = []) : n = 0 := by
  rcases Nat.eq_zero_or_pos n with h0 | h0
  · exact h0
  · rw [beL_pos (by omega)] at h; simp at h
def valL (l : List UInt8) : Nat := l.foldl (fun n b => n * 256 + b.toNat) 0
theorem valL_snoc (l : List UInt8) (x : UInt8) : valL (l ++ [x]) = valL l * 256 + x.toNat := by simp [valL]
theorem valL_nil : valL [] = 0 := rfl
theorem valL_beL (n : Nat) : valL (beL n) = n := by
  induction n using Nat.strongRecOn with
  | _ n ih =>
    by_cases h : n = 0
    · rw [h, beL_zero]; rfl
    · rw [beL_pos h, valL_snoc, ih (n / 256) (by omega)]
      have : (UInt8.ofNat (n % 256)).toNat = n % 256 := by simp
      rw [this]; omega
theorem beL_len {k : Nat} : ∀ {n : Nat}, n < 256 ^ k → (beL n).length ≤ k := by
  induction k with
  | zero => intro n h; have : n = 0 := by simp at h; exact h
            rw [this, beL_zero]; simp
  | succ k ih =>
    intro n h
    by_cases h0 : n = 0
    · rw [h0, beL_zero]; simp
    · rw [beL_pos h0, List.length_append]
      have : n / 256 < 256 ^ k := by rw [Nat.pow_succ] at h; exact Nat.div_lt_of_lt_mul (by rw [Nat.mul_comm]; exact h)
      have := ih this
      simp; omega
theorem valL_lt (l : List UInt8) : valL l < 256 ^ l.length := by
  have h : ∀ (l : List UInt8), valL l < 256 ^ l.length := by
    intro l
    induction hl : l.length generalizing l with
    | zero => have : l = [] := List.eq_nil_of_length_eq_zero hl
              rw [this]; decide
    | succ k ih =>
      have hne : l ≠ [] := by intro e; rw [e] at hl; simp at hl
      rw [← List.dropLast_concat_getLast hne, valL_snoc, Nat.pow_succ]
      have := ih l.dropLast (by simp; omega)
      have hx := (l.getLast hne).toNat_lt
      omega
  exact h l
theorem beL_long {k n : Nat} (h : 256 ^ k ≤ n) : k < (beL n).length := by
  rcases Nat.lt_or_ge k (beL n).length with h1 | h1
  · exact h1
  · exfalso
    have h2 := valL_lt (beL n)
    rw [valL_beL] at h2
    have : 256 ^ (beL n).length ≤ 256 ^ k := Nat.pow_le_pow_right (by decide) h1
    omega
theorem dropWhile_snoc (p : UInt8 → Bool) (l : List UInt8) (x : UInt8) : (l ++ [x]).dropWhile p = if l.dropWhile p = [] then [x].dropWhile p else l.dropWhile p ++ [x] := by
  induction l with
  | nil => simp
  | cons a l ih =>
    rw [List.cons_append, List.dropWhile_cons, List.dropWhile_cons]
    split
    · exact ih
    · simp
/-- What is left without zeros in front. -/
theorem drop_beL (l : List UInt8) : l.dropWhile (· == 0) = beL (valL l) := by
  induction hl : l.length generalizing l with
  | zero =>
    have : l = [] := List.eq_nil_of_length_eq_zero hl
    rw [this, valL_nil, beL_zero]; rfl
  | succ k ih =>
    have hne : l ≠ [] := by intro e; rw [e] at hl; simp at hl
    obtain ⟨x, hx⟩ : ∃ x, l.getLast hne = x := ⟨_, rfl⟩
    have e := List.dropLast_concat_getLast hne
    rw [hx] at e
    have hi := ih l.dropLast (by simp; omega)
    rw [← e, dropWhile_snoc, valL_snoc, hi]
    have hxl := x.toNat_lt
    have hxo : UInt8.ofNat x.toNat = x := by simp
    by_cases h0 : valL l.dropLast = 0
    · rw [h0, beL_zero]
      by_cases h1 : x = 0
      · subst h1; simp [beL_zero]
      · have hxn : x.toNat ≠ 0 := fun hz => h1 (by rw [← hxo, hz]; rfl)
        rw [if_pos rfl, Nat.zero_mul, Nat.zero_add, beL_pos hxn, show x.toNat / 256 = 0 by omega, beL_zero, Nat.mod_eq_of_lt (by omega), hxo]
        simp [h1]
    · rw [if_neg (fun h => h0 (beL_nil h)), beL_pos (n := valL l.dropLast * 256 + x.toNat) (by omega)]
      rw [show (valL l.dropLast * 256 + x.toNat) / 256 = valL l.dropLast by omega, show (valL l.dropLast * 256 + x.toNat) % 256 = x.toNat by omega, hxo]
/-- A number as a string. -/
def natB (n : Nat) : ByteArray := ⟨(beL n).toArray⟩
theorem natB_size (n : Nat) : (natB n).size = (beL n).length := by simp [natB, ByteArray.size]
theorem natB_data (n : Nat) : (natB n).data.toList = beL n := rfl
/-- The number of a string. -/
def valB (b : ByteArray) : Nat := valL b.data.toList
theorem valB_natB (n : Nat) : valB (natB n) = n := valL_beL n
theorem canon_is (b : ByteArray) (k : Nat) (hk : k ≤ b.size) (hz : ∀ j (h : j < b.size), j < k → b[j] = 0) (hn : ∀ (h : k < b.size), b[k] ≠ 0) : b.extract k b.size = natB (valB b) := by
  apply ByteArray.ext
  apply Array.toList_inj.1
  have e1 : (b.extract k b.size).data.toList = b.data.toList.drop k := by
    have : (b.extract k b.size).data = b.data.extract k b.size := by simp
    rw [this, Array.toList_extract, List.extract_eq_take_drop]
    exact List.take_of_length_le (by simp)
  rw [e1, natB_data, valB, ← drop_beL]
  have hs : b.data.toList.length = b.size := by simp
  have key : ∀ (k : Nat) (l : List UInt8), k ≤ l.length → (∀ j (h : j < l.length), j < k → l[j] = 0) → (∀ h : k < l.length, l[k] ≠ 0) → l.drop k = l.dropWhile (· == 0) := by
    intro k
    induction k with
    | zero =>
      intro l _ _ hn
      cases l with
      | nil => rfl
      | cons a l => have := hn (by simp); simp at this; simp [this]
    | succ k ih =>
      intro l hl hz hn
      cases l with
      | nil => simp at hl
      | cons a l =>
        have h0 := hz 0 (by simp) (by omega)
        simp at h0
        subst h0
        simp only [List.drop_succ_cons, List.dropWhile_cons]
        rw [if_pos (by decide)]
        exact ih l (by simpa using hl) (fun j h hj => by have := hz (j + 1) (by simp; omega) (by omega); simpa using this) (fun h => by have := hn (by simp; omega); simpa using this)
  refine key k _ (by omega) (fun j h hj => ?_) (fun h => ?_)
  · exact hz j (by omega) hj
  · exact hn (by omega)
theorem decDigits_step {u : Nat} (h : ¬ u < 10) : Lib.decDigits u = Lib.decDigits (u / 10) ++ [UInt8.ofNat (48 + u % 10)] := by rw [Lib.decDigits, dif_neg h]
end Go.Proofs.YtldkjkjpaiajlaaGreatDoor
