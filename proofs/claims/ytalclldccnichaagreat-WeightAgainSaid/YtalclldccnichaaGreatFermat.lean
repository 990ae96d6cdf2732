/-
  Fermat's little theorem, by binomials; powers modulo m and in the group.
-/
import Derived.Test.YtalclldccnichaaGreatPrime
import Derived.Test.YtalclldccnichaaGreatFactor
import Derived.Test.YtalclldccnichaaGreatLag
namespace Go.Proofs.YtalclldccnichaaGreat

def ch : Nat → Nat → Nat
  | _, 0 => 1
  | 0, _ + 1 => 0
  | n + 1, k + 1 => ch n k + ch n (k + 1)
theorem ch_zero (n : Nat) : ch n 0 = 1 := by cases n <;> rfl
theorem ch_big : ∀ (n k : Nat), n < k → ch n k = 0
  | 0, k + 1, _ => rfl
  | n + 1, k + 1, h => by rw [ch, ch_big n k (by omega), ch_big n (k + 1) (by omega)]
theorem ch_self : ∀ n, ch n n = 1
  | 0 => rfl
  | n + 1 => by rw [ch, ch_self n, ch_big n (n + 1) (by omega)]
theorem ch_mul : ∀ (n k : Nat), (k + 1) * ch (n + 1) (k + 1) = (n + 1) * ch n k
  | 0, 0 => rfl
  | 0, k + 1 => by simp [ch]
  | n + 1, 0 => by
    have h := ch_mul n 0
    have e : ch (n + 1 + 1) (0 + 1) = ch (n + 1) 0 + ch (n + 1) (0 + 1) := rfl
    rw [e, ch_zero]
    rw [ch_zero] at h
    omega
  | n + 1, k + 1 => by
    have h1 := ch_mul n k
    have h2 := ch_mul n (k + 1)
    have e1 : ch (n + 1 + 1) (k + 1 + 1) = ch (n + 1) (k + 1) + ch (n + 1) (k + 1 + 1) := rfl
    have e2 : ch (n + 1) (k + 1) = ch n k + ch n (k + 1) := rfl
    rw [e1]
    generalize ch (n + 1) (k + 1 + 1) = A at *
    generalize hB : ch (n + 1) (k + 1) = B at *
    generalize ch n k = C at *
    generalize ch n (k + 1) = D at *
    grind
def bs (n x : Nat) : Nat → Nat
  | 0 => 0
  | m + 1 => bs n x m + ch n m * x ^ m
theorem bs_step (n x : Nat) : ∀ m, bs (n + 1) x (m + 1) = bs n x (m + 1) + x * bs n x m
  | 0 => by simp [bs, ch_zero]
  | m + 1 => by
    rw [bs, bs_step n x m]
    have e : ch (n + 1) (m + 1) = ch n m + ch n (m + 1) := rfl
    have e2 : bs n x (m + 1 + 1) = bs n x (m + 1) + ch n (m + 1) * x ^ (m + 1) := rfl
    have e3 : bs n x (m + 1) = bs n x m + ch n m * x ^ m := rfl
    rw [e, e2, Nat.pow_succ]
    conv => rhs; rw [e3]
    conv => lhs; rw [e3]
    grind
theorem binom (x : Nat) : ∀ n, (x + 1) ^ n = bs n x (n + 1)
  | 0 => by simp [bs, ch]
  | n + 1 => by
    rw [Nat.pow_succ, binom x n, bs_step n x (n + 1)]
    have : bs n x (n + 1 + 1) = bs n x (n + 1) + ch n (n + 1) * x ^ (n + 1) := rfl
    rw [this, ch_big n (n + 1) (by omega)]
    grind
theorem prime_ch {p k : Nat} (hp : IsPrime p) (h0 : 0 < k) (h1 : k < p) : p ∣ ch p k := by
  obtain ⟨j, rfl⟩ : ∃ j, k = j + 1 := ⟨k - 1, by omega⟩
  obtain ⟨m, rfl⟩ : ∃ m, p = m + 1 := ⟨p - 1, by omega⟩
  have h := ch_mul m j
  have hd : (m + 1) ∣ (j + 1) * ch (m + 1) (j + 1) := ⟨_, h⟩
  exact Nat.Coprime.dvd_of_dvd_mul_left (Nat.coprime_comm.1 (hp.coprime h0 h1)) hd
theorem bs_prime {p x : Nat} (hp : IsPrime p) : ∀ m, 1 ≤ m → m ≤ p → bs p x m % p = 1 % p
  | 1, _, _ => by simp [bs, ch_zero]
  | m + 2, _, h => by
    rw [bs, Nat.add_mod, bs_prime hp (m + 1) (by omega) (by omega)]
    obtain ⟨c, hc⟩ := prime_ch hp (show 0 < m + 1 by omega) (by omega)
    rw [hc, Nat.mul_assoc, Nat.mul_mod_right]
    simp
theorem fermat_all {p : Nat} (hp : IsPrime p) : ∀ x, x ^ p % p = x % p
  | 0 => by have := hp.1; rw [Nat.zero_pow (by omega)]
  | x + 1 => by
    rw [binom, bs, ch_self, Nat.one_mul, Nat.add_mod, bs_prime hp p (by have := hp.1; omega) (Nat.le_refl _), fermat_all hp x, ← Nat.add_mod, Nat.add_comm]
theorem fermat {p a : Nat} (hp : IsPrime p) (ha : a % p ≠ 0) : a ^ (p - 1) % p = 1 := by
  have h1 := hp.1
  have hc : Nat.gcd p a = 1 := by
    rw [Nat.gcd_rec]
    exact hp.coprime (by omega) (Nat.mod_lt _ (by omega))
  have h := fermat_all hp a
  have hz : p ∣ (a ^ (p - 1) - 1) * a := by
    have hle : a ≤ a ^ p := by
      have : a ^ 1 ≤ a ^ p := Nat.pow_le_pow_right (by rcases Nat.eq_zero_or_pos a with h | h; (subst h; simp at ha); exact h) (by omega)
      simpa using this
    have e : (a ^ (p - 1) - 1) * a = a ^ p - a := by
      rw [Nat.sub_mul, Nat.one_mul, ← Nat.pow_succ]
      congr 2; omega
    rw [e]
    exact Nat.dvd_of_mod_eq_zero (Nat.sub_mod_eq_zero_of_mod_eq h)
  have h2 := Nat.Coprime.dvd_of_dvd_mul_right hc hz
  have hpos : 1 ≤ a ^ (p - 1) := Nat.pow_pos (by rcases Nat.eq_zero_or_pos a with h | h; (subst h; simp at ha); exact h)
  obtain ⟨c, hc2⟩ := h2
  have : a ^ (p - 1) = 1 + p * c := by omega
  rw [this, Nat.add_mul_mod_self_left, Nat.mod_eq_of_lt h1]
end Go.Proofs.YtalclldccnichaaGreat
