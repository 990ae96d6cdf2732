/-
  The number Q of the group is prime: plain numbers, no program. By one large prime factor of n - 1 (Pocklington), from 95189 up.
-/
namespace Go.Proofs.YtalclldccnichaaGreat

/-- An injection of the numbers below q into those below p. -/
theorem pigeon : ∀ (p q : Nat) (f : Nat → Nat), (∀ i, i < q → f i < p) → (∀ i j, i < q → j < q → f i = f j → i = j) → q ≤ p := by
  intro p
  induction p with
  | zero =>
    intro q f h _
    cases q with
    | zero => exact Nat.le_refl _
    | succ q => exact absurd (h 0 (by omega)) (by omega)
  | succ p ih =>
    intro q f h hi
    cases q with
    | zero => omega
    | succ q =>
      by_cases hx : ∃ i, i < q + 1 ∧ f i = p
      · obtain ⟨i0, hi0, he⟩ := hx
        have := ih q (fun i => if i = i0 then f q else f i) (fun i hq => by
          split
          · rename_i e
            have h1 := h q (by omega)
            have h2 : f q ≠ p := fun e2 => by have := hi i0 q hi0 (by omega) (by rw [he, e2]); omega
            omega
          · rename_i e
            have h1 := h i (by omega)
            have h2 : f i ≠ p := fun e2 => by have := hi i0 i hi0 (by omega) (by rw [he, e2]); omega
            omega) (fun i j hq hq' he' => by
          split at he' <;> split at he'
          · omega
          · rename_i e1 e2
            have := hi q j (by omega) (by omega) he'
            omega
          · rename_i e1 e2
            have := hi i q (by omega) (by omega) he'
            omega
          · exact hi i j (by omega) (by omega) he')
        omega
      · have := ih (q + 1) f (fun i hq => by
          have h1 := h i hq
          have h2 : f i ≠ p := fun e => hx ⟨i, hq, e⟩
          omega) hi
        omega

def IsPrime (q : Nat) : Prop := 1 < q ∧ ∀ d, d ∣ q → d = 1 ∨ d = q

theorem IsPrime.coprime {q e : Nat} (h : IsPrime q) (h0 : 0 < e) (hlt : e < q) : Nat.gcd e q = 1 := by
  rcases h.2 _ (Nat.gcd_dvd_right e q) with h1 | h1
  · exact h1
  · have := Nat.le_of_dvd h0 (Nat.gcd_dvd_left e q)
    omega

/-- a^e modulo m, by squares. -/
def powF (m : Nat) : Nat → Nat → Nat → Nat → Nat
  | 0, out, _, _ => out
  | f + 1, out, x, e => if e = 0 then out else powF m f (if e % 2 = 1 then out * x % m else out) (x * x % m) (e / 2)
theorem mod_mul_mod (a b m : Nat) : a % m * (b % m) % m = a * b % m := by rw [← Nat.mul_mod]
theorem pow_mod_mod (x e m : Nat) : (x % m) ^ e % m = x ^ e % m := by rw [← Nat.pow_mod]
theorem powF_eq (m : Nat) : ∀ (f out x e : Nat), e < 2 ^ f → powF m f out x e % m = out * x ^ e % m := by
  intro f
  induction f with
  | zero =>
    intro out x e he
    have : e = 0 := by simpa using he
    subst this
    simp [powF]
  | succ f ih =>
    intro out x e he
    unfold powF
    split
    · rename_i h0; subst h0; simp
    · have he2 : e / 2 < 2 ^ f := by rw [Nat.pow_succ] at he; omega
      rw [ih _ _ _ he2]
      have hx : (x * x % m) ^ (e / 2) % m = x ^ (2 * (e / 2)) % m := by
        rw [pow_mod_mod, Nat.pow_mul, Nat.pow_two]
      split
      · rename_i h1
        rw [Nat.mul_mod, hx, Nat.mod_mod, ← Nat.mul_mod]
        have : e = 2 * (e / 2) + 1 := by omega
        conv => rhs; rw [this, Nat.pow_succ, Nat.mul_comm (x ^ (2 * (e / 2))) x, ← Nat.mul_assoc]
      · rename_i h1
        rw [Nat.mul_mod, hx, ← Nat.mul_mod]
        have : e = 2 * (e / 2) := by omega
        conv => rhs; rw [this]

/-- If a number b is not 1 modulo p, and its power with the prime q is, then its powers below q are different, and so q < p. -/
theorem order_lt {p q b : Nat} (hq : IsPrime q) (hp : 1 < p) (h1 : b ^ q % p = 1) (h2 : b % p ≠ 1) : q < p := by
  have hpos : ∀ i, i ≤ q → b ^ i % p ≠ 0 := fun i hi h0 => by
    have : b ^ q = b ^ i * b ^ (q - i) := by rw [← Nat.pow_add]; congr 1; omega
    rw [this, Nat.mul_mod, h0] at h1
    simp at h1
  -- a power that is 1, with an exponent between, makes b be 1
  have hone : ∀ e, 0 < e → e < q → b ^ e % p ≠ 1 := fun e h0 hlt he => by
    apply h2
    have hg := hq.coprime h0 hlt
    -- some u with u * e = 1 + v * q
    obtain ⟨u, v, huv⟩ : ∃ u v, u * e = 1 + v * q := by
      -- the numbers i * e mod q, for i < q, are different
      apply Classical.byContradiction
      intro hno
      have hne : ∀ i, i < q → i * e % q ≠ 1 := fun i hi h => hno ⟨i, i * e / q, by have := Nat.div_add_mod (i * e) q; rw [h, Nat.mul_comm q] at this; omega⟩
      have hinj : ∀ i j, i < q → j < q → i * e % q = j * e % q → i = j := by
        have key : ∀ i j, i ≤ j → j < q → i * e % q = j * e % q → i = j := fun i j hij hj h => by
          have hd : q ∣ (j - i) * e := by
            rw [Nat.sub_mul]
            exact Nat.dvd_of_mod_eq_zero (Nat.sub_mod_eq_zero_of_mod_eq h.symm)
          have hd2 : q ∣ j - i := Nat.Coprime.dvd_of_dvd_mul_right (by rw [Nat.Coprime, Nat.gcd_comm]; exact hg) hd
          rcases Nat.eq_zero_or_pos (j - i) with h3 | h3
          · omega
          · have := Nat.le_of_dvd h3 hd2; omega
        intro i j hi hj h
        rcases Nat.le_total i j with hij | hij
        · exact key i j hij hj h
        · exact (key j i hij hi h.symm).symm
      have hq1 := hq.1
      have := pigeon (q - 1) q (fun i => if i * e % q = 0 then 0 else i * e % q - 1) (fun i hi => by
        have := Nat.mod_lt (i * e) (show 0 < q by omega)
        have := hne i hi
        split <;> omega) (fun i j hi hj h => by
        have h5 := hne i hi
        have h6 := hne j hj
        apply hinj i j hi hj
        split at h <;> split at h <;> omega)
      omega
    have : b ^ (u * e) % p = 1 := by
      rw [Nat.mul_comm, Nat.pow_mul, Nat.pow_mod, he, Nat.one_pow, Nat.mod_eq_of_lt hp]
    rw [huv, Nat.pow_add, Nat.pow_one, Nat.mul_comm v q, Nat.pow_mul, Nat.mul_mod, Nat.pow_mod (b ^ q), h1, Nat.one_pow, Nat.mod_eq_of_lt hp, Nat.mul_one, Nat.mod_mod] at this
    exact this
  -- the powers below q are different
  have hinj : ∀ i j, i < q → j < q → b ^ i % p = b ^ j % p → i = j := by
    have key : ∀ i j, i ≤ j → j < q → b ^ i % p = b ^ j % p → i = j := fun i j hij hj h => by
      rcases Nat.eq_or_lt_of_le hij with h3 | h3
      · exact h3
      · exfalso
        apply hone (j - i) (by omega) (by omega)
        have e1 : b ^ i * b ^ (q - i) % p = 1 := by rw [← Nat.pow_add, show i + (q - i) = q by omega]; exact h1
        have e2 : b ^ (j - i) % p = b ^ (j - i) * (b ^ i * b ^ (q - i)) % p := by rw [Nat.mul_mod, e1, Nat.mul_one, Nat.mod_mod]
        rw [e2, ← Nat.mul_assoc, ← Nat.pow_add, show j - i + i = j by omega, Nat.mul_mod, ← h, ← Nat.mul_mod]
        exact e1
    intro i j hi hj h
    rcases Nat.le_total i j with hij | hij
    · exact key i j hij hj h
    · exact (key j i hij hi h.symm).symm
  have := pigeon (p - 1) q (fun i => b ^ i % p - 1) (fun i hi => by
    have := Nat.mod_lt (b ^ i) (show 0 < p by omega)
    have := hpos i (by omega)
    omega) (fun i j hi hj h => by
    have h5 := hpos i (by omega)
    have h6 := hpos j (by omega)
    apply hinj i j hi hj
    omega)
  omega

/-- A prime q with q * k = n - 1 and n < q * q, and a number whose power with k, less 1, has no common divisor with n. -/
theorem pocklington {n q k a : Nat} (hq : IsPrime q) (hk : q * k = n - 1) (hn : n < q * q) (h1 : powF n 64 1 a (n - 1) = 1) (h2 : Nat.gcd (powF n 64 1 a k + n - 1) n = 1) (hb : n - 1 < 2 ^ 64) (hbk : k < 2 ^ 64) (hn1 : 1 < n) : IsPrime n := by
  refine ⟨hn1, fun d hd => ?_⟩
  have small : ∀ p, p ∣ n → 1 < p → q < p := fun p hpn hp => by
    refine order_lt (b := a ^ k) hq hp ?_ ?_
    · rw [← Nat.pow_mul, Nat.mul_comm, hk]
      have e := powF_eq n 64 1 a (n - 1) hb
      rw [h1, Nat.one_mul, Nat.mod_eq_of_lt hn1] at e
      have : a ^ (n - 1) % p = a ^ (n - 1) % n % p := (Nat.mod_mod_of_dvd _ hpn).symm
      rw [this, ← e, Nat.mod_eq_of_lt hp]
    · intro h3
      have e := powF_eq n 64 1 a k hbk
      rw [Nat.one_mul] at e
      have e2 : powF n 64 1 a k % p = 1 := by
        rw [← Nat.mod_mod_of_dvd (powF n 64 1 a k) hpn, e, Nat.mod_mod_of_dvd _ hpn]; exact h3
      have hdv : p ∣ powF n 64 1 a k + n - 1 := by
        have hle : 1 ≤ powF n 64 1 a k := by
          rcases Nat.eq_zero_or_pos (powF n 64 1 a k) with h0 | h0
          · rw [h0] at e2; simp at e2
          · exact h0
        have h4 : p ∣ powF n 64 1 a k - 1 := by
          refine Nat.dvd_of_mod_eq_zero (Nat.sub_mod_eq_zero_of_mod_eq ?_)
          rw [e2, Nat.mod_eq_of_lt hp]
        have : powF n 64 1 a k + n - 1 = (powF n 64 1 a k - 1) + n := by omega
        rw [this]
        exact Nat.dvd_add h4 hpn
      have := Nat.dvd_gcd hdv hpn
      rw [h2] at this
      have := Nat.le_of_dvd (by omega) this
      omega
  -- a divisor between would have, with its partner, a product of at least q * q
  obtain ⟨c, hc⟩ := hd
  by_cases hd1 : 1 < d
  · by_cases hc1 : 1 < c
    · exfalso
      have h3 := small d ⟨c, hc⟩ hd1
      have h4 := small c ⟨d, by rw [Nat.mul_comm]; exact hc⟩ hc1
      have := Nat.mul_le_mul (Nat.le_of_lt h3) (Nat.le_of_lt h4)
      omega
    · right
      have : c = 1 := by
        rcases Nat.eq_zero_or_pos c with h0 | h0
        · rw [h0] at hc; omega
        · omega
      rw [this] at hc; omega
  · left
    rcases Nat.eq_zero_or_pos d with h0 | h0
    · rw [h0] at hc; omega
    · omega

def noDiv (n : Nat) : Nat → Bool
  | 0 => true
  | k + 1 => (decide (k < 2) || n % k != 0) && noDiv n k
theorem noDiv_spec (n : Nat) : ∀ k, noDiv n k = true → ∀ d, 2 ≤ d → d < k → n % d ≠ 0 := by
  intro k
  induction k with
  | zero => intro _ d _ h; omega
  | succ k ih =>
    intro h d h2 hlt
    simp only [noDiv, Bool.and_eq_true, Bool.or_eq_true, decide_eq_true_eq, bne_iff_ne] at h
    rcases Nat.lt_or_ge d k with h3 | h3
    · exact ih h.2 d h2 h3
    · have : d = k := by omega
      subst this
      rcases h.1 with h4 | h4
      · omega
      · exact h4
theorem prime_trial {n k : Nat} (hn : 1 < n) (h : noDiv n k = true) (hk : n < k * k) : IsPrime n := by
  refine ⟨hn, fun d hd => ?_⟩
  obtain ⟨c, hc⟩ := hd
  have nd := noDiv_spec n k h
  by_cases hd1 : 1 < d
  · by_cases hc1 : 1 < c
    · exfalso
      have h1 : k ≤ d := by
        rcases Nat.lt_or_ge d k with h | h
        · exact absurd (Nat.mod_eq_zero_of_dvd ⟨c, hc⟩) (nd d hd1 h)
        · exact h
      have h2 : k ≤ c := by
        rcases Nat.lt_or_ge c k with h | h
        · exact absurd (Nat.mod_eq_zero_of_dvd ⟨d, by rw [Nat.mul_comm]; exact hc⟩) (nd c hc1 h)
        · exact h
      have := Nat.mul_le_mul h1 h2
      omega
    · right
      have : c = 1 := by
        rcases Nat.eq_zero_or_pos c with h0 | h0
        · rw [h0] at hc; omega
        · omega
      rw [this] at hc; omega
  · left
    rcases Nat.eq_zero_or_pos d with h0 | h0
    · rw [h0] at hc; omega
    · omega

theorem prime0 : IsPrime 95189 := prime_trial (k := 309) (by decide) (by decide +kernel) (by decide)
theorem prime1 : IsPrime 2835870689 := pocklington (k := 29792) (a := 6) prime0 (by decide +kernel) (by decide +kernel) (by decide +kernel) (by decide +kernel) (by decide +kernel) (by decide +kernel) (by decide +kernel)
theorem prime2 : IsPrime 5671741379 := pocklington (k := 2) (a := 2) prime1 (by decide +kernel) (by decide +kernel) (by decide +kernel) (by decide +kernel) (by decide +kernel) (by decide +kernel) (by decide +kernel)
theorem prime3 : IsPrime 288230376151711447 := pocklington (k := 50818674) (a := 6) prime2 (by decide +kernel) (by decide +kernel) (by decide +kernel) (by decide +kernel) (by decide +kernel) (by decide +kernel) (by decide +kernel)
theorem primeQ : IsPrime 1152921504606845789 := pocklington (k := 4) (a := 2) prime3 (by decide +kernel) (by decide +kernel) (by decide +kernel) (by decide +kernel) (by decide +kernel) (by decide +kernel) (by decide +kernel)
theorem primeP : IsPrime 2305843009213691579 := pocklington (k := 2) (a := 2) primeQ (by decide +kernel) (by decide +kernel) (by decide +kernel) (by decide +kernel) (by decide +kernel) (by decide +kernel) (by decide +kernel)
end Go.Proofs.YtalclldccnichaaGreat
