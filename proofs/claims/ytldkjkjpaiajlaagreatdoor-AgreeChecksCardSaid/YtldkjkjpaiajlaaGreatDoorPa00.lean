/-
  Numbers modulo m, plainly: what the group's functions compute.
  The number Q of the group is prime: plain numbers, no program. By one large prime factor of n - 1 (Pocklington), from 95189 up.
  The factors of different points: by one inverse, and by many, are the same.
  Digits to the base 2^24, plainly.
  Interpolation at 0 modulo q, plainly: from the values of a polynomial at as many different points as it has coefficients, its first coefficient.
  Fermat's little theorem, by binomials; powers modulo m and in the group.
-/
namespace Go.Proofs.YtldkjkjpaiajlaaGreatDoor

theorem tmod_fix (a m : Int) (hm : 0 < m) : (if a.tmod m < 0 then a.tmod m + m else a.tmod m) = a % m := by
  have h := Int.tmod_eq_emod (a := a) (b := m)
  have h0 := Int.emod_nonneg a (show m ≠ 0 by omega)
  have h1 := Int.emod_lt_of_pos a hm
  by_cases hd : 0 ≤ a ∨ m ∣ a
  · rw [if_pos hd] at h
    rw [if_neg (by omega)]; omega
  · rw [if_neg hd] at h
    have : (m.natAbs : Int) = m := Int.natAbs_of_nonneg (by omega)
    rw [if_pos (by omega)]; omega

theorem mul_res (a b m : Int) : a * (b % m) % m = a * b % m := by rw [Int.mul_emod, Int.emod_emod_of_dvd _ (Int.dvd_refl m), ← Int.mul_emod]
theorem res_mul (a b m : Int) : a % m * b % m = a * b % m := by rw [Int.mul_comm, mul_res, Int.mul_comm]
theorem emod_self_lt (a m : Int) (hm : 0 < m) : 0 ≤ a % m ∧ a % m < m := ⟨Int.emod_nonneg a (by omega), Int.emod_lt_of_pos a hm⟩

/-- plus of two residues. -/
theorem plus_mod (x y m : Int) (hx : 0 ≤ x ∧ x < m) (hy : 0 ≤ y ∧ y < m) : (if m ≤ x + y then x + y - m else x + y) = (x + y) % m := by
  split
  · rename_i h
    have : (x + y) % m = (x + y - m) % m := by rw [Int.sub_emod_right]
    rw [this, Int.emod_eq_of_lt (by omega) (by omega)]
  · rw [Int.emod_eq_of_lt (by omega) (by omega)]

/-- a^n modulo m, by squares: out, x, n. -/
def powZ (m : Int) : Nat → Int → Int → Int → Int
  | 0, out, _, _ => out
  | f + 1, out, x, n => if n ≤ 0 then out else powZ m f (if n % 2 = 1 then out * x % m else out) (x * x % m) (n / 2)
theorem powZ_step (m : Int) (f : Nat) (out x n : Int) (h : 0 < n) : powZ m (f + 1) out x n = powZ m f (if n % 2 = 1 then out * x % m else out) (x * x % m) (n / 2) := by
  rw [powZ, if_neg (by omega)]
theorem powZ_zero (m : Int) (f : Nat) (out x n : Int) (h : n ≤ 0) : powZ m f out x n = out := by
  cases f with
  | zero => rfl
  | succ f => rw [powZ, if_pos h]
/-- A factor that is not reduced yet is as good. -/
theorem powZ_res (m : Int) (f : Nat) (out x n : Int) : powZ m f out (x % m) n = (if n ≤ 0 ∨ f = 0 then out else powZ m f out x n) := by
  cases f with
  | zero => simp [powZ]
  | succ f =>
    by_cases hn : n ≤ 0
    · rw [powZ_zero m _ _ _ _ hn, if_pos (.inl hn)]
    · rw [if_neg (by omega), powZ_step m f _ _ _ (by omega), powZ_step m f _ _ _ (by omega)]
      have e1 : out * (x % m) % m = out * x % m := mul_res _ _ _
      have e2 : x % m * (x % m) % m = x * x % m := by rw [← Int.mul_emod]
      rw [e1, e2]
def powM (a n m : Int) : Int := powZ m 64 (1 % m) (a % m) n

/-- Euclid's way: x, y, s, t. -/
def eg : Nat → Int → Int → Int → Int → Int × Int
  | 0, x, _, s, _ => (x, s)
  | f + 1, x, y, s, t => if y ≤ 0 then (x, s) else eg f y (x % y) t (s - x / y * t)
theorem eg_zero (f : Nat) (x y s t : Int) (h : y ≤ 0) : eg f x y s t = (x, s) := by
  cases f with
  | zero => rfl
  | succ f => rw [eg, if_pos h]
theorem eg_step (f : Nat) (x y s t : Int) (h : 0 < y) : eg (f + 1) x y s t = eg f y (x % y) t (s - x / y * t) := by rw [eg, if_neg (by omega)]
theorem prod_half (x y : Int) (hy : 0 < y) (hx : y ≤ x) : 2 * (y * (x % y)) ≤ x * y := by
  have h1 := Int.emod_nonneg x (show y ≠ 0 by omega)
  have h2 := Int.emod_lt_of_pos x hy
  have h3 := Int.mul_ediv_add_emod x y
  have h4 : 1 ≤ x / y := (Int.le_ediv_iff_mul_le hy).2 (by omega)
  have h5 : y ≤ y * (x / y) := by
    have := Int.mul_le_mul_of_nonneg_left h4 (show 0 ≤ y by omega)
    omega
  have h6 : 2 * (x % y) ≤ x := by omega
  have h7 := Int.mul_le_mul_of_nonneg_left h6 (show 0 ≤ y by omega)
  have h8 : y * (2 * (x % y)) = 2 * (y * (x % y)) := by rw [Int.mul_left_comm]
  have h9 : x * y = y * x := Int.mul_comm x y
  omega
theorem eg_more : ∀ (f : Nat) (x y s t : Int), 0 ≤ y → y ≤ x → x * y < 2 ^ f → eg (f + 1) x y s t = eg f x y s t := by
  intro f
  induction f with
  | zero =>
    intro x y s t hy hx h
    have : y ≤ 0 := by
      rcases Int.lt_or_le 0 y with h1 | h1
      · have : 1 * 1 ≤ x * y := Int.mul_le_mul (by omega) (by omega) (by omega) (by omega)
        simp at h; omega
      · exact h1
    rw [eg_zero _ _ _ _ _ this, eg_zero _ _ _ _ _ this]
  | succ f ih =>
    intro x y s t hy hx h
    by_cases h0 : y ≤ 0
    · rw [eg_zero _ _ _ _ _ h0, eg_zero _ _ _ _ _ h0]
    · rw [eg_step (f + 1) x y s t (by omega), eg_step f x y s t (by omega)]
      have h1 := emod_self_lt x y (by omega)
      have := prod_half x y (by omega) hx
      refine ih y (x % y) _ _ h1.1 (by omega) ?_
      have e : (2 : Int) ^ (f + 1) = 2 * 2 ^ f := by rw [Int.pow_succ, Int.mul_comm]
      omega
theorem eg_round (x y s t : Int) (hy : 0 < y) (hx : y ≤ x) (h : x * y < 2 ^ 129) : eg 130 x y s t = eg 130 y (x % y) t (s - x / y * t) ∧ y * (x % y) < 2 ^ 129 := by
  have h1 := emod_self_lt x y hy
  have h2 := prod_half x y hy hx
  have h3 : y * (x % y) < 2 ^ 129 := by
    have : 0 ≤ y * (x % y) := Int.mul_nonneg (by omega) h1.1
    omega
  refine ⟨?_, h3⟩
  rw [eg_step 129 x y s t hy]
  exact (eg_more 129 y (x % y) _ _ h1.1 (by omega) h3).symm
/-- The inverse modulo m, or 0. -/
def invM (a m : Int) : Int := if (eg 130 m (a % m) 0 1).1 = 1 then (eg 130 m (a % m) 0 1).2 % m else 0
end Go.Proofs.YtldkjkjpaiajlaaGreatDoor

namespace Go.Proofs.YtldkjkjpaiajlaaGreatDoor

/-- An injection of the numbers below q into those below p. -/
theorem pigeon : ∀ (p q : Nat) (f : Nat → Nat), (∀ i, i < q → f i < p) → (∀ i j, i < q → j < q → f i = f j → i = j) → q ≤ p := by
  intro p
  induction p with
  | zero =>
    intro q f h _
    cases q with
    | zero => exact Nat.le_refl _
    | succ q => exact absurd (h 0 (by omega)) (by omega)
  | succ p ih =>
    intro q f h hi
    cases q with
    | zero => omega
    | succ q =>
      by_cases hx : ∃ i, i < q + 1 ∧ f i = p
      · obtain ⟨i0, hi0, he⟩ := hx
        have := ih q (fun i => if i = i0 then f q else f i) (fun i hq => by
          split
          · rename_i e
            have h1 := h q (by omega)
            have h2 : f q ≠ p := fun e2 => by have := hi i0 q hi0 (by omega) (by rw [he, e2]); omega
            omega
          · rename_i e
            have h1 := h i (by omega)
            have h2 : f i ≠ p := fun e2 => by have := hi i0 i hi0 (by omega) (by rw [he, e2]); omega
            omega) (fun i j hq hq' he' => by
          split at he' <;> split at he'
          · omega
          · rename_i e1 e2
            have := hi q j (by omega) (by omega) he'
            omega
          · rename_i e1 e2
            have := hi i q (by omega) (by omega) he'
            omega
          · exact hi i j (by omega) (by omega) he')
        omega
      · have := ih (q + 1) f (fun i hq => by
          have h1 := h i hq
          have h2 : f i ≠ p := fun e => hx ⟨i, hq, e⟩
          omega) hi
        omega

def IsPrime (q : Nat) : Prop := 1 < q ∧ ∀ d, d ∣ q → d = 1 ∨ d = q

theorem IsPrime.coprime {q e : Nat} (h : IsPrime q) (h0 : 0 < e) (hlt : e < q) : Nat.gcd e q = 1 := by
  rcases h.2 _ (Nat.gcd_dvd_right e q) with h1 | h1
  · exact h1
  · have := Nat.le_of_dvd h0 (Nat.gcd_dvd_left e q)
    omega

/-- a^e modulo m, by squares. -/
def powF (m : Nat) : Nat → Nat → Nat → Nat → Nat
  | 0, out, _, _ => out
  | f + 1, out, x, e => if e = 0 then out else powF m f (if e % 2 = 1 then out * x % m else out) (x * x % m) (e / 2)
theorem pow_mod_mod (x e m : Nat) : (x % m) ^ e % m = x ^ e % m := by rw [← Nat.pow_mod]
theorem powF_eq (m : Nat) : ∀ (f out x e : Nat), e < 2 ^ f → powF m f out x e % m = out * x ^ e % m := by
  intro f
  induction f with
  | zero =>
    intro out x e he
    have : e = 0 := by simpa using he
    subst this
    simp [powF]
  | succ f ih =>
    intro out x e he
    unfold powF
    split
    · rename_i h0; subst h0; simp
    · have he2 : e / 2 < 2 ^ f := by rw [Nat.pow_succ] at he; omega
      rw [ih _ _ _ he2]
      have hx : (x * x % m) ^ (e / 2) % m = x ^ (2 * (e / 2)) % m := by
        rw [pow_mod_mod, Nat.pow_mul, Nat.pow_two]
      split
      · rename_i h1
        rw [Nat.mul_mod, hx, Nat.mod_mod, ← Nat.mul_mod]
        have : e = 2 * (e / 2) + 1 := by omega
        conv => rhs; rw [this, Nat.pow_succ, Nat.mul_comm (x ^ (2 * (e / 2))) x, ← Nat.mul_assoc]
      · rename_i h1
        rw [Nat.mul_mod, hx, ← Nat.mul_mod]
        have : e = 2 * (e / 2) := by omega
        conv => rhs; rw [this]

/-- If a number b is not 1 modulo p, and its power with the prime q is, then its powers below q are different, and so q < p. -/
theorem order_lt {p q b : Nat} (hq : IsPrime q) (hp : 1 < p) (h1 : b ^ q % p = 1) (h2 : b % p ≠ 1) : q < p := by
  have hpos : ∀ i, i ≤ q → b ^ i % p ≠ 0 := fun i hi h0 => by
    have : b ^ q = b ^ i * b ^ (q - i) := by rw [← Nat.pow_add]; congr 1; omega
    rw [this, Nat.mul_mod, h0] at h1
    simp at h1
  -- a power that is 1, with an exponent between, makes b be 1
  have hone : ∀ e, 0 < e → e < q → b ^ e % p ≠ 1 := fun e h0 hlt he => by
    apply h2
    have hg := hq.coprime h0 hlt
    -- some u with u * e = 1 + v * q
    obtain ⟨u, v, huv⟩ : ∃ u v, u * e = 1 + v * q := by
      -- the numbers i * e mod q, for i < q, are different
      apply Classical.byContradiction
      intro hno
      have hne : ∀ i, i < q → i * e % q ≠ 1 := fun i hi h => hno ⟨i, i * e / q, by have := Nat.div_add_mod (i * e) q; rw [h, Nat.mul_comm q] at this; omega⟩
      have hinj : ∀ i j, i < q → j < q → i * e % q = j * e % q → i = j := by
        have key : ∀ i j, i ≤ j → j < q → i * e % q = j * e % q → i = j := fun i j hij hj h => by
          have hd : q ∣ (j - i) * e := by
            rw [Nat.sub_mul]
            exact Nat.dvd_of_mod_eq_zero (Nat.sub_mod_eq_zero_of_mod_eq h.symm)
          have hd2 : q ∣ j - i := Nat.Coprime.dvd_of_dvd_mul_right (by rw [Nat.Coprime, Nat.gcd_comm]; exact hg) hd
          rcases Nat.eq_zero_or_pos (j - i) with h3 | h3
          · omega
          · have := Nat.le_of_dvd h3 hd2; omega
        intro i j hi hj h
        rcases Nat.le_total i j with hij | hij
        · exact key i j hij hj h
        · exact (key j i hij hi h.symm).symm
      have hq1 := hq.1
      have := pigeon (q - 1) q (fun i => if i * e % q = 0 then 0 else i * e % q - 1) (fun i hi => by
        have := Nat.mod_lt (i * e) (show 0 < q by omega)
        have := hne i hi
        split <;> omega) (fun i j hi hj h => by
        have h5 := hne i hi
        have h6 := hne j hj
        apply hinj i j hi hj
        split at h <;> split at h <;> omega)
      omega
    have : b ^ (u * e) % p = 1 := by
      rw [Nat.mul_comm, Nat.pow_mul, Nat.pow_mod, he, Nat.one_pow, Nat.mod_eq_of_lt hp]
    rw [huv, Nat.pow_add, Nat.pow_one, Nat.mul_comm v q, Nat.pow_mul, Nat.mul_mod, Nat.pow_mod (b ^ q), h1, Nat.one_pow, Nat.mod_eq_of_lt hp, Nat.mul_one, Nat.mod_mod] at this
    exact this
  -- the powers below q are different
  have hinj : ∀ i j, i < q → j < q → b ^ i % p = b ^ j % p → i = j := by
    have key : ∀ i j, i ≤ j → j < q → b ^ i % p = b ^ j % p → i = j := fun i j hij hj h => by
      rcases Nat.eq_or_lt_of_le hij with h3 | h3
      · exact h3
      · exfalso
        apply hone (j - i) (by omega) (by omega)
        have e1 : b ^ i * b ^ (q - i) % p = 1 := by rw [← Nat.pow_add, show i + (q - i) = q by omega]; exact h1
        have e2 : b ^ (j - i) % p = b ^ (j - i) * (b ^ i * b ^ (q - i)) % p := by rw [Nat.mul_mod, e1, Nat.mul_one, Nat.mod_mod]
        rw [e2, ← Nat.mul_assoc, ← Nat.pow_add, show j - i + i = j by omega, Nat.mul_mod, ← h, ← Nat.mul_mod]
        exact e1
    intro i j hi hj h
    rcases Nat.le_total i j with hij | hij
    · exact key i j hij hj h
    · exact (key j i hij hi h.symm).symm
  have := pigeon (p - 1) q (fun i => b ^ i % p - 1) (fun i hi => by
    have := Nat.mod_lt (b ^ i) (show 0 < p by omega)
    have := hpos i (by omega)
    omega) (fun i j hi hj h => by
    have h5 := hpos i (by omega)
    have h6 := hpos j (by omega)
    apply hinj i j hi hj
    omega)
  omega

/-- A prime q with q * k = n - 1 and n < q * q, and a number whose power with k, less 1, has no common divisor with n. -/
theorem pocklington {n q k a : Nat} (hq : IsPrime q) (hk : q * k = n - 1) (hn : n < q * q) (h1 : powF n 64 1 a (n - 1) = 1) (h2 : Nat.gcd (powF n 64 1 a k + n - 1) n = 1) (hb : n - 1 < 2 ^ 64) (hbk : k < 2 ^ 64) (hn1 : 1 < n) : IsPrime n := by
  refine ⟨hn1, fun d hd => ?_⟩
  have small : ∀ p, p ∣ n → 1 < p → q < p := fun p hpn hp => by
    refine order_lt (b := a ^ k) hq hp ?_ ?_
    · rw [← Nat.pow_mul, Nat.mul_comm, hk]
      have e := powF_eq n 64 1 a (n - 1) hb
      rw [h1, Nat.one_mul, Nat.mod_eq_of_lt hn1] at e
      have : a ^ (n - 1) % p = a ^ (n - 1) % n % p := (Nat.mod_mod_of_dvd _ hpn).symm
      rw [this, ← e, Nat.mod_eq_of_lt hp]
    · intro h3
      have e := powF_eq n 64 1 a k hbk
      rw [Nat.one_mul] at e
      have e2 : powF n 64 1 a k % p = 1 := by
        rw [← Nat.mod_mod_of_dvd (powF n 64 1 a k) hpn, e, Nat.mod_mod_of_dvd _ hpn]; exact h3
      have hdv : p ∣ powF n 64 1 a k + n - 1 := by
        have hle : 1 ≤ powF n 64 1 a k := by
          rcases Nat.eq_zero_or_pos (powF n 64 1 a k) with h0 | h0
          · rw [h0] at e2; simp at e2
          · exact h0
        have h4 : p ∣ powF n 64 1 a k - 1 := by
          refine Nat.dvd_of_mod_eq_zero (Nat.sub_mod_eq_zero_of_mod_eq ?_)
          rw [e2, Nat.mod_eq_of_lt hp]
        have : powF n 64 1 a k + n - 1 = (powF n 64 1 a k - 1) + n := by omega
        rw [this]
        exact Nat.dvd_add h4 hpn
      have := Nat.dvd_gcd hdv hpn
      rw [h2] at this
      have := Nat.le_of_dvd (by omega) this
      omega
  -- a divisor between would have, with its partner, a product of at least q * q
  obtain ⟨c, hc⟩ := hd
  by_cases hd1 : 1 < d
  · by_cases hc1 : 1 < c
    · exfalso
      have h3 := small d ⟨c, hc⟩ hd1
      have h4 := small c ⟨d, by rw [Nat.mul_comm]; exact hc⟩ hc1
      have := Nat.mul_le_mul (Nat.le_of_lt h3) (Nat.le_of_lt h4)
      omega
    · right
      have : c = 1 := by
        rcases Nat.eq_zero_or_pos c with h0 | h0
        · rw [h0] at hc; omega
        · omega
      rw [this] at hc; omega
  · left
    rcases Nat.eq_zero_or_pos d with h0 | h0
    · rw [h0] at hc; omega
    · omega

def noDiv (n : Nat) : Nat → Bool
  | 0 => true
  | k + 1 => (decide (k < 2) || n % k != 0) && noDiv n k
theorem noDiv_spec (n : Nat) : ∀ k, noDiv n k = true → ∀ d, 2 ≤ d → d < k → n % d ≠ 0 := by
  intro k
  induction k with
  | zero => intro _ d _ h; omega
  | succ k ih =>
    intro h d h2 hlt
    simp only [noDiv, Bool.and_eq_true, Bool.or_eq_true, decide_eq_true_eq, bne_iff_ne] at h
    rcases Nat.lt_or_ge d k with h3 | h3
    · exact ih h.2 d h2 h3
    · have : d = k := by omega
      subst this
      rcases h.1 with h4 | h4
      · omega
      · exact h4
theorem prime_trial {n k : Nat} (hn : 1 < n) (h : noDiv n k = true) (hk : n < k * k) : IsPrime n := by
  refine ⟨hn, fun d hd => ?_⟩
  obtain ⟨c, hc⟩ := hd
  have nd := noDiv_spec n k h
  by_cases hd1 : 1 < d
  · by_cases hc1 : 1 < c
    · exfalso
      have h1 : k ≤ d := by
        rcases Nat.lt_or_ge d k with h | h
        · exact absurd (Nat.mod_eq_zero_of_dvd ⟨c, hc⟩) (nd d hd1 h)
        · exact h
      have h2 : k ≤ c := by
        rcases Nat.lt_or_ge c k with h | h
        · exact absurd (Nat.mod_eq_zero_of_dvd ⟨d, by rw [Nat.mul_comm]; exact hc⟩) (nd c hc1 h)
        · exact h
      have := Nat.mul_le_mul h1 h2
      omega
    · right
      have : c = 1 := by
        rcases Nat.eq_zero_or_pos c with h0 | h0
        · rw [h0] at hc; omega
        · omega
      rw [this] at hc; omega
  · left
    rcases Nat.eq_zero_or_pos d with h0 | h0
    · rw [h0] at hc; omega
    · omega

theorem prime0 : IsPrime 95189 := prime_trial (k := 309) (by decide) (by decide +kernel) (by decide)
theorem prime1 : IsPrime 2835870689 := pocklington (k := 29792) (a := 6) prime0 (by decide +kernel) (by decide +kernel) (by decide +kernel) (by decide +kernel) (by decide +kernel) (by decide +kernel) (by decide +kernel)
theorem prime2 : IsPrime 5671741379 := pocklington (k := 2) (a := 2) prime1 (by decide +kernel) (by decide +kernel) (by decide +kernel) (by decide +kernel) (by decide +kernel) (by decide +kernel) (by decide +kernel)
theorem prime3 : IsPrime 288230376151711447 := pocklington (k := 50818674) (a := 6) prime2 (by decide +kernel) (by decide +kernel) (by decide +kernel) (by decide +kernel) (by decide +kernel) (by decide +kernel) (by decide +kernel)
theorem primeQ : IsPrime 1152921504606845789 := pocklington (k := 4) (a := 2) prime3 (by decide +kernel) (by decide +kernel) (by decide +kernel) (by decide +kernel) (by decide +kernel) (by decide +kernel) (by decide +kernel)
theorem primeP : IsPrime 2305843009213691579 := pocklington (k := 2) (a := 2) primeQ (by decide +kernel) (by decide +kernel) (by decide +kernel) (by decide +kernel) (by decide +kernel) (by decide +kernel) (by decide +kernel)
end Go.Proofs.YtldkjkjpaiajlaaGreatDoor

namespace Go.Proofs.YtldkjkjpaiajlaaGreatDoor

def gQ : Int := 1152921504606845789
def gP : Int := 2305843009213691579
/-- The points that come. -/
def ptAt (l : List Int) (j : Nat) : Int := l.getD j 0
def aboveTo (l : List Int) (i : Nat) : Nat → Int
  | 0 => 1
  | j + 1 => if j = i then aboveTo l i j else aboveTo l i j * ptAt l j % gQ
def belowTo (l : List Int) (i : Nat) : Nat → Int
  | 0 => 1
  | j + 1 => if j = i then belowTo l i j else belowTo l i j * ((ptAt l j - ptAt l i) % gQ) % gQ
def facP (l : List Int) (i : Nat) : Int := aboveTo l i l.length * invM (belowTo l i l.length) gQ % gQ
structure Points (l : List Int) : Prop where
  bd : ∀ j, j < l.length → 1 ≤ ptAt l j ∧ ptAt l j < gQ
  ne : ∀ j k, j < l.length → k < l.length → j ≠ k → ptAt l j ≠ ptAt l k

end Go.Proofs.YtldkjkjpaiajlaaGreatDoor

namespace Go.Proofs.YtldkjkjpaiajlaaGreatDoor

/-- The digits of a number, the least one first, the last one not 0. -/
def dgL (n : Nat) : List Int := if _h : n = 0 then [] else ((n % 16777216 : Nat) : Int) :: dgL (n / 16777216)
termination_by n
decreasing_by omega
theorem dgL_zero : dgL 0 = [] := by rw [dgL]; simp
theorem dgL_pos {n : Nat} (h : n ≠ 0) : dgL n = ((n % 16777216 : Nat) : Int) :: dgL (n / 16777216) := by rw [dgL, dif_neg h]
/-- The number of digits. -/
def dval : List Int → Nat
  | [] => 0
  | x :: t => x.toNat + 16777216 * dval t
def Digs (l : List Int) : Prop := ∀ x ∈ l, 0 ≤ x ∧ x < 16777216
theorem dval_dgL (n : Nat) : dval (dgL n) = n := by
  induction n using Nat.strongRecOn with
  | _ n ih =>
    by_cases h : n = 0
    · rw [h, dgL_zero]; rfl
    · rw [dgL_pos h, dval, ih (n / 16777216) (by omega), Int.toNat_natCast]; omega
theorem digs_dgL (n : Nat) : Digs (dgL n) := by
  induction n using Nat.strongRecOn with
  | _ n ih =>
    by_cases h : n = 0
    · rw [h, dgL_zero]; intro x hx; simp at hx
    · rw [dgL_pos h]
      intro x hx
      simp only [List.mem_cons] at hx
      rcases hx with rfl | hx
      · omega
      · exact ih (n / 16777216) (by omega) x hx
theorem dgL_len {k : Nat} : ∀ {n : Nat}, n < 16777216 ^ k → (dgL n).length ≤ k := by
  induction k with
  | zero => intro n h; have : n = 0 := by simp at h; exact h
            rw [this, dgL_zero]; simp
  | succ k ih =>
    intro n h
    by_cases h0 : n = 0
    · rw [h0, dgL_zero]; simp
    · rw [dgL_pos h0]
      have : n / 16777216 < 16777216 ^ k := by rw [Nat.pow_succ] at h; exact Nat.div_lt_of_lt_mul (by rw [Nat.mul_comm]; exact h)
      have := ih this
      simp; omega
theorem dval_append (a b : List Int) : dval (a ++ b) = dval a + 16777216 ^ a.length * dval b := by
  induction a with
  | nil => simp [dval]
  | cons x t ih => simp only [List.cons_append, dval, ih, List.length_cons, Nat.pow_succ]; grind
theorem dval_snoc (a : List Int) (x : Int) : dval (a ++ [x]) = dval a + 16777216 ^ a.length * x.toNat := by rw [dval_append]; simp [dval]
theorem dval_lt : ∀ (l : List Int), Digs l → dval l < 16777216 ^ l.length
  | [], _ => by simp [dval]
  | x :: t, h => by
    have h1 := h x (by simp)
    have h2 := dval_lt t (fun y hy => h y (by simp [hy]))
    rw [dval, List.length_cons, Nat.pow_succ]
    omega
theorem digs_snoc {l : List Int} {x : Int} (h : Digs l) (h0 : 0 ≤ x) (h1 : x < 16777216) : Digs (l ++ [x]) := by
  intro y hy
  rw [List.mem_append] at hy
  rcases hy with hy | hy
  · exact h y hy
  · simp at hy; subst hy; exact ⟨h0, h1⟩
/-- Digits whose last one is not 0 are those of their number. -/
theorem dgL_of : ∀ (l : List Int), Digs l → (∀ h : l ≠ [], l.getLast h ≠ 0) → l = dgL (dval l)
  | [], _, _ => by rw [dval, dgL_zero]
  | x :: t, h, hl => by
    have h1 := h x (by simp)
    by_cases ht : t = []
    · subst ht
      have h2 := hl (by simp)
      simp at h2
      rw [dval, dval, dgL_pos (by omega), show (x.toNat + 16777216 * 0) / 16777216 = 0 by omega, dgL_zero, show (x.toNat + 16777216 * 0) % 16777216 = x.toNat by omega, Int.toNat_of_nonneg h1.1]
    · have h2 := dgL_of t (fun y hy => h y (by simp [hy])) (fun h' => by have := hl (by simp); rwa [List.getLast_cons h'] at this)
      have h3 : dval t ≠ 0 := by
        intro h0
        rw [h0, dgL_zero] at h2
        exact ht h2
      rw [dval, dgL_pos (by omega), show (x.toNat + 16777216 * dval t) / 16777216 = dval t by omega, ← h2, show (x.toNat + 16777216 * dval t) % 16777216 = x.toNat by omega, Int.toNat_of_nonneg h1.1]
theorem dgL_last (n : Nat) (h : dgL n ≠ []) : (dgL n).getLast h ≠ 0 := by
  induction n using Nat.strongRecOn with
  | _ n ih =>
    by_cases h0 : n = 0
    · subst h0; exact absurd dgL_zero h
    · by_cases h1 : n / 16777216 = 0
      · have e : dgL n = [((n % 16777216 : Nat) : Int)] := by rw [dgL_pos h0, h1, dgL_zero]
        simp only [e]
        simp
        omega
      · have h2 : dgL (n / 16777216) ≠ [] := by rw [dgL_pos h1]; simp
        have e : dgL n = ((n % 16777216 : Nat) : Int) :: dgL (n / 16777216) := dgL_pos h0
        simp only [e, List.getLast_cons h2]
        exact ih (n / 16777216) (by omega) h2
theorem dval_take (l : List Int) (k : Nat) (h : k ≤ l.length) (hz : ∀ j, k ≤ j → j < l.length → ptAt l j = 0) : dval (l.take k) = dval l := by
  have e : l = l.take k ++ l.drop k := (List.take_append_drop k l).symm
  have h0 : dval (l.drop k) = 0 := by
    have : ∀ (m : List Int), (∀ j, j < m.length → ptAt m j = 0) → dval m = 0 := by
      intro m
      induction m with
      | nil => intro _; rfl
      | cons x t ih =>
        intro hm
        have h1 := hm 0 (by simp)
        have h2 := ih (fun j hj => by have := hm (j + 1) (by simp; omega); simpa [ptAt] using this)
        simp [ptAt] at h1
        rw [dval, h2, h1]; rfl
    refine this _ (fun j hj => ?_)
    rw [List.length_drop] at hj
    have := hz (k + j) (by omega) (by omega)
    unfold ptAt at this ⊢
    rw [List.getD_eq_getElem?_getD, List.getElem?_drop]
    rw [List.getD_eq_getElem?_getD] at this
    exact this
  conv => rhs; rw [e, dval_append, h0, Nat.mul_zero, Nat.add_zero]
theorem digs_take {l : List Int} (h : Digs l) (k : Nat) : Digs (l.take k) := fun x hx => h x (List.mem_of_mem_take hx)
theorem digs_at {l : List Int} (h : Digs l) (j : Nat) : 0 ≤ ptAt l j ∧ ptAt l j < 16777216 := by
  unfold ptAt
  by_cases hj : j < l.length
  · simp only [List.getD, List.getElem?_eq_getElem hj, Option.getD_some]
    exact h _ (List.getElem_mem hj)
  · simp only [List.getD, List.getElem?_eq_none (by omega : l.length ≤ j), Option.getD_none]
    decide
theorem dval_parts (l : List Int) (k : Nat) (h : k < l.length) : dval l = dval (l.take k) + 16777216 ^ k * ((ptAt l k).toNat + 16777216 * dval (l.drop (k + 1))) := by
  have e : l = l.take k ++ (ptAt l k :: l.drop (k + 1)) := by
    have : l.drop k = ptAt l k :: l.drop (k + 1) := by
      rw [List.drop_eq_getElem_cons h]; simp [ptAt, List.getD, h]
    rw [← this, List.take_append_drop]
  conv => lhs; rw [e, dval_append, List.length_take, Nat.min_eq_left (by omega), dval]
theorem dval_less {xs ys : List Int} {k : Nat} (hl : xs.length = ys.length) (hk : k < xs.length) (hx : Digs xs) (hy : Digs ys) (h : ∀ j, k < j → j < xs.length → ptAt xs j = ptAt ys j) (hlt : ptAt xs k < ptAt ys k) : dval xs < dval ys := by
  rw [dval_parts xs k hk, dval_parts ys k (by omega)]
  have e : xs.drop (k + 1) = ys.drop (k + 1) := by
    apply List.ext_getElem
    · rw [List.length_drop, List.length_drop, hl]
    · intro j h1 h2
      rw [List.length_drop] at h1
      have := h (k + 1 + j) (by omega) (by omega)
      simp only [List.getElem_drop]
      simpa [ptAt, List.getD, show k + 1 + j < xs.length by omega, show k + 1 + j < ys.length by omega] using this
  have h1 := dval_lt (xs.take k) (digs_take hx k)
  rw [List.length_take, Nat.min_eq_left (by omega)] at h1
  rw [e]
  have h2 := (digs_at hx k).1
  have h3 := (digs_at hy k).1
  have h4 : (ptAt xs k).toNat + 1 ≤ (ptAt ys k).toNat := by omega
  generalize dval (ys.drop (k + 1)) = D at *
  generalize (ptAt xs k).toNat = p at *
  generalize (ptAt ys k).toNat = q at *
  generalize 16777216 ^ k = P at *
  have h5 : P * (p + 16777216 * D) + P ≤ P * (q + 16777216 * D) := by
    have : P * (p + 16777216 * D) + P = P * ((p + 1) + 16777216 * D) := by grind
    rw [this]
    exact Nat.mul_le_mul_left _ (by omega)
  omega
theorem dgL_shorter {a b : Nat} (h : (dgL a).length < (dgL b).length) : a < b := by
  rcases Nat.lt_or_ge a b with h1 | h1
  · exact h1
  · exfalso
    have h2 := dval_lt (dgL a) (digs_dgL a)
    rw [dval_dgL] at h2
    have hne : dgL b ≠ [] := by intro e; rw [e] at h; simp at h
    have hk : (dgL b).length - 1 < (dgL b).length := by omega
    have h3 := dval_parts (dgL b) ((dgL b).length - 1) hk
    have h4 := dgL_last b hne
    rw [List.getLast_eq_getElem] at h4
    have h5 : ptAt (dgL b) ((dgL b).length - 1) ≠ 0 := by
      simpa [ptAt, List.getD, hk] using h4
    have h6 := (digs_at (digs_dgL b) ((dgL b).length - 1)).1
    rw [dval_dgL] at h3
    have h7 : 16777216 ^ (dgL a).length ≤ 16777216 ^ ((dgL b).length - 1) := Nat.pow_le_pow_right (by decide) (by omega)
    have h8 : 1 ≤ (ptAt (dgL b) ((dgL b).length - 1)).toNat := by omega
    have h9 : 16777216 ^ ((dgL b).length - 1) * 1 ≤ 16777216 ^ ((dgL b).length - 1) * ((ptAt (dgL b) ((dgL b).length - 1)).toNat + 16777216 * dval ((dgL b).drop ((dgL b).length - 1 + 1))) := Nat.mul_le_mul_left _ (by omega)
    omega
theorem dgL_same {a b : Nat} (hl : (dgL a).length = (dgL b).length) (h : ∀ j, j < (dgL a).length → ptAt (dgL a) j = ptAt (dgL b) j) : a = b := by
  have : dgL a = dgL b := by
    apply List.ext_getElem hl
    intro j h1 h2
    have := h j h1
    simpa [ptAt, List.getD, h1, h2] using this
  rw [← dval_dgL a, this, dval_dgL]
end Go.Proofs.YtldkjkjpaiajlaaGreatDoor

namespace Go.Proofs.YtldkjkjpaiajlaaGreatDoor

/-- Alike modulo q. -/
def Cong (q a b : Int) : Prop := ∃ k, a - b = q * k
theorem Cong.refl (q a : Int) : Cong q a a := ⟨0, by omega⟩
theorem Cong.of_eq {q a b : Int} (h : a = b) : Cong q a b := ⟨0, by omega⟩
theorem Cong.symm {q a b : Int} (h : Cong q a b) : Cong q b a := by obtain ⟨k, h⟩ := h; exact ⟨-k, by grind⟩
theorem Cong.trans {q a b c : Int} (h : Cong q a b) (h2 : Cong q b c) : Cong q a c := by
  obtain ⟨k, h⟩ := h; obtain ⟨k2, h2⟩ := h2; exact ⟨k + k2, by grind⟩
theorem Cong.add {q a b c d : Int} (h : Cong q a b) (h2 : Cong q c d) : Cong q (a + c) (b + d) := by
  obtain ⟨k, h⟩ := h; obtain ⟨k2, h2⟩ := h2; exact ⟨k + k2, by grind⟩
theorem Cong.sub {q a b c d : Int} (h : Cong q a b) (h2 : Cong q c d) : Cong q (a - c) (b - d) := by
  obtain ⟨k, h⟩ := h; obtain ⟨k2, h2⟩ := h2; exact ⟨k - k2, by grind⟩
theorem Cong.mul {q a b c d : Int} (h : Cong q a b) (h2 : Cong q c d) : Cong q (a * c) (b * d) := by
  obtain ⟨k, h⟩ := h; obtain ⟨k2, h2⟩ := h2; exact ⟨k * c + b * k2, by grind⟩
theorem Cong.mod (q a : Int) : Cong q (a % q) a := ⟨-(a / q), by have := Int.mul_ediv_add_emod a q; grind⟩
theorem Cong.emod {q a b : Int} (h : Cong q a b) : a % q = b % q := by
  obtain ⟨k, h⟩ := h
  have : a = b + q * k := by omega
  rw [this, Int.add_mul_emod_self_left]
theorem Cong.of_emod {q a b : Int} (h : a % q = b % q) : Cong q a b := (Cong.mod q a).symm.trans ((Cong.of_eq h).trans (Cong.mod q b))
theorem Cong.eq {q a b : Int} (h : Cong q a b) (ha : 0 ≤ a) (ha2 : a < q) (hb : 0 ≤ b) (hb2 : b < q) : a = b := by
  have := h.emod
  rwa [Int.emod_eq_of_lt ha ha2, Int.emod_eq_of_lt hb hb2] at this

section
variable (q : Int) (iv : Int → Int)
/-- Different, with inverses of their differences. -/
structure Apart (zs : List Int) : Prop where
  nd : zs.Nodup
  inv : ∀ x ∈ zs, ∀ y ∈ zs, x ≠ y → Cong q ((y - x) * iv (y - x)) 1
theorem Apart.tail {a : Int} {t : List Int} (h : Apart q iv (a :: t)) : Apart q iv t :=
  ⟨(List.nodup_cons.1 h.nd).2, fun x hx y hy e => h.inv x (by simp [hx]) y (by simp [hy]) e⟩
end
end Go.Proofs.YtldkjkjpaiajlaaGreatDoor

namespace Go.Proofs.YtldkjkjpaiajlaaGreatDoor

def ch : Nat → Nat → Nat
  | _, 0 => 1
  | 0, _ + 1 => 0
  | n + 1, k + 1 => ch n k + ch n (k + 1)
theorem ch_zero (n : Nat) : ch n 0 = 1 := by cases n <;> rfl
theorem ch_big : ∀ (n k : Nat), n < k → ch n k = 0
  | 0, k + 1, _ => rfl
  | n + 1, k + 1, h => by rw [ch, ch_big n k (by omega), ch_big n (k + 1) (by omega)]
theorem ch_self : ∀ n, ch n n = 1
  | 0 => rfl
  | n + 1 => by rw [ch, ch_self n, ch_big n (n + 1) (by omega)]
theorem ch_mul : ∀ (n k : Nat), (k + 1) * ch (n + 1) (k + 1) = (n + 1) * ch n k
  | 0, 0 => rfl
  | 0, k + 1 => by simp [ch]
  | n + 1, 0 => by
    have h := ch_mul n 0
    have e : ch (n + 1 + 1) (0 + 1) = ch (n + 1) 0 + ch (n + 1) (0 + 1) := rfl
    rw [e, ch_zero]
    rw [ch_zero] at h
    omega
  | n + 1, k + 1 => by
    have h1 := ch_mul n k
    have h2 := ch_mul n (k + 1)
    have e1 : ch (n + 1 + 1) (k + 1 + 1) = ch (n + 1) (k + 1) + ch (n + 1) (k + 1 + 1) := rfl
    have e2 : ch (n + 1) (k + 1) = ch n k + ch n (k + 1) := rfl
    rw [e1]
    generalize ch (n + 1) (k + 1 + 1) = A at *
    generalize hB : ch (n + 1) (k + 1) = B at *
    generalize ch n k = C at *
    generalize ch n (k + 1) = D at *
    grind
def bs (n x : Nat) : Nat → Nat
  | 0 => 0
  | m + 1 => bs n x m + ch n m * x ^ m
theorem bs_step (n x : Nat) : ∀ m, bs (n + 1) x (m + 1) = bs n x (m + 1) + x * bs n x m
  | 0 => by simp [bs, ch_zero]
  | m + 1 => by
    rw [bs, bs_step n x m]
    have e : ch (n + 1) (m + 1) = ch n m + ch n (m + 1) := rfl
    have e2 : bs n x (m + 1 + 1) = bs n x (m + 1) + ch n (m + 1) * x ^ (m + 1) := rfl
    have e3 : bs n x (m + 1) = bs n x m + ch n m * x ^ m := rfl
    rw [e, e2, Nat.pow_succ]
    conv => rhs; rw [e3]
    conv => lhs; rw [e3]
    grind
theorem binom (x : Nat) : ∀ n, (x + 1) ^ n = bs n x (n + 1)
  | 0 => by simp [bs, ch]
  | n + 1 => by
    rw [Nat.pow_succ, binom x n, bs_step n x (n + 1)]
    have : bs n x (n + 1 + 1) = bs n x (n + 1) + ch n (n + 1) * x ^ (n + 1) := rfl
    rw [this, ch_big n (n + 1) (by omega)]
    grind
theorem prime_ch {p k : Nat} (hp : IsPrime p) (h0 : 0 < k) (h1 : k < p) : p ∣ ch p k := by
  obtain ⟨j, rfl⟩ : ∃ j, k = j + 1 := ⟨k - 1, by omega⟩
  obtain ⟨m, rfl⟩ : ∃ m, p = m + 1 := ⟨p - 1, by omega⟩
  have h := ch_mul m j
  have hd : (m + 1) ∣ (j + 1) * ch (m + 1) (j + 1) := ⟨_, h⟩
  exact Nat.Coprime.dvd_of_dvd_mul_left (Nat.coprime_comm.1 (hp.coprime h0 h1)) hd
theorem bs_prime {p x : Nat} (hp : IsPrime p) : ∀ m, 1 ≤ m → m ≤ p → bs p x m % p = 1 % p
  | 1, _, _ => by simp [bs, ch_zero]
  | m + 2, _, h => by
    rw [bs, Nat.add_mod, bs_prime hp (m + 1) (by omega) (by omega)]
    obtain ⟨c, hc⟩ := prime_ch hp (show 0 < m + 1 by omega) (by omega)
    rw [hc, Nat.mul_assoc, Nat.mul_mod_right]
    simp
theorem fermat_all {p : Nat} (hp : IsPrime p) : ∀ x, x ^ p % p = x % p
  | 0 => by have := hp.1; rw [Nat.zero_pow (by omega)]
  | x + 1 => by
    rw [binom, bs, ch_self, Nat.one_mul, Nat.add_mod, bs_prime hp p (by have := hp.1; omega) (Nat.le_refl _), fermat_all hp x, ← Nat.add_mod, Nat.add_comm]
theorem fermat {p a : Nat} (hp : IsPrime p) (ha : a % p ≠ 0) : a ^ (p - 1) % p = 1 := by
  have h1 := hp.1
  have hc : Nat.gcd p a = 1 := by
    rw [Nat.gcd_rec]
    exact hp.coprime (by omega) (Nat.mod_lt _ (by omega))
  have h := fermat_all hp a
  have hz : p ∣ (a ^ (p - 1) - 1) * a := by
    have hle : a ≤ a ^ p := by
      have : a ^ 1 ≤ a ^ p := Nat.pow_le_pow_right (by rcases Nat.eq_zero_or_pos a with h | h; (subst h; simp at ha); exact h) (by omega)
      simpa using this
    have e : (a ^ (p - 1) - 1) * a = a ^ p - a := by
      rw [Nat.sub_mul, Nat.one_mul, ← Nat.pow_succ]
      congr 2; omega
    rw [e]
    exact Nat.dvd_of_mod_eq_zero (Nat.sub_mod_eq_zero_of_mod_eq h)
  have h2 := Nat.Coprime.dvd_of_dvd_mul_right hc hz
  have hpos : 1 ≤ a ^ (p - 1) := Nat.pow_pos (by rcases Nat.eq_zero_or_pos a with h | h; (subst h; simp at ha); exact h)
  obtain ⟨c, hc2⟩ := h2
  have : a ^ (p - 1) = 1 + p * c := by omega
  rw [this, Nat.add_mul_mod_self_left, Nat.mod_eq_of_lt h1]
end Go.Proofs.YtldkjkjpaiajlaaGreatDoor
