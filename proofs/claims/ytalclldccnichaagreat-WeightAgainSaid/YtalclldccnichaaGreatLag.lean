/-
  Interpolation at 0 modulo q, plainly: from the values of a polynomial at as many different points as it has coefficients, its first coefficient.
-/
namespace Go.Proofs.YtalclldccnichaaGreat

/-- Alike modulo q. -/
def Cong (q a b : Int) : Prop := ∃ k, a - b = q * k
theorem Cong.refl (q a : Int) : Cong q a a := ⟨0, by omega⟩
theorem Cong.of_eq {q a b : Int} (h : a = b) : Cong q a b := ⟨0, by omega⟩
theorem Cong.symm {q a b : Int} (h : Cong q a b) : Cong q b a := by obtain ⟨k, h⟩ := h; exact ⟨-k, by grind⟩
theorem Cong.trans {q a b c : Int} (h : Cong q a b) (h2 : Cong q b c) : Cong q a c := by
  obtain ⟨k, h⟩ := h; obtain ⟨k2, h2⟩ := h2; exact ⟨k + k2, by grind⟩
theorem Cong.add {q a b c d : Int} (h : Cong q a b) (h2 : Cong q c d) : Cong q (a + c) (b + d) := by
  obtain ⟨k, h⟩ := h; obtain ⟨k2, h2⟩ := h2; exact ⟨k + k2, by grind⟩
theorem Cong.sub {q a b c d : Int} (h : Cong q a b) (h2 : Cong q c d) : Cong q (a - c) (b - d) := by
  obtain ⟨k, h⟩ := h; obtain ⟨k2, h2⟩ := h2; exact ⟨k - k2, by grind⟩
theorem Cong.mul {q a b c d : Int} (h : Cong q a b) (h2 : Cong q c d) : Cong q (a * c) (b * d) := by
  obtain ⟨k, h⟩ := h; obtain ⟨k2, h2⟩ := h2; exact ⟨k * c + b * k2, by grind⟩
theorem Cong.mod (q a : Int) : Cong q (a % q) a := ⟨-(a / q), by have := Int.mul_ediv_add_emod a q; grind⟩
theorem Cong.emod {q a b : Int} (h : Cong q a b) : a % q = b % q := by
  obtain ⟨k, h⟩ := h
  have : a = b + q * k := by omega
  rw [this, Int.add_mul_emod_self_left]
theorem Cong.of_emod {q a b : Int} (h : a % q = b % q) : Cong q a b := (Cong.mod q a).symm.trans ((Cong.of_eq h).trans (Cong.mod q b))
theorem Cong.eq {q a b : Int} (h : Cong q a b) (ha : 0 ≤ a) (ha2 : a < q) (hb : 0 ≤ b) (hb2 : b < q) : a = b := by
  have := h.emod
  rwa [Int.emod_eq_of_lt ha ha2, Int.emod_eq_of_lt hb hb2] at this

section
variable (q : Int) (iv : Int → Int)
/-- The factor of x among the points. -/
def prodF : List Int → Int → Int
  | [], _ => 1
  | y :: t, x => if y = x then prodF t x else y * iv (y - x) * prodF t x
def lsum (al : List Int) (f : Int → Int) : List Int → Int
  | [] => 0
  | x :: t => prodF iv al x * f x + lsum al f t
def lS (zs : List Int) (f : Int → Int) : Int := lsum iv zs f zs
theorem prodF_swap (a b : Int) (t : List Int) (x : Int) : prodF iv (a :: b :: t) x = prodF iv (b :: a :: t) x := by
  simp only [prodF]
  split <;> split <;> grind
theorem lsum_congr (al bl : List Int) (f g : Int → Int) : ∀ zs : List Int, (∀ x ∈ zs, prodF iv al x * f x = prodF iv bl x * g x) → lsum iv al f zs = lsum iv bl g zs
  | [], _ => rfl
  | x :: t, h => by rw [lsum, lsum, h x (by simp), lsum_congr al bl f g t (fun y hy => h y (by simp [hy]))]
theorem lsum_cong (al bl : List Int) (f g : Int → Int) : ∀ zs : List Int, (∀ x ∈ zs, Cong q (prodF iv al x * f x) (prodF iv bl x * g x)) → Cong q (lsum iv al f zs) (lsum iv bl g zs)
  | [], _ => Cong.refl _ _
  | x :: t, h => by rw [lsum, lsum]; exact (h x (by simp)).add (lsum_cong al bl f g t (fun y hy => h y (by simp [hy])))
theorem lS_swap (a b : Int) (t : List Int) (f : Int → Int) : lS iv (a :: b :: t) f = lS iv (b :: a :: t) f := by
  unfold lS
  rw [lsum_congr iv (a :: b :: t) (b :: a :: t) f f (a :: b :: t) (fun x _ => by rw [prodF_swap])]
  simp only [lsum]
  omega
theorem lsum_sub (al : List Int) (f g : Int → Int) : ∀ zs, lsum iv al (fun x => f x - g x) zs = lsum iv al f zs - lsum iv al g zs
  | [] => rfl
  | x :: t => by simp only [lsum]; rw [lsum_sub al f g t]; grind
theorem lsum_add (al : List Int) (f g : Int → Int) : ∀ zs, lsum iv al (fun x => f x + g x) zs = lsum iv al f zs + lsum iv al g zs
  | [] => rfl
  | x :: t => by simp only [lsum]; rw [lsum_add al f g t]; grind
theorem lsum_mul (al : List Int) (c : Int) (f : Int → Int) : ∀ zs, lsum iv al (fun x => c * f x) zs = c * lsum iv al f zs
  | [] => by simp [lsum]
  | x :: t => by simp only [lsum]; rw [lsum_mul al c f t]; grind
/-- Different, with inverses of their differences. -/
structure Apart (zs : List Int) : Prop where
  nd : zs.Nodup
  inv : ∀ x ∈ zs, ∀ y ∈ zs, x ≠ y → Cong q ((y - x) * iv (y - x)) 1
theorem Apart.tail {a : Int} {t : List Int} (h : Apart q iv (a :: t)) : Apart q iv t :=
  ⟨(List.nodup_cons.1 h.nd).2, fun x hx y hy e => h.inv x (by simp [hx]) y (by simp [hy]) e⟩
theorem Apart.swap {a b : Int} {t : List Int} (h : Apart q iv (a :: b :: t)) : Apart q iv (b :: a :: t) := by
  refine ⟨?_, fun x hx y hy e => h.inv x (by simp at hx ⊢; grind) y (by simp at hy ⊢; grind) e⟩
  have := h.nd
  simp only [List.nodup_cons, List.mem_cons, not_or] at this ⊢
  grind
/-- One point less. -/
theorem lS_drop {a : Int} {t : List Int} (h : Apart q iv (a :: t)) (g : Int → Int) : Cong q (lS iv (a :: t) (fun x => (x - a) * g x)) (-a * lS iv t g) := by
  have hn := List.nodup_cons.1 h.nd
  unfold lS
  rw [lsum]
  have h0 : prodF iv (a :: t) a * ((a - a) * g a) = 0 := by rw [Int.sub_self]; simp
  rw [h0, Int.zero_add, ← lsum_mul]
  refine lsum_cong q iv _ _ _ _ t (fun x hx => ?_)
  have hne : a ≠ x := fun e => hn.1 (e ▸ hx)
  have hi := h.inv x (by simp [hx]) a (by simp) (Ne.symm hne)
  rw [prodF, if_neg hne]
  obtain ⟨k, hk⟩ := hi
  refine ⟨-(a * k * prodF iv t x * g x), ?_⟩
  grind
theorem lS_one : ∀ (n : Nat) (zs : List Int), zs.length = n → 0 < n → Apart q iv zs → Cong q (lS iv zs (fun _ => 1)) 1 := by
  intro n
  induction n with
  | zero => intro zs _ h; omega
  | succ n ih =>
    intro zs hl _ h
    match zs, hl with
    | [a], _ => exact Cong.of_eq (by simp [lS, lsum, prodF])
    | a :: b :: t, hl =>
      simp only [List.length_cons] at hl
      have hs := h.swap
      have i1 := ih (b :: t) (by simp; omega) (by omega) h.tail
      have i2 := ih (a :: t) (by simp; omega) (by omega) hs.tail
      have d1 := lS_drop q iv h (fun _ => 1)
      have d2 := lS_drop q iv hs (fun _ => 1)
      rw [lS_swap] at d2
      have e1 : lS iv (a :: b :: t) (fun x => (x - a) * 1) - lS iv (a :: b :: t) (fun x => (x - b) * 1) = (b - a) * lS iv (a :: b :: t) (fun _ => 1) := by
        unfold lS
        rw [← lsum_sub, ← lsum_mul]
        exact lsum_congr iv _ _ _ _ _ (fun x _ => by grind)
      have hn := h.nd
      have hne : a ≠ b := by simp only [List.nodup_cons, List.mem_cons, not_or] at hn; exact hn.1.1
      have hi := h.inv a (by simp) b (by simp) hne
      generalize lS iv (a :: b :: t) (fun _ => 1) = S at *
      generalize lS iv (a :: b :: t) (fun x => (x - a) * 1) = A at *
      generalize lS iv (a :: b :: t) (fun x => (x - b) * 1) = B at *
      generalize lS iv (b :: t) (fun _ => 1) = U at *
      generalize lS iv (a :: t) (fun _ => 1) = V at *
      generalize iv (b - a) = v at *
      have h3 : Cong q ((b - a) * S) (b - a) := by
        have h4 := d1.sub d2
        have h5 : Cong q (-a * U - -b * V) (-a * 1 - -b * 1) := ((Cong.refl q (-a)).mul i1).sub ((Cong.refl q (-b)).mul i2)
        have h6 := h4.trans h5
        rw [e1] at h6
        exact h6.trans (Cong.of_eq (by omega))
      have h7 : Cong q (v * ((b - a) * S)) (v * (b - a)) := (Cong.refl q v).mul h3
      have h8 : Cong q (v * ((b - a) * S)) (1 * S) := (Cong.of_eq (show v * ((b - a) * S) = (b - a) * v * S by grind)).trans (hi.mul (Cong.refl q S))
      have h9 : Cong q (v * (b - a)) 1 := (Cong.of_eq (Int.mul_comm _ _)).trans hi
      exact ((Cong.of_eq (Int.one_mul S).symm).trans h8.symm).trans (h7.trans h9)
theorem lS_pow : ∀ (j : Nat) (zs : List Int), j < zs.length → Apart q iv zs → Cong q (lS iv zs (fun x => x ^ j)) (if j = 0 then 1 else 0) := by
  intro j
  induction j with
  | zero => intro zs hl h; simp only [Int.pow_zero, if_true]; exact lS_one q iv _ zs rfl hl h
  | succ j ih =>
    intro zs hl h
    match zs, hl with
    | a :: t, hl =>
      simp only [List.length_cons] at hl
      have d := lS_drop q iv h (fun x => x ^ j)
      have i1 := ih (a :: t) (by simp; omega) h
      have i2 := ih t (by omega) h.tail
      have e : lS iv (a :: t) (fun x => (x - a) * x ^ j) = lS iv (a :: t) (fun x => x ^ (j + 1)) - a * lS iv (a :: t) (fun x => x ^ j) := by
        unfold lS
        rw [← lsum_mul, ← lsum_sub]
        exact lsum_congr iv _ _ _ _ _ (fun x _ => by rw [Int.pow_succ]; grind)
      rw [e] at d
      rw [if_neg (by omega)]
      generalize lS iv (a :: t) (fun x => x ^ (j + 1)) = A at *
      generalize lS iv (a :: t) (fun x => x ^ j) = B at *
      generalize lS iv t (fun x => x ^ j) = C at *
      generalize (if j = 0 then (1 : Int) else 0) = o at *
      obtain ⟨k1, h1⟩ := d
      obtain ⟨k2, h2⟩ := i1
      obtain ⟨k3, h3⟩ := i2
      exact ⟨k1 + a * k2 - a * k3, by grind⟩
/-- The value of a polynomial. -/
def ev : List Int → Int → Int
  | [], _ => 0
  | c :: cs, x => c + x * ev cs x
theorem lS_ev : ∀ (cs : List Int) (k : Nat) (zs : List Int), k + cs.length ≤ zs.length → Apart q iv zs → Cong q (lS iv zs (fun x => x ^ k * ev cs x)) (if k = 0 then cs.getD 0 0 else 0) := by
  intro cs
  induction cs with
  | nil =>
    intro k zs _ _
    refine Cong.of_eq ?_
    have : lS iv zs (fun x => x ^ k * ev [] x) = 0 := by
      unfold lS
      rw [show (fun x : Int => x ^ k * ev [] x) = (fun x => 0 * x) by funext x; simp [ev], lsum_mul]; simp
    rw [this]; split <;> simp
  | cons c cs ih =>
    intro k zs hl h
    simp only [List.length_cons] at hl
    have i1 := ih (k + 1) zs (by omega) h
    rw [if_neg (by omega)] at i1
    have i2 := lS_pow q iv k zs (by omega) h
    have e : lS iv zs (fun x => x ^ k * ev (c :: cs) x) = c * lS iv zs (fun x => x ^ k) + lS iv zs (fun x => x ^ (k + 1) * ev cs x) := by
      unfold lS
      rw [← lsum_mul, ← lsum_add]
      exact lsum_congr iv _ _ _ _ _ (fun x _ => by rw [ev, Int.pow_succ]; grind)
    rw [e]
    refine (((Cong.refl q c).mul i2).add i1).trans (Cong.of_eq ?_)
    split <;> simp
theorem interp (cs zs : List Int) (hl : cs.length ≤ zs.length) (h : Apart q iv zs) : Cong q (lS iv zs (ev cs)) (cs.getD 0 0) := by
  have := lS_ev q iv cs 0 zs (by omega) h
  rw [if_pos rfl, show (fun x : Int => x ^ 0 * ev cs x) = ev cs by funext x; simp] at this
  exact this
end
end Go.Proofs.YtalclldccnichaaGreat
