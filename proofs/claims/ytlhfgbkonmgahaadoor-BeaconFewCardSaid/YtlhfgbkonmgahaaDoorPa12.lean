/-
  The reference's natural numbers: Canon, Of. The reference's natural numbers: Int, small, Right, Cmp. The reference's natural numbers: digits: trim, times, cmp. The reference's natural numbers: digits: cmp, minus, digit. The reference's natural numbers: of, number. The reference's natural numbers: number. The reference's natural numbers: Quo.
  Package deal: the iterator of powers, and At over it.
-/
import Derived.Test.YtlhfgbkonmgahaaDoorNat
import Derived.Test.YtlhfgbkonmgahaaDoorPa06
import Derived.Test.YtlhfgbkonmgahaaDoorPa10
import Derived.Test.YtlhfgbkonmgahaaDoorPa00
import Derived.Deep.RegionHeld3
import Derived.Deep.AppendLies
import Derived.OwnWalk
import Derived.StillTactics
import Derived.Laws.Pointers
import Derived.Outline
namespace Go.Proofs.YtlhfgbkonmgahaaDoor
open Go.RowKit

theorem Tryd.infoB : (Tryd.prog.info? 5).map (fun i => (i.zero, i.size, i.bytes)) = some (some (.int .u8 0), 1, 1) := by kernel_rfl
def brow (l : List Int) : List Value := l.map (Value.int .u8)
theorem brow_append (a b : List Int) : brow (a ++ b) = brow a ++ brow b := by simp [brow]
theorem brow_len (l : List Int) : (brow l).length = l.length := by simp [brow]
theorem one_u8 (x : Int) : ∀ v ∈ [Value.int .u8 x], v.oneCell' = true := by intro v hv; simp at hv; subst hv; rfl
/-- What bytes in a slice of one's own are as a string. -/
theorem conv_own {w : World} {base n : Nat} {v : Value} {l : List Int} (dst : TypeId) (hd : Tryd.prog.underlying dst = some .string) (h : w.ownsRow base 5 1 v n (brow l)) (hl : l.length = n) :
    (convert 22 dst v).run Tryd.prog w = .ok (.string (strOfNums l)) w := by
  rcases h.2 with ⟨rfl, h0⟩ | ⟨g, cap, cur, rfl, hb, hg, hcap, hcap2, hsz, htk⟩
  · have : l = [] := List.eq_nil_of_length_eq_zero (by omega)
    subst this
    exact run_convert_bytes_nil (P := Tryd.prog) w 22 5 Tryd.underlying22 Tryd.underlying5 0 0 dst hd
  · refine run_convert_bytes_arg (P := Tryd.prog) w 22 5 Tryd.underlying22 Tryd.underlying5 g 0 n cap l hl (fun i hi => ?_) dst hd
    rw [Nat.zero_add, cell_of_row w g i cur 5 (0, 0) hg]
    have h1 : (brow l)[i]? = some (.int .u8 (l.getD i 0)) := by simp [brow, List.getD, show i < l.length by omega]
    rw [← h1, ← htk, List.getElem?_take_of_lt (by omega)]
    simp
def byTo (n : Int) : Nat → List Int
  | 0 => []
  | j + 1 => byTo n j ++ [n / 2 ^ (56 - 8 * j) % 256]
theorem byTo_len (n : Int) : ∀ j, (byTo n j).length = j
  | 0 => rfl
  | j + 1 => by rw [byTo, List.length_append, byTo_len n j]; rfl
theorem valB_by (n : Nat) (h : n < 18446744073709551616) : valB (strOfNums (byTo n 8)) = n := by
  have e : ∀ k : Nat, ((n : Int) / 2 ^ k % 256).toNat = n / 2 ^ k % 256 := fun k => by
    have : (n : Int) / 2 ^ k % 256 = ((n / 2 ^ k % 256 : Nat) : Int) := by
      rw [Int.natCast_emod, Int.natCast_ediv, Int.natCast_pow]; rfl
    rw [this, Int.toNat_natCast]
  have e2 : ∀ k : Nat, (UInt8.ofNat (n / 2 ^ k % 256)).toNat = n / 2 ^ k % 256 := fun k => by simp
  unfold valB
  rw [strOfNums_data]
  simp only [byTo, List.nil_append, List.cons_append, List.map_cons, List.map_nil, e, valL, List.foldl_cons, List.foldl_nil, e2]
  simp only [Nat.reduceMul, Nat.reduceSub, Nat.reducePow]
  omega
theorem strOf_size (l : List Int) : (strOfNums l).size = l.length := strOfNums_size l

end Go.Proofs.YtlhfgbkonmgahaaDoor

namespace Go.Proofs.YtlhfgbkonmgahaaDoor
open Go.RowKit

theorem valL_take_le (l : List UInt8) : ∀ k, k < l.length → valL (l.take k) * 256 ≤ valL l := by
  intro k hk
  have h : ∀ (m : List UInt8) (a : Nat), a ≤ m.foldl (fun n b => n * 256 + b.toNat) a := by
    intro m
    induction m with
    | nil => intro a; exact Nat.le_refl _
    | cons x m ih => intro a; exact Nat.le_trans (by omega) (ih (a * 256 + x.toNat))
  obtain ⟨x, m, hm⟩ : ∃ x m, l = l.take k ++ x :: m := ⟨l[k], l.drop (k + 1), by rw [← List.drop_eq_getElem_cons hk, List.take_append_drop]⟩
  have e : valL l = (x :: m).foldl (fun n b => n * 256 + b.toNat) (valL (l.take k)) := by
    conv => lhs; rw [hm]
    simp [valL, List.foldl_append]
  rw [e, List.foldl_cons]
  exact Nat.le_trans (by omega) (h m _)
theorem valL_take_snoc (b : ByteArray) (k : Nat) (h : k < b.size) : valL (b.data.toList.take (k + 1)) = valL (b.data.toList.take k) * 256 + b[k].toNat := by
  rw [List.take_succ_eq_append_getElem (by simpa using h), valL_snoc]; rfl
/-- The first byte of a number that is not too great. -/
theorem natB_first (n : Nat) (hn : n < 9223372036854775808) (h : 8 = (natB n).size) (h0 : 0 < (natB n).size) : ((natB n)[0]'h0).toNat ≤ 127 := by
  have h1 : valL ((natB n).data.toList.take 1) = (natB n)[0].toNat := by
    rw [valL_take_snoc (natB n) 0 (by omega)]; simp [valL]
  have hp : ∀ (k : Nat) (l : List UInt8), l.length = k → ∀ a, l.foldl (fun n b => n * 256 + b.toNat) a ≥ a * 256 ^ k := by
    intro k
    induction k with
    | zero => intro l hl a; have : l = [] := List.eq_nil_of_length_eq_zero hl; subst this; simp
    | succ k ih =>
      intro l hl a
      match l, hl with
      | x :: l, hl =>
        have := ih l (by simpa using hl) (a * 256 + x.toNat)
        rw [List.foldl_cons]
        refine Nat.le_trans ?_ this
        rw [Nat.pow_succ, Nat.mul_comm (256 ^ k), ← Nat.mul_assoc]
        exact Nat.mul_le_mul_right _ (by omega)
  have hv : valL (natB n).data.toList = n := valB_natB n
  have hsplit : (natB n).data.toList = (natB n).data.toList.take 1 ++ (natB n).data.toList.drop 1 := (List.take_append_drop 1 _).symm
  have h2 : (natB n).data.toList.foldl (fun n b => n * 256 + b.toNat) 0 = ((natB n).data.toList.drop 1).foldl (fun n b => n * 256 + b.toNat) (valL ((natB n).data.toList.take 1)) := by
    conv => lhs; rw [hsplit]
    rw [List.foldl_append]; rfl
  have h3 := hp 7 ((natB n).data.toList.drop 1) (by have : (natB n).data.toList.length = (natB n).size := by simp
                                                    rw [List.length_drop]; omega) (valL ((natB n).data.toList.take 1))
  rw [← h2, h1] at h3
  have h4 : (natB n).data.toList.foldl (fun n b => n * 256 + b.toNat) 0 = n := hv
  rw [h4] at h3
  have h5 : (256 : Nat) ^ 7 = 72057594037927936 := by decide
  rw [h5] at h3
  omega

theorem natB_head (n : Nat) (h : 0 < (natB n).size) : (natB n)[0] ≠ 0 := by
  intro h0
  have e := drop_beL (beL n)
  rw [valL_beL] at e
  have h1 : (beL n).length = (natB n).size := (natB_size n).symm
  match hb : beL n with
  | [] => rw [hb] at h1; simp at h1; omega
  | x :: t =>
    have hx : x = 0 := by
      have : (natB n)[0] = (beL n)[0]'(by omega) := rfl
      rw [this] at h0
      simp [hb] at h0
      exact h0
    rw [hb, List.dropWhile_cons, hx, if_pos (by decide)] at e
    have := congrArg List.length e
    have h2 : (t.dropWhile (· == 0)).length ≤ t.length := (List.dropWhile_sublist _).length_le
    simp at this
    omega
theorem bytesLess_irrefl : ∀ l : List UInt8, Op.bytesLess l l = false
  | [] => rfl
  | x :: l => by simp [Op.bytesLess, bytesLess_irrefl l]
end Go.Proofs.YtlhfgbkonmgahaaDoor

namespace Go.Proofs.YtlhfgbkonmgahaaDoor
open Go.RowKit

/-- A nil slice has no room. -/
def NilOk (v : Value) : Prop := ∀ n c, v = .slice none n c → n = 0 ∧ c = 0
theorem nilOk_some (a : Addr) (n c : Nat) : NilOk (.slice (some a) n c) := fun _ _ h => by cases h
theorem nilOk_own {w : World} {base e size n : Nat} {v : Value} {xs : List Value} (h : w.ownsRow base e size v n xs) : NilOk v := by
  rcases h.2 with ⟨rfl, _⟩ | ⟨g, cap, cur, rfl, _⟩
  · intro n c h; cases h; exact ⟨rfl, rfl⟩
  · exact nilOk_some _ _ _
/-- It lies in a block that was not there. -/
def FreshV (w : World) (v : Value) : Prop := ∀ a n c, v = .slice (some a) n c → w.heap.size ≤ a.block
theorem freshV_own {w wr : World} {e size n : Nat} {v : Value} {xs : List Value} (h : wr.ownsRow w.heap.size e size v n xs) : FreshV w v := by
  intro a n' c hv
  subst hv
  rcases h.2 with ⟨h0, _⟩ | ⟨g, cap, cur, h0, hb, _⟩
  · cases h0
  · cases h0; exact hb
/-- A slice of digits of n comes back. -/
def DigPost (w : World) (n : Nat) (e : Ending) (w' : World) : Prop := ∃ v, e = .returned v ∧ PtsAt w'.heap.size w' v (dgL n) ∧ NilOk v ∧ FreshV w v ∧ Only (fun _ => False) w w'
/-- .. cut out of sv. -/
def TrimPost (w : World) (sv : Value) (n : Nat) (e : Ending) (w' : World) : Prop := ∃ v, e = .returned v ∧ PtsAt w'.heap.size w' v (dgL n) ∧ NilOk v ∧ (∀ a k c, v = .slice (some a) k c → ∃ k', sv = .slice (some a) k' c) ∧ Only (fun _ => False) w w'

theorem dgL_trim (zs : List Int) (hd : Digs zs) (k : Nat) (hk : k ≤ zs.length) (hz : ∀ j, k ≤ j → j < zs.length → ptAt zs j = 0) (hn : 0 < k → ptAt zs (k - 1) ≠ 0) : zs.take k = dgL (dval zs) := by
  rw [← dval_take zs k hk hz]
  refine dgL_of _ (digs_take hd k) (fun h => ?_)
  have hl : (zs.take k).length = k := by simp; omega
  have h0 : 0 < k := by
    rcases Nat.eq_zero_or_pos k with e | e
    · subst e; simp at h
    · exact e
  have := hn h0
  rw [List.getLast_eq_getElem]
  simp only [hl]
  rw [List.getElem_take]
  simpa [ptAt, List.getD, show k - 1 < zs.length by omega] using this

/-- The cell of an element. -/
theorem PtsAt.cellAt {n : Nat} {W : World} {a : Option Addr} {len c k : Nat} {zs : List Int} (h : PtsAt n W (.slice a len c) zs) (hk : k < zs.length) :
    ∃ b off, a = some ⟨b, off, none⟩ ∧ b < n ∧ len = zs.length ∧ zs.length ≤ c ∧ c ≤ 9223372036854775807 ∧ W.cell? ⟨b, off + k, none⟩ = some (.int .i64 (ptAt zs k)) := by
  rcases h with ⟨_, _, _, h0⟩ | ⟨b, off, cap, hv, hb, h1, h2, hc⟩
  · rw [h0] at hk; simp at hk
  · simp only [Value.slice.injEq] at hv
    obtain ⟨rfl, rfl, rfl⟩ := hv
    exact ⟨b, off, rfl, hb, rfl, h1, h2, hc k hk⟩
theorem dval_take_succ (zs : List Int) (k : Nat) (h : k < zs.length) : dval (zs.take (k + 1)) = dval (zs.take k) + 16777216 ^ k * (ptAt zs k).toNat := by
  have : zs.take (k + 1) = zs.take k ++ [ptAt zs k] := by
    rw [List.take_succ_eq_append_getElem h]; simp [ptAt, List.getD, h]
  rw [this, dval_snoc, List.length_take, Nat.min_eq_left (by omega)]
/-- One digit of a product. -/
theorem times_step (zs l : List Int) (k : Nat) (c d x : Int) (hk : l.length = k) (h : dval l + 16777216 ^ k * c.toNat = dval (zs.take k) * d.toNat) (hx : dval (zs.take (k + 1)) = dval (zs.take k) + 16777216 ^ k * x.toNat)
    (hx0 : 0 ≤ x) (hd0 : 0 ≤ d) (hc0 : 0 ≤ c) :
    dval (l ++ [(x * d + c) % 16777216]) + 16777216 ^ (k + 1) * ((x * d + c) / 16777216).toNat = dval (zs.take (k + 1)) * d.toNat := by
  obtain ⟨x, rfl⟩ := Int.eq_ofNat_of_zero_le hx0
  obtain ⟨d, rfl⟩ := Int.eq_ofNat_of_zero_le hd0
  obtain ⟨c, rfl⟩ := Int.eq_ofNat_of_zero_le hc0
  have e1 : ((x : Int) * d + c) % 16777216 = (((x * d + c) % 16777216 : Nat) : Int) := by rw [Int.natCast_emod, Int.natCast_add, Int.natCast_mul]; rfl
  have e2 : ((x : Int) * d + c) / 16777216 = (((x * d + c) / 16777216 : Nat) : Int) := by rw [Int.natCast_ediv, Int.natCast_add, Int.natCast_mul]; rfl
  rw [e1, e2, dval_snoc, hk, hx, Nat.pow_succ]
  simp only [Int.toNat_natCast] at h ⊢
  have e3 := Nat.div_add_mod (x * d + c) 16777216
  generalize (x * d + c) / 16777216 = q at *
  generalize (x * d + c) % 16777216 = r at *
  generalize 16777216 ^ k = P at *
  generalize dval l = A at *
  generalize dval (zs.take k) = Z at *
  have : A + P * r + P * 16777216 * q = A + P * (x * d + c) := by rw [← e3]; grind
  rw [this]
  grind

end Go.Proofs.YtlhfgbkonmgahaaDoor

namespace Go.Proofs.YtlhfgbkonmgahaaDoor
open Go.RowKit

/-- What tells two numbers apart. -/
def CmpPost (w : World) (a b : Nat) (e : Ending) (w' : World) : Prop := ∃ c : Int, e = .returned (.int .i64 c) ∧ (c ≤ 0 ↔ a ≤ b) ∧ (0 ≤ c ↔ b ≤ a) ∧ ∃ n, w' = w.drewN n

/-- One digit of a difference. -/
theorem minus_step (xs ys l : List Int) (k : Nat) (r d o r' : Int) (hl : l.length = k) (h : (dval l : Int) + dval (ys.take k) = dval (xs.take k) + 16777216 ^ k * r) (hx : (dval (xs.take (k + 1)) : Int) = dval (xs.take k) + 16777216 ^ k * ptAt xs k)
    (hy : (dval (ys.take (k + 1)) : Int) = dval (ys.take k) + 16777216 ^ k * ptAt ys k) (hd : d = ptAt xs k - r - ptAt ys k) (ho : o = d + 16777216 * r') (ho0 : 0 ≤ o) :
    (dval (l ++ [o]) : Int) + dval (ys.take (k + 1)) = dval (xs.take (k + 1)) + 16777216 ^ (k + 1) * r' := by
  rw [dval_snoc, hl, hx, hy, Int.pow_succ]
  have e : ((dval l + 16777216 ^ k * o.toNat : Nat) : Int) = dval l + 16777216 ^ k * o := by
    rw [Int.natCast_add, Int.natCast_mul, Int.toNat_of_nonneg ho0, Int.natCast_pow]; rfl
  rw [e]
  subst ho hd
  grind
theorem dval_take_int (zs : List Int) (h : Digs zs) (k : Nat) : (dval (zs.take (k + 1)) : Int) = dval (zs.take k) + 16777216 ^ k * ptAt zs k := by
  by_cases hk : k < zs.length
  · rw [dval_take_succ zs k hk, Int.natCast_add, Int.natCast_mul, Int.toNat_of_nonneg (digs_at h k).1, Int.natCast_pow]; rfl
  · have : ptAt zs k = 0 := by simp [ptAt, List.getD, List.getElem?_eq_none (show zs.length ≤ k by omega)]
    rw [this, List.take_of_length_le (by omega), List.take_of_length_le (by omega)]; simp

theorem dg_le3 {n : Nat} (h : n < 79228162514264337593543950336) : (dgL n).length ≤ 100000 := Nat.le_trans (dgL_len (k := 4) (Nat.lt_of_lt_of_le h (by decide))) (by decide)

end Go.Proofs.YtlhfgbkonmgahaaDoor

namespace Go.Proofs.YtlhfgbkonmgahaaDoor
open Go.RowKit

theorem valL_take_pos (n : Nat) (k : Nat) (hk : 0 < k) (hk2 : k ≤ (natB n).size) : valL ((natB n).data.toList.take k) ≠ 0 := by
  have hs : (natB n).data.toList.length = (natB n).size := by simp
  intro h0
  have h1 : ∀ j, j < k → valL ((natB n).data.toList.take (j + 1)) = 0 := by
    intro j hj
    have hle : valL ((natB n).data.toList.take (j + 1)) ≤ valL ((natB n).data.toList.take k) := by
      by_cases e : j + 1 = k
      · rw [e]; exact Nat.le_refl _
      · have := valL_take_le ((natB n).data.toList.take k) (j + 1) (by rw [List.length_take]; omega)
        rw [List.take_take, Nat.min_eq_left (by omega)] at this
        omega
    omega
  have h2 := h1 0 hk
  rw [valL_take_snoc (natB n) 0 (by omega)] at h2
  have h3 := natB_head n (by omega)
  apply h3
  have : (natB n)[0].toNat = 0 := by omega
  rw [← UInt8.toNat_inj, this]; rfl

end Go.Proofs.YtlhfgbkonmgahaaDoor

namespace Go.Proofs.YtlhfgbkonmgahaaDoor
open Go.RowKit

/-- The bytes of digits, the last digit first. -/
def nb : List Int → List Int
  | [] => []
  | x :: t => nb t ++ [x / 65536 % 256, x / 256 % 256, x % 256]
theorem nb_len : ∀ l, (nb l).length = 3 * l.length
  | [] => rfl
  | x :: t => by rw [nb, List.length_append, nb_len t]; simp; omega
theorem valL_three (l : List UInt8) (a b c : UInt8) : valL (l ++ [a, b, c]) = valL l * 16777216 + (a.toNat * 65536 + b.toNat * 256 + c.toNat) := by
  have e : l ++ [a, b, c] = ((l ++ [a]) ++ [b]) ++ [c] := by simp
  rw [e, valL_snoc, valL_snoc, valL_snoc]; omega
theorem valB_nb : ∀ (l : List Int), Digs l → valB (strOfNums (nb l)) = dval l
  | [], _ => rfl
  | x :: t, h => by
    have h1 := h x (by simp)
    have h2 := valB_nb t (fun y hy => h y (by simp [hy]))
    unfold valB at h2 ⊢
    rw [strOfNums_data] at h2 ⊢
    rw [nb, List.map_append, List.map_cons, List.map_cons, List.map_cons, List.map_nil, valL_three, h2, dval]
    have e : ∀ z : Int, 0 ≤ z → z < 256 → (UInt8.ofNat z.toNat).toNat = z.toNat := fun z h0 h1 => by
      rw [UInt8.toNat_ofNat']; omega
    rw [e _ (by omega) (by omega), e _ (by omega) (by omega), e _ (by omega) (by omega)]
    omega
theorem nb_drop (zs : List Int) (k : Nat) (h : k < zs.length) : nb (zs.drop k) = nb (zs.drop (k + 1)) ++ [ptAt zs k / 65536 % 256, ptAt zs k / 256 % 256, ptAt zs k % 256] := by
  have : zs.drop k = ptAt zs k :: zs.drop (k + 1) := by
    rw [List.drop_eq_getElem_cons h]; simp [ptAt, List.getD, h]
  rw [this, nb]

end Go.Proofs.YtlhfgbkonmgahaaDoor

namespace Go.Proofs.YtlhfgbkonmgahaaDoor
open Go.RowKit

/-- One digit of a quotient. -/
theorem quo_step (A b : Nat) (hb : 0 < b) : (A / 16777216 % b * 16777216 + A % 16777216) / b = A / b % 16777216 ∧ (A / 16777216 % b * 16777216 + A % 16777216) % b = A % b ∧ A / 16777216 % b * 16777216 + A % 16777216 < b * 16777216 := by
  obtain ⟨r, hr⟩ : ∃ r, A / 16777216 % b * 16777216 + A % 16777216 = r := ⟨_, rfl⟩
  have h1 : A / 16777216 % b < b := Nat.mod_lt _ hb
  have hlt : r < b * 16777216 := by
    have : (A / 16777216 % b + 1) * 16777216 ≤ b * 16777216 := Nat.mul_le_mul_right _ (by omega)
    omega
  have hA : A = b * (A / 16777216 / b * 16777216) + r := by
    have e1 := Nat.div_add_mod A 16777216
    have e2 := Nat.div_add_mod (A / 16777216) b
    rw [← hr]
    generalize A / 16777216 = q at *
    generalize A % 16777216 = s at *
    generalize q / b = t at *
    generalize q % b = p at *
    rw [← e1, ← e2]
    grind
  rw [hr]
  have hq : A / b = A / 16777216 / b * 16777216 + r / b := by
    conv => lhs; rw [hA]
    rw [Nat.mul_add_div hb]
  have hrb : r / b < 16777216 := Nat.div_lt_of_lt_mul hlt
  refine ⟨by rw [hq, Nat.mul_comm, Nat.mul_add_mod, Nat.mod_eq_of_lt hrb], ?_, hlt⟩
  conv => rhs; rw [hA]
  rw [Nat.mul_add_mod]

theorem dgL_at (n : Nat) : ∀ j, ptAt (dgL n) j = ((n / 16777216 ^ j % 16777216 : Nat) : Int) := by
  intro j
  induction j generalizing n with
  | zero =>
    by_cases h : n = 0
    · subst h; rw [dgL_zero]; rfl
    · rw [dgL_pos h]; simp [ptAt]
  | succ j ih =>
    by_cases h : n = 0
    · subst h; rw [dgL_zero]; simp [ptAt]
    · have e : ptAt (dgL n) (j + 1) = ptAt (dgL (n / 16777216)) j := by rw [dgL_pos h]; simp [ptAt]
      rw [e, ih, Nat.div_div_eq_div_mul, Nat.pow_succ, Nat.mul_comm 16777216]
theorem dgL_len3 {a : Nat} (h0 : 72057594037927936 ≤ a) (h1 : a < 9223372036854775808) : (dgL a).length = 3 := by
  have h2 := dgL_len (k := 3) (n := a) (Nat.lt_of_lt_of_le h1 (by decide))
  have h3 := dval_lt (dgL a) (digs_dgL a)
  rw [dval_dgL] at h3
  rcases Nat.lt_or_ge (dgL a).length 3 with h | h
  · exfalso
    have : 16777216 ^ (dgL a).length ≤ 16777216 ^ 2 := Nat.pow_le_pow_right (by decide) (by omega)
    have e : (16777216 : Nat) ^ 2 = 281474976710656 := by decide
    omega
  · omega
/-- The digits of the quotient from k on. -/
def quoF (a b k j : Nat) : Int := if k ≤ j then ((a / 16777216 ^ j / b % 16777216 : Nat) : Int) else 0
structure QuoAt (w wr : World) (g a b k : Nat) (vr : Value) : Prop where
  row : wr.rowIs g 3 3 (fun j => .int .i64 (quoF a b k j))
  rest : PtsAt wr.heap.size wr vr (dgL (a / 16777216 ^ k % b))
  nil : NilOk vr
  far : ∀ a n c, vr = .slice (some a) n c → a.block ≠ g
  g : w.heap.size ≤ g
  only : Only (fun _ => False) w wr
theorem quo_rest (a b k : Nat) (hb : 0 < b) : (a / 16777216 ^ (k + 1) % b * 16777216 + a / 16777216 ^ k % 16777216) / b = a / 16777216 ^ k / b % 16777216 ∧ (a / 16777216 ^ (k + 1) % b * 16777216 + a / 16777216 ^ k % 16777216) % b = a / 16777216 ^ k % b ∧ a / 16777216 ^ (k + 1) % b * 16777216 + a / 16777216 ^ k % 16777216 < b * 16777216 := by
  have e : a / 16777216 ^ (k + 1) = a / 16777216 ^ k / 16777216 := by rw [Nat.pow_succ, Nat.div_div_eq_div_mul]
  rw [e]
  exact quo_step (a / 16777216 ^ k) b hb
theorem own_one (w : World) (x : Int) : (w.alloc (.cells #[.int .i64 x] 3)).ownsRow w.heap.size 3 1 (.slice (some ⟨w.heap.size, 0, none⟩) 1 1) 1 [.int .i64 x] :=
  ⟨rfl, .inr ⟨w.heap.size, 1, #[.int .i64 x], rfl, Nat.le_refl _, heap_alloc_new w _, Nat.le_refl _, by unfold maxLen; decide, rfl, rfl⟩⟩

theorem pts_setOther {w : World} {g : Nat} {sv : Value} {zs : List Int} (h : PtsAt w.heap.size w sv zs) (hf : ∀ a n c, sv = .slice (some a) n c → a.block ≠ g) (m : Nat) (v : Value) : PtsAt (w.setCell ⟨g, m, none⟩ v).heap.size (w.setCell ⟨g, m, none⟩ v) sv zs := by
  rcases h with h | ⟨b, off, cap, rfl, hb, h1, h2, hc⟩
  · exact .inl h
  · refine .inr ⟨b, off, cap, rfl, by simpa [World.setCell] using hb, h1, h2, fun j hj => ?_⟩
    rw [World.cell?_of_block (heap_setCell_other w ⟨g, m, none⟩ b v (by exact hf _ _ _ rfl))]
    exact hc j hj
theorem quoF_next (a b m : Nat) : (∀ q, a / 16777216 ^ m / b % 16777216 = q → ∀ j, j < 3 → (if j = m then Value.int .i64 (q : Int) else .int .i64 (quoF a b (m + 1) j)) = .int .i64 (quoF a b m j)) ∧ (a / 16777216 ^ m / b % 16777216 = 0 → ∀ j, j < 3 → Value.int .i64 (quoF a b (m + 1) j) = .int .i64 (quoF a b m j)) := by
  refine ⟨fun q hq j _ => ?_, fun h0 j _ => ?_⟩
  · by_cases e : j = m
    · subst e; rw [if_pos rfl]; unfold quoF; rw [if_pos (Nat.le_refl _), hq]
    · rw [if_neg e]; unfold quoF
      by_cases h : m + 1 ≤ j
      · rw [if_pos h, if_pos (by omega)]
      · rw [if_neg h, if_neg (by omega)]
  · unfold quoF
    by_cases e : j = m
    · subst e; rw [if_neg (by omega), if_pos (Nat.le_refl _), h0]; rfl
    · by_cases h : m + 1 ≤ j
      · rw [if_pos h, if_pos (by omega)]
      · rw [if_neg h, if_neg (by omega)]
theorem quo_start (w : World) (a b : Nat) (ha : a < 9223372036854775808) : QuoAt w (w.alloc (.cells #[.int .i64 0, .int .i64 0, .int .i64 0] 3)) w.heap.size a b 3 (.slice none 0 0) := by
  refine ⟨?_, .inl ⟨none, 0, rfl, ?_⟩, fun n c h => by cases h; exact ⟨rfl, rfl⟩, (fun _ _ _ h => by cases h), Nat.le_refl _, (Only.refl _ w).alloc _⟩
  · refine World.rowIs_alloc w #[.int .i64 0, .int .i64 0, .int .i64 0] 3 _ (fun i hi => ?_)
    have hi3 : i < 3 := hi
    unfold quoF
    rw [if_neg (by omega)]
    match i, hi3 with
    | 0, _ => rfl
    | 1, _ => rfl
    | 2, _ => rfl
    | i + 3, h => omega
  · have e : a / 16777216 ^ 3 = 0 := Nat.div_eq_of_lt (Nat.lt_of_lt_of_le ha (by decide))
    rw [e, Nat.zero_mod, dgL_zero]
def quoL (a b : Nat) : List Int := [quoF a b 0 0, quoF a b 0 1, quoF a b 0 2]
theorem quoL_digs (a b : Nat) : Digs (quoL a b) := by
  intro x hx
  have h : ∀ j, 0 ≤ quoF a b 0 j ∧ quoF a b 0 j < 16777216 := fun j => by
    unfold quoF; rw [if_pos (Nat.zero_le _)]
    have := Nat.mod_lt (a / 16777216 ^ j / b) (show 0 < 16777216 by decide)
    omega
  unfold quoL at hx
  simp at hx
  rcases hx with rfl | rfl | rfl
  · exact h 0
  · exact h 1
  · exact h 2
theorem quoL_val {a b : Nat} (ha : a < 9223372036854775808) : dval (quoL a b) = a / b := by
  have e : ∀ j, (quoF a b 0 j).toNat = a / b / 16777216 ^ j % 16777216 := fun j => by
    unfold quoF; rw [if_pos (Nat.zero_le _), Int.toNat_natCast, Nat.div_div_eq_div_mul, Nat.div_div_eq_div_mul, Nat.mul_comm]
  unfold quoL
  simp only [dval, e]
  have h1 : a / b ≤ a := Nat.div_le_self a b
  generalize a / b = z at *
  simp only [Nat.reducePow]
  omega
theorem QuoAt.quo {w wr : World} {g a b : Nat} {vr : Value} (h : QuoAt w wr g a b 0 vr) : PtsAt wr.heap.size wr (.slice (some ⟨g, 0, none⟩) 3 3) (quoL a b) := by
  refine .inr ⟨g, 0, 3, rfl, h.row.lt, Nat.le_refl _, by decide, fun j hj => ?_⟩
  have hj3 : j < 3 := hj
  rw [Nat.zero_add, h.row.cell hj3]
  match j, hj3 with
  | 0, _ => rfl
  | 1, _ => rfl
  | 2, _ => rfl
  | j + 3, h => omega

end Go.Proofs.YtlhfgbkonmgahaaDoor

namespace Go.Proofs.YtlhfgbkonmgahaaDoor
open Go.RowKit Go.Shelf
attribute [local go_sem] Oper.semAt_some

/-- The powers of x modulo Q, as they are made. -/
def pwQ (x : Int) : Nat → Int
  | 0 => 1
  | k + 1 => pwQ x k * x % 1152921504606845789
theorem pwQ_bd (x : Int) : ∀ k, 0 ≤ pwQ x k ∧ pwQ x k < 1152921504606845789
  | 0 => by unfold pwQ; decide
  | _ + 1 => emod_self_lt _ _ (by decide)

/-- A cell stays as it is. -/
def KeepX (B : Nat) (W W' : World) : Prop := ∀ v, W.cell? ⟨B, 0, none⟩ = some v → W'.cell? ⟨B, 0, none⟩ = some v
theorem keepX_t {B : Nat} {X Y Z : World} (h : KeepX B X Y) (k : KeepX B Y Z) : KeepX B X Z := fun v hv => k v (h v hv)
theorem keepX_b {B : Nat} {w : World} (hB : B < w.heap.size) (W : World) (l : Nat) (o o' : Obj) (hl : w.heap.size ≤ l) (h : W.heap[l]? = some o) (h1 : o.isCells = false) (h2 : o.isWalk = false) : KeepX B W (W.putObj l o') :=
  fun _ hv => ((belowK_b (Nat.le_refl w.heap.size) W l o o' hl h h1 h2).cell (p := ⟨B, 0, none⟩) hB).trans hv

set_option maxRecDepth 100000 in
set_option maxHeartbeats 2000000 in
theorem powers1_in (n : Nat) (hn : 1 ≤ n) (l Bn Bx len : Nat) (x : Int) (hlen : len ≤ 9223372036854775807) (J Jx : List (Fin len) → World → Prop) (W : World)
    (hY : ∀ pre (y : Fin len) W1, J pre W1 → pre.length < len → YieldAt Fence.wide (n - 1) Tryd.prog l #[.int .i64 (y.1 : Int), .int .i64 (pwQ x y.1)] W1 fun e W' =>
      (e = .returned (.bool true) ∧ J (pre ++ [y]) W' ∧ KeepX Bx W1 W') ∨ (e = .returned (.bool false) ∧ Jx (pre ++ [y]) W'))
    (hcn : W.cell? ⟨Bn, 0, none⟩ = some (.int .i64 len)) (hcx : W.cell? ⟨Bx, 0, none⟩ = some (.int .i64 x)) (h0 : J [] W) :
    CallsIn Fence.wide n Tryd.prog 67 #[.func (.yield l) #[] #[], .pointer (some ⟨Bn, 0, none⟩), .pointer (some ⟨Bx, 0, none⟩)] W fun e W' => (∃ v, e = .returned v) ∧
      ((∃ ys, ys = upF len len ∧ J ys W') ∨ (∃ pre, True ∧ Jx pre W')) := by
  have HY := Lib.hid hY
  have HCX := Lib.hid hcx
  clear hY hcx
  refine callsIn_of_wp Tryd.func67 rfl trivial ?_ rfl
  simp only [Tryd.ntmps67, List.size_toArray, List.length_cons, List.length_nil, Nat.reduceAdd, Nat.reduceSub, Array.replicate_succ, Array.replicate_zero, List.push_toArray, List.append_toArray, List.nil_append, List.cons_append]
  gi_wp2
  gi_loopw [4, 7] (fun vp i wr => ∃ k : Nat, k ≤ len ∧ i = .int .i64 k ∧ vp = .int .i64 (pwQ x k) ∧ J (upF len k) wr ∧ wr.cell? ⟨Bx, 0, none⟩ = some (.int .i64 x)) (fun _ i _ => len - (intOf i).toNat)
  case atStart => exact ⟨0, Nat.zero_le _, rfl, rfl, h0, HCX.out⟩
  case round =>
    obtain ⟨k, hk, rfl, rfl, hJs, hnx⟩ := hrel
    have HJS := Lib.hid hJs
    have HNX := Lib.hid hnx
    clear hJs hnx hcn
    by_cases hlt : k < len
    · have i1 : (k : Int) < len := by omega
      have HPN := Lib.hid (show pwQ x (k + 1) = pwQ x k * x % 1152921504606845789 from rfl)
      obtain ⟨fn, tmps, assign, body, hy, hR⟩ := HY.out (upF len k) ⟨k, hlt⟩ wr HJS.out (by rw [upF_length k (by omega)]; exact hlt)
      dsimp only at hy
      have HR := Lib.hid hR
      clear hR
      gi_wp2
      refine HR.out.mono ?_
      rintro e W3 (⟨rfl, hJ3, hk3⟩ | ⟨rfl, hJx3⟩)
      · have HJ3 := Lib.hid hJ3
        have cx := hk3 _ HNX.out
        have HK3 := Lib.hid cx
        clear hJ3 hk3 hy
        gi_wp2_with fail
        refine ⟨trivial, (callsIn_wide.2 (mul_any (pwQ x k) x 1152921504606845789 _ (by decide) (by decide))).mono ?_⟩
        rintro e w' ⟨rfl, rfl⟩
        gi_wp2
        go_roundw
        case rel => exact ⟨k + 1, by omega, by go_num, by rw [HPN.out], by rw [upF_succ hlt]; exact HJ3.out, HK3.out⟩
        case measure => simp [intOf]; omega
      · clear hy
        gi_wp2
        refine bodyPost_ret (results_none rfl _ _ _) rfl ?_
        exact ⟨⟨_, rfl⟩, .inr ⟨_, trivial, hJx3⟩⟩
    · obtain rfl : k = len := by omega
      have i1 : ¬ (k : Int) < k := by omega
      gi_wp2
      go_end0
      first | exact ⟨⟨_, rfl⟩, .inl ⟨_, rfl, HJS.out⟩⟩ | exact ⟨⟨_, rfl⟩, .inl HJS.out⟩

/-- The powers of x, one after the other, with their places. -/
theorem powers_stops (n : Nat) (hn : 1 ≤ n) (Bn Bx len : Nat) (x : Int) (w : World) (hlen : len ≤ 9223372036854775807) (hBn : Bn < w.heap.size) (hBx : Bx < w.heap.size) (hcn : w.cell? ⟨Bn, 0, none⟩ = some (.int .i64 len)) (hcx : w.cell? ⟨Bx, 0, none⟩ = some (.int .i64 x)) :
    SeqStopsK Fence.wide n Tryd.prog 67 #[.pointer (some ⟨Bn, 0, none⟩), .pointer (some ⟨Bx, 0, none⟩)] (fun y : Fin len => #[Value.int .i64 (y.1 : Int), .int .i64 (pwQ x y.1)]) (KeepX Bx) (fun ys => ys = upF len len) (fun _ => True) len w := fun l J Jx W hW _ _ hY h0 =>
  powers1_in n hn l Bn Bx len x hlen J Jx W hY ((hW.cell (p := ⟨Bn, 0, none⟩) hBn).trans hcn) ((hW.cell (p := ⟨Bx, 0, none⟩) hBx).trans hcx) h0

theorem powers_any (m x : Int) (w : World) :
    Calls Tryd.prog 58 #[.int .i64 m, .int .i64 x] w fun e w' => e = .returned (.func (.func 67) #[] #[.pointer (some ⟨w.heap.size, 0, none⟩), .pointer (some ⟨w.heap.size + 1, 0, none⟩)]) ∧ w' = (w.alloc (.cells #[.int .i64 m] 3)).alloc (.cells #[.int .i64 x] 3) := by
  go_enter Tryd.func58, Tryd.ntmps58
  go_wp2
  go_ret
  exact ⟨rfl, rfl⟩

def stepA (cs : List Int) (x s : Int) (i : Fin cs.length) : Int := s * powM (ptAt cs i.1) (pwQ x i.1) 2305843009213691579 % 2305843009213691579
def stepV (cs : List Int) (x s : Int) (i : Fin cs.length) : Int := (s + ptAt cs i.1 * pwQ x i.1) % 1152921504606845789
/-- The public value of commitments at x. -/
def atZ (cs : List Int) (x : Int) : Int := (upF cs.length cs.length).foldl (stepA cs x) 1

theorem at_round {w W : World} {n : Nat} {u sv : Value} {r z : Int} {o : Obj} (hc5 : W.cell? ⟨n + 1, 0, none⟩ = some u) (hf5 : W.frozen? ⟨n + 1, 0, none⟩ = false) (hc2 : W.cell? ⟨n, 0, none⟩ = some sv) (hB : Below n w W) (hsz : n ≤ W.heap.size) (h4l : n + 1 < W.heap.size) (hz : r = z) :
    KeepsOthers W ((W.setCell ⟨n + 1, 0, none⟩ (.int .i64 z)).alloc o).drew ∧ KeepX (n + 1 + 1 + 1) W ((W.setCell ⟨n + 1, 0, none⟩ (.int .i64 z)).alloc o).drew ∧
      ((((W.setCell ⟨n + 1, 0, none⟩ (.int .i64 z)).alloc o).drew.cell? ⟨n + 1, 0, none⟩ = some (.int .i64 r) ∧ ((W.setCell ⟨n + 1, 0, none⟩ (.int .i64 z)).alloc o).drew.frozen? ⟨n + 1, 0, none⟩ = false) ∧
        ((W.setCell ⟨n + 1, 0, none⟩ (.int .i64 z)).alloc o).drew.cell? ⟨n, 0, none⟩ = some sv) ∧ Below n w ((W.setCell ⟨n + 1, 0, none⟩ (.int .i64 z)).alloc o).drew := by
  subst hz
  have hO : Only (fun k => k = n + 1) W ((W.setCell ⟨n + 1, 0, none⟩ (.int .i64 r)).alloc o).drew := (((Only.refl (fun k => k = n + 1) W).setCell (p := ⟨n + 1, 0, none⟩) (.inl rfl) _).alloc _).drew
  have hO1 : Only (fun _ => False) (W.setCell ⟨n + 1, 0, none⟩ (.int .i64 r)) ((W.setCell ⟨n + 1, 0, none⟩ (.int .i64 r)).alloc o).drew := ((Only.refl _ _).alloc _).drew
  refine ⟨((KeepsOthers.setCell _ _ _).trans (KeepsOthers.alloc _ _)).trans (KeepsOthers.drew _), fun v hv => hO.cell hv (by simp; omega), ⟨⟨hO1.cell (World.cell?_setCell_same' _ _ _ (by rw [hc5]; rfl)) id, ?_⟩, hO.cell hc2 (by simp)⟩, hB.trans (hO.below hsz (fun i hi e => by omega))⟩
  exact (World.frozen?_of_block (hO1.block (n + 1) (by simpa [World.setCell] using h4l) id)).trans (by rw [World.frozen?_setCell]; exact hf5)

set_option maxRecDepth 100000 in
set_option maxHeartbeats 2000000 in
theorem at_any (sv : Value) (cs : List Int) (x : Int) (w : World) (hI : PtsAt w.heap.size w sv cs) (hlen : cs.length ≤ 9223372036854775807) :
    Calls Tryd.prog 44 #[sv, .int .i64 x] w fun e W' => e = .returned (.int .i64 (atZ cs x)) ∧ Below w.heap.size w W' := by
  obtain ⟨a0, c0, rfl⟩ := hI.slice
  refine (callsIn_wide (n := 5)).1 ?_
  refine callsIn_of_wp_marks Tryd.func44 rfl trivial ?_ rfl
  simp only [Tryd.ntmps44, List.size_toArray, List.length_cons, List.length_nil, Nat.reduceAdd, Nat.reduceSub, Array.replicate_succ, Array.replicate_zero, List.push_toArray, List.append_toArray, List.nil_append, List.cons_append]
  have HI := Lib.hid hI
  clear hI
  gi_wp2_with fail
  refine ⟨trivial, (callsIn_wide.2 (powers_any cs.length x _)).mono ?_⟩
  rintro e w' ⟨rfl, rfl⟩
  have HB0 := Lib.hid (show Below w.heap.size w ((((w.alloc (.cells #[.slice a0 cs.length c0] 23)).alloc (.cells #[.int .i64 1] 3)).alloc (.cells #[.int .i64 cs.length] 3)).alloc (.cells #[.int .i64 x] 3)) from ((((Below.refl _ w).alloc (Nat.le_refl _) _).alloc (by simp) _).alloc (by simp; omega) _).alloc (by simp; omega) _)
  have b2 := Boxed.new w 23 (.slice a0 cs.length c0)
  have b5 := Boxed.new (w.alloc (.cells #[.slice a0 cs.length c0] 23)) 3 (.int .i64 1)
  have b6 := Boxed.new ((w.alloc (.cells #[.slice a0 cs.length c0] 23)).alloc (.cells #[.int .i64 1] 3)) 3 (.int .i64 cs.length)
  have b7 := Boxed.new (((w.alloc (.cells #[.slice a0 cs.length c0] 23)).alloc (.cells #[.int .i64 1] 3)).alloc (.cells #[.int .i64 cs.length] 3)) 3 (.int .i64 x)
  simp only [World.size_alloc] at b5 b6 b7
  have HB2 := Lib.hid (((b2.alloc (.cells #[.int .i64 1] 3)).alloc (.cells #[.int .i64 cs.length] 3)).alloc (.cells #[.int .i64 x] 3)).cell
  have HB5 := Lib.hid ((b5.alloc (.cells #[.int .i64 cs.length] 3)).alloc (.cells #[.int .i64 x] 3))
  have HB6 := Lib.hid (b6.alloc (.cells #[.int .i64 x] 3)).cell
  have HB7 := Lib.hid b7.cell
  clear b2 b5 b6 b7
  gi_wp2
  refine wpIn_rangeFunc_ownF rfl (by decide) (gf := 67) (lb := #[.pointer (some ⟨w.heap.size + 1 + 1, 0, none⟩), .pointer (some ⟨w.heap.size + 1 + 1 + 1, 0, none⟩)]) rfl trivial (enters_of Tryd.func67 (by kernel_rfl) rfl)
    (powers_stops (5 - 1) (by decide) (w.heap.size + 1 + 1) (w.heap.size + 1 + 1 + 1) cs.length x _ hlen (by simp) (by simp) HB6.out HB7.out) keepX_t (keepX_b (by simp)) (Below.refl _ _) (fun _ => rfl)
    (fun pre W => ((W.cell? ⟨w.heap.size + 1, 0, none⟩ = some (.int .i64 (pre.foldl (stepA cs x) 1)) ∧ W.frozen? ⟨w.heap.size + 1, 0, none⟩ = false) ∧ W.cell? ⟨w.heap.size, 0, none⟩ = some (.slice a0 cs.length c0)) ∧ Below w.heap.size w W)
    (fun _ _ _ => False)
    (OwnFrom.and (Own.from (fun s A B row hs hg hr => ⟨⟨cell_kept hs.1.1 hg hr, (frozen_kept hs.1.1 hg hr).trans hs.1.2⟩, cell_kept hs.2 hg hr⟩) _) (ownFrom_below (Nat.le_refl _) (by simp; omega)))
    (fun _ _ _ _ _ hs _ _ => hs)
    ⟨⟨⟨HB5.out.cell, HB5.out.frozen⟩, HB2.out⟩, HB0.out⟩
    (fun y => { tmps := #[.slice a0 cs.length c0, .int .i64 x, .pointer (some ⟨w.heap.size, 0, none⟩), undef, .int .i64 0, .pointer (some ⟨w.heap.size + 1, 0, none⟩), .int .i64 (y.1 : Int), .int .i64 (pwQ x y.1), .slice a0 cs.length c0, .int .i64 cs.length, .int .i64 x, .func (.func 67) #[] #[.pointer (some ⟨w.heap.size + 1 + 1, 0, none⟩), .pointer (some ⟨w.heap.size + 1 + 1 + 1, 0, none⟩)], .int .i64 (y.1 : Int), .int .i64 (pwQ x y.1), undef, undef, undef, undef, undef, undef, undef, undef, undef], defers := [] }) ?assign ?body ?done ?stop
  case assign =>
    intro l x W K hK
    gi_wp2
    exact hK
  case body =>
    clear HB0 HB2 HB5 HB6 HB7
    rintro l pre y W ⟨⟨⟨hc5, hf5⟩, hc2⟩, hB⟩ _
    have hpw := pwQ_bd x y.1
    have hsz := hB.size
    have h4l := World.block_lt_of_cell? W _ hc5
    obtain ⟨b, off, rfl, hb, hl0, hcap1, hcap2, hce⟩ := (PtsAt.mono hsz (HI.out.below hB)).cellAt y.2
    have HST := Lib.hid (foldl_snoc (stepA cs x) 1 pre y)
    obtain ⟨acc, hacc⟩ : ∃ acc, pre.foldl (stepA cs x) 1 = acc := ⟨_, rfl⟩
    have HSX := Lib.hid (show stepA cs x acc y = acc * powM (ptAt cs y.1) (pwQ x y.1) 2305843009213691579 % 2305843009213691579 from rfl)
    rw [hacc] at hc5
    have HACC := Lib.hid hacc
    clear hacc
    obtain ⟨yn, hy⟩ := y
    dsimp only at hpw hce HSX ⊢
    generalize pwQ x yn = pw at *
    generalize ptAt cs yn = v at *
    obtain ⟨pw0, pw1⟩ := hpw
    obtain ⟨z, hz⟩ : ∃ z, powM v pw 2305843009213691579 = z := ⟨_, rfl⟩
    have HPW := Lib.hid (fun w => show Calls Tryd.prog 9 #[.int .i64 v, .int .i64 pw, .int .i64 2305843009213691579] w fun e w' => e = .returned (.int .i64 z) ∧ w' = w.alloc (.cells #[.int .i64 2305843009213691579] 3) from by rw [← hz]; exact pow_any v pw 2305843009213691579 w (by decide) (by decide) pw0 (by omega))
    rw [hz] at HSX
    clear hz hl0
    have i1 : (yn : Int) < cs.length := by omega
    have i2 : 0 ≤ (yn : Int) := by omega
    have hmx : Tryd.prog.follows .mixedOrders = true := by kernel_rfl
    gi_wp2
    gi_region_with_o (first
      | (refine ⟨trivial, ?_⟩; gi_at_call 9; refine (CallsIn.inRound l (callsIn_wide.2 (HPW.out _))).mono ?_; rintro e w' ⟨rfl, rfl⟩)
      | (refine ⟨trivial, ?_⟩; gi_at_call 28; refine (CallsIn.inRound l (callsIn_wide.2 (mul_any acc z 2305843009213691579 _ (by decide) (by decide)))).mono ?_; rintro e w' ⟨rfl, rfl⟩))
    all_goals (clear HPW hmx i1 i2 pw0 pw1 hce hcap1 hcap2 hb HI)
    all_goals gi_wp2
    all_goals exact at_round hc5 hf5 hc2 hB hsz h4l (by rw [HST.out, HACC.out, HSX.out])
  case done =>
    rintro D ys W hD rfl ⟨⟨⟨hc4, _⟩, _⟩, hB⟩ hK
    gi_wp2
    refine ⟨by simp, .inl ⟨_, _, rfl, run_takeDeferred hK, ?_⟩⟩
    exact ⟨_, results_tmp rfl _ _ _, rfl, hB.trans (belowK_b (w := w) (Nat.le_refl _) W D _ _ (by simp at hD; omega) hK rfl rfl)⟩
  case stop =>
    rintro D c pre W _ _ h _
    exact h.elim
end Go.Proofs.YtlhfgbkonmgahaaDoor
