/-
  Agree, plain: what a vote says, and its text.
  Agree, plain: nodes, a net and a world of honest members, as functions on data (all votes are genuine; values are of one byte).
  Rules, plain: names, numerals, the words of a line, what a line does to a draw that is being read, and what a text gives.
  Rules: the program's isName and numeral.
  Rules, the reference's numbers: small, Int for any number; Add; Mul by ten.
  Rules, the reference's numbers: Add.
  Rules, the reference's numbers: Mul by ten.
  Rules, the reference's numbers: Mul by ten for great numbers.
  Rules: the program's need, name, number, small.
  Rules: the program's fits, head, special.
-/
import Derived.Test.YtldkjkjpaiajlaaGreatDoorPa07
import Derived.Test.YtldkjkjpaiajlaaGreatDoorPa16
import Derived.Test.YtldkjkjpaiajlaaGreatDoorPa15
import Derived.Deep.OwnRows
namespace Go.Proofs.YtldkjkjpaiajlaaGreatDoor
open Go.RowKit

def kindB : Nat → ByteArray
  | 0 => ⟨#[112, 114, 111, 112, 111, 115, 101]⟩
  | 1 => ⟨#[112, 114, 101, 112, 97, 114, 101]⟩
  | _ => ⟨#[99, 111, 109, 109, 105, 116]⟩
def hexD (n : Nat) : UInt8 := if n < 10 then UInt8.ofNat (48 + n) else UInt8.ofNat (87 + n)
def hexL (l : List UInt8) : List UInt8 := l.flatMap fun b => [hexD (b.toNat / 16), hexD (b.toNat % 16)]
def hex9B (s : ByteArray) : ByteArray := ⟨(hexL s.data.toList).toArray⟩
/-- A value of one byte. -/
def oneB (n : Nat) : ByteArray := ⟨#[UInt8.ofNat n]⟩
/-- What a vote says (values are of one byte). -/
structure Bl where
  kind : Nat
  height : Nat
  view : Nat
  val : Nat
deriving DecidableEq
structure BlOk (b : Bl) : Prop where
  kind : b.kind < 3
  height : b.height ≤ 1000000000
  view : b.view ≤ 1000000000
  val : b.val < 256
def blL (b : Bl) : List (List UInt8) := [(kindB b.kind).data.toList, Lib.decDigits b.height, Lib.decDigits b.view, hexL [UInt8.ofNat b.val]]
/-- The text of a vote. -/
def blB (b : Bl) : ByteArray := ⟨(Lib.join (blL b) [32]).toArray⟩
theorem hexD_val : ∀ n, n < 16 → (hexD n).toNat = if n < 10 then 48 + n else 87 + n := by decide
theorem hexL_cons (b : UInt8) (l : List UInt8) : hexL (b :: l) = hexD (b.toNat / 16) :: hexD (b.toNat % 16) :: hexL l := rfl
theorem hexL_len : ∀ l : List UInt8, (hexL l).length = 2 * l.length
  | [] => rfl
  | b :: l => by rw [hexL_cons, List.length_cons, List.length_cons, hexL_len l, List.length_cons]; omega
theorem hexD_range {n : Nat} (h : n < 16) : 48 ≤ (hexD n).toNat ∧ (hexD n).toNat ≤ 102 := by
  rw [hexD_val n h]
  split <;> omega
theorem hexL_range : ∀ l : List UInt8, ∀ c ∈ hexL l, 48 ≤ c.toNat ∧ c.toNat ≤ 102
  | [], c, h => by cases h
  | b :: l, c, h => by
    have hb : b.toNat < 256 := b.toNat_lt
    rw [hexL_cons] at h
    rcases List.mem_cons.1 h with rfl | h
    · exact hexD_range (by omega)
    · rcases List.mem_cons.1 h with rfl | h
      · exact hexD_range (by omega)
      · exact hexL_range l c h
theorem hexD_inj {a b : Nat} (ha : a < 16) (hb : b < 16) (h : hexD a = hexD b) : a = b := by
  have := congrArg UInt8.toNat h
  rw [hexD_val a ha, hexD_val b hb] at this
  split at this <;> split at this <;> omega
theorem noSp_of_ge {l : List UInt8} (h : ∀ b ∈ l, 33 ≤ b.toNat) : noC 32 l := fun b hb e => by
  have := h b hb
  rw [e] at this
  have : (32 : UInt8).toNat = 32 := rfl
  omega
theorem kindB_range : ∀ k, k < 3 → ∀ b ∈ (kindB k).data.toList, 33 ≤ b.toNat := by decide
theorem kindB_inj : ∀ j, j < 3 → ∀ k, k < 3 → (kindB j).data.toList = (kindB k).data.toList → j = k := by decide
theorem blL_noSp {b : Bl} (h : b.kind < 3) : ∀ l ∈ blL b, noC 32 l := by
  intro l hl
  simp only [blL, List.mem_cons, List.not_mem_nil, or_false] at hl
  rcases hl with rfl | rfl | rfl | rfl
  · exact noSp_of_ge (kindB_range b.kind h)
  · exact noSp_of_ge (fun c hc => by have := digs_range b.height c hc; omega)
  · exact noSp_of_ge (fun c hc => by have := digs_range b.view c hc; omega)
  · exact noSp_of_ge (fun c hc => by have := hexL_range [UInt8.ofNat b.val] c hc; omega)
theorem bl_words {b : Bl} (h : b.kind < 3) : (wordsB (blB b)).map (·.data.toList) = blL b := words_of _ _ _ (blL_noSp h) rfl
theorem blv_len {b : Bl} (h : BlOk b) : (blB b).size ≤ 40 := by
  have e : (blB b).size = (Lib.join (blL b) [32]).length := by unfold blB; simp [ByteArray.size]
  have k : ∀ k, k < 3 → (kindB k).data.toList.length ≤ 7 := by decide
  have h1 := k b.kind h.kind
  have h2 := (digs_len 9 b.height (by have := h.height; omega)).1
  have h3 := (digs_len 9 b.view (by have := h.view; omega)).1
  have h4 := hexL_len [UInt8.ofNat b.val]
  rw [e]
  unfold blL
  simp only [Lib.join_cons, Lib.joinTail, List.map_cons, List.map_nil, List.flatten_cons, List.flatten_nil, List.length_append, List.length_cons, List.length_nil] at h4 ⊢
  omega
end Go.Proofs.YtldkjkjpaiajlaaGreatDoor

namespace Go.Proofs.YtldkjkjpaiajlaaGreatDoor
open Go.RowKit

/-- A member: its Id, its weight, its secret. -/
structure Mm where
  id : Nat
  wt : Nat
  sec : Int
section
variable (ms : List Mm)
def totM : Nat := ms.foldl (fun s m => s + m.wt) 0
def leadA : List Mm → Nat → Nat
  | [], _ => 0
  | m :: r, k => if k < m.wt then m.id else leadA r (k - m.wt)
def leadM (h v : Nat) : Nat := leadA ms ((h + v) % totM ms)
variable (delay : Nat → Nat)
end
end Go.Proofs.YtldkjkjpaiajlaaGreatDoor

namespace Go.Proofs.YtldkjkjpaiajlaaGreatDoor
open Go.RowKit

def wAt (ws : List ByteArray) (j : Nat) : ByteArray := ws.getD j ByteArray.empty
/-- Is a byte one that a name may have at place k? -/
def nmOkZ (y : Int) (k : Nat) : Bool :=
  ((decide (97 ≤ y) && decide (y ≤ 122)) || (decide (65 ≤ y) && decide (y ≤ 90))) || (decide (0 < k) && ((decide (48 ≤ y) && decide (y ≤ 57)) || y == 45))
def nmOk (s : ByteArray) (k : Nat) : Bool := nmOkZ (byteZ s k) k
def nameB (s : ByteArray) : Bool := decide (1 ≤ s.size) && decide (s.size ≤ 20) && (List.range s.size).all (nmOk s)
def dgOk (s : ByteArray) (k : Nat) : Bool := decide (48 ≤ byteZ s k) && decide (byteZ s k ≤ 57)
def numB (s : ByteArray) : Bool := decide (1 ≤ s.size) && !(decide (2 ≤ s.size) && byteZ s 0 == 48) && (List.range s.size).all (dgOk s)
/-- The value behind k digits, at most 1000000001. -/
def capTo (s : ByteArray) : Nat → Int
  | 0 => 0
  | k + 1 => min (10 * capTo s k + (byteZ s k - 48)) 1000000001
def amtV (s : ByteArray) : Int := capTo s s.size
/-- A draw. -/
structure Dr where
  name : ByteArray
  kind : Int
  round : Int
  price : Int
  pool : Int
  pick : Int
  tiers : List (Int × Int)
  roll : Bool
  places : List (ByteArray × Int)
  cls : Int
  size : Int
  quotas : List (ByteArray × Int × Int)
  barred : List Int
def hasTier (l : List (Int × Int)) (m : Int) : Bool := l.any fun u => u.1 == m
def hasPlace (l : List (ByteArray × Int)) (n : ByteArray) : Bool := l.any fun u => decide (u.1 = n)
def hasQuota (l : List (ByteArray × Int × Int)) (n : ByteArray) : Bool := l.any fun u => decide (u.1 = n)
def hasBar (l : List Int) (m : Int) : Bool := l.any fun u => u == m
def kDraw : ByteArray := ⟨#[100, 114, 97, 119]⟩
def kLottery : ByteArray := ⟨#[108, 111, 116, 116, 101, 114, 121]⟩
def kBallot : ByteArray := ⟨#[98, 97, 108, 108, 111, 116]⟩
def kPanel : ByteArray := ⟨#[112, 97, 110, 101, 108]⟩
def kRound : ByteArray := ⟨#[114, 111, 117, 110, 100]⟩
def kPrice : ByteArray := ⟨#[112, 114, 105, 99, 101]⟩
def kTier : ByteArray := ⟨#[116, 105, 101, 114]⟩
def kRoll : ByteArray := ⟨#[114, 111, 108, 108]⟩
def kPlace : ByteArray := ⟨#[112, 108, 97, 99, 101]⟩
def kQuota : ByteArray := ⟨#[113, 117, 111, 116, 97]⟩
def kBar : ByteArray := ⟨#[98, 97, 114]⟩
/-- The number of a line's word: 0 for draw, .., 10 for bar, 11 for none. -/
def keyOf (w : ByteArray) : Nat :=
  if w = kDraw then 0 else if w = kLottery then 1 else if w = kBallot then 2 else if w = kPanel then 3 else if w = kRound then 4 else if w = kPrice then 5
  else if w = kTier then 6 else if w = kRoll then 7 else if w = kPlace then 8 else if w = kQuota then 9 else if w = kBar then 10 else 11
end Go.Proofs.YtldkjkjpaiajlaaGreatDoor

namespace Go.Proofs.YtldkjkjpaiajlaaGreatDoor
open Go.RowKit

theorem all_range_no {p : Nat → Bool} {n k : Nat} (hk : k < n) (h : p k = false) : (List.range n).all p = false := by
  rw [Bool.eq_false_iff]
  intro e
  rw [List.all_eq_true] at e
  rw [e k (List.mem_range.2 hk)] at h
  cases h
theorem byteZ_bdR (b : ByteArray) (i : Nat) : 0 ≤ byteZ b i ∧ byteZ b i ≤ 255 := by
  unfold byteZ
  have := (b.data.toList.getD i 0).toNat_lt
  omega
theorem num_noE {s : ByteArray} (h : s.size = 0) : numB s = false := by
  unfold numB
  rw [h]; rfl
theorem num_noZ {s : ByteArray} (h : 2 ≤ s.size) (h0 : byteZ s 0 = 48) : numB s = false := by
  unfold numB
  rw [show decide (2 ≤ s.size) = true by simpa using h, h0]; simp
theorem num_ofZ {s : ByteArray} (h : 1 ≤ s.size) (h0 : s.size = 1 ∨ byteZ s 0 ≠ 48) : numB s = (List.range s.size).all (dgOk s) := by
  unfold numB
  rw [show decide (1 ≤ s.size) = true by simpa using h]
  rcases h0 with h0 | h0
  · rw [show decide (2 ≤ s.size) = false by simp; omega]; rfl
  · rw [show (byteZ s 0 == 48) = false by simpa using h0]; simp
end Go.Proofs.YtldkjkjpaiajlaaGreatDoor

namespace Go.Proofs.YtldkjkjpaiajlaaGreatDoor
open Go.RowKit

set_option maxHeartbeats 1000000 in
theorem rsmallk_yes (n k : Nat) (w : World) (hk : k ≤ 7) (hn : (natB n).size ≤ k) :
    Calls Tryz.prog 108 #[.string (natB n), .int .i64 k] w fun e w' => e = .returned (.tuple #[.int .i64 n, .bool true]) ∧ w = w' := by
  have HC := Lib.hid (rcanon_any (natB n) w (by omega))
  rw [valB_natB] at HC
  have hlt : n < 9223372036854775808 := by
    have h1 := valL_lt (beL n)
    rw [valL_beL, ← natB_size] at h1
    have h2 : 256 ^ (natB n).size ≤ 256 ^ 7 := Nat.pow_le_pow_right (by decide) (by omega)
    have h3 : (256 : Nat) ^ 7 = 72057594037927936 := by decide
    omega
  have HI := Lib.hid (rint_any n w hlt)
  have i1 : ¬ (k : Int) < (natB n).size := by omega
  generalize natB n = b at *
  clear hn hlt hk
  go_enter Tryz.func108, Tryz.ntmps108
  go_wp2_with fail
  refine HC.out.mono ?_
  rintro e w' ⟨rfl, rfl⟩
  go_wp2_with fail
  refine HI.out.mono ?_
  rintro e w' ⟨rfl, rfl⟩
  go_wp2
  go_ret2
  exact ⟨rfl, rfl⟩
set_option maxHeartbeats 1000000 in
theorem rsmallk_no (n k : Nat) (w : World) (hn : k < (natB n).size) (hs : (natB n).size ≤ 1000000) :
    Calls Tryz.prog 108 #[.string (natB n), .int .i64 k] w fun e w' => e = .returned (.tuple #[.int .i64 0, .bool false]) ∧ w = w' := by
  have HC := Lib.hid (rcanon_any (natB n) w (by omega))
  rw [valB_natB] at HC
  have i1 : (k : Int) < (natB n).size := by omega
  generalize natB n = b at *
  clear hn hs
  go_enter Tryz.func108, Tryz.ntmps108
  go_wp2_with fail
  refine HC.out.mono ?_
  rintro e w' ⟨rfl, rfl⟩
  go_wp2
  go_ret2
  exact ⟨rfl, rfl⟩
theorem natB_small (n k : Nat) (h : (natB n).size ≤ k) : n < 256 ^ k := by
  have h1 := valL_lt (beL n)
  rw [valL_beL, ← natB_size] at h1
  exact Nat.lt_of_lt_of_le h1 (Nat.pow_le_pow_right (by decide) h)
theorem dgL_le (n : Nat) : (dgL n).length ≤ (natB n).size := by
  refine dgL_len ?_
  have h1 := natB_small n _ (Nat.le_refl _)
  exact Nat.lt_of_lt_of_le h1 (Nat.pow_le_pow_left (by decide) _)
/-- One digit of a sum. -/
theorem add_step (xs ys l : List Int) (k : Nat) (c x y : Int) (hk : l.length = k) (h : (dval l : Int) + 16777216 ^ k * c = dval (xs.take k) + dval (ys.take k)) (hx : (dval (xs.take (k + 1)) : Int) = dval (xs.take k) + 16777216 ^ k * x)
    (hy : (dval (ys.take (k + 1)) : Int) = dval (ys.take k) + 16777216 ^ k * y) :
    (dval (l ++ [(c + x + y) % 16777216]) : Int) + 16777216 ^ (k + 1) * ((c + x + y) / 16777216) = dval (xs.take (k + 1)) + dval (ys.take (k + 1)) := by
  have hm : 0 ≤ (c + x + y) % 16777216 := Int.emod_nonneg _ (by decide)
  have e0 : (dval (l ++ [(c + x + y) % 16777216]) : Int) = dval l + 16777216 ^ k * ((c + x + y) % 16777216) := by
    rw [dval_snoc, hk]
    obtain ⟨m, hm2⟩ := Int.eq_ofNat_of_zero_le hm
    rw [hm2]
    simp
  rw [e0, hx, hy, Int.pow_succ]
  have e3 := Int.emod_add_mul_ediv (c + x + y) 16777216
  generalize (c + x + y) / 16777216 = q at *
  generalize (c + x + y) % 16777216 = r at *
  generalize (16777216 : Int) ^ k = P at *
  grind
theorem take_all {α : Type} {l : List α} {k : Nat} (h : l.length ≤ k) : l.take k = l := List.take_of_length_le h
theorem pt_beyond {l : List Int} {k : Nat} (h : ¬ k < l.length) : ptAt l k = 0 := by
  unfold ptAt; rw [List.getD_eq_getElem?_getD, List.getElem?_eq_none (by omega)]; rfl
structure AddAt (w wr : World) (xs ys : List Int) (k : Nat) (c : Int) (l : List Int) (vo : Value) : Prop where
  c0 : 0 ≤ c
  c1 : c ≤ 1
  len : l.length = k
  digs : Digs l
  val : (dval l : Int) + 16777216 ^ k * c = dval (xs.take k) + dval (ys.take k)
  own : wr.ownsRow w.heap.size 3 1 vo k (irow l)
  only : Only (fun _ => False) w wr
end Go.Proofs.YtldkjkjpaiajlaaGreatDoor

namespace Go.Proofs.YtldkjkjpaiajlaaGreatDoor
open Go.RowKit

set_option maxRecDepth 100000 in
set_option maxHeartbeats 2000000 in
theorem radd_small (a b : Nat) (w : World) (ha : (natB a).size ≤ 7) (hb : (natB b).size ≤ 7) :
    Calls Tryz.prog 68 #[.string (natB a), .string (natB b)] w fun e w' => e = .returned (.string (natB (a + b))) ∧ Only (fun _ => False) w w' := by
  have ha1 := natB_small a 7 ha
  have hb1 := natB_small b 7 hb
  have h3 : (256 : Nat) ^ 7 = 72057594037927936 := by decide
  rw [h3] at ha1 hb1
  have H1 := Lib.hid (fun w => rsmallk_yes a 7 w (Nat.le_refl _) ha)
  have H2 := Lib.hid (fun w => rsmallk_yes b 7 w (Nat.le_refl _) hb)
  have HOF := Lib.hid (fun w => rof_any (a + b) w (by omega))
  clear ha hb h3
  generalize natB a = sa at *
  generalize natB b = sb at *
  go_enter Tryz.func68, Tryz.ntmps68
  go_wp2_with fail
  refine (H1.out _).mono ?_
  rintro e w' ⟨rfl, rfl⟩
  go_wp2_with fail
  refine (H2.out _).mono ?_
  rintro e w' ⟨rfl, rfl⟩
  go_wp2_with fail
  refine (HOF.out _).mono ?_
  rintro e w2 ⟨rfl, hO⟩
  go_wp2_with fail
  go_ret
  exact ⟨rfl, hO⟩
set_option maxRecDepth 100000 in
set_option maxHeartbeats 8000000 in
theorem radd_big (a b : Nat) (w : World) (hs : (natB a).size ≤ 9000) (hs1 : 7 < (natB a).size) (hs2 : (natB b).size ≤ 7) :
    Calls Tryz.prog 68 #[.string (natB a), .string (natB b)] w fun e w' => e = .returned (.string (natB (a + b))) ∧ Only (fun _ => False) w w' := by
  obtain ⟨i0, hi0, hz0, hz1, hz2⟩ := info_parts Tryz.infoI
  have HI := Lib.hid hi0
  have HI0 := Lib.hid hz0
  have HI1 := Lib.hid hz1
  have HI2 := Lib.hid hz2
  have HD1 := Lib.hid (fun w => rofd_any a w (by omega))
  have HD2 := Lib.hid (fun w => rofd_any b w (by omega))
  have la : (dgL a).length ≤ (natB a).size := dgL_le a
  have lb : (dgL b).length ≤ (natB b).size := dgL_le b
  have HL := Lib.hid (show (dgL a).length ≤ 9000 ∧ (dgL b).length ≤ 9000 by omega)
  have HXD := Lib.hid (digs_dgL a)
  have HYD := Lib.hid (digs_dgL b)
  have HVA := Lib.hid (show dval (dgL a) = a from dval_dgL a)
  have HVB := Lib.hid (show dval (dgL b) = b from dval_dgL b)
  have HS1 := Lib.hid (fun w => rsmallk_no a 7 w hs1 (by omega))
  have HS2 := Lib.hid (fun w => rsmallk_yes b 7 w (Nat.le_refl _) hs2)
  clear hs hs1 hs2 la lb hi0 hz0 hz1 hz2
  generalize natB a = sa at *
  generalize natB b = sb at *
  go_enter Tryz.func68, Tryz.ntmps68
  go_wp2_with fail
  refine (HS1.out _).mono ?_
  rintro e w' ⟨rfl, rfl⟩
  go_wp2_with fail
  refine (HS2.out _).mono ?_
  rintro e w' ⟨rfl, rfl⟩
  go_wp2_with fail
  refine (HD1.out _).mono ?_
  rintro e w1 ⟨v1, rfl, hp1, _, _, hO1⟩
  go_wp2_with fail
  refine (HD2.out _).mono ?_
  rintro e w2 ⟨v2, rfl, hp2, _, _, hO2⟩
  have HP1 := Lib.hid (PtsAt.only hO2 hp1)
  have HP2 := Lib.hid hp2
  have HO2 := Lib.hid (hO1.trans hO2)
  clear hp1 hp2 hO1 hO2
  obtain ⟨a1, c1, rfl⟩ := HP1.out.slice
  obtain ⟨a2, c2, rfl⟩ := HP2.out.slice
  generalize dgL a = xs at *
  generalize dgL b = ys at *
  go_wp2_with fail
  go_loopw [11, 12, 13, 14] (fun vo vc vi vs wr => ∃ (k : Nat) (c : Int) (l : List Int), vi = .int .i64 k ∧ vc = .int .i64 c ∧ k ≤ max xs.length ys.length + 1 ∧ (c ≠ 0 → k ≤ max xs.length ys.length) ∧ AddAt w2 wr xs ys k c l vo) (fun _ _ vi _ _ => max xs.length ys.length + 1 - (intOf vi).toNat)
  case atStart => exact ⟨0, 0, [], rfl, rfl, by omega, fun h => absurd rfl h, ⟨by decide, by decide, rfl, fun x hx => by simp at hx, by simp [dval], World.ownsRow_nil _ _ _ _, Only.refl _ _⟩⟩
  case round =>
    obtain ⟨k, c, l, rfl, rfl, hk, hkc, hA⟩ := hrel
    have HA := Lib.hid hA
    have hc0 := hA.c0
    have hc1 := hA.c1
    have HK := Lib.hid hkc
    obtain ⟨av, cv, rfl⟩ := slice_of_own hA.own
    have hszw := hA.only.size
    have hxd := digs_at HXD.out k
    have hyd := digs_at HYD.out k
    have HST := Lib.hid (fun (x y : Int) (hx : ptAt xs k = x) (hy : ptAt ys k = y) => add_step xs ys l k c x y HA.out.len HA.out.val (by rw [← hx]; exact dval_take_int xs HXD.out k) (by rw [← hy]; exact dval_take_int ys HYD.out k))
    have HCX := Lib.hid (fun (h : k < xs.length) => (HP1.out.only HA.out.only).cellAt h)
    have HCY := Lib.hid (fun (h : k < ys.length) => (HP2.out.only HA.out.only).cellAt h)
    have HLL := Lib.hid HL.out
    clear hA hkc
    have KEY := Lib.hid (show ∀ (s : Int), s = c + ptAt xs k + ptAt ys k → (k < xs.length ∨ k < ys.length ∨ 0 < c) → ∀ (g1 cp1 : Nat) (w5 : World), w5.ownsRow w2.heap.size 3 1 (.slice (some ⟨g1, 0, none⟩) (k + 1) cp1) (k + 1) (irow l ++ [.int .i64 (s % 16777216)]) → Only (fun _ => False) w2 w5 →
        ∃ (k' : Nat) (c' : Int) (l' : List Int), Value.int .i64 ((k : Int) + 1) = .int .i64 k' ∧ Value.int .i64 (s / 16777216) = .int .i64 c' ∧ k' ≤ max xs.length ys.length + 1 ∧ (c' ≠ 0 → k' ≤ max xs.length ys.length) ∧ AddAt w2 w5 xs ys k' c' l' (.slice (some ⟨g1, 0, none⟩) (k + 1) cp1) from by
      intro s hs hgo g1 cp1 w5 hown hO5
      have hk2 : k ≤ max xs.length ys.length := by
        rcases hgo with h | h | h
        · omega
        · omega
        · exact HK.out (by omega)
      refine ⟨k + 1, s / 16777216, l ++ [s % 16777216], by go_num, rfl, by omega, fun hne => ?_, ⟨by omega, by omega, by rw [List.length_append, HA.out.len]; rfl, digs_snoc HA.out.digs (by omega) (by omega), ?_, by rw [irow_append]; exact hown, hO5⟩⟩
      · by_cases hx : k < xs.length
        · omega
        · by_cases hy : k < ys.length
          · omega
          · rw [pt_beyond hx, pt_beyond hy] at hs
            omega
      · rw [hs]; exact HST.out _ _ rfl rfl)
    clear HST
    have HK2 := Lib.hid hk
    have HOWN := Lib.hid HA.out.own
    have HOA := Lib.hid HA.out.only
    by_cases hx : k < xs.length
    · obtain ⟨b1, o1, rfl, hb1, _, hq1, hq2, d1⟩ := HCX.out hx
      have j1 : (k : Int) < xs.length := by omega
      have j0 : 0 ≤ (k : Int) := by omega
      generalize ptAt xs k = x at *
      by_cases hy : k < ys.length
      · obtain ⟨b2, o2, rfl, hb2, _, hq3, hq4, d2⟩ := HCY.out hy
        have j2 : (k : Int) < ys.length := by omega
        generalize ptAt ys k = y at *
        have hm0 : 0 ≤ (c + x + y) % 16777216 := by omega
        have hm1 : (c + x + y) % 16777216 < 16777216 := by omega
        have KE := Lib.hid (KEY.out (c + x + y) (by first | rfl | omega) (.inl hx))
        clear KEY HCX HCY hx hy
        have hown2 := HOWN.out.alloc (.cells #[.int .i64 ((c + x + y) % 16777216)] 3)
        have hn3 : k ≤ 40001 := by have := HL.out; omega
        go_wp2_with (first | (refine wpList_append_lies _ rfl _ _ 26 rfl w2.heap.size 3 i0 _ 1 8 Tryz.underlying26 HI.out HI0.out HI1.out HI2.out rfl (by decide) _ k (irow l) rfl hown2 ⟨wr.heap.size, 0, none⟩ 1 1 [.int .i64 ((c + x + y) % 16777216)] rfl rfl (cell_one_new _ _ _) (one_int _) (by decide) (by unfold maxLen; omega) (by omega) (by first | omega | (simp; omega)) _ rfl ?_; intro g1 cp1 w5 ho1 hg1 ha1 hgl1))
        have HO5 := Lib.hid ((HOA.out.alloc (.cells #[.int .i64 ((c + x + y) % 16777216)] 3)).grow hown2 (Nat.le_refl _) hg1)
        clear hown2
        go_roundw
        case rel => exact KE.out g1 cp1 w5 ho1 HO5.out
        case measure => simp [intOf]; omega
      · have j2 : ¬ (k : Int) < ys.length := by omega
        have hy0 := pt_beyond hy
        rw [hy0] at KEY
        have hm0 : 0 ≤ (c + x) % 16777216 := by omega
        have hm1 : (c + x) % 16777216 < 16777216 := by omega
        have KE := Lib.hid (KEY.out (c + x) (by first | rfl | omega) (.inl hx))
        clear KEY HCX HCY hx hy
        have hown2 := HOWN.out.alloc (.cells #[.int .i64 ((c + x) % 16777216)] 3)
        have hn3 : k ≤ 40001 := by have := HL.out; omega
        go_wp2_with (first | (refine wpList_append_lies _ rfl _ _ 26 rfl w2.heap.size 3 i0 _ 1 8 Tryz.underlying26 HI.out HI0.out HI1.out HI2.out rfl (by decide) _ k (irow l) rfl hown2 ⟨wr.heap.size, 0, none⟩ 1 1 [.int .i64 ((c + x) % 16777216)] rfl rfl (cell_one_new _ _ _) (one_int _) (by decide) (by unfold maxLen; omega) (by omega) (by first | omega | (simp; omega)) _ rfl ?_; intro g1 cp1 w5 ho1 hg1 ha1 hgl1))
        have HO5 := Lib.hid ((HOA.out.alloc (.cells #[.int .i64 ((c + x) % 16777216)] 3)).grow hown2 (Nat.le_refl _) hg1)
        clear hown2
        go_roundw
        case rel => exact KE.out g1 cp1 w5 ho1 HO5.out
        case measure => simp [intOf]; omega
    · have j1 : ¬ (k : Int) < xs.length := by omega
      have hx0 := pt_beyond hx
      rw [hx0] at KEY
      have j0 : 0 ≤ (k : Int) := by omega
      by_cases hy : k < ys.length
      · obtain ⟨b2, o2, rfl, hb2, _, hq3, hq4, d2⟩ := HCY.out hy
        have j2 : (k : Int) < ys.length := by omega
        generalize ptAt ys k = y at *
        have hm0 : 0 ≤ (c + y) % 16777216 := by omega
        have hm1 : (c + y) % 16777216 < 16777216 := by omega
        have KE := Lib.hid (KEY.out (c + y) (by first | rfl | omega) (.inr (.inl hy)))
        clear KEY HCX HCY hx hy
        have hown2 := HOWN.out.alloc (.cells #[.int .i64 ((c + y) % 16777216)] 3)
        have hn3 : k ≤ 40001 := by have := HL.out; omega
        go_wp2_with (first | (refine wpList_append_lies _ rfl _ _ 26 rfl w2.heap.size 3 i0 _ 1 8 Tryz.underlying26 HI.out HI0.out HI1.out HI2.out rfl (by decide) _ k (irow l) rfl hown2 ⟨wr.heap.size, 0, none⟩ 1 1 [.int .i64 ((c + y) % 16777216)] rfl rfl (cell_one_new _ _ _) (one_int _) (by decide) (by unfold maxLen; omega) (by omega) (by first | omega | (simp; omega)) _ rfl ?_; intro g1 cp1 w5 ho1 hg1 ha1 hgl1))
        have HO5 := Lib.hid ((HOA.out.alloc (.cells #[.int .i64 ((c + y) % 16777216)] 3)).grow hown2 (Nat.le_refl _) hg1)
        clear hown2
        go_roundw
        case rel => exact KE.out g1 cp1 w5 ho1 HO5.out
        case measure => simp [intOf]; omega
      · have j2 : ¬ (k : Int) < ys.length := by omega
        have hy0 := pt_beyond hy
        rw [hy0] at KEY
        by_cases hcp : 0 < c
        · have hkk := HK.out (by omega)
          have hm0 : 0 ≤ (c) % 16777216 := by omega
          have hm1 : (c) % 16777216 < 16777216 := by omega
          have KE := Lib.hid (KEY.out (c) (by first | rfl | omega) (.inr (.inr hcp)))
          clear KEY HCX HCY hx hy
          have hown2 := HOWN.out.alloc (.cells #[.int .i64 ((c) % 16777216)] 3)
          have hn3 : k ≤ 40001 := by have := HL.out; omega
          go_wp2_with (first | (refine wpList_append_lies _ rfl _ _ 26 rfl w2.heap.size 3 i0 _ 1 8 Tryz.underlying26 HI.out HI0.out HI1.out HI2.out rfl (by decide) _ k (irow l) rfl hown2 ⟨wr.heap.size, 0, none⟩ 1 1 [.int .i64 ((c) % 16777216)] rfl rfl (cell_one_new _ _ _) (one_int _) (by decide) (by unfold maxLen; omega) (by omega) (by first | omega | (simp; omega)) _ rfl ?_; intro g1 cp1 w5 ho1 hg1 ha1 hgl1))
          have HO5 := Lib.hid ((HOA.out.alloc (.cells #[.int .i64 ((c) % 16777216)] 3)).grow hown2 (Nat.le_refl _) hg1)
          clear hown2
          go_roundw
          case rel => exact KE.out g1 cp1 w5 ho1 HO5.out
          case measure => simp [intOf]; omega
        · obtain rfl : c = 0 := by omega
          have HV := Lib.hid (show dval l = a + b by
            have := HA.out.val
            rw [take_all (by omega), take_all (by omega), HVA.out, HVB.out] at this
            omega)
          have hll : l.length = k := HA.out.len
          have hn3 : k ≤ 9001 := by have := HL.out; omega
          have HPT := Lib.hid (show PtsAt wr.heap.size wr (.slice av l.length cv) l from pts_of_own (by rw [hll]; exact HOWN.out) (by omega))
          have HDG := Lib.hid HA.out.digs
          clear hy0 hx0 KEY HCX HCY
          rw [hll] at HPT
          have hl2 : l.length ≤ 10000 := by omega
          go_wp2_with fail
          refine (rnumd_any _ l _ HPT.out HDG.out hl2).mono ?_
          rintro e w6 ⟨rfl, hO6⟩
          go_wp2_with fail
          go_ret
          rw [← HV.out]
          exact ⟨rfl, HO2.out.trans (HOA.out.trans hO6)⟩
end Go.Proofs.YtldkjkjpaiajlaaGreatDoor

namespace Go.Proofs.YtldkjkjpaiajlaaGreatDoor
open Go.RowKit

theorem size10 : (natB 10).size = 1 := by rw [natB_size, beL_pos (by decide), show 10 / 256 = 0 from rfl, beL_zero]; rfl
theorem dg10 : dgL 10 = [10] := by rw [dgL_pos (by decide), show 10 / 16777216 = 0 from rfl, dgL_zero]; rfl
set_option maxRecDepth 100000 in
set_option maxHeartbeats 2000000 in
theorem rmul10_small (a : Nat) (w : World) (ha : (natB a).size ≤ 3) :
    Calls Tryz.prog 173 #[.string (natB a), .string (natB 10)] w fun e w' => e = .returned (.string (natB (a * 10))) ∧ Only (fun _ => False) w w' := by
  have ha1 := natB_small a 3 ha
  have h3 : (256 : Nat) ^ 3 = 16777216 := by decide
  rw [h3] at ha1
  have H1 := Lib.hid (fun w => rsmallk_yes a 3 w (by decide) ha)
  have H2 := Lib.hid (fun w => rsmallk_yes 10 4 w (by decide) (by rw [size10]; decide))
  have HOF := Lib.hid (fun w => rof_any (a * 10) w (by omega))
  have HC := Lib.hid (show ((a * 10 : Nat) : Int) = (a : Int) * 10 by omega)
  rw [HC.out] at HOF
  clear ha h3
  generalize natB a = sa at *
  generalize natB 10 = sb at *
  go_enter Tryz.func173, Tryz.ntmps173
  go_wp2_with fail
  refine (H1.out _).mono ?_
  rintro e w' ⟨rfl, rfl⟩
  go_wp2_with fail
  refine (H2.out _).mono ?_
  rintro e w' ⟨rfl, rfl⟩
  go_wp2_with fail
  refine (HOF.out _).mono ?_
  rintro e w2 ⟨rfl, hO⟩
  go_wp2_with fail
  go_ret
  exact ⟨rfl, hO⟩
theorem pt_snoc_lt {l : List Int} {c : Int} {j : Nat} (h : j < l.length) : ptAt (l ++ [c]) j = ptAt l j := by unfold ptAt; simp [List.getD, List.getElem?_append_left h]
theorem pt_snoc_eq {l : List Int} {c : Int} : ptAt (l ++ [c]) l.length = c := by unfold ptAt; simp [List.getD]
theorem pt_snoc_gt {l : List Int} {c : Int} {j : Nat} (h : l.length < j) : ptAt (l ++ [c]) j = 0 := pt_beyond (by rw [List.length_append, List.length_singleton]; omega)
theorem dval_take_any (zs : List Int) (k : Nat) : dval (zs.take (k + 1)) = dval (zs.take k) + 16777216 ^ k * (ptAt zs k).toNat := by
  by_cases h : k < zs.length
  · exact dval_take_succ zs k h
  · rw [pt_beyond h, take_all (by omega), take_all (by omega)]; simp
/-- The row of digits of a product that is being made: l, then what is carried. -/
structure TenAt (w wr : World) (g : Nat) (n : Nat) (xs : List Int) (k : Nat) (c : Int) (l : List Int) : Prop where
  row : wr.rowIs g 3 n (fun j => .int .i64 (ptAt (l ++ [c]) j))
  c0 : 0 ≤ c
  c1 : c < 16777216
  len : l.length = k
  digs : Digs l
  val : dval l + 16777216 ^ k * c.toNat = dval (xs.take k) * (10 : Int).toNat
  g : w.heap.size ≤ g
  only : Only (fun _ => False) w wr
theorem TenAt.next {w wr w1 : World} {g n k : Nat} {xs l : List Int} {c x r q : Int} (h : TenAt w wr g n xs k c l) (hm : w1.rowIs g 3 n (fun j => if j = k then .int .i64 r else .int .i64 (ptAt (l ++ [c]) j))) (hO : Only (fun _ => False) w w1) (hr : r = (x * 10 + c) % 16777216) (hq : q = (x * 10 + c) / 16777216) (hd : Digs xs) (hx : ptAt xs k = x) :
    TenAt w (w1.setCell ⟨g, k + 1, none⟩ (.int .i64 q)) g n xs (k + 1) q (l ++ [r]) := by
  have h0 := digs_at hd k
  rw [hx] at h0
  have := h.c0; have := h.c1
  refine ⟨?_, by omega, by omega, by rw [List.length_append, h.len]; rfl, digs_snoc h.digs (by omega) (by omega), ?_, h.g, hO.setCell (.inr h.g) _⟩
  · refine (hm.set (k + 1) _).congr (fun j _ => ?_)
    have hl := h.len
    have hl2 : (l ++ [r]).length = k + 1 := by rw [List.length_append, hl]; rfl
    by_cases e1 : j = k + 1
    · rw [if_pos e1, e1, ← hl2, pt_snoc_eq]
    · rw [if_neg e1]
      by_cases e2 : j = k
      · rw [if_pos e2, e2, pt_snoc_lt (by omega), ← hl, pt_snoc_eq]
      · rw [if_neg e2]
        congr 1
        by_cases e3 : j < k
        · rw [pt_snoc_lt (by omega), pt_snoc_lt (by omega), pt_snoc_lt (by omega)]
        · rw [pt_snoc_gt (by omega), pt_snoc_gt (by omega)]
  · rw [hr, hq]
    exact times_step xs l k c 10 x h.len h.val (by rw [← hx]; exact dval_take_any xs k) h0.1 (by decide) h.c0
theorem TenAt.put {w wr : World} {g n k : Nat} {xs l : List Int} {c : Int} (h : TenAt w wr g n xs k c l) (r : Int) : (wr.setCell ⟨g, k, none⟩ (.int .i64 r)).rowIs g 3 n (fun j => if j = k then .int .i64 r else .int .i64 (ptAt (l ++ [c]) j)) ∧ Only (fun _ => False) w (wr.setCell ⟨g, k, none⟩ (.int .i64 r)) :=
  ⟨h.row.set k _, h.only.setCell (.inr h.g) _⟩
theorem TenAt.drew {w wr : World} {g n k : Nat} {xs l : List Int} {c : Int} (h : TenAt w wr g n xs k c l) (m : Nat) : TenAt w (wr.drewN m) g n xs k c l := ⟨h.row, h.c0, h.c1, h.len, h.digs, h.val, h.g, h.only.drewN m⟩
theorem TenAt.pts {w wr : World} {g k : Nat} {xs l : List Int} {c : Int} (h : TenAt w wr g (k + 1) xs k c l) (hk : k ≤ 1000000) : PtsAt wr.heap.size wr (.slice (some ⟨g, 0, none⟩) (l ++ [c]).length (k + 1)) (l ++ [c]) := by
  have hl : (l ++ [c]).length = k + 1 := by rw [List.length_append, h.len]; rfl
  refine .inr ⟨g, 0, k + 1, by rw [hl], h.row.lt, by omega, by omega, fun j hj => ?_⟩
  rw [Nat.zero_add]
  exact h.row.cell (by omega)
end Go.Proofs.YtldkjkjpaiajlaaGreatDoor

namespace Go.Proofs.YtldkjkjpaiajlaaGreatDoor
open Go.RowKit

set_option maxRecDepth 100000 in
set_option maxHeartbeats 8000000 in
theorem rmul10_big (a : Nat) (w : World) (hs : (natB a).size ≤ 9000) (hs1 : 3 < (natB a).size) :
    Calls Tryz.prog 173 #[.string (natB a), .string (natB 10)] w fun e w' => e = .returned (.string (natB (a * 10))) ∧ Only (fun _ => False) w w' := by
  obtain ⟨i0, hi0, hz0, hz1, hz2⟩ := info_parts Tryz.infoI
  have la : (dgL a).length ≤ (natB a).size := dgL_le a
  have HD1 := Lib.hid (fun w => rofd_any a w (by omega))
  have HD2 := Lib.hid (fun w => rofd_any 10 w (by rw [size10]; decide))
  have HS1 := Lib.hid (fun w => rsmallk_no a 3 w hs1 (by omega))
  have HS2 := Lib.hid (fun w => rsmallk_yes 10 4 w (by decide) (by rw [size10]; decide))
  have HXD := Lib.hid (digs_dgL a)
  have HVA := Lib.hid (show dval (dgL a) = a from dval_dgL a)
  have hll : (dgL a).length ≤ 9000 := by omega
  have HMK := Lib.hid (fun (n : Nat) (hn : n ≤ 100000) (w : World) => run_make_row (P := Tryz.prog) 26 3 i0 _ Tryz.underlying26 hi0 hz0 hz1 rfl .i64 .i64 n (by rw [hz2]; omega) (by omega) w)
  clear hs hs1 la hi0 hz0 hz1 hz2
  generalize natB a = sa at *
  generalize natB 10 = sb at *
  go_enter Tryz.func173, Tryz.ntmps173
  go_wp2_with fail
  refine (HS1.out _).mono ?_
  rintro e w' ⟨rfl, rfl⟩
  go_wp2_with fail
  refine (HS2.out _).mono ?_
  rintro e w' ⟨rfl, rfl⟩
  go_wp2_with fail
  refine (HD1.out _).mono ?_
  rintro e w1 ⟨v1, rfl, hp1, _, _, hO1⟩
  go_wp2_with fail
  refine (HD2.out _).mono ?_
  rintro e w2 ⟨v2, rfl, hp2, _, _, hO2⟩
  rw [dg10] at hp2
  have HP1 := Lib.hid (PtsAt.only hO2 hp1)
  have HP2 := Lib.hid hp2
  have HO2 := Lib.hid (hO1.trans hO2)
  clear hp1 hp2 hO1 hO2
  obtain ⟨a1, c1, rfl⟩ := HP1.out.slice
  obtain ⟨a2, c2, rfl⟩ := HP2.out.slice
  generalize dgL a = xs at *
  have hmk := HMK.out (xs.length + 1) (by omega) w2
  have hcast : ((xs.length + 1 : Nat) : Int) = (xs.length : Int) + 1 := by omega
  rw [hcast] at hmk
  have hb := World.rowIs_made w2 (.int .i64 0) (xs.length + 1) 3
  have HB0 := Lib.hid (show TenAt w2 (w2.alloc (.cells (madeCells #[.int .i64 0] (xs.length + 1)) 3)) w2.heap.size (xs.length + 1) xs 0 0 [] from
    ⟨hb.congr (fun j _ => by
      congr 1
      unfold ptAt
      cases j with
      | zero => rfl
      | succ j => simp [List.getD]), by decide, by decide, rfl, (fun x hx => by simp at hx), by simp [dval], Nat.le_refl _, (Only.refl _ w2).alloc _⟩)
  have hl1 : ([10] : List Int).length = 1 := rfl
  rw [hl1]
  go_wp2_with fail
  clear hmk hb
  obtain ⟨g, hg⟩ : ∃ g, w2.heap.size = g := ⟨_, rfl⟩
  rw [hg] at HB0 ⊢
  have HG := Lib.hid hg
  clear hg
  generalize World.alloc w2 _ = w2a at *
  go_loopw [12, 13, 14, 15] (fun vi _ _ _ wr => ∃ (k : Nat) (c : Int) (l : List Int), vi = .int .i64 k ∧ k ≤ xs.length ∧ TenAt w2 wr g (xs.length + 1) xs k c l) (fun vi _ _ _ _ => xs.length - (intOf vi).toNat)
  case atStart => exact ⟨0, 0, [], rfl, Nat.zero_le _, HB0.out⟩
  case round =>
    clear HB0
    obtain ⟨k, c, l, rfl, hk, hA⟩ := hrel
    have HA := Lib.hid hA
    by_cases hlt : k < xs.length
    · have j1 : (k : Int) < xs.length := by omega
      have j0 : 0 ≤ (k : Int) := by omega
      have HKL := Lib.hid hlt
      obtain ⟨x0, x1⟩ := digs_at HXD.out k
      have HPX := Lib.hid (show ptAt xs k = ptAt xs k from rfl)
      obtain ⟨x, hx⟩ : ∃ x, ptAt xs k = x := ⟨_, rfl⟩
      rw [hx] at x0 x1
      have HX := Lib.hid hx
      clear hx hA HPX
      go_wp2_with fail
      go_loopw [13, 14, 15] (fun vc vj _ wi => (vj = .int .i64 0 ∧ vc = .int .i64 0 ∧ TenAt w2 wi g (xs.length + 1) xs k c l) ∨ ∃ r q : Int, vj = .int .i64 1 ∧ vc = .int .i64 q ∧ r = (x * 10 + c) % 16777216 ∧ q = (x * 10 + c) / 16777216 ∧ wi.rowIs g 3 (xs.length + 1) (fun j => if j = k then .int .i64 r else .int .i64 (ptAt (l ++ [c]) j)) ∧ Only (fun _ => False) w2 wi) (fun _ vj _ _ => 1 - (intOf vj).toNat)
      case atStart => exact .inl ⟨rfl, rfl, HA.out⟩
      case round =>
        rcases hrel with ⟨rfl, rfl, hB⟩ | ⟨r, q, rfl, rfl, hr, hq, hrow, hO⟩
        · have HB := Lib.hid hB
          have hc0 := hB.c0
          have hc1 := hB.c1
          obtain ⟨b1, o1, e1, hb1, _, hq1, hq2, d1⟩ := (HP1.out.only hB.only).cellAt HKL.out
          obtain ⟨b2, o2, e2, hb2, _, hq3, hq4, d2⟩ := (HP2.out.only hB.only).cellAt (k := 0) (by decide)
          subst e1 e2
          rw [HX.out] at d1
          have d2' : _ = some (Value.int .i64 10) := d2
          rw [Nat.add_zero] at d2'
          have hcell := hB.row.cell (i := k) (by have := HKL.out; omega)
          have hpc : ptAt (l ++ [c]) k = c := by rw [← hB.len]; exact pt_snoc_eq
          rw [hpc] at hcell
          have hfz := hB.row.frozen k
          have hgl := hB.row.lt
          clear hB d2 hpc
          have p1 : 0 ≤ c + x * 10 := by omega
          have p2 : c + x * 10 ≤ 200000000 := by omega
          have HEQ := Lib.hid (show (x * 10 + c) % 16777216 = (c + x * 10) % 16777216 ∧ (x * 10 + c) / 16777216 = (c + x * 10) / 16777216 by omega)
          go_wp2_with fail
          go_quiet (fail)
          have HB2 := Lib.hid (HB.out.drew nq)
          generalize wr.drewN nq = wq at *
          have hfz2 := HB2.out.row.frozen k
          have hgl2 := HB2.out.row.lt
          have hc2 := HB2.out.row.cell (i := k) (by have := HKL.out; omega)
          obtain ⟨hm1, hm2⟩ := HB2.out.put ((c + x * 10) % 16777216)
          have HM1 := Lib.hid hm1
          have HM2 := Lib.hid hm2
          clear hm1 hm2 hcell hfz hgl d1 d2'
          go_wp2_with fail
          go_roundw
          case rel => exact .inr ⟨(c + x * 10) % 16777216, (c + x * 10) / 16777216, rfl, rfl, HEQ.out.1.symm, HEQ.out.2.symm, HM1.out, HM2.out⟩
          case measure => simp [intOf]
        · have HR := Lib.hid hr
          have HQ := Lib.hid hq
          have HROW := Lib.hid hrow
          have HO := Lib.hid hO
          have hfz := hrow.frozen (k + 1)
          have hgl := hrow.lt
          have hcl := hrow.cell (i := k + 1) (by have := HKL.out; omega)
          clear hr hq hrow hO
          have HN := Lib.hid (TenAt.next HA.out HROW.out HO.out HR.out HQ.out HXD.out HX.out)
          go_wp2_with fail
          go_roundw
          case rel => exact ⟨k + 1, q, l ++ [r], by go_num, HKL.out, HN.out⟩
          case measure => simp [intOf]; have := HKL.out; omega
    · obtain rfl : k = xs.length := by omega
      have j1 : ¬ (xs.length : Int) < xs.length := by omega
      have HPT := Lib.hid (hA.pts (by omega))
      have HDG := Lib.hid (digs_snoc hA.digs hA.c0 hA.c1)
      have hlen : (l ++ [c]).length = xs.length + 1 := by rw [List.length_append, hA.len]; rfl
      have HV := Lib.hid (show dval (l ++ [c]) = a * 10 by
        have h1 := hA.val
        rw [List.take_length, HVA.out] at h1
        rw [dval_snoc, hA.len]
        exact h1)
      rw [hlen] at HPT
      have HLE := Lib.hid hlen
      clear hA hlen
      go_wp2_with fail
      refine (rnumd_any _ (l ++ [c]) _ HPT.out HDG.out (by rw [HLE.out]; omega)).mono ?_
      rintro e w6 ⟨rfl, hO6⟩
      go_wp2_with fail
      go_ret
      rw [← HV.out]
      exact ⟨rfl, HO2.out.trans (HA.out.only.trans hO6)⟩
theorem rmul10_any (a : Nat) (w : World) (hs : (natB a).size ≤ 9000) :
    Calls Tryz.prog 173 #[.string (natB a), .string (natB 10)] w fun e w' => e = .returned (.string (natB (a * 10))) ∧ Only (fun _ => False) w w' := by
  by_cases h : (natB a).size ≤ 3
  · exact rmul10_small a w h
  · exact rmul10_big a w hs (by omega)
theorem bigadd_any (a d : Nat) (w : World) (hs : (natB a).size ≤ 9000) (hd : d < 256) :
    Calls Tryz.prog 68 #[.string (natB a), .string (natB d)] w fun e w' => e = .returned (.string (natB (a + d))) ∧ Only (fun _ => False) w w' := by
  have hd2 : (natB d).size ≤ 7 := by rw [natB_size]; exact beL_len (Nat.lt_of_lt_of_le hd (by decide))
  by_cases h : (natB a).size ≤ 7
  · exact radd_small a d w h hd2
  · exact radd_big a d w hs (by omega) hd2
end Go.Proofs.YtldkjkjpaiajlaaGreatDoor

namespace Go.Proofs.YtldkjkjpaiajlaaGreatDoor
open Go.RowKit

/-- A part of a line, as it lies in memory. -/
def partV (w : ByteArray) : Value := if numB w = true then .iface 3 (.int .i64 (amtV w)) else .iface 9 (.string w)
def PrtAt (W : World) (sv : Value) (ws : List ByteArray) : Prop :=
  ∃ b off cap, sv = .slice (some ⟨b, off, none⟩) ws.length cap ∧ b < W.heap.size ∧ ws.length ≤ cap ∧ cap ≤ 9223372036854775807 ∧ ∀ j, j < ws.length → W.cell? ⟨b, off + j, none⟩ = some (partV (wAt ws j))
theorem PrtAt.only {S : Nat → Prop} {A B : World} (h : Only S A B) {sv : Value} {ws : List ByteArray} (hs : ∀ a n c, sv = .slice (some a) n c → ¬ S a.block) : PrtAt A sv ws → PrtAt B sv ws
  | ⟨b, off, cap, e, hb, h1, h2, hc⟩ => ⟨b, off, cap, e, Nat.lt_of_lt_of_le hb h.size, h1, h2, fun j hj => h.cell (hc j hj) (show ¬ S b from hs ⟨b, off, none⟩ _ _ e)⟩
theorem PrtAt.still {A B : World} (h : Only (fun _ => False) A B) {sv : Value} {ws : List ByteArray} (hp : PrtAt A sv ws) : PrtAt B sv ws := hp.only h (fun _ _ _ _ h => h)
end Go.Proofs.YtldkjkjpaiajlaaGreatDoor

namespace Go.Proofs.YtldkjkjpaiajlaaGreatDoor
open Go.RowKit

end Go.Proofs.YtldkjkjpaiajlaaGreatDoor
