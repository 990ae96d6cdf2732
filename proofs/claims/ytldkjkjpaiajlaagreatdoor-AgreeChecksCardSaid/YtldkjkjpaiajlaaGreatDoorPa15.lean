/-
  The reference's natural numbers: Canon, Of. The reference's natural numbers: Int, small, Right, Cmp. The reference's natural numbers: digits: trim, times, cmp. The reference's natural numbers: digits: cmp, minus, digit. The reference's natural numbers: of, number. The reference's natural numbers: number. The reference's natural numbers: Quo.
-/
import Derived.Test.YtldkjkjpaiajlaaGreatDoorPa01
import Derived.Test.YtldkjkjpaiajlaaGreatDoorPa09
import Derived.Test.YtldkjkjpaiajlaaGreatDoorPa13
import Derived.Test.YtldkjkjpaiajlaaGreatDoorPa00
import Derived.Deep.RegionHeld3
import Derived.Deep.AppendLies
import Derived.OwnWalk
import Derived.StillTactics
import Derived.Laws.Pointers
import Derived.Outline
namespace Go.Proofs.YtldkjkjpaiajlaaGreatDoor
open Go.RowKit

set_option maxHeartbeats 400000 in
theorem rcanon_any (b : ByteArray) (w : World) (hb : b.size ≤ 1000000) :
    Calls Tryz.prog 105 #[.string b] w fun e w' => e = .returned (.string (natB (valB b))) ∧ w = w' := by
  have HC := Lib.hid (canon_is b)
  go_enter Tryz.func105, Tryz.ntmps105
  go_wp2_with fail
  go_loop [3] (fun vi => ∃ k : Nat, k ≤ b.size ∧ vi = .int .i64 k ∧ ∀ j (h : j < b.size), j < k → b[j] = 0) (fun vi => b.size - (intOf vi).toNat)
  case atStart => exact ⟨0, Nat.zero_le _, rfl, fun j _ h => by omega⟩
  case round =>
    obtain ⟨k, hk, rfl, hz⟩ := hrel
    have HZ := Lib.hid hz
    clear hz
    by_cases hlt : k < b.size
    · by_cases h0 : b[k] = 0
      · have q : ((b[k].toNat : Int) == 0) = true := by rw [h0]; rfl
        have HN := Lib.hid (show ∀ j (h : j < b.size), j < k + 1 → b[j] = 0 from fun j h hj => by
          by_cases e : j = k
          · subst e; exact h0
          · exact HZ.out j h (by omega))
        clear h0
        go_wp2
        go_round
        case rel => exact ⟨k + 1, by omega, by go_num, HN.out⟩
        case measure => simp [intOf]; omega
      · have q : ((b[k].toNat : Int) == 0) = false := by
          refine beq_eq_false_iff_ne.2 (fun e => h0 ?_)
          have e2 : b[k].toNat = 0 := by omega
          rw [← UInt8.toNat_inj, e2]; rfl
        have HE := Lib.hid (HC.out k hk HZ.out (fun _ => h0))
        clear h0
        go_wp2
        go_ret
        exact ⟨by rw [← HE.out]; rfl, rfl⟩
    · have HE := Lib.hid (HC.out k hk HZ.out (fun h => by omega))
      go_wp2
      go_ret
      exact ⟨by rw [← HE.out]; rfl, rfl⟩
theorem Tryz.infoB : (Tryz.prog.info? 5).map (fun i => (i.zero, i.size, i.bytes)) = some (some (.int .u8 0), 1, 1) := by kernel_rfl
def brow (l : List Int) : List Value := l.map (Value.int .u8)
theorem brow_append (a b : List Int) : brow (a ++ b) = brow a ++ brow b := by simp [brow]
theorem one_u8 (x : Int) : ∀ v ∈ [Value.int .u8 x], v.oneCell' = true := by intro v hv; simp at hv; subst hv; rfl
/-- What bytes in a slice of one's own are as a string. -/
theorem conv_own {w : World} {base n : Nat} {v : Value} {l : List Int} (dst : TypeId) (hd : Tryz.prog.underlying dst = some .string) (h : w.ownsRow base 5 1 v n (brow l)) (hl : l.length = n) :
    (convert 22 dst v).run Tryz.prog w = .ok (.string (strOfNums l)) w := by
  rcases h.2 with ⟨rfl, h0⟩ | ⟨g, cap, cur, rfl, hb, hg, hcap, hcap2, hsz, htk⟩
  · have : l = [] := List.eq_nil_of_length_eq_zero (by omega)
    subst this
    exact run_convert_bytes_nil (P := Tryz.prog) w 22 5 Tryz.underlying22 Tryz.underlying5 0 0 dst hd
  · refine run_convert_bytes_arg (P := Tryz.prog) w 22 5 Tryz.underlying22 Tryz.underlying5 g 0 n cap l hl (fun i hi => ?_) dst hd
    rw [Nat.zero_add, cell_of_row w g i cur 5 (0, 0) hg]
    have h1 : (brow l)[i]? = some (.int .u8 (l.getD i 0)) := by simp [brow, List.getD, show i < l.length by omega]
    rw [← h1, ← htk, List.getElem?_take_of_lt (by omega)]
    simp
def byTo (n : Int) : Nat → List Int
  | 0 => []
  | j + 1 => byTo n j ++ [n / 2 ^ (56 - 8 * j) % 256]
theorem byTo_len (n : Int) : ∀ j, (byTo n j).length = j
  | 0 => rfl
  | j + 1 => by rw [byTo, List.length_append, byTo_len n j]; rfl
theorem valB_by (n : Nat) (h : n < 18446744073709551616) : valB (strOfNums (byTo n 8)) = n := by
  have e : ∀ k : Nat, ((n : Int) / 2 ^ k % 256).toNat = n / 2 ^ k % 256 := fun k => by
    have : (n : Int) / 2 ^ k % 256 = ((n / 2 ^ k % 256 : Nat) : Int) := by
      rw [Int.natCast_emod, Int.natCast_ediv, Int.natCast_pow]; rfl
    rw [this, Int.toNat_natCast]
  have e2 : ∀ k : Nat, (UInt8.ofNat (n / 2 ^ k % 256)).toNat = n / 2 ^ k % 256 := fun k => by simp
  unfold valB
  rw [strOfNums_data]
  simp only [byTo, List.nil_append, List.cons_append, List.map_cons, List.map_nil, e, valL, List.foldl_cons, List.foldl_nil, e2]
  simp only [Nat.reduceMul, Nat.reduceSub, Nat.reducePow]
  omega
theorem strOf_size (l : List Int) : (strOfNums l).size = l.length := strOfNums_size l

set_option maxHeartbeats 1000000 in
set_option maxRecDepth 100000 in
theorem rof_any (n : Nat) (w : World) (hn : n < 9223372036854775808) :
    Calls Tryz.prog 67 #[.int .i64 n] w fun e w' => e = .returned (.string (natB n)) ∧ Only (fun _ => False) w w' := by
  obtain ⟨i0, hi0, hz0, hz1, hz2⟩ := info_parts Tryz.infoB
  have HV := Lib.hid (valB_by n (by omega))
  have HE0 := Lib.hid (show natB (valB (strOfNums [])) = natB 0 from rfl)
  by_cases h0 : n = 0
  · subst h0
    have hcv := run_convert_bytes_nil (P := Tryz.prog) w 22 5 Tryz.underlying22 Tryz.underlying5 0 0 124 Tryz.underlying124
    go_enter Tryz.func67, Tryz.ntmps67
    go_wp2_with fail
    go_loop [3, 4] (fun vb vi => vb = .slice none 0 0 ∧ vi = .int .i64 56) (fun _ _ => 0)
    case atStart => exact ⟨rfl, rfl⟩
    case round =>
      obtain ⟨rfl, rfl⟩ := hrel
      go_wp2_with fail
      refine (rcanon_any _ _ (by decide)).mono ?_
      rintro e w' ⟨rfl, rfl⟩
      go_wp2
      go_ret
      exact ⟨by rw [← HE0.out]; rfl, Only.refl _ _⟩
  · have hp : 0 < (n : Int) := by omega
    clear h0 HE0
    go_enter Tryz.func67, Tryz.ntmps67
    go_wp2_with fail
    go_loopw [3, 4] (fun vb vi wr => ∃ j : Nat, j ≤ 8 ∧ vi = .int .i64 (56 - 8 * (j : Int)) ∧ wr.ownsRow w.heap.size 5 1 vb j (brow (byTo n j)) ∧ Only (fun _ => False) w wr) (fun _ vi _ => (intOf vi + 8).toNat)
    case atStart => exact ⟨0, by omega, rfl, World.ownsRow_nil _ _ _ _, Only.refl _ _⟩
    case round =>
      obtain ⟨j, hj, rfl, hown, hO⟩ := hrel
      have HO := Lib.hid hO
      have hsz := hO.size
      by_cases hlt : j < 8
      · have i1 : 0 ≤ 56 - 8 * (j : Int) := by omega
        have i2 : 56 - 8 * (j : Int) ≤ 56 := by omega
        have HW := Lib.hid hown
        have hown2 := hown.alloc (.cells #[.int .u8 ((n : Int) / 2 ^ (56 - 8 * j) % 256)] 5)
        obtain ⟨av, cv, rfl⟩ := slice_of_own hown
        have HBY := Lib.hid (show byTo n (j + 1) = byTo n j ++ [(n : Int) / 2 ^ (56 - 8 * j) % 256] from rfl)
        clear hO hown
        go_wp2_with (at_builtin; refine wpList_append_lies _ rfl _ _ 22 rfl w.heap.size 5 i0 _ 1 1 Tryz.underlying22 hi0 hz0 hz1 hz2 rfl (by decide) _ j (brow (byTo n j)) rfl hown2 ⟨wr.heap.size, 0, none⟩ 1 1 [.int .u8 ((n : Int) / 2 ^ (56 - 8 * j) % 256)] rfl rfl (cell_one_new _ _ _) (one_u8 _) (by decide) ?c1 ?c2 ?c3 _ rfl ?_)
        case c1 => unfold maxLen; omega
        case c2 => omega
        case c3 => first | omega | (simp; omega)
        intro g1 cp1 w1 ho1 hg1 ha1 hgl1
        have HO1 := Lib.hid ((HO.out.alloc (.cells #[.int .u8 ((n : Int) / 2 ^ (56 - 8 * j) % 256)] 5)).grow hown2 (Nat.le_refl _) hg1)
        have HOW := Lib.hid ho1
        clear ho1 hg1 ha1 hown2
        go_wp2
        go_roundw
        case rel => exact ⟨j + 1, by omega, by congr 1; omega, by rw [HBY.out, brow_append]; exact HOW.out, HO1.out⟩
        case measure => simp [intOf]; omega
      · obtain rfl : j = 8 := by omega
        have hcv := conv_own 124 Tryz.underlying124 hown (byTo_len n 8)
        have HBS := Lib.hid (show (strOfNums (byTo n 8)).size ≤ 1000000 by rw [strOf_size, byTo_len]; decide)
        obtain ⟨av, cv, rfl⟩ := slice_of_own hown
        generalize strOfNums (byTo n 8) = S at *
        clear hO hown
        go_wp2_with fail
        refine (rcanon_any _ _ HBS.out).mono ?_
        rintro e w' ⟨rfl, rfl⟩
        go_wp2
        go_ret
        exact ⟨by rw [HV.out]; rfl, HO.out⟩

theorem rofI_any (z : Int) (w : World) (h0 : 0 ≤ z) (h1 : z ≤ 9223372036854775807) :
    Calls Tryz.prog 67 #[.int .i64 z] w fun e w' => e = .returned (.string (natB z.toNat)) ∧ Below w.heap.size w w' := by
  obtain ⟨k, rfl⟩ := Int.eq_ofNat_of_zero_le h0
  exact (rof_any k w (by omega)).mono fun _ _ h => ⟨h.1, h.2.below (Nat.le_refl _) (fun _ _ h => h)⟩
end Go.Proofs.YtldkjkjpaiajlaaGreatDoor

namespace Go.Proofs.YtldkjkjpaiajlaaGreatDoor
open Go.RowKit

theorem valL_take_le (l : List UInt8) : ∀ k, k < l.length → valL (l.take k) * 256 ≤ valL l := by
  intro k hk
  have h : ∀ (m : List UInt8) (a : Nat), a ≤ m.foldl (fun n b => n * 256 + b.toNat) a := by
    intro m
    induction m with
    | nil => intro a; exact Nat.le_refl _
    | cons x m ih => intro a; exact Nat.le_trans (by omega) (ih (a * 256 + x.toNat))
  obtain ⟨x, m, hm⟩ : ∃ x m, l = l.take k ++ x :: m := ⟨l[k], l.drop (k + 1), by rw [← List.drop_eq_getElem_cons hk, List.take_append_drop]⟩
  have e : valL l = (x :: m).foldl (fun n b => n * 256 + b.toNat) (valL (l.take k)) := by
    conv => lhs; rw [hm]
    simp [valL, List.foldl_append]
  rw [e, List.foldl_cons]
  exact Nat.le_trans (by omega) (h m _)
theorem valL_take_snoc (b : ByteArray) (k : Nat) (h : k < b.size) : valL (b.data.toList.take (k + 1)) = valL (b.data.toList.take k) * 256 + b[k].toNat := by
  rw [List.take_succ_eq_append_getElem (by simpa using h), valL_snoc]; rfl
/-- The first byte of a number that is not too great. -/
theorem natB_first (n : Nat) (hn : n < 9223372036854775808) (h : 8 = (natB n).size) (h0 : 0 < (natB n).size) : ((natB n)[0]'h0).toNat ≤ 127 := by
  have h1 : valL ((natB n).data.toList.take 1) = (natB n)[0].toNat := by
    rw [valL_take_snoc (natB n) 0 (by omega)]; simp [valL]
  have hp : ∀ (k : Nat) (l : List UInt8), l.length = k → ∀ a, l.foldl (fun n b => n * 256 + b.toNat) a ≥ a * 256 ^ k := by
    intro k
    induction k with
    | zero => intro l hl a; have : l = [] := List.eq_nil_of_length_eq_zero hl; subst this; simp
    | succ k ih =>
      intro l hl a
      match l, hl with
      | x :: l, hl =>
        have := ih l (by simpa using hl) (a * 256 + x.toNat)
        rw [List.foldl_cons]
        refine Nat.le_trans ?_ this
        rw [Nat.pow_succ, Nat.mul_comm (256 ^ k), ← Nat.mul_assoc]
        exact Nat.mul_le_mul_right _ (by omega)
  have hv : valL (natB n).data.toList = n := valB_natB n
  have hsplit : (natB n).data.toList = (natB n).data.toList.take 1 ++ (natB n).data.toList.drop 1 := (List.take_append_drop 1 _).symm
  have h2 : (natB n).data.toList.foldl (fun n b => n * 256 + b.toNat) 0 = ((natB n).data.toList.drop 1).foldl (fun n b => n * 256 + b.toNat) (valL ((natB n).data.toList.take 1)) := by
    conv => lhs; rw [hsplit]
    rw [List.foldl_append]; rfl
  have h3 := hp 7 ((natB n).data.toList.drop 1) (by have : (natB n).data.toList.length = (natB n).size := by simp
                                                    rw [List.length_drop]; omega) (valL ((natB n).data.toList.take 1))
  rw [← h2, h1] at h3
  have h4 : (natB n).data.toList.foldl (fun n b => n * 256 + b.toNat) 0 = n := hv
  rw [h4] at h3
  have h5 : (256 : Nat) ^ 7 = 72057594037927936 := by decide
  rw [h5] at h3
  omega

set_option maxRecDepth 100000 in
set_option maxHeartbeats 1000000 in
theorem rint_any (n : Nat) (w : World) (hn : n < 9223372036854775808) :
    Calls Tryz.prog 107 #[.string (natB n)] w fun e w' => e = .returned (.tuple #[.int .i64 n, .bool true]) ∧ w = w' := by
  have hsz : (natB n).size ≤ 8 := by rw [natB_size]; exact beL_len (Nat.lt_of_lt_of_le hn (by decide))
  have HC := Lib.hid (rcanon_any (natB n) w (by omega))
  rw [valB_natB] at HC
  have HF := Lib.hid (natB_first n hn)
  have HV := Lib.hid (show valL (natB n).data.toList = n from valB_natB n)
  generalize natB n = b at *
  have HT := Lib.hid (valL_take_le b.data.toList)
  have HSN := Lib.hid (valL_take_snoc b)
  have HL := Lib.hid (show b.data.toList.length = b.size by simp)
  have HN := Lib.hid hn
  clear hn
  by_cases h8 : b.size = 8
  · have q0 : ((b.size : Int) == 8) = true := by rw [h8]; rfl
    have q1 : decide ((8 : Int) < b.size) = false := decide_eq_false (by omega)
    have hl0 : 0 < b.size := by omega
    have q2 : decide ((127 : Int) < (b[0].toNat : Int)) = false := decide_eq_false (by have := HF.out h8.symm hl0; omega)
    clear h8
    go_enter Tryz.func107, Tryz.ntmps107
    go_wp2_with fail
    refine HC.out.mono ?_
    rintro e w' ⟨rfl, rfl⟩
    go_wp2_with fail
    go_loop [4, 5] (fun vn vi => ∃ k : Nat, k ≤ b.size ∧ vi = .int .i64 k ∧ vn = .int .i64 (valL (b.data.toList.take k) : Nat)) (fun _ vi => b.size - (intOf vi).toNat)
    case atStart => exact ⟨0, Nat.zero_le _, rfl, rfl⟩
    case round =>
      obtain ⟨k, hk, rfl, rfl⟩ := hrel
      by_cases hlt : k < b.size
      · have ht := HT.out k (by rw [HL.out]; exact hlt)
        have hn1 : valL (b.data.toList.take k) ≤ 36028797018963967 := by have := HV.out; have := HN.out; omega
        have HX := Lib.hid (HSN.out k hlt)
        have hb1 : b[k].toNat < 256 := b[k].toNat_lt
        clear ht
        generalize valL (b.data.toList.take k) = v at *
        go_wp2
        go_round
        case rel => exact ⟨k + 1, by omega, by go_num, by rw [HX.out]; simp⟩
        case measure => simp [intOf]; omega
      · have HTK := Lib.hid (show b.data.toList.take k = b.data.toList from List.take_of_length_le (by rw [HL.out]; omega))
        go_wp2
        go_ret2
        exact ⟨by rw [HTK.out, HV.out]; rfl, rfl⟩
  · have q0 : ((b.size : Int) == 8) = false := beq_eq_false_iff_ne.2 (by omega)
    have q1 : decide ((8 : Int) < b.size) = false := decide_eq_false (by omega)
    clear h8 HF
    go_enter Tryz.func107, Tryz.ntmps107
    go_wp2_with fail
    refine HC.out.mono ?_
    rintro e w' ⟨rfl, rfl⟩
    go_wp2_with fail
    go_loop [4, 5] (fun vn vi => ∃ k : Nat, k ≤ b.size ∧ vi = .int .i64 k ∧ vn = .int .i64 (valL (b.data.toList.take k) : Nat)) (fun _ vi => b.size - (intOf vi).toNat)
    case atStart => exact ⟨0, Nat.zero_le _, rfl, rfl⟩
    case round =>
      obtain ⟨k, hk, rfl, rfl⟩ := hrel
      by_cases hlt : k < b.size
      · have ht := HT.out k (by rw [HL.out]; exact hlt)
        have hn1 : valL (b.data.toList.take k) ≤ 36028797018963967 := by have := HV.out; have := HN.out; omega
        have HX := Lib.hid (HSN.out k hlt)
        have hb1 : b[k].toNat < 256 := b[k].toNat_lt
        clear ht
        generalize valL (b.data.toList.take k) = v at *
        go_wp2
        go_round
        case rel => exact ⟨k + 1, by omega, by go_num, by rw [HX.out]; simp⟩
        case measure => simp [intOf]; omega
      · have HTK := Lib.hid (show b.data.toList.take k = b.data.toList from List.take_of_length_le (by rw [HL.out]; omega))
        go_wp2
        go_ret2
        exact ⟨by rw [HTK.out, HV.out]; rfl, rfl⟩

set_option maxHeartbeats 1000000 in
theorem rsmall_yes (n : Nat) (w : World) (hn : n < 72057594037927936) :
    Calls Tryz.prog 108 #[.string (natB n), .int .i64 7] w fun e w' => e = .returned (.tuple #[.int .i64 n, .bool true]) ∧ w = w' := by
  have hsz : (natB n).size ≤ 7 := by rw [natB_size]; exact beL_len (Nat.lt_of_lt_of_le hn (by decide))
  have HC := Lib.hid (rcanon_any (natB n) w (by omega))
  rw [valB_natB] at HC
  have HI := Lib.hid (rint_any n w (by omega))
  generalize natB n = b at *
  clear hn
  go_enter Tryz.func108, Tryz.ntmps108
  go_wp2_with fail
  refine HC.out.mono ?_
  rintro e w' ⟨rfl, rfl⟩
  go_wp2_with fail
  refine HI.out.mono ?_
  rintro e w' ⟨rfl, rfl⟩
  go_wp2
  go_ret2
  exact ⟨rfl, rfl⟩
set_option maxHeartbeats 1000000 in
theorem rsmall_no (n : Nat) (w : World) (hn : 72057594037927936 ≤ n) (hn2 : n < 9223372036854775808) :
    Calls Tryz.prog 108 #[.string (natB n), .int .i64 7] w fun e w' => e = .returned (.tuple #[.int .i64 0, .bool false]) ∧ w = w' := by
  have hsz : 7 < (natB n).size := by rw [natB_size]; exact beL_long (Nat.le_trans (by decide) hn)
  have hsz2 : (natB n).size ≤ 8 := by rw [natB_size]; exact beL_len (Nat.lt_of_lt_of_le hn2 (by decide))
  have HC := Lib.hid (rcanon_any (natB n) w (by omega))
  rw [valB_natB] at HC
  generalize natB n = b at *
  clear hn hn2
  go_enter Tryz.func108, Tryz.ntmps108
  go_wp2_with fail
  refine HC.out.mono ?_
  rintro e w' ⟨rfl, rfl⟩
  go_wp2
  go_ret2
  exact ⟨rfl, rfl⟩
theorem natB_head (n : Nat) (h : 0 < (natB n).size) : (natB n)[0] ≠ 0 := by
  intro h0
  have e := drop_beL (beL n)
  rw [valL_beL] at e
  have h1 : (beL n).length = (natB n).size := (natB_size n).symm
  match hb : beL n with
  | [] => rw [hb] at h1; simp at h1; omega
  | x :: t =>
    have hx : x = 0 := by
      have : (natB n)[0] = (beL n)[0]'(by omega) := rfl
      rw [this] at h0
      simp [hb] at h0
      exact h0
    rw [hb, List.dropWhile_cons, hx, if_pos (by decide)] at e
    have := congrArg List.length e
    have h2 : (t.dropWhile (· == 0)).length ≤ t.length := (List.dropWhile_sublist _).length_le
    simp at this
    omega
end Go.Proofs.YtldkjkjpaiajlaaGreatDoor

namespace Go.Proofs.YtldkjkjpaiajlaaGreatDoor
open Go.RowKit

/-- A nil slice has no room. -/
def NilOk (v : Value) : Prop := ∀ n c, v = .slice none n c → n = 0 ∧ c = 0
theorem nilOk_some (a : Addr) (n c : Nat) : NilOk (.slice (some a) n c) := fun _ _ h => by cases h
theorem nilOk_own {w : World} {base e size n : Nat} {v : Value} {xs : List Value} (h : w.ownsRow base e size v n xs) : NilOk v := by
  rcases h.2 with ⟨rfl, _⟩ | ⟨g, cap, cur, rfl, _⟩
  · intro n c h; cases h; exact ⟨rfl, rfl⟩
  · exact nilOk_some _ _ _
/-- It lies in a block that was not there. -/
def FreshV (w : World) (v : Value) : Prop := ∀ a n c, v = .slice (some a) n c → w.heap.size ≤ a.block
theorem freshV_own {w wr : World} {e size n : Nat} {v : Value} {xs : List Value} (h : wr.ownsRow w.heap.size e size v n xs) : FreshV w v := by
  intro a n' c hv
  subst hv
  rcases h.2 with ⟨h0, _⟩ | ⟨g, cap, cur, h0, hb, _⟩
  · cases h0
  · cases h0; exact hb
/-- A slice of digits of n comes back. -/
def DigPost (w : World) (n : Nat) (e : Ending) (w' : World) : Prop := ∃ v, e = .returned v ∧ PtsAt w'.heap.size w' v (dgL n) ∧ NilOk v ∧ FreshV w v ∧ Only (fun _ => False) w w'
/-- .. cut out of sv. -/
def TrimPost (w : World) (sv : Value) (n : Nat) (e : Ending) (w' : World) : Prop := ∃ v, e = .returned v ∧ PtsAt w'.heap.size w' v (dgL n) ∧ NilOk v ∧ (∀ a k c, v = .slice (some a) k c → ∃ k', sv = .slice (some a) k' c) ∧ Only (fun _ => False) w w'

theorem dgL_trim (zs : List Int) (hd : Digs zs) (k : Nat) (hk : k ≤ zs.length) (hz : ∀ j, k ≤ j → j < zs.length → ptAt zs j = 0) (hn : 0 < k → ptAt zs (k - 1) ≠ 0) : zs.take k = dgL (dval zs) := by
  rw [← dval_take zs k hk hz]
  refine dgL_of _ (digs_take hd k) (fun h => ?_)
  have hl : (zs.take k).length = k := by simp; omega
  have h0 : 0 < k := by
    rcases Nat.eq_zero_or_pos k with e | e
    · subst e; simp at h
    · exact e
  have := hn h0
  rw [List.getLast_eq_getElem]
  simp only [hl]
  rw [List.getElem_take]
  simpa [ptAt, List.getD, show k - 1 < zs.length by omega] using this

set_option maxHeartbeats 1000000 in
theorem rtrim_any (sv : Value) (zs : List Int) (w : World) (hI : PtsAt w.heap.size w sv zs) (hd : Digs zs) (hlen : zs.length ≤ 1000000) (hnil : NilOk sv) :
    Calls Tryz.prog 150 #[sv] w (TrimPost w sv (dval zs)) := by
  rcases hI with ⟨a, c, rfl, rfl⟩ | ⟨b, off, cap, rfl, hb, hcap, hcap2, hc⟩
  · have HP := Lib.hid (show TrimPost w (.slice a 0 c) (dval []) (.returned (.slice a 0 c)) w from ⟨_, rfl, .inl ⟨a, c, rfl, by rw [dval, dgL_zero]⟩, hnil, fun _ _ _ h => ⟨_, by simp only [Value.slice.injEq] at h ⊢; exact ⟨h.1, rfl, h.2.2⟩⟩, Only.refl _ _⟩)
    clear hnil
    go_enter Tryz.func150, Tryz.ntmps150
    go_wp2_with fail
    go_loop [0] (fun v => v = .slice a 0 c) (fun _ => 0)
    case atStart => exact rfl
    case round =>
      subst hrel
      go_wp2
      go_ret
      exact HP.out
  · have HT := Lib.hid (dgL_trim zs hd)
    have HC := Lib.hid hc
    clear hc hd hnil
    go_enter Tryz.func150, Tryz.ntmps150
    go_wp2_with fail
    go_loop [0] (fun v => ∃ k : Nat, k ≤ zs.length ∧ v = .slice (some ⟨b, off, none⟩) k cap ∧ ∀ j, k ≤ j → j < zs.length → ptAt zs j = 0) (fun v => match v with | .slice _ k _ => k | _ => 0)
    case atStart => exact ⟨zs.length, Nat.le_refl _, rfl, fun j h1 h2 => by omega⟩
    case round =>
      obtain ⟨k, hk, rfl, hz⟩ := hrel
      have HZ := Lib.hid hz
      clear hz
      by_cases hpos : 0 < k
      · have c0 := HC.out (k - 1) (by omega)
        by_cases h0 : ptAt zs (k - 1) = 0
        · have HN := Lib.hid (show ∀ j, k - 1 ≤ j → j < zs.length → ptAt zs j = 0 from fun j h1 h2 => by
            by_cases e : j = k - 1
            · rw [e]; exact h0
            · exact HZ.out j (by omega) h2)
          rw [h0] at c0
          clear h0
          obtain ⟨m, rfl⟩ : ∃ m, k = m + 1 := ⟨k - 1, by omega⟩
          simp only [Nat.add_sub_cancel] at c0 HN
          go_wp2
          go_round
          case rel => exact ⟨m, by omega, rfl, HN.out⟩
          case measure => simp
        · have q : (ptAt zs (k - 1) == 0) = false := beq_eq_false_iff_ne.2 h0
          have HP := Lib.hid (show TrimPost w (.slice (some ⟨b, off, none⟩) zs.length cap) (dval zs) (.returned (.slice (some ⟨b, off, none⟩) k cap)) w from ⟨_, rfl, by
            rw [← HT.out k hk HZ.out (fun _ => h0)]
            refine .inr ⟨b, off, cap, by rw [List.length_take, Nat.min_eq_left hk], hb, by rw [List.length_take]; omega, hcap2, fun j hj => ?_⟩
            rw [List.length_take] at hj
            rw [show ptAt (zs.take k) j = ptAt zs j by unfold ptAt; simp only [List.getD]; rw [List.getElem?_take_of_lt (by omega)]]
            exact HC.out j (by omega), nilOk_some _ _ _, fun _ _ _ h => ⟨_, by simp only [Value.slice.injEq] at h ⊢; exact ⟨h.1, rfl, h.2.2⟩⟩, Only.refl _ _⟩)
          generalize ptAt zs (k - 1) = x at *
          clear h0
          obtain ⟨m, rfl⟩ : ∃ m, k = m + 1 := ⟨k - 1, by omega⟩
          simp only [Nat.add_sub_cancel] at c0
          go_wp2
          go_ret
          exact HP.out
      · obtain rfl : k = 0 := by omega
        have HP := Lib.hid (show TrimPost w (.slice (some ⟨b, off, none⟩) zs.length cap) (dval zs) (.returned (.slice (some ⟨b, off, none⟩) 0 cap)) w from ⟨_, rfl, .inl ⟨_, _, rfl, by
          rw [← HT.out 0 hk HZ.out (fun h => by omega)]; rfl⟩, nilOk_some _ _ _, fun _ _ _ h => ⟨_, by simp only [Value.slice.injEq] at h ⊢; exact ⟨h.1, rfl, h.2.2⟩⟩, Only.refl _ _⟩)
        go_wp2
        go_ret
        exact HP.out

/-- The cell of an element. -/
theorem PtsAt.cellAt {n : Nat} {W : World} {a : Option Addr} {len c k : Nat} {zs : List Int} (h : PtsAt n W (.slice a len c) zs) (hk : k < zs.length) :
    ∃ b off, a = some ⟨b, off, none⟩ ∧ b < n ∧ len = zs.length ∧ zs.length ≤ c ∧ c ≤ 9223372036854775807 ∧ W.cell? ⟨b, off + k, none⟩ = some (.int .i64 (ptAt zs k)) := by
  rcases h with ⟨_, _, _, h0⟩ | ⟨b, off, cap, hv, hb, h1, h2, hc⟩
  · rw [h0] at hk; simp at hk
  · simp only [Value.slice.injEq] at hv
    obtain ⟨rfl, rfl, rfl⟩ := hv
    exact ⟨b, off, rfl, hb, rfl, h1, h2, hc k hk⟩
theorem dval_take_succ (zs : List Int) (k : Nat) (h : k < zs.length) : dval (zs.take (k + 1)) = dval (zs.take k) + 16777216 ^ k * (ptAt zs k).toNat := by
  have : zs.take (k + 1) = zs.take k ++ [ptAt zs k] := by
    rw [List.take_succ_eq_append_getElem h]; simp [ptAt, List.getD, h]
  rw [this, dval_snoc, List.length_take, Nat.min_eq_left (by omega)]
/-- One digit of a product. -/
theorem times_step (zs l : List Int) (k : Nat) (c d x : Int) (hk : l.length = k) (h : dval l + 16777216 ^ k * c.toNat = dval (zs.take k) * d.toNat) (hx : dval (zs.take (k + 1)) = dval (zs.take k) + 16777216 ^ k * x.toNat)
    (hx0 : 0 ≤ x) (hd0 : 0 ≤ d) (hc0 : 0 ≤ c) :
    dval (l ++ [(x * d + c) % 16777216]) + 16777216 ^ (k + 1) * ((x * d + c) / 16777216).toNat = dval (zs.take (k + 1)) * d.toNat := by
  obtain ⟨x, rfl⟩ := Int.eq_ofNat_of_zero_le hx0
  obtain ⟨d, rfl⟩ := Int.eq_ofNat_of_zero_le hd0
  obtain ⟨c, rfl⟩ := Int.eq_ofNat_of_zero_le hc0
  have e1 : ((x : Int) * d + c) % 16777216 = (((x * d + c) % 16777216 : Nat) : Int) := by rw [Int.natCast_emod, Int.natCast_add, Int.natCast_mul]; rfl
  have e2 : ((x : Int) * d + c) / 16777216 = (((x * d + c) / 16777216 : Nat) : Int) := by rw [Int.natCast_ediv, Int.natCast_add, Int.natCast_mul]; rfl
  rw [e1, e2, dval_snoc, hk, hx, Nat.pow_succ]
  simp only [Int.toNat_natCast] at h ⊢
  have e3 := Nat.div_add_mod (x * d + c) 16777216
  generalize (x * d + c) / 16777216 = q at *
  generalize (x * d + c) % 16777216 = r at *
  generalize 16777216 ^ k = P at *
  generalize dval l = A at *
  generalize dval (zs.take k) = Z at *
  have : A + P * r + P * 16777216 * q = A + P * (x * d + c) := by rw [← e3]; grind
  rw [this]
  grind

set_option maxHeartbeats 2000000 in
theorem rtimes_any (sv : Value) (zs : List Int) (d : Int) (w : World) (hI : PtsAt w.heap.size w sv zs) (hd : Digs zs) (hlen : zs.length ≤ 100000) (hd0 : 0 ≤ d) (hd1 : d < 16777216) :
    Calls Tryz.prog 154 #[sv, .int .i64 d] w (DigPost w (dval zs * d.toNat)) := by
  obtain ⟨i0, hi0, hz0, hz1, hz2⟩ := info_parts Tryz.infoI
  obtain ⟨a, cc, rfl⟩ := hI.slice
  have HI := Lib.hid hI
  have HD := Lib.hid hd
  clear hI hd
  go_enter Tryz.func154, Tryz.ntmps154
  go_wp2_with fail
  go_loopw [5, 6, 7] (fun vo vc vi wr => ∃ (k : Nat) (c : Int) (l : List Int), k ≤ zs.length ∧ vi = .int .i64 k ∧ vc = .int .i64 c ∧ 0 ≤ c ∧ c < 16777216 ∧ l.length = k ∧ Digs l ∧ dval l + 16777216 ^ k * c.toNat = dval (zs.take k) * d.toNat ∧ wr.ownsRow w.heap.size 3 1 vo k (irow l) ∧ Only (fun _ => False) w wr) (fun _ _ vi _ => zs.length - (intOf vi).toNat)
  case atStart => exact ⟨0, 0, [], Nat.zero_le _, rfl, rfl, by decide, by decide, rfl, fun x hx => by simp at hx, by simp [dval], World.ownsRow_nil _ _ _ _, Only.refl _ _⟩
  case round =>
    obtain ⟨k, c, l, hk, rfl, rfl, hc0, hc1, hl, hdl, hv, hown, hO⟩ := hrel
    have HO := Lib.hid hO
    have hsz := hO.size
    have HL := Lib.hid hl
    have HDL := Lib.hid hdl
    have HV := Lib.hid hv
    clear hl hdl hv
    by_cases hlt : k < zs.length
    · obtain ⟨b, off, rfl, hb, _, hcap, hcap2, hcell⟩ := HI.out.cellAt hlt
      have ck := hO.cell hcell (fun h => h)
      obtain ⟨x0, x1⟩ := digs_at HD.out k
      have HX := Lib.hid (dval_take_succ zs k hlt)
      obtain ⟨x, hx⟩ : ∃ x, ptAt zs k = x := ⟨_, rfl⟩
      rw [hx] at ck x0 x1 HX
      have p0 : 0 ≤ x * d := Int.mul_nonneg x0 hd0
      have p1 : x * d ≤ 16777215 * 16777215 := Int.mul_le_mul (by omega) (by omega) (by omega) (by omega)
      have HST := Lib.hid (times_step zs l k c d x HL.out HV.out HX.out x0 hd0 hc0)
      have hbw : b < wr.heap.size := by omega
      clear hcell hx HX HV
      have hm0 : 0 ≤ (x * d + c) % 16777216 := by omega
      have hm1 : (x * d + c) % 16777216 < 16777216 := by omega
      have hq0 : 0 ≤ (x * d + c) / 16777216 := by omega
      have hq1 : (x * d + c) / 16777216 < 16777216 := by omega
      have hown2 := hown.alloc (.cells #[.int .i64 ((x * d + c) % 16777216)] 3)
      obtain ⟨av, cv, rfl⟩ := slice_of_own hown
      clear hO hown
      go_wp2_with (at_builtin; refine wpList_append_lies _ rfl _ _ 26 rfl w.heap.size 3 i0 _ 1 8 Tryz.underlying26 hi0 hz0 hz1 hz2 rfl (by decide) _ k (irow l) rfl hown2 ⟨wr.heap.size, 0, none⟩ 1 1 [.int .i64 ((x * d + c) % 16777216)] rfl rfl (cell_one_new _ _ _) (one_int _) (by decide) ?c1 ?c2 ?c3 _ rfl ?_)
      case c1 => unfold maxLen; omega
      case c2 => omega
      case c3 => first | omega | (simp; omega)
      intro g1 cp1 w1 ho1 hg1 ha1 hgl1
      have HO1 := Lib.hid ((HO.out.alloc (.cells #[.int .i64 ((x * d + c) % 16777216)] 3)).grow hown2 (Nat.le_refl _) hg1)
      have HOW := Lib.hid ho1
      clear ho1 hg1 ha1 hown2
      go_wp2
      go_roundw
      case rel => exact ⟨k + 1, (x * d + c) / 16777216, l ++ [(x * d + c) % 16777216], by omega, by go_num, rfl, hq0, hq1, by rw [List.length_append, HL.out]; rfl, digs_snoc HDL.out hm0 hm1, HST.out, by rw [irow_append]; exact HOW.out, HO1.out⟩
      case measure => simp [intOf]; omega
    · have hke : k = zs.length := by omega
      have HTK := Lib.hid (show dval (l ++ [c]) = dval zs * d.toNat by
        rw [dval_snoc, HL.out]
        have := HV.out
        rw [hke, List.take_length] at this
        rw [hke]; exact this)
      have hown2 := hown.alloc (.cells #[.int .i64 c] 3)
      obtain ⟨av, cv, rfl⟩ := slice_of_own hown
      clear hO hown hke HV
      go_wp2_with (at_builtin; refine wpList_append_lies _ rfl _ _ 26 rfl w.heap.size 3 i0 _ 1 8 Tryz.underlying26 hi0 hz0 hz1 hz2 rfl (by decide) _ k (irow l) rfl hown2 ⟨wr.heap.size, 0, none⟩ 1 1 [.int .i64 c] rfl rfl (cell_one_new _ _ _) (one_int _) (by decide) ?d1 ?d2 ?d3 _ rfl ?_)
      case d1 => unfold maxLen; omega
      case d2 => omega
      case d3 => first | omega | (simp; omega)
      intro g1 cp1 w1 ho1 hg1 ha1 hgl1
      have HO1 := Lib.hid ((HO.out.alloc (.cells #[.int .i64 c] 3)).grow hown2 (Nat.le_refl _) hg1)
      have HPT := Lib.hid (show PtsAt w1.heap.size w1 (.slice (some ⟨g1, 0, none⟩) (k + 1) cp1) (l ++ [c]) from pts_of_own (by rw [List.length_append, HL.out, irow_append]; exact ho1) (by rw [List.length_append, HL.out]; simp; omega))
      have HFR := Lib.hid (freshV_own ho1)
      clear ho1 hg1 ha1 hown2
      go_wp2_with fail
      refine (rtrim_any _ _ _ HPT.out (digs_snoc HDL.out hc0 hc1) (by rw [List.length_append, HL.out]; simp; omega) (nilOk_some _ _ _)).mono ?_
      rintro e w2 ⟨v, rfl, hp, hnl, hcut, hO2⟩
      have HR := Lib.hid (show DigPost w (dval zs * d.toNat) (.returned v) w2 from ⟨v, rfl, by rw [← HTK.out]; exact hp, hnl, fun a n c h => by obtain ⟨k', hk'⟩ := hcut a n c h; exact HFR.out a k' c hk', HO1.out.trans hO2⟩)
      clear hp hnl hcut hO2
      go_wp2
      go_ret
      exact HR.out
end Go.Proofs.YtldkjkjpaiajlaaGreatDoor

namespace Go.Proofs.YtldkjkjpaiajlaaGreatDoor
open Go.RowKit

/-- What tells two numbers apart. -/
def CmpPost (w : World) (a b : Nat) (e : Ending) (w' : World) : Prop := ∃ c : Int, e = .returned (.int .i64 c) ∧ (c ≤ 0 ↔ a ≤ b) ∧ (0 ≤ c ↔ b ≤ a) ∧ ∃ n, w' = w.drewN n

set_option maxHeartbeats 2000000 in
theorem rcmpd_any (sv tv : Value) (a b : Nat) (w : World) (hI : PtsAt w.heap.size w sv (dgL a)) (hJ : PtsAt w.heap.size w tv (dgL b)) (hla : (dgL a).length ≤ 100000) (hlb : (dgL b).length ≤ 100000) :
    Calls Tryz.prog 151 #[sv, tv] w (CmpPost w a b) := by
  obtain ⟨s1, c1, rfl⟩ := hI.slice
  obtain ⟨s2, c2, rfl⟩ := hJ.slice
  have HI := Lib.hid hI
  have HJ := Lib.hid hJ
  have HDA := Lib.hid (digs_dgL a)
  have HDB := Lib.hid (digs_dgL b)
  have HVA := Lib.hid (dval_dgL a)
  have HVB := Lib.hid (dval_dgL b)
  have HSL := Lib.hid (fun (h : (dgL a).length < (dgL b).length) => dgL_shorter h)
  have HSR := Lib.hid (fun (h : (dgL b).length < (dgL a).length) => dgL_shorter h)
  have HSE := Lib.hid (dgL_same (a := a) (b := b))
  generalize dgL a = xs at *
  generalize dgL b = ys at *
  clear hI hJ
  by_cases hl : xs.length = ys.length
  · have q : ((xs.length : Int) != (ys.length : Int)) = false := by simp; omega
    have hl1 : xs.length ≤ ys.length := by omega
    have HL := Lib.hid hl
    clear hl HSL HSR
    go_enter Tryz.func151, Tryz.ntmps151
    go_wp2_with fail
    go_loopw [5] (fun vi wr => ∃ (k n : Nat), k ≤ xs.length ∧ vi = .int .i64 ((k : Int) - 1) ∧ (∀ j, k ≤ j → j < xs.length → ptAt xs j = ptAt ys j) ∧ wr = w.drewN n) (fun vi _ => (intOf vi + 1).toNat)
    case atStart => exact ⟨xs.length, 0, Nat.le_refl _, rfl, fun j h1 h2 => by omega, rfl⟩
    case round =>
      obtain ⟨k, n, hk, rfl, hz, rfl⟩ := hrel
      have HZ := Lib.hid hz
      clear hz
      by_cases hpos : 0 < k
      · obtain ⟨m, rfl⟩ : ∃ m, k = m + 1 := ⟨k - 1, by omega⟩
        have hm : ((m + 1 : Nat) : Int) - 1 = (m : Int) := by omega
        rw [hm]
        obtain ⟨b1, o1, rfl, hb1, _, hc1, hc2, p0⟩ := HI.out.cellAt (k := m) (by omega)
        obtain ⟨b2, o2, rfl, hb2, _, hc3, hc4, p1⟩ := HJ.out.cellAt (k := m) (by omega)
        have i1 : 0 ≤ (m : Int) := by omega
        have i2 : (m : Int) < xs.length := by omega
        have i3 : (m : Int) < ys.length := by omega
        clear hm hpos
        by_cases e : ptAt xs m = ptAt ys m
        · have HN := Lib.hid (show ∀ j, m ≤ j → j < xs.length → ptAt xs j = ptAt ys j from fun j h1 h2 => by
            by_cases h : j = m
            · rw [h]; exact e
            · exact HZ.out j (by omega) h2)
          rw [e] at p0
          clear e
          generalize ptAt ys m = y at *
          have q2 : (y != y) = false := by simp
          go_wp2_with fail
          go_quiet (fail)
          go_wp2
          go_roundw
          case rel => exact ⟨m, n + nq, by omega, rfl, HN.out, by first | rfl | trivial⟩
          case measure => simp [intOf]
        · have q2 : (ptAt xs m != ptAt ys m) = true := by simp [e]
          obtain ⟨x0, x1⟩ := digs_at HDA.out m
          obtain ⟨y0, y1⟩ := digs_at HDB.out m
          have HP := Lib.hid (fun (n : Nat) => show CmpPost w a b (.returned (.int .i64 (ptAt xs m - ptAt ys m))) (w.drewN n) from ⟨_, rfl, by
            rw [← HVA.out, ← HVB.out]
            rcases Int.lt_or_gt_of_ne e with h | h
            · have := dval_less HL.out (by omega) HDA.out HDB.out (fun j h1 h2 => HZ.out j (by omega) h2) h
              omega
            · have := dval_less HL.out.symm (k := m) (by have := HL.out; omega) HDB.out HDA.out (fun j h1 h2 => (HZ.out j (by omega) (by have := HL.out; omega)).symm) h
              omega, by
            rw [← HVA.out, ← HVB.out]
            rcases Int.lt_or_gt_of_ne e with h | h
            · have := dval_less HL.out (by omega) HDA.out HDB.out (fun j h1 h2 => HZ.out j (by omega) h2) h
              omega
            · have := dval_less HL.out.symm (k := m) (by have := HL.out; omega) HDB.out HDA.out (fun j h1 h2 => (HZ.out j (by omega) (by have := HL.out; omega)).symm) h
              omega, n, rfl⟩)
          clear e
          generalize ptAt xs m = x at *
          generalize ptAt ys m = y at *
          go_wp2_with fail
          go_quiet (fail)
          go_wp2_with fail
          have p0' : (w.drewN (n + nq)).cell? ⟨b1, o1 + m, none⟩ = some (.int .i64 x) := p0
          have p1' : (w.drewN (n + nq)).cell? ⟨b2, o2 + m, none⟩ = some (.int .i64 y) := p1
          go_quiet (fail)
          go_wp2
          go_ret
          rw [World.drewN_drewN, World.drewN_drewN]
          exact HP.out _
      · obtain rfl : k = 0 := by omega
        have HP := Lib.hid (show CmpPost w a b (.returned (.int .i64 0)) (w.drewN n) from ⟨0, rfl, by
          have := HSE.out HL.out (fun j h => HZ.out j (by omega) h)
          omega, by
          have := HSE.out HL.out (fun j h => HZ.out j (by omega) h)
          omega, n, rfl⟩)
        go_wp2
        go_ret
        exact HP.out
  · have q : ((xs.length : Int) != (ys.length : Int)) = true := by simp; omega
    have HP := Lib.hid (show CmpPost w a b (.returned (.int .i64 ((xs.length : Int) - ys.length))) w from ⟨_, rfl, by
      rcases Nat.lt_or_gt_of_ne hl with h | h
      · have := HSL.out h; omega
      · have := HSR.out h; omega, by
      rcases Nat.lt_or_gt_of_ne hl with h | h
      · have := HSL.out h; omega
      · have := HSR.out h; omega, 0, rfl⟩)
    clear hl
    go_enter Tryz.func151, Tryz.ntmps151
    go_wp2
    go_ret
    exact HP.out

/-- One digit of a difference. -/
theorem minus_step (xs ys l : List Int) (k : Nat) (r d o r' : Int) (hl : l.length = k) (h : (dval l : Int) + dval (ys.take k) = dval (xs.take k) + 16777216 ^ k * r) (hx : (dval (xs.take (k + 1)) : Int) = dval (xs.take k) + 16777216 ^ k * ptAt xs k)
    (hy : (dval (ys.take (k + 1)) : Int) = dval (ys.take k) + 16777216 ^ k * ptAt ys k) (hd : d = ptAt xs k - r - ptAt ys k) (ho : o = d + 16777216 * r') (ho0 : 0 ≤ o) :
    (dval (l ++ [o]) : Int) + dval (ys.take (k + 1)) = dval (xs.take (k + 1)) + 16777216 ^ (k + 1) * r' := by
  rw [dval_snoc, hl, hx, hy, Int.pow_succ]
  have e : ((dval l + 16777216 ^ k * o.toNat : Nat) : Int) = dval l + 16777216 ^ k * o := by
    rw [Int.natCast_add, Int.natCast_mul, Int.toNat_of_nonneg ho0, Int.natCast_pow]; rfl
  rw [e]
  subst ho hd
  grind
theorem dval_take_int (zs : List Int) (h : Digs zs) (k : Nat) : (dval (zs.take (k + 1)) : Int) = dval (zs.take k) + 16777216 ^ k * ptAt zs k := by
  by_cases hk : k < zs.length
  · rw [dval_take_succ zs k hk, Int.natCast_add, Int.natCast_mul, Int.toNat_of_nonneg (digs_at h k).1, Int.natCast_pow]; rfl
  · have : ptAt zs k = 0 := by simp [ptAt, List.getD, List.getElem?_eq_none (show zs.length ≤ k by omega)]
    rw [this, List.take_of_length_le (by omega), List.take_of_length_le (by omega)]; simp

set_option maxHeartbeats 2000000 in
theorem rminus_any (sv tv : Value) (xs ys : List Int) (w : World) (hI : PtsAt w.heap.size w sv xs) (hJ : PtsAt w.heap.size w tv ys) (hdx : Digs xs) (hdy : Digs ys) (hla : xs.length ≤ 100000) (hlb : ys.length ≤ xs.length) (hle : dval ys ≤ dval xs) :
    Calls Tryz.prog 153 #[sv, tv] w (DigPost w (dval xs - dval ys)) := by
  obtain ⟨i0, hi0, hz0, hz1, hz2⟩ := info_parts Tryz.infoI
  obtain ⟨s1, c1, rfl⟩ := hI.slice
  obtain ⟨s2, c2, rfl⟩ := hJ.slice
  have HI := Lib.hid hI
  have HJ := Lib.hid hJ
  have HDX := Lib.hid hdx
  have HDY := Lib.hid hdy
  have HLE := Lib.hid hle
  clear hI hJ hdx hdy hle
  go_enter Tryz.func153, Tryz.ntmps153
  go_wp2_with fail
  go_loopw [5, 6, 7] (fun vo vr vi wr => ∃ (k : Nat) (r : Int) (l : List Int), k ≤ xs.length ∧ vi = .int .i64 k ∧ vr = .int .i64 r ∧ 0 ≤ r ∧ r ≤ 1 ∧ l.length = k ∧ Digs l ∧ (dval l : Int) + dval (ys.take k) = dval (xs.take k) + 16777216 ^ k * r ∧ wr.ownsRow w.heap.size 3 1 vo k (irow l) ∧ Only (fun _ => False) w wr) (fun _ _ vi _ => xs.length - (intOf vi).toNat)
  case atStart => exact ⟨0, 0, [], Nat.zero_le _, rfl, rfl, by decide, by decide, rfl, fun x hx => by simp at hx, by simp [dval], World.ownsRow_nil _ _ _ _, Only.refl _ _⟩
  case round =>
    obtain ⟨k, r, l, hk, rfl, rfl, hr0, hr1, hl, hdl, hv, hown, hO⟩ := hrel
    have HO := Lib.hid hO
    have hsz := hO.size
    have HL := Lib.hid hl
    have HDL := Lib.hid hdl
    have HV := Lib.hid hv
    clear hl hdl hv
    by_cases hlt : k < xs.length
    · obtain ⟨b, off, rfl, hb, _, hcap, hcap2, hcell⟩ := HI.out.cellAt hlt
      have ck := hO.cell hcell (fun h => h)
      obtain ⟨x0, x1⟩ := digs_at HDX.out k
      obtain ⟨y0, y1⟩ := digs_at HDY.out k
      have HST := Lib.hid (fun (d o r' : Int) => minus_step xs ys l k r d o r' HL.out HV.out (dval_take_int xs HDX.out k) (dval_take_int ys HDY.out k))
      have hbw : b < wr.heap.size := by omega
      obtain ⟨x, hx⟩ : ∃ x, ptAt xs k = x := ⟨_, rfl⟩
      rw [hx] at ck x0 x1 HST
      clear hcell hx HV
      have key : ∀ (d o r' : Int) , d = x - r - ptAt ys k → o = d + 16777216 * r' → 0 ≤ o → o < 16777216 → 0 ≤ r' → r' ≤ 1 → ∀ (g1 cp1 : Nat) (w1 : World), w1.ownsRow w.heap.size 3 1 (.slice (some ⟨g1, 0, none⟩) (k + 1) cp1) (k + 1) (irow l ++ [.int .i64 o]) → Only (fun _ => False) w w1 → ∃ (k' : Nat) (r2 : Int) (l2 : List Int), k' ≤ xs.length ∧ Value.int .i64 ((k : Int) + 1) = .int .i64 k' ∧ Value.int .i64 r' = .int .i64 r2 ∧ 0 ≤ r2 ∧ r2 ≤ 1 ∧ l2.length = k' ∧ Digs l2 ∧ (dval l2 : Int) + dval (ys.take k') = dval (xs.take k') + 16777216 ^ k' * r2 ∧ w1.ownsRow w.heap.size 3 1 (.slice (some ⟨g1, 0, none⟩) (k + 1) cp1) k' (irow l2) ∧ Only (fun _ => False) w w1 := by
        intro d o r' hd ho ho0 ho1 h0 h1 g1 cp1 w1 hw hO1
        exact ⟨k + 1, r', l ++ [o], by omega, by go_num, rfl, h0, h1, by rw [List.length_append, HL.out]; rfl, digs_snoc HDL.out ho0 ho1, HST.out d o r' hd ho ho0, by rw [irow_append]; exact hw, hO1⟩
      have KEY := Lib.hid key
      clear key HST
      have hown2 : ∀ z : Int, (wr.alloc (.cells #[.int .i64 z] 3)).ownsRow w.heap.size 3 1 u5 k (irow l) := fun z => hown.alloc (.cells #[.int .i64 z] 3)
      have HOW2 := Lib.hid hown2
      have HGR := Lib.hid (fun (z : Int) (w1 : World) (hg : (wr.alloc (.cells #[.int .i64 z] 3)).grownBy w1 u5.ownBlock) => (HO.out.alloc (.cells #[.int .i64 z] 3)).grow (hown2 z) (Nat.le_refl _) hg)
      obtain ⟨av, cv, rfl⟩ := slice_of_own hown
      clear hO hown hown2
      by_cases hy : k < ys.length
      · obtain ⟨b2, off2, rfl, hb2, _, hcap3, hcap4, hcell2⟩ := HJ.out.cellAt hy
        have ck2 := HO.out.cell hcell2 (fun h => h)
        have hbw2 : b2 < wr.heap.size := by omega
        clear hcell2
        generalize ptAt ys k = y at *
        by_cases hneg : x - r - y < 0
        · go_wp2_with (at_builtin; refine wpList_append_lies _ rfl _ _ 26 rfl w.heap.size 3 i0 _ 1 8 Tryz.underlying26 hi0 hz0 hz1 hz2 rfl (by decide) _ k (irow l) rfl (HOW2.out (x - r - y + 16777216)) ⟨wr.heap.size, 0, none⟩ 1 1 [.int .i64 (x - r - y + 16777216)] rfl rfl (cell_one_new _ _ _) (one_int _) (by decide) ?c1 ?c2 ?c3 _ rfl ?_)
          case c1 => unfold maxLen; omega
          case c2 => omega
          case c3 => first | omega | (simp; omega)
          intro g1 cp1 w1 ho1 hg1 ha1 hgl1
          have HRL := Lib.hid (KEY.out (x - r - y) (x - r - y + 16777216) 1 rfl (by omega) (by omega) (by omega) (by decide) (by decide) g1 cp1 w1 ho1 (HGR.out _ _ hg1))
          clear ho1 hg1 ha1
          go_wp2
          go_roundw
          case rel => exact HRL.out
          case measure => simp [intOf]; omega
        · go_wp2_with (at_builtin; refine wpList_append_lies _ rfl _ _ 26 rfl w.heap.size 3 i0 _ 1 8 Tryz.underlying26 hi0 hz0 hz1 hz2 rfl (by decide) _ k (irow l) rfl (HOW2.out (x - r - y)) ⟨wr.heap.size, 0, none⟩ 1 1 [.int .i64 (x - r - y)] rfl rfl (cell_one_new _ _ _) (one_int _) (by decide) ?d1 ?d2 ?d3 _ rfl ?_)
          case d1 => unfold maxLen; omega
          case d2 => omega
          case d3 => first | omega | (simp; omega)
          intro g1 cp1 w1 ho1 hg1 ha1 hgl1
          have HRL := Lib.hid (KEY.out (x - r - y) (x - r - y) 0 rfl (by omega) (by omega) (by omega) (by decide) (by decide) g1 cp1 w1 ho1 (HGR.out _ _ hg1))
          clear ho1 hg1 ha1
          go_wp2
          go_roundw
          case rel => exact HRL.out
          case measure => simp [intOf]; omega
      · have hy0 : ptAt ys k = 0 := by simp [ptAt, List.getD, List.getElem?_eq_none (show ys.length ≤ k by omega)]
        rw [hy0] at KEY
        clear hy0 y0 y1
        by_cases hneg : x - r < 0
        · go_wp2_with (at_builtin; refine wpList_append_lies _ rfl _ _ 26 rfl w.heap.size 3 i0 _ 1 8 Tryz.underlying26 hi0 hz0 hz1 hz2 rfl (by decide) _ k (irow l) rfl (HOW2.out (x - r + 16777216)) ⟨wr.heap.size, 0, none⟩ 1 1 [.int .i64 (x - r + 16777216)] rfl rfl (cell_one_new _ _ _) (one_int _) (by decide) ?e1 ?e2 ?e3 _ rfl ?_)
          case e1 => unfold maxLen; omega
          case e2 => omega
          case e3 => first | omega | (simp; omega)
          intro g1 cp1 w1 ho1 hg1 ha1 hgl1
          have HRL := Lib.hid (KEY.out (x - r) (x - r + 16777216) 1 (by omega) (by omega) (by omega) (by omega) (by decide) (by decide) g1 cp1 w1 ho1 (HGR.out _ _ hg1))
          clear ho1 hg1 ha1
          go_wp2
          go_roundw
          case rel => exact HRL.out
          case measure => simp [intOf]; omega
        · go_wp2_with (at_builtin; refine wpList_append_lies _ rfl _ _ 26 rfl w.heap.size 3 i0 _ 1 8 Tryz.underlying26 hi0 hz0 hz1 hz2 rfl (by decide) _ k (irow l) rfl (HOW2.out (x - r)) ⟨wr.heap.size, 0, none⟩ 1 1 [.int .i64 (x - r)] rfl rfl (cell_one_new _ _ _) (one_int _) (by decide) ?f1 ?f2 ?f3 _ rfl ?_)
          case f1 => unfold maxLen; omega
          case f2 => omega
          case f3 => first | omega | (simp; omega)
          intro g1 cp1 w1 ho1 hg1 ha1 hgl1
          have HRL := Lib.hid (KEY.out (x - r) (x - r) 0 (by omega) (by omega) (by omega) (by omega) (by decide) (by decide) g1 cp1 w1 ho1 (HGR.out _ _ hg1))
          clear ho1 hg1 ha1
          go_wp2
          go_roundw
          case rel => exact HRL.out
          case measure => simp [intOf]; omega
    · have hke : k = xs.length := by omega
      have HTK := Lib.hid (show dval l = dval xs - dval ys by
        have := HV.out
        rw [hke, List.take_length, List.take_of_length_le (by omega : ys.length ≤ xs.length)] at this
        have h1 := dval_lt l HDL.out
        rw [HL.out, hke] at h1
        have h2 := HLE.out
        have h3 : r = 0 ∨ r = 1 := by omega
        rcases h3 with h3 | h3
        · rw [h3] at this; omega
        · rw [h3, Int.mul_one] at this
          have h4 : ((16777216 ^ xs.length : Nat) : Int) = (16777216 : Int) ^ xs.length := by rw [Int.natCast_pow]; rfl
          rw [← h4] at this
          omega)
      have HPT := Lib.hid (show PtsAt wr.heap.size wr u5 l from pts_of_own (by rw [HL.out]; exact hown) (by rw [HL.out]; omega))
      have HNK := Lib.hid (nilOk_own hown)
      have HFR := Lib.hid (freshV_own hown)
      obtain ⟨av, cv, rfl⟩ := slice_of_own hown
      clear hO hown hke HV
      go_wp2_with fail
      refine (rtrim_any _ _ _ HPT.out HDL.out (by rw [HL.out]; omega) HNK.out).mono ?_
      rintro e w2 ⟨v, rfl, hp, hnl, hcut, hO2⟩
      have HR := Lib.hid (show DigPost w (dval xs - dval ys) (.returned v) w2 from ⟨v, rfl, by rw [← HTK.out]; exact hp, hnl, fun a n c h => by obtain ⟨k', hk'⟩ := hcut a n c h; exact HFR.out a k' c hk', HO.out.trans hO2⟩)
      clear hp hnl hcut hO2
      go_wp2
      go_ret
      exact HR.out

theorem dg_le3 {n : Nat} (h : n < 79228162514264337593543950336) : (dgL n).length ≤ 100000 := Nat.le_trans (dgL_len (k := 4) (Nat.lt_of_lt_of_le h (by decide))) (by decide)

set_option maxHeartbeats 2000000 in
theorem rdigit_any (sv tv : Value) (a b : Nat) (w : World) (hI : PtsAt w.heap.size w sv (dgL a)) (hJ : PtsAt w.heap.size w tv (dgL b)) (ha : a < 18446744073709551616) (hb : b < 18446744073709551616) (hb0 : 0 < b) (hq : a < b * 16777216) :
    Calls Tryz.prog 152 #[sv, tv] w fun e w' => e = .returned (.int .i64 ((a / b : Nat) : Int)) ∧ Only (fun _ => False) w w' := by
  have hqq : a / b ≤ 16777215 := by
    have := Nat.div_lt_of_lt_mul hq; omega
  have HMID := Lib.hid (fun (m : Nat) => show b * m ≤ a ↔ m ≤ a / b by rw [Nat.le_div_iff_mul_le hb0, Nat.mul_comm])
  have HT := Lib.hid (fun (m : Int) (h0 : 0 ≤ m) (h1 : m < 16777216) (wr : World) (hp : PtsAt wr.heap.size wr tv (dgL b)) => rtimes_any tv (dgL b) m wr hp (digs_dgL b) (dg_le3 (by omega)) h0 h1)
  have HVB := Lib.hid (dval_dgL b)
  have HLA := Lib.hid (dg_le3 (n := a) (by omega))
  have HLM := Lib.hid (fun (m : Int) (h1 : m < 16777216) => show (dgL (b * m.toNat)).length ≤ 100000 from dg_le3 (by
    have : b * m.toNat ≤ b * 16777216 := Nat.mul_le_mul_left _ (by omega)
    omega))
  generalize a / b = q at *
  have HI := Lib.hid hI
  have HJ := Lib.hid hJ
  obtain ⟨s1, c1, rfl⟩ := hI.slice
  obtain ⟨s2, c2, rfl⟩ := hJ.slice
  clear hI hJ hq ha hb
  go_enter Tryz.func152, Tryz.ntmps152
  go_wp2_with fail
  go_loopw [5, 6] (fun vl vh wr => ∃ (lo hi : Nat), vl = .int .i64 lo ∧ vh = .int .i64 hi ∧ lo ≤ q ∧ q ≤ hi ∧ hi ≤ 16777215 ∧ Only (fun _ => False) w wr) (fun vl vh _ => (intOf vh - intOf vl).toNat)
  case atStart => exact ⟨0, 16777215, rfl, rfl, Nat.zero_le _, hqq, by decide, Only.refl _ _⟩
  case round =>
    obtain ⟨lo, hi, rfl, rfl, h1, h2, h3, hO⟩ := hrel
    have HO := Lib.hid hO
    clear hO
    by_cases hlt : lo < hi
    · have HTJ := Lib.hid (HT.out (((lo : Int) + hi + 1) / 2) (by omega) (by omega) wr (HJ.out.only HO.out))
      have HLMJ := Lib.hid (HLM.out (((lo : Int) + hi + 1) / 2) (by omega))
      have HMJ := Lib.hid (HMID.out (((lo : Int) + hi + 1) / 2).toNat)
      go_wp2_with fail
      refine HTJ.out.mono ?_
      rintro e w1 ⟨v, rfl, hp, _, _, hO1⟩
      rw [HVB.out] at hp
      have HP := Lib.hid hp
      have HO1 := Lib.hid (HO.out.trans hO1)
      obtain ⟨s3, c3, rfl⟩ := hp.slice
      clear hp hO1 HTJ
      go_wp2_with fail
      refine (rcmpd_any _ _ _ a _ HP.out (HI.out.only HO1.out) HLMJ.out HLA.out).mono ?_
      rintro e w2 ⟨c, rfl, hc1, hc2, n, rfl⟩
      have HO2 := Lib.hid (HO1.out.drewN n)
      by_cases hc : c ≤ 0
      · have hm : (((lo : Int) + hi + 1) / 2).toNat ≤ q := HMJ.out.1 (hc1.1 hc)
        clear hc1 hc2
        go_wp2
        go_roundw
        case rel => exact ⟨(((lo : Int) + hi + 1) / 2).toNat, hi, by first | (congr 1; omega) | congr 1, rfl, hm, h2, h3, HO2.out⟩
        case measure => simp [intOf]; omega
      · have hm : ¬ (((lo : Int) + hi + 1) / 2).toNat ≤ q := fun h => hc (hc1.2 (HMJ.out.2 h))
        clear hc1 hc2
        go_wp2
        go_roundw
        case rel => exact ⟨lo, (((lo : Int) + hi + 1) / 2).toNat - 1, rfl, by first | (congr 1; omega) | congr 1, h1, by omega, by omega, HO2.out⟩
        case measure => simp [intOf]; omega
    · obtain rfl : lo = q := by omega
      have i1 : ¬ (lo : Int) < hi := by omega
      clear hlt
      go_wp2
      go_ret
      exact ⟨rfl, HO.out⟩
end Go.Proofs.YtldkjkjpaiajlaaGreatDoor

namespace Go.Proofs.YtldkjkjpaiajlaaGreatDoor
open Go.RowKit

theorem valL_take_pos (n : Nat) (k : Nat) (hk : 0 < k) (hk2 : k ≤ (natB n).size) : valL ((natB n).data.toList.take k) ≠ 0 := by
  have hs : (natB n).data.toList.length = (natB n).size := by simp
  intro h0
  have h1 : ∀ j, j < k → valL ((natB n).data.toList.take (j + 1)) = 0 := by
    intro j hj
    have hle : valL ((natB n).data.toList.take (j + 1)) ≤ valL ((natB n).data.toList.take k) := by
      by_cases e : j + 1 = k
      · rw [e]; exact Nat.le_refl _
      · have := valL_take_le ((natB n).data.toList.take k) (j + 1) (by rw [List.length_take]; omega)
        rw [List.take_take, Nat.min_eq_left (by omega)] at this
        omega
    omega
  have h2 := h1 0 hk
  rw [valL_take_snoc (natB n) 0 (by omega)] at h2
  have h3 := natB_head n (by omega)
  apply h3
  have : (natB n)[0].toNat = 0 := by omega
  rw [← UInt8.toNat_inj, this]; rfl

set_option maxRecDepth 100000 in
set_option maxHeartbeats 2000000 in
theorem rofd_any (n : Nat) (w : World) (hn : (natB n).size ≤ 100000) :
    Calls Tryz.prog 109 #[.string (natB n)] w (DigPost w n) := by
  obtain ⟨i0, hi0, hz0, hz1, hz2⟩ := info_parts Tryz.infoI
  have HC := Lib.hid (rcanon_any (natB n) w (by omega))
  rw [valB_natB] at HC
  have HV := Lib.hid (show valL (natB n).data.toList = n from valB_natB n)
  have HPOS := Lib.hid (valL_take_pos n)
  have HSN := Lib.hid (valL_take_snoc (natB n))
  have HLEN := Lib.hid (show (natB n).data.toList.length = (natB n).size by simp)
  generalize natB n = b at *
  go_enter Tryz.func109, Tryz.ntmps109
  go_wp2_with fail
  refine HC.out.mono ?_
  rintro e w' ⟨rfl, rfl⟩
  clear HC
  go_wp2_with fail
  go_loopw [3, 4] (fun vo ve wr => ∃ (E : Int) (l : List Int), ve = .int .i64 E ∧ -2 ≤ E ∧ E ≤ b.size ∧ l.length ≤ b.size ∧ (l.length : Int) * 3 + E = b.size ∧ l ++ dgL (valL (b.data.toList.take E.toNat)) = dgL n ∧ wr.ownsRow w.heap.size 3 1 vo l.length (irow l) ∧ Only (fun _ => False) w wr) (fun _ ve _ => (intOf ve + 2).toNat)
  case atStart => exact ⟨b.size, [], rfl, by omega, by omega, Nat.zero_le _, by simp, by rw [Int.toNat_natCast, List.take_of_length_le (by rw [HLEN.out]; exact Nat.le_refl _), HV.out]; rfl, World.ownsRow_nil _ _ _ _, Only.refl _ _⟩
  case round =>
    obtain ⟨E, l, rfl, hE0, hE1, hll, hlE, hd, hown, hO⟩ := hrel
    have HD := Lib.hid hd
    have HO := Lib.hid hO
    have hsz := hO.size
    have HLE := Lib.hid hlE
    clear hd hlE
    by_cases hpos : 0 < E
    · obtain ⟨m, rfl⟩ : ∃ m : Nat, E = m := ⟨E.toNat, by omega⟩
      rw [Int.toNat_natCast] at HD
      have HOWN := Lib.hid hown
      obtain ⟨av, cv, rfl⟩ := slice_of_own hown
      obtain ⟨st, hst⟩ : ∃ st : Nat, ((m : Int) - 3).toNat = st := ⟨_, rfl⟩
      have hmax : max ((m : Int) - 3) 0 = (st : Int) := by omega
      have HST := Lib.hid hst
      have hs1 : st ≤ m := by omega
      have hs2 : m ≤ st + 3 := by omega
      clear hO hown hst
      obtain ⟨wo, hwo⟩ : ∃ wo : World, wo = wr := ⟨_, rfl⟩
      subst hwo
      go_wp2_with fail
      go_loop [5, 6] (fun vd vk => ∃ (k : Nat) (d : Nat), vk = .int .i64 k ∧ vd = .int .i64 d ∧ st ≤ k ∧ k ≤ m ∧ valL (b.data.toList.take k) = valL (b.data.toList.take st) * 256 ^ (k - st) + d ∧ d < 256 ^ (k - st)) (fun _ vk => m - (intOf vk).toNat)
      case atStart => exact ⟨st, 0, rfl, rfl, Nat.le_refl _, hs1, by simp, by simp⟩
      case round =>
        obtain ⟨k, d, rfl, rfl, hk1, hk2, hv, hdd⟩ := hrel
        have HVK := Lib.hid hv
        have HDD := Lib.hid hdd
        clear hv hdd
        by_cases hlt : k < m
        · have hkb : k < b.size := by omega
          have HX := Lib.hid (HSN.out k hkb)
          have hb1 : b[k].toNat < 256 := b[k].toNat_lt
          have hd1 : d ≤ 65535 := by
            have h1 := HDD.out
            have h2 : 256 ^ (k - st) ≤ 256 ^ 2 := Nat.pow_le_pow_right (by decide) (by omega)
            omega
          have HNV := Lib.hid (show valL (b.data.toList.take (k + 1)) = valL (b.data.toList.take st) * 256 ^ (k + 1 - st) + (d * 256 + b[k].toNat) by
            rw [HX.out, HVK.out, show k + 1 - st = (k - st) + 1 by omega, Nat.pow_succ]; grind)
          have HND := Lib.hid (show d * 256 + b[k].toNat < 256 ^ (k + 1 - st) by
            have := HDD.out
            rw [show k + 1 - st = (k - st) + 1 by omega, Nat.pow_succ]; omega)
          have i1 : (k : Int) < m := by omega
          clear HX HVK HDD
          go_wp2
          go_round
          case rel => exact ⟨k + 1, d * 256 + b[k].toNat, by go_num, by simp, by omega, by omega, HNV.out, HND.out⟩
          case measure => simp [intOf]; omega
        · obtain rfl : k = m := by omega
          have hmne := HPOS.out k (by omega) (by omega)
          have hst0 : k < 3 → st = 0 := fun h => by have := HST.out; omega
          have hst3 : 3 ≤ k → k - st = 3 := fun h => by have := HST.out; omega
          have HDG := Lib.hid (show l ++ [(d : Int)] ++ dgL (valL (b.data.toList.take st)) = dgL n by
            rw [← HD.out, dgL_pos hmne, List.append_assoc]
            have h1 := HVK.out
            have h2 := HDD.out
            have e : valL (b.data.toList.take k) / 16777216 = valL (b.data.toList.take st) ∧ valL (b.data.toList.take k) % 16777216 = d := by
              by_cases h : 3 ≤ k
              · rw [hst3 h] at h1 h2
                have h3 : (256 : Nat) ^ 3 = 16777216 := by decide
                rw [h3] at h1 h2
                omega
              · have h0 := hst0 (by omega)
                subst h0
                have hz : valL (b.data.toList.take 0) = 0 := rfl
                rw [hz, Nat.zero_mul, Nat.zero_add] at h1
                have h4 : 256 ^ (k - 0) ≤ 256 ^ 2 := Nat.pow_le_pow_right (by decide) (by omega)
                rw [h1, hz]
                omega
            rw [e.1, e.2]; rfl)
          have HSTT := Lib.hid (show ((k : Int) - 3).toNat = st from HST.out)
          have hown2 := HOWN.out.alloc (.cells #[.int .i64 (d : Int)] 3)
          have i1 : ¬ (k : Int) < k := by omega
          clear hmne hst0 hst3 hlt HVK HDD
          go_wp2_with (at_builtin; refine wpList_append_lies _ rfl _ _ 26 rfl w.heap.size 3 i0 _ 1 8 Tryz.underlying26 hi0 hz0 hz1 hz2 rfl (by decide) _ l.length (irow l) rfl hown2 ⟨wo.heap.size, 0, none⟩ 1 1 [.int .i64 (d : Int)] rfl rfl (cell_one_new _ _ _) (one_int _) (by decide) ?c1 ?c2 ?c3 _ rfl ?_)
          case c1 => unfold maxLen; omega
          case c2 => omega
          case c3 => first | omega | (simp; omega)
          intro g1 cp1 w1 ho1 hg1 ha1 hgl1
          have HO1 := Lib.hid ((HO.out.alloc (.cells #[.int .i64 (d : Int)] 3)).grow hown2 (Nat.le_refl _) hg1)
          have HOW := Lib.hid ho1
          clear ho1 hg1 ha1 hown2
          go_wp2
          go_roundw
          case rel => exact ⟨(k : Int) - 3, l ++ [(d : Int)], rfl, by omega, by omega, by rw [List.length_append]; have := HLE.out; simp; omega, by rw [List.length_append]; have := HLE.out; simp; omega, by rw [HSTT.out]; exact HDG.out, by rw [List.length_append, irow_append]; exact HOW.out, HO1.out⟩
          case measure => simp [intOf]; omega
    · have HDN := Lib.hid (show l = dgL n by
        have := HD.out
        rw [show E.toNat = 0 by omega, show valL (b.data.toList.take 0) = 0 from rfl, dgL_zero, List.append_nil] at this; exact this)
      have HR := Lib.hid (show DigPost w n (.returned u3) wr from ⟨u3, rfl, by rw [← HDN.out]; exact pts_of_own hown (by omega), nilOk_own hown, freshV_own hown, hO⟩)
      obtain ⟨av, cv, rfl⟩ := slice_of_own hown
      clear hO hown
      go_wp2
      go_ret
      exact HR.out
end Go.Proofs.YtldkjkjpaiajlaaGreatDoor

namespace Go.Proofs.YtldkjkjpaiajlaaGreatDoor
open Go.RowKit

/-- The bytes of digits, the last digit first. -/
def nb : List Int → List Int
  | [] => []
  | x :: t => nb t ++ [x / 65536 % 256, x / 256 % 256, x % 256]
theorem nb_len : ∀ l, (nb l).length = 3 * l.length
  | [] => rfl
  | x :: t => by rw [nb, List.length_append, nb_len t]; simp; omega
theorem valL_three (l : List UInt8) (a b c : UInt8) : valL (l ++ [a, b, c]) = valL l * 16777216 + (a.toNat * 65536 + b.toNat * 256 + c.toNat) := by
  have e : l ++ [a, b, c] = ((l ++ [a]) ++ [b]) ++ [c] := by simp
  rw [e, valL_snoc, valL_snoc, valL_snoc]; omega
theorem valB_nb : ∀ (l : List Int), Digs l → valB (strOfNums (nb l)) = dval l
  | [], _ => rfl
  | x :: t, h => by
    have h1 := h x (by simp)
    have h2 := valB_nb t (fun y hy => h y (by simp [hy]))
    unfold valB at h2 ⊢
    rw [strOfNums_data] at h2 ⊢
    rw [nb, List.map_append, List.map_cons, List.map_cons, List.map_cons, List.map_nil, valL_three, h2, dval]
    have e : ∀ z : Int, 0 ≤ z → z < 256 → (UInt8.ofNat z.toNat).toNat = z.toNat := fun z h0 h1 => by
      rw [UInt8.toNat_ofNat']; omega
    rw [e _ (by omega) (by omega), e _ (by omega) (by omega), e _ (by omega) (by omega)]
    omega
theorem nb_drop (zs : List Int) (k : Nat) (h : k < zs.length) : nb (zs.drop k) = nb (zs.drop (k + 1)) ++ [ptAt zs k / 65536 % 256, ptAt zs k / 256 % 256, ptAt zs k % 256] := by
  have : zs.drop k = ptAt zs k :: zs.drop (k + 1) := by
    rw [List.drop_eq_getElem_cons h]; simp [ptAt, List.getD, h]
  rw [this, nb]

set_option maxRecDepth 100000 in
set_option maxHeartbeats 3200000 in
theorem rnumd_any (sv : Value) (zs : List Int) (w : World) (hI : PtsAt w.heap.size w sv zs) (hd : Digs zs) (hlen : zs.length ≤ 10000) :
    Calls Tryz.prog 110 #[sv] w fun e w' => e = .returned (.string (natB (dval zs))) ∧ Only (fun _ => False) w w' := by
  obtain ⟨i0, hi0, hz0, hz1, hz2⟩ := info_parts Tryz.infoB
  obtain ⟨a, cc, rfl⟩ := hI.slice
  have HI := Lib.hid hI
  have HD := Lib.hid hd
  have HVN := Lib.hid (valB_nb zs hd)
  clear hI hd
  go_enter Tryz.func110, Tryz.ntmps110
  go_wp2_with fail
  go_loopw [3, 4] (fun vb vi wr => ∃ k : Nat, k ≤ zs.length ∧ vi = .int .i64 ((k : Int) - 1) ∧ wr.ownsRow w.heap.size 5 1 vb (nb (zs.drop k)).length (brow (nb (zs.drop k))) ∧ Only (fun _ => False) w wr) (fun _ vi _ => (intOf vi + 1).toNat)
  case atStart => exact ⟨zs.length, Nat.le_refl _, rfl, by rw [List.drop_length]; exact World.ownsRow_nil _ _ _ _, Only.refl _ _⟩
  case round =>
    obtain ⟨k, hk, rfl, hown, hO⟩ := hrel
    have HO := Lib.hid hO
    have hsz := hO.size
    by_cases hpos : 0 < k
    · obtain ⟨m, rfl⟩ : ∃ m, k = m + 1 := ⟨k - 1, by omega⟩
      have hm : ((m + 1 : Nat) : Int) - 1 = (m : Int) := by omega
      rw [hm]
      obtain ⟨b, off, rfl, hb, _, hc1, hc2, hcell⟩ := HI.out.cellAt (k := m) (by omega)
      have ck := hO.cell hcell (fun h => h)
      obtain ⟨x0, x1⟩ := digs_at HD.out m
      have HNB := Lib.hid (nb_drop zs m (by omega))
      have hnl : (nb (zs.drop (m + 1))).length ≤ 30000 := by rw [nb_len, List.length_drop]; omega
      generalize ptAt zs m = x at *
      generalize nb (zs.drop (m + 1)) = l at *
      have i1 : 0 ≤ (m : Int) := by omega
      have i2 : (m : Int) < zs.length := by omega
      have hbw : b < wr.heap.size := by omega
      have hfar : ∀ g, u3.ownBlock = some g → g ≠ b := fun g hg => by have := (own_lt hown hg).2; omega
      have HFAR := Lib.hid (show u3.ownBlock ≠ some b from fun h => hfar b h rfl)
      have HOWN := Lib.hid hown
      obtain ⟨av, cv, rfl⟩ := slice_of_own hown
      clear hm hpos hcell hO hfar hown
      go_wp2_with fail
      go_region_held3 (fun w' => w'.cell? ⟨b, off + m, none⟩ = some (.int .i64 x))
        (first
          | go_keep
          | (rw [hgrow.cell_far _ (by simp; omega) (Ne.symm HFAR.out)]; assumption))
        ((refine step_append_lies _ (by rfl) _ _ _ (by rfl) w.heap.size 5 i0 _ 1 1 Tryz.underlying22 hi0 hz0 hz1 hz2 rfl (by omega) (.slice av l.length cv) l.length (brow l) (by rfl) ((HOWN.out.alloc _).drew)
            ⟨wr.heap.size, 0, none⟩ 3 3 [.int .u8 (x / 65536 % 256), .int .u8 (x / 256 % 256), .int .u8 (x % 256)] (by rfl) (by rfl) (World.news_of_block (cs := #[.int .u8 (x / 65536 % 256), .int .u8 (x / 256 % 256), .int .u8 (x % 256)]) (t := 5) (fr := (0, 0)) (heap_alloc_new wr _)) (by simp [Value.oneCell'])
            (by omega) (by unfold maxLen; omega) (by omega) (by simp; omega) (wr.heap.size + 1) (by simp) ?_; intro gg cap w1 hown1 hgrow hat hlt))
      have HO1 := Lib.hid ((HO.out.alloc _).drew.grow (owns_drew (HOWN.out.alloc _)) (Nat.le_refl _) hgrow)
      have HOW1 := Lib.hid hown1
      clear hown1 hgrow hat
      go_wp2
      go_roundw
      case rel => exact ⟨m, by omega, rfl, by rw [HNB.out, List.length_append, brow_append]; exact HOW1.out, HO1.out⟩
      case measure => simp [intOf]
    · obtain rfl : k = 0 := by omega
      rw [List.drop_zero] at hown
      have hcv := conv_own 124 Tryz.underlying124 hown rfl
      have HBS := Lib.hid (show (strOfNums (nb zs)).size ≤ 1000000 by rw [strOf_size, nb_len]; omega)
      obtain ⟨av, cv, rfl⟩ := slice_of_own hown
      generalize strOfNums (nb zs) = S at *
      clear hO hown
      go_wp2_with fail
      refine (rcanon_any _ _ HBS.out).mono ?_
      rintro e w' ⟨rfl, rfl⟩
      go_wp2
      go_ret
      exact ⟨by rw [HVN.out]; rfl, HO.out⟩
end Go.Proofs.YtldkjkjpaiajlaaGreatDoor

namespace Go.Proofs.YtldkjkjpaiajlaaGreatDoor
open Go.RowKit

/-- One digit of a quotient. -/
theorem quo_step (A b : Nat) (hb : 0 < b) : (A / 16777216 % b * 16777216 + A % 16777216) / b = A / b % 16777216 ∧ (A / 16777216 % b * 16777216 + A % 16777216) % b = A % b ∧ A / 16777216 % b * 16777216 + A % 16777216 < b * 16777216 := by
  obtain ⟨r, hr⟩ : ∃ r, A / 16777216 % b * 16777216 + A % 16777216 = r := ⟨_, rfl⟩
  have h1 : A / 16777216 % b < b := Nat.mod_lt _ hb
  have hlt : r < b * 16777216 := by
    have : (A / 16777216 % b + 1) * 16777216 ≤ b * 16777216 := Nat.mul_le_mul_right _ (by omega)
    omega
  have hA : A = b * (A / 16777216 / b * 16777216) + r := by
    have e1 := Nat.div_add_mod A 16777216
    have e2 := Nat.div_add_mod (A / 16777216) b
    rw [← hr]
    generalize A / 16777216 = q at *
    generalize A % 16777216 = s at *
    generalize q / b = t at *
    generalize q % b = p at *
    rw [← e1, ← e2]
    grind
  rw [hr]
  have hq : A / b = A / 16777216 / b * 16777216 + r / b := by
    conv => lhs; rw [hA]
    rw [Nat.mul_add_div hb]
  have hrb : r / b < 16777216 := Nat.div_lt_of_lt_mul hlt
  refine ⟨by rw [hq, Nat.mul_comm, Nat.mul_add_mod, Nat.mod_eq_of_lt hrb], ?_, hlt⟩
  conv => rhs; rw [hA]
  rw [Nat.mul_add_mod]

set_option maxRecDepth 100000 in
set_option maxHeartbeats 1000000 in
theorem rquo_small (a b : Nat) (w : World) (ha : a < 72057594037927936) (hb0 : 0 < b) (hb : b < 72057594037927936) :
    Calls Tryz.prog 106 #[.string (natB a), .string (natB b)] w fun e w' => e = .returned (.tuple #[.string (natB (a / b)), .string (natB (a % b)), .bool true]) ∧ Only (fun _ => False) w w' := by
  have hsz : (natB b).size ≤ 7 := by rw [natB_size]; exact beL_len (Nat.lt_of_lt_of_le hb (by decide))
  have hpos : 0 < (natB b).size := by
    rw [natB_size, beL_pos (by omega)]; simp
  have HC := Lib.hid (rcanon_any (natB b) w (by omega))
  rw [valB_natB] at HC
  have H1 := Lib.hid (rsmall_yes a w ha)
  have H2 := Lib.hid (rsmall_yes b w hb)
  have hq1 := Nat.div_le_self a b
  have hm1 := Nat.mod_le a b
  have e1 : ((a / b : Nat) : Int) = (a : Int) / b := Int.natCast_ediv _ _
  have e2 : ((a % b : Nat) : Int) = (a : Int) % b := Int.natCast_emod _ _
  have E1 := Lib.hid (show natB (a / b) = natB ((a : Int) / b).toNat by rw [← e1, Int.toNat_natCast])
  have E2 := Lib.hid (show natB (a % b) = natB ((a : Int) % b).toNat by rw [← e2, Int.toNat_natCast])
  have k1 : 0 ≤ (a : Int) / b := by rw [← e1]; exact Int.natCast_nonneg _
  have k2 : (a : Int) / b ≤ 9223372036854775807 := by rw [← e1]; exact Int.ofNat_le.2 (show a / b ≤ 9223372036854775807 by omega)
  have k3 : 0 ≤ (a : Int) % b := by rw [← e2]; exact Int.natCast_nonneg _
  have k4 : (a : Int) % b ≤ 9223372036854775807 := by rw [← e2]; exact Int.ofNat_le.2 (show a % b ≤ 9223372036854775807 by omega)
  generalize natB a = sa at *
  generalize natB b = sb at *
  have i1 : (0 : Int) < b := by omega
  have i2 : (0 : Int) ≤ a := by omega
  have i3 : ((b : Int) == 0) = false := beq_eq_false_iff_ne.2 (by omega)
  have i4 : (a : Int) ≤ 72057594037927936 := by omega
  have i5 : (b : Int) ≤ 72057594037927936 := by omega
  have i6 : ((sb.size : Int) == 0) = false := beq_eq_false_iff_ne.2 (by omega)
  have htd : (a : Int).tdiv b = (a : Int) / b := Int.tdiv_eq_ediv_of_nonneg (by omega)
  have htm : (a : Int).tmod b = (a : Int) % b := Int.tmod_eq_emod_of_nonneg (by omega)
  clear e1 e2 hq1 hm1 ha hb
  go_enter Tryz.func106, Tryz.ntmps106
  go_wp2_with fail
  refine HC.out.mono ?_
  rintro e w' ⟨rfl, rfl⟩
  go_wp2_with fail
  refine H1.out.mono ?_
  rintro e w' ⟨rfl, rfl⟩
  go_wp2_with fail
  refine H2.out.mono ?_
  rintro e w' ⟨rfl, rfl⟩
  go_wp2_with fail
  refine wp_region_quiet_below (by kernel_rfl) (by kernel_rfl) ?_
  repeat (go_big_quiet_step ((go_at_call 67; exact Calls.regrown_of (rofI_any _ _ (by assumption) (by assumption)))))
  refine wpQuiet_nil ?_
  intro _ hw'
  obtain ⟨pq, hw''⟩ := hw'
  have HO := Lib.hid (Only.ofBelow (below_regrown w pq.d pq.os) (fun _ => False))
  rw [← hw''] at HO
  clear hw''
  go_wp2
  go_ret3
  exact ⟨by rw [E1.out, E2.out]; rfl, HO.out⟩

theorem dgL_at (n : Nat) : ∀ j, ptAt (dgL n) j = ((n / 16777216 ^ j % 16777216 : Nat) : Int) := by
  intro j
  induction j generalizing n with
  | zero =>
    by_cases h : n = 0
    · subst h; rw [dgL_zero]; rfl
    · rw [dgL_pos h]; simp [ptAt]
  | succ j ih =>
    by_cases h : n = 0
    · subst h; rw [dgL_zero]; simp [ptAt]
    · have e : ptAt (dgL n) (j + 1) = ptAt (dgL (n / 16777216)) j := by rw [dgL_pos h]; simp [ptAt]
      rw [e, ih, Nat.div_div_eq_div_mul, Nat.pow_succ, Nat.mul_comm 16777216]
theorem dgL_len3 {a : Nat} (h0 : 72057594037927936 ≤ a) (h1 : a < 9223372036854775808) : (dgL a).length = 3 := by
  have h2 := dgL_len (k := 3) (n := a) (Nat.lt_of_lt_of_le h1 (by decide))
  have h3 := dval_lt (dgL a) (digs_dgL a)
  rw [dval_dgL] at h3
  rcases Nat.lt_or_ge (dgL a).length 3 with h | h
  · exfalso
    have : 16777216 ^ (dgL a).length ≤ 16777216 ^ 2 := Nat.pow_le_pow_right (by decide) (by omega)
    have e : (16777216 : Nat) ^ 2 = 281474976710656 := by decide
    omega
  · omega
/-- The digits of the quotient from k on. -/
def quoF (a b k j : Nat) : Int := if k ≤ j then ((a / 16777216 ^ j / b % 16777216 : Nat) : Int) else 0
structure QuoAt (w wr : World) (g a b k : Nat) (vr : Value) : Prop where
  row : wr.rowIs g 3 3 (fun j => .int .i64 (quoF a b k j))
  rest : PtsAt wr.heap.size wr vr (dgL (a / 16777216 ^ k % b))
  nil : NilOk vr
  far : ∀ a n c, vr = .slice (some a) n c → a.block ≠ g
  g : w.heap.size ≤ g
  only : Only (fun _ => False) w wr
theorem quo_rest (a b k : Nat) (hb : 0 < b) : (a / 16777216 ^ (k + 1) % b * 16777216 + a / 16777216 ^ k % 16777216) / b = a / 16777216 ^ k / b % 16777216 ∧ (a / 16777216 ^ (k + 1) % b * 16777216 + a / 16777216 ^ k % 16777216) % b = a / 16777216 ^ k % b ∧ a / 16777216 ^ (k + 1) % b * 16777216 + a / 16777216 ^ k % 16777216 < b * 16777216 := by
  have e : a / 16777216 ^ (k + 1) = a / 16777216 ^ k / 16777216 := by rw [Nat.pow_succ, Nat.div_div_eq_div_mul]
  rw [e]
  exact quo_step (a / 16777216 ^ k) b hb
theorem own_one (w : World) (x : Int) : (w.alloc (.cells #[.int .i64 x] 3)).ownsRow w.heap.size 3 1 (.slice (some ⟨w.heap.size, 0, none⟩) 1 1) 1 [.int .i64 x] :=
  ⟨rfl, .inr ⟨w.heap.size, 1, #[.int .i64 x], rfl, Nat.le_refl _, heap_alloc_new w _, Nat.le_refl _, by unfold maxLen; decide, rfl, rfl⟩⟩

theorem pts_setOther {w : World} {g : Nat} {sv : Value} {zs : List Int} (h : PtsAt w.heap.size w sv zs) (hf : ∀ a n c, sv = .slice (some a) n c → a.block ≠ g) (m : Nat) (v : Value) : PtsAt (w.setCell ⟨g, m, none⟩ v).heap.size (w.setCell ⟨g, m, none⟩ v) sv zs := by
  rcases h with h | ⟨b, off, cap, rfl, hb, h1, h2, hc⟩
  · exact .inl h
  · refine .inr ⟨b, off, cap, rfl, by simpa [World.setCell] using hb, h1, h2, fun j hj => ?_⟩
    rw [World.cell?_of_block (heap_setCell_other w ⟨g, m, none⟩ b v (by exact hf _ _ _ rfl))]
    exact hc j hj
theorem quoF_next (a b m : Nat) : (∀ q, a / 16777216 ^ m / b % 16777216 = q → ∀ j, j < 3 → (if j = m then Value.int .i64 (q : Int) else .int .i64 (quoF a b (m + 1) j)) = .int .i64 (quoF a b m j)) ∧ (a / 16777216 ^ m / b % 16777216 = 0 → ∀ j, j < 3 → Value.int .i64 (quoF a b (m + 1) j) = .int .i64 (quoF a b m j)) := by
  refine ⟨fun q hq j _ => ?_, fun h0 j _ => ?_⟩
  · by_cases e : j = m
    · subst e; rw [if_pos rfl]; unfold quoF; rw [if_pos (Nat.le_refl _), hq]
    · rw [if_neg e]; unfold quoF
      by_cases h : m + 1 ≤ j
      · rw [if_pos h, if_pos (by omega)]
      · rw [if_neg h, if_neg (by omega)]
  · unfold quoF
    by_cases e : j = m
    · subst e; rw [if_neg (by omega), if_pos (Nat.le_refl _), h0]; rfl
    · by_cases h : m + 1 ≤ j
      · rw [if_pos h, if_pos (by omega)]
      · rw [if_neg h, if_neg (by omega)]
theorem quo_start (w : World) (a b : Nat) (ha : a < 9223372036854775808) : QuoAt w (w.alloc (.cells #[.int .i64 0, .int .i64 0, .int .i64 0] 3)) w.heap.size a b 3 (.slice none 0 0) := by
  refine ⟨?_, .inl ⟨none, 0, rfl, ?_⟩, fun n c h => by cases h; exact ⟨rfl, rfl⟩, (fun _ _ _ h => by cases h), Nat.le_refl _, (Only.refl _ w).alloc _⟩
  · refine World.rowIs_alloc w #[.int .i64 0, .int .i64 0, .int .i64 0] 3 _ (fun i hi => ?_)
    have hi3 : i < 3 := hi
    unfold quoF
    rw [if_neg (by omega)]
    match i, hi3 with
    | 0, _ => rfl
    | 1, _ => rfl
    | 2, _ => rfl
    | i + 3, h => omega
  · have e : a / 16777216 ^ 3 = 0 := Nat.div_eq_of_lt (Nat.lt_of_lt_of_le ha (by decide))
    rw [e, Nat.zero_mod, dgL_zero]
def quoL (a b : Nat) : List Int := [quoF a b 0 0, quoF a b 0 1, quoF a b 0 2]
theorem quoL_digs (a b : Nat) : Digs (quoL a b) := by
  intro x hx
  have h : ∀ j, 0 ≤ quoF a b 0 j ∧ quoF a b 0 j < 16777216 := fun j => by
    unfold quoF; rw [if_pos (Nat.zero_le _)]
    have := Nat.mod_lt (a / 16777216 ^ j / b) (show 0 < 16777216 by decide)
    omega
  unfold quoL at hx
  simp at hx
  rcases hx with rfl | rfl | rfl
  · exact h 0
  · exact h 1
  · exact h 2
theorem quoL_val {a b : Nat} (ha : a < 9223372036854775808) : dval (quoL a b) = a / b := by
  have e : ∀ j, (quoF a b 0 j).toNat = a / b / 16777216 ^ j % 16777216 := fun j => by
    unfold quoF; rw [if_pos (Nat.zero_le _), Int.toNat_natCast, Nat.div_div_eq_div_mul, Nat.div_div_eq_div_mul, Nat.mul_comm]
  unfold quoL
  simp only [dval, e]
  have h1 : a / b ≤ a := Nat.div_le_self a b
  generalize a / b = z at *
  simp only [Nat.reducePow]
  omega
theorem QuoAt.quo {w wr : World} {g a b : Nat} {vr : Value} (h : QuoAt w wr g a b 0 vr) : PtsAt wr.heap.size wr (.slice (some ⟨g, 0, none⟩) 3 3) (quoL a b) := by
  refine .inr ⟨g, 0, 3, rfl, h.row.lt, Nat.le_refl _, by decide, fun j hj => ?_⟩
  have hj3 : j < 3 := hj
  rw [Nat.zero_add, h.row.cell hj3]
  match j, hj3 with
  | 0, _ => rfl
  | 1, _ => rfl
  | 2, _ => rfl
  | j + 3, h => omega

set_option maxRecDepth 100000 in
set_option maxHeartbeats 2000000 in
theorem rquo_big (a b : Nat) (w : World) (ha0 : 72057594037927936 ≤ a) (ha : a < 9223372036854775808) (hb0 : 0 < b) (hb : b < 16777216) :
    Calls Tryz.prog 106 #[.string (natB a), .string (natB b)] w fun e w' => e = .returned (.tuple #[.string (natB (a / b)), .string (natB (a % b)), .bool true]) ∧ Only (fun _ => False) w w' := by
  obtain ⟨i0, hi0, hz0, hz1, hz2⟩ := info_parts Tryz.infoI
  have hsz : (natB b).size ≤ 7 := by rw [natB_size]; exact beL_len (Nat.lt_of_lt_of_le hb (by decide))
  have hpos : 0 < (natB b).size := by
    rw [natB_size, beL_pos (by omega)]; simp
  have i6 : (((natB b).size : Int) == 0) = false := beq_eq_false_iff_ne.2 (by omega)
  have HC := Lib.hid (rcanon_any (natB b) w (by omega))
  rw [valB_natB] at HC
  have H1 := Lib.hid (rsmall_no a w ha0 ha)
  have H2 := Lib.hid (rsmall_yes b w (by omega))
  have O1 := Lib.hid (rofd_any a w (by rw [natB_size]; exact Nat.le_trans (beL_len (k := 8) (Nat.lt_of_lt_of_le ha (by decide))) (by decide)))
  have O2 := Lib.hid (fun w => rofd_any b w (by omega))
  have HL3 := Lib.hid (dgL_len3 ha0 ha)
  have HB := Lib.hid (show 0 < b ∧ b < 16777216 ∧ a < 9223372036854775808 from ⟨hb0, hb, ha⟩)
  generalize natB a = sa at *
  generalize natB b = sb at *
  clear ha0 ha hb0 hb
  go_enter Tryz.func106, Tryz.ntmps106
  go_wp2_with fail
  refine HC.out.mono ?_
  rintro e w' ⟨rfl, rfl⟩
  go_wp2_with fail
  refine H1.out.mono ?_
  rintro e w' ⟨rfl, rfl⟩
  go_wp2_with fail
  refine H2.out.mono ?_
  rintro e w' ⟨rfl, rfl⟩
  go_wp2_with fail
  refine O1.out.mono ?_
  rintro e w1 ⟨u, rfl, hu, _, _, hO1⟩
  obtain ⟨au, cu, rfl⟩ := hu.slice
  rw [HL3.out] at hu ⊢
  have HU := Lib.hid hu
  have HO1 := Lib.hid hO1
  clear hu hO1 HC H1 H2 O1
  go_wp2_with fail
  refine (O2.out w1).mono ?_
  rintro e w2 ⟨v, rfl, hv, _, _, hO2⟩
  obtain ⟨av, cv, rfl⟩ := hv.slice
  have HU2 := Lib.hid (HU.out.only hO2)
  have HV2 := Lib.hid hv
  have HO2 := Lib.hid (HO1.out.trans hO2)
  clear hv hO2 HO1 O2 HU
  have hmk : ∀ w, (Instr.makeSlice 26 (.int .i64 3) (.int .i64 3)).run Tryz.prog w = .ok (.slice (some ⟨w.heap.size, 0, none⟩) 3 3) (w.alloc (.cells #[.int .i64 0, .int .i64 0, .int .i64 0] 3)) := fun _ => by kernel_rfl
  go_wp2_with fail
  have HQ0 := Lib.hid (quo_start w2 a b HB.out.2.2)
  clear hmk
  obtain ⟨g, hg⟩ : ∃ g, w2.heap.size = g := ⟨_, rfl⟩
  rw [hg] at HQ0 ⊢
  clear hg
  generalize w2.alloc (.cells #[.int .i64 0, .int .i64 0, .int .i64 0] 3) = w2a at *
  go_loopw [14, 15] (fun vr vi wr => ∃ k : Nat, k ≤ 3 ∧ vi = .int .i64 ((k : Int) - 1) ∧ QuoAt w2 wr g a b k vr) (fun _ vi _ => (intOf vi + 1).toNat)
  case atStart => exact ⟨3, by omega, rfl, HQ0.out⟩
  case round =>
    clear HQ0
    obtain ⟨k, hk, rfl, hQ⟩ := hrel
    have HQ := Lib.hid hQ
    by_cases hpos : 0 < k
    · obtain ⟨m, rfl⟩ : ∃ m, k = m + 1 := ⟨k - 1, by omega⟩
      have hm : ((m + 1 : Nat) : Int) - 1 = (m : Int) := by omega
      rw [hm]
      obtain ⟨bu, ou, rfl, hbu, hl0, hcu1, hcu2, hcu⟩ := HU2.out.cellAt (k := m) (by rw [HL3.out]; omega)
      clear hl0
      have cu0 := hQ.only.cell hcu (fun h => h)
      have hszw := hQ.only.size
      have hbuw : bu < wr.heap.size := by omega
      rw [dgL_at] at cu0
      obtain ⟨hr1, hr2, hr3⟩ := quo_rest a b m HB.out.1
      have HRF := Lib.hid (quoF_next a b m)
      have hq1 := Nat.div_lt_of_lt_mul hr3
      have hRb : a / 16777216 ^ (m + 1) % b < b := Nat.mod_lt _ HB.out.1
      have hprest := hQ.rest
      have hnrest := hQ.nil
      obtain ⟨R, hR⟩ : ∃ R, a / 16777216 ^ (m + 1) % b = R := ⟨_, rfl⟩
      obtain ⟨y, hy⟩ : ∃ y, a / 16777216 ^ m % 16777216 = y := ⟨_, rfl⟩
      have hy1 : y < 16777216 := by rw [← hy]; exact Nat.mod_lt _ (by decide)
      rw [hR] at hprest hRb hr1 hr2 hr3 hq1
      rw [hy] at cu0 hr1 hr2 hr3 hq1
      rw [← hr1] at HRF
      obtain ⟨r, hr⟩ : ∃ r, R * 16777216 + y = r := ⟨_, rfl⟩
      rw [hr] at hr1 hr2 hr3 hq1 HRF
      have HR2 := Lib.hid hr2
      have HRL := Lib.hid hr3
      have HQ1 := Lib.hid (show r / b ≤ 16777215 by omega)
      have HRB := Lib.hid (show r < 18446744073709551616 by
        have h1 := HB.out
        have h2 : b * 16777216 ≤ 16777216 * 16777216 := Nat.mul_le_mul_right _ (by omega)
        omega)
      have HLR := Lib.hid (dg_le3 (n := r) (by have := HRB.out; omega))
      have HLB := Lib.hid (dg_le3 (n := b) (by have := HB.out; omega))
      have HDX := Lib.hid (show Digs ((y : Int) :: dgL R) from fun z hz => by
        simp only [List.mem_cons] at hz
        rcases hz with rfl | hz
        · omega
        · exact digs_dgL R z hz)
      have HDV := Lib.hid (show dval ((y : Int) :: dgL R) = r by rw [dval, dval_dgL, Int.toNat_natCast]; omega)
      have hlR : (dgL R).length ≤ 100000 := dg_le3 (by have := HB.out; omega)
      have HON := Lib.hid (own_one wr (y : Int))
      have HOA := Lib.hid (hQ.only.alloc (.cells #[.int .i64 (y : Int)] 3))
      have HOB := Lib.hid ((Only.refl (fun _ => False) wr).alloc (.cells #[.int .i64 (y : Int)] 3))
      have i1 : 0 ≤ (m : Int) := by omega
      have i2 : (m : Int) < 3 := by omega
      clear hm hpos hcu hQ hr1 hr2 hr3 hq1 hR hy hr
      rcases Nat.eq_zero_or_pos R with h0 | h0
      · subst h0
        rw [dgL_zero] at hprest HDX HDV
        obtain ⟨ar, cr, rfl⟩ := hprest.slice
        have HNR := Lib.hid (show ar = none → 0 = 0 ∧ cr = 0 from fun h => ⟨rfl, (hnrest 0 cr (by rw [h]; rfl)).2⟩)
        clear hprest hnrest
        go_wp2_with (at_builtin; refine wpList_append_fits_any (wr.alloc (.cells #[.int .i64 (y : Int)] 3)) rfl _ _ 26 rfl wr.heap.size 3 i0 1 Tryz.underlying26 hi0 hz1 wr.heap.size 1 1 [.int .i64 (y : Int)] rfl HON.out ar 0 cr [] rfl rfl HNR.out (fun _ _ j u hu => by simp at hu) (fun u hu => by simp at hu) (by omega) ?_)
        intro w3 ho3 hg3
        have HP3 := Lib.hid (show PtsAt w3.heap.size w3 (.slice (some ⟨wr.heap.size, 0, none⟩) (1 + 0) 1) [(y : Int)] from pts_of_own ho3 (by simp))
        have HF3 := Lib.hid (freshV_own ho3)
        have HO3 := Lib.hid (HOA.out.grow HON.out (by omega) hg3)
        have HO3b := Lib.hid (HOB.out.grow HON.out (Nat.le_refl _) hg3)
        clear ho3 hg3 HNR
        go_wp2_with fail
        refine (rtrim_any _ _ _ HP3.out HDX.out (by first | (rw [List.length_cons]; omega) | simp) (nilOk_some _ _ _)).mono ?_
        rintro e w4 ⟨v4, rfl, hp4, hn4, hcut, hO4⟩
        rw [HDV.out] at hp4
        have HF4 := Lib.hid (show ∀ a n c, v4 = .slice (some a) n c → a.block ≠ g from fun a n c h => by
          obtain ⟨k', hk'⟩ := hcut a n c h
          have := HF3.out a k' c hk'
          have := HQ.out.row.lt
          omega)
        have HP4 := Lib.hid hp4
        have HN4 := Lib.hid hn4
        have HO4 := Lib.hid (HO3.out.trans hO4)
        have HO4b := Lib.hid (HO3b.out.trans hO4)
        obtain ⟨a4, c4, rfl⟩ := hp4.slice
        clear hp4 hn4 hO4 HP3 hcut
        go_wp2_with fail
        refine (rcmpd_any _ _ r b _ HP4.out (HV2.out.only HO4.out) HLR.out HLB.out).mono ?_
        rintro e w5 ⟨c, rfl, hc1, hc2, nd, rfl⟩
        have HO5 := Lib.hid (HO4.out.drewN nd)
        have HP5 := Lib.hid (show PtsAt (w4.drewN nd).heap.size (w4.drewN nd) (.slice a4 (dgL r).length c4) (dgL r) from HP4.out)
        have HV5 := Lib.hid (HV2.out.only HO5.out)
        have HRW5 := Lib.hid (HQ.out.row.of_block ((HO4b.out.drewN nd).block g HQ.out.row.lt (fun h => h)))
        clear HP4 HO4 HO4b
        generalize w4.drewN nd = w5 at *
        by_cases hge : b ≤ r
        · have hc0 : 0 ≤ c := hc2.2 hge
          clear hc1 hc2
          have HDI := Lib.hid (rdigit_any _ _ r b w5 HP5.out HV5.out HRB.out (by have := HB.out; omega) HB.out.1 HRL.out)
          go_wp2_with fail
          refine HDI.out.mono ?_
          rintro e w6 ⟨rfl, hO6⟩
          have HO6 := Lib.hid (HO5.out.trans hO6)
          have HP6 := Lib.hid (HP5.out.only hO6)
          have hrw6 := HRW5.out.of_block (hO6.block g HRW5.out.lt (fun h => h))
          have cq := hrw6.cell (i := m) (by omega)
          have fq := hrw6.frozen m
          have lq := hrw6.lt
          have hq1 : r / b ≤ 16777215 := HQ1.out
          obtain ⟨q, hq⟩ : ∃ q, r / b = q := ⟨_, rfl⟩
          rw [hq] at hq1 ⊢
          have HQQ := Lib.hid hq
          have hrw7 := hrw6.set m (.int .i64 (q : Int))
          have cq7 : (w6.setCell ⟨g, m, none⟩ (.int .i64 (q : Int))).cell? ⟨g, m, none⟩ = some (.int .i64 (q : Int)) := by have := hrw7.cell (i := m) (by omega); rw [if_pos rfl] at this; exact this
          have lq7 := hrw7.lt
          have HRW7 := Lib.hid hrw7
          have HO7 := Lib.hid (HO6.out.setCell (p := ⟨g, m, none⟩) (.inr HQ.out.g) (.int .i64 (q : Int)))
          have HP7 := Lib.hid (pts_setOther HP6.out HF4.out m (.int .i64 (q : Int)))
          clear hrw6 hrw7 hO6 HDI hq
          go_wp2_with fail
          generalize w6.setCell ⟨g, m, none⟩ (.int .i64 (q : Int)) = w7 at *
          go_wp2_with fail
          refine (rtimes_any _ (dgL b) (q : Int) w7 (HV2.out.only HO7.out) (digs_dgL b) HLB.out (by omega) (by omega)).mono ?_
          rintro e w8 ⟨v8, rfl, hp8, _, _, hO8⟩
          rw [dval_dgL, Int.toNat_natCast] at hp8
          have HP8 := Lib.hid hp8
          have HO8 := Lib.hid (HO7.out.trans hO8)
          have HR8 := Lib.hid (HP7.out.only hO8)
          have HRW8 := Lib.hid (HRW7.out.of_block (hO8.block g HRW7.out.lt (fun h => h)))
          obtain ⟨a8, c8, rfl⟩ := hp8.slice
          clear hp8 hO8 cq7 lq7 cq fq lq
          go_wp2_with fail
          refine (rminus_any _ _ (dgL r) (dgL (b * q)) w8 HR8.out HP8.out (digs_dgL r) (digs_dgL _) HLR.out (by
            rcases Nat.lt_or_ge (dgL r).length (dgL (b * q)).length with h | h
            · exfalso
              have h1 := dgL_shorter h
              have h2 := Nat.mul_div_le r b
              rw [HQQ.out] at h2
              omega
            · exact h) (by
            rw [dval_dgL, dval_dgL]
            have h2 := Nat.mul_div_le r b
            rw [HQQ.out] at h2; exact h2)).mono ?_
          rintro e w9 ⟨v9, rfl, hp9, hn9, hf9, hO9⟩
          have HRL9 := Lib.hid (show QuoAt w2 w9 g a b m v9 from ⟨(HRW8.out.of_block (hO9.block g HRW8.out.lt (fun h => h))).congr (fun j hj => HRF.out.1 q HQQ.out j hj), by
            rw [dval_dgL, dval_dgL, show r - b * q = r % b by rw [← HQQ.out, Nat.mod_def], HR2.out] at hp9; exact hp9, hn9, fun a n c h => by
              have := hf9 a n c h
              have := HRW8.out.lt
              omega, HQ.out.g, HO8.out.trans hO9⟩)
          obtain ⟨a9, c9, rfl⟩ := hp9.slice
          clear hp9 hn9 hf9 hO9
          go_wp2
          go_roundw
          case rel => exact ⟨m, by omega, rfl, HRL9.out⟩
          case measure => simp [intOf]
        · have hc0 : ¬ 0 ≤ c := fun h => hge (hc2.1 h)
          clear hc1 hc2
          have HRL9 := Lib.hid (show QuoAt w2 w5 g a b m (.slice a4 (dgL r).length c4) from ⟨HRW5.out.congr (fun j hj => HRF.out.2 (Nat.div_eq_of_lt (by omega)) j hj), by
            have := HP5.out
            have e : r = a / 16777216 ^ m % b := by rw [← HR2.out, Nat.mod_eq_of_lt (by omega)]
            rw [← e]; exact this, HN4.out, HF4.out, HQ.out.g, HO5.out⟩)
          go_wp2
          go_roundw
          case rel => exact ⟨m, by omega, rfl, HRL9.out⟩
          case measure => simp [intOf]
      · rcases hprest with ⟨_, _, _, hz⟩ | ⟨br, orr, cr, rfl, hbr, hcr1, hcr2, hcr⟩
        · exfalso
          rw [dgL_pos (by omega)] at hz; simp at hz
        have hlp : 0 < (dgL R).length := by rw [dgL_pos (by omega)]; simp
        have HNW := Lib.hid (show ∀ j u, (irow (dgL R))[j]? = some u → (wr.alloc (.cells #[.int .i64 (y : Int)] 3)).cell? ((⟨br, orr, none⟩ : Addr).add j) = some u from fun j u hu => by
          have hj : j < (dgL R).length := by have := (List.getElem?_eq_some_iff.1 hu).1; rwa [irow_length] at this
          rw [irow_get _ _ hj] at hu
          have hadd : (⟨br, orr, none⟩ : Addr).add j = ⟨br, orr + j, none⟩ := by unfold Addr.add; split <;> simp_all
          rw [hadd, ← hu]
          exact HOB.out.cell (hcr j hj) (fun h => h))
        clear hcr hnrest
        go_wp2_with (at_builtin; refine wpList_append_lies _ rfl _ _ 26 rfl wr.heap.size 3 i0 _ 1 8 Tryz.underlying26 hi0 hz0 hz1 hz2 rfl (by decide) _ 1 [.int .i64 (y : Int)] rfl HON.out ⟨br, orr, none⟩ (dgL R).length cr (irow (dgL R)) rfl (by rw [irow_length, Nat.mul_one]) HNW.out (irow_one _) hlp ?c1 ?c2 ?c3 _ rfl ?_)
        case c1 => unfold maxLen; omega
        case c2 => omega
        case c3 => first | omega | (simp; omega) | simp
        intro g3 cp3 w3 ho3 hg3 ha3 hgl3
        have HP3 := Lib.hid (show PtsAt w3.heap.size w3 (.slice (some ⟨g3, 0, none⟩) (1 + (dgL R).length) cp3) ((y : Int) :: dgL R) from pts_of_own (by rw [show ((y : Int) :: dgL R).length = 1 + (dgL R).length by rw [List.length_cons, Nat.add_comm]]; exact ho3) (by rw [List.length_cons]; omega))
        have HF3 := Lib.hid (freshV_own ho3)
        have HO3 := Lib.hid (HOA.out.grow HON.out (by omega) hg3)
        have HO3b := Lib.hid (HOB.out.grow HON.out (Nat.le_refl _) hg3)
        clear ho3 hg3 ha3 HNW
        go_wp2_with fail
        refine (rtrim_any _ _ _ HP3.out HDX.out (by first | (rw [List.length_cons]; omega) | simp) (nilOk_some _ _ _)).mono ?_
        rintro e w4 ⟨v4, rfl, hp4, hn4, hcut, hO4⟩
        rw [HDV.out] at hp4
        have HF4 := Lib.hid (show ∀ a n c, v4 = .slice (some a) n c → a.block ≠ g from fun a n c h => by
          obtain ⟨k', hk'⟩ := hcut a n c h
          have := HF3.out a k' c hk'
          have := HQ.out.row.lt
          omega)
        have HP4 := Lib.hid hp4
        have HN4 := Lib.hid hn4
        have HO4 := Lib.hid (HO3.out.trans hO4)
        have HO4b := Lib.hid (HO3b.out.trans hO4)
        obtain ⟨a4, c4, rfl⟩ := hp4.slice
        clear hp4 hn4 hO4 HP3 hcut
        go_wp2_with fail
        refine (rcmpd_any _ _ r b _ HP4.out (HV2.out.only HO4.out) HLR.out HLB.out).mono ?_
        rintro e w5 ⟨c, rfl, hc1, hc2, nd, rfl⟩
        have HO5 := Lib.hid (HO4.out.drewN nd)
        have HP5 := Lib.hid (show PtsAt (w4.drewN nd).heap.size (w4.drewN nd) (.slice a4 (dgL r).length c4) (dgL r) from HP4.out)
        have HV5 := Lib.hid (HV2.out.only HO5.out)
        have HRW5 := Lib.hid (HQ.out.row.of_block ((HO4b.out.drewN nd).block g HQ.out.row.lt (fun h => h)))
        clear HP4 HO4 HO4b
        generalize w4.drewN nd = w5 at *
        by_cases hge : b ≤ r
        · have hc0 : 0 ≤ c := hc2.2 hge
          clear hc1 hc2
          have HDI := Lib.hid (rdigit_any _ _ r b w5 HP5.out HV5.out HRB.out (by have := HB.out; omega) HB.out.1 HRL.out)
          go_wp2_with fail
          refine HDI.out.mono ?_
          rintro e w6 ⟨rfl, hO6⟩
          have HO6 := Lib.hid (HO5.out.trans hO6)
          have HP6 := Lib.hid (HP5.out.only hO6)
          have hrw6 := HRW5.out.of_block (hO6.block g HRW5.out.lt (fun h => h))
          have cq := hrw6.cell (i := m) (by omega)
          have fq := hrw6.frozen m
          have lq := hrw6.lt
          have hq1 : r / b ≤ 16777215 := HQ1.out
          obtain ⟨q, hq⟩ : ∃ q, r / b = q := ⟨_, rfl⟩
          rw [hq] at hq1 ⊢
          have HQQ := Lib.hid hq
          have hrw7 := hrw6.set m (.int .i64 (q : Int))
          have cq7 : (w6.setCell ⟨g, m, none⟩ (.int .i64 (q : Int))).cell? ⟨g, m, none⟩ = some (.int .i64 (q : Int)) := by have := hrw7.cell (i := m) (by omega); rw [if_pos rfl] at this; exact this
          have lq7 := hrw7.lt
          have HRW7 := Lib.hid hrw7
          have HO7 := Lib.hid (HO6.out.setCell (p := ⟨g, m, none⟩) (.inr HQ.out.g) (.int .i64 (q : Int)))
          have HP7 := Lib.hid (pts_setOther HP6.out HF4.out m (.int .i64 (q : Int)))
          clear hrw6 hrw7 hO6 HDI hq
          go_wp2_with fail
          generalize w6.setCell ⟨g, m, none⟩ (.int .i64 (q : Int)) = w7 at *
          go_wp2_with fail
          refine (rtimes_any _ (dgL b) (q : Int) w7 (HV2.out.only HO7.out) (digs_dgL b) HLB.out (by omega) (by omega)).mono ?_
          rintro e w8 ⟨v8, rfl, hp8, _, _, hO8⟩
          rw [dval_dgL, Int.toNat_natCast] at hp8
          have HP8 := Lib.hid hp8
          have HO8 := Lib.hid (HO7.out.trans hO8)
          have HR8 := Lib.hid (HP7.out.only hO8)
          have HRW8 := Lib.hid (HRW7.out.of_block (hO8.block g HRW7.out.lt (fun h => h)))
          obtain ⟨a8, c8, rfl⟩ := hp8.slice
          clear hp8 hO8 cq7 lq7 cq fq lq
          go_wp2_with fail
          refine (rminus_any _ _ (dgL r) (dgL (b * q)) w8 HR8.out HP8.out (digs_dgL r) (digs_dgL _) HLR.out (by
            rcases Nat.lt_or_ge (dgL r).length (dgL (b * q)).length with h | h
            · exfalso
              have h1 := dgL_shorter h
              have h2 := Nat.mul_div_le r b
              rw [HQQ.out] at h2
              omega
            · exact h) (by
            rw [dval_dgL, dval_dgL]
            have h2 := Nat.mul_div_le r b
            rw [HQQ.out] at h2; exact h2)).mono ?_
          rintro e w9 ⟨v9, rfl, hp9, hn9, hf9, hO9⟩
          have HRL9 := Lib.hid (show QuoAt w2 w9 g a b m v9 from ⟨(HRW8.out.of_block (hO9.block g HRW8.out.lt (fun h => h))).congr (fun j hj => HRF.out.1 q HQQ.out j hj), by
            rw [dval_dgL, dval_dgL, show r - b * q = r % b by rw [← HQQ.out, Nat.mod_def], HR2.out] at hp9; exact hp9, hn9, fun a n c h => by
              have := hf9 a n c h
              have := HRW8.out.lt
              omega, HQ.out.g, HO8.out.trans hO9⟩)
          obtain ⟨a9, c9, rfl⟩ := hp9.slice
          clear hp9 hn9 hf9 hO9
          go_wp2
          go_roundw
          case rel => exact ⟨m, by omega, rfl, HRL9.out⟩
          case measure => simp [intOf]
        · have hc0 : ¬ 0 ≤ c := fun h => hge (hc2.1 h)
          clear hc1 hc2
          have HRL9 := Lib.hid (show QuoAt w2 w5 g a b m (.slice a4 (dgL r).length c4) from ⟨HRW5.out.congr (fun j hj => HRF.out.2 (Nat.div_eq_of_lt (by omega)) j hj), by
            have := HP5.out
            have e : r = a / 16777216 ^ m % b := by rw [← HR2.out, Nat.mod_eq_of_lt (by omega)]
            rw [← e]; exact this, HN4.out, HF4.out, HQ.out.g, HO5.out⟩)
          go_wp2
          go_roundw
          case rel => exact ⟨m, by omega, rfl, HRL9.out⟩
          case measure => simp [intOf]
    · obtain rfl : k = 0 := by omega
      have HPR := Lib.hid (show PtsAt wr.heap.size wr u14 (dgL (a % b)) by have := hQ.rest; rw [Nat.pow_zero, Nat.div_one] at this; exact this)
      have HPQ := Lib.hid (hQ.quo)
      have HDQ := Lib.hid (quoL_digs a b)
      have HVQ := Lib.hid (quoL_val HB.out.2.2 (b := b))
      have HVR := Lib.hid (dval_dgL (a % b))
      have HLRR := Lib.hid (show (dgL (a % b)).length ≤ 10000 from Nat.le_trans (dgL_len (k := 4) (Nat.lt_of_le_of_lt (Nat.mod_le a b) (Nat.lt_of_lt_of_le HB.out.2.2 (by decide)))) (by decide))
      have HON := Lib.hid (HO2.out.trans hQ.only)
      obtain ⟨ar, cr, rfl⟩ := HPR.out.slice
      clear hQ HQ hk hpos
      go_wp2_with fail
      refine (rnumd_any _ (quoL a b) _ HPQ.out HDQ.out (by show 3 ≤ 10000; decide)).mono ?_
      rintro e w3 ⟨rfl, hO3⟩
      rw [HVQ.out]
      have HPR3 := Lib.hid (HPR.out.only hO3)
      have HO3 := Lib.hid (HON.out.trans hO3)
      clear hO3
      go_wp2_with fail
      refine (rnumd_any _ (dgL (a % b)) _ HPR3.out (digs_dgL _) HLRR.out).mono ?_
      rintro e w4 ⟨rfl, hO4⟩
      rw [HVR.out]
      have HO4 := Lib.hid (HO3.out.trans hO4)
      clear hO4
      go_wp2
      go_ret3
      exact ⟨rfl, HO4.out⟩
end Go.Proofs.YtldkjkjpaiajlaaGreatDoor
