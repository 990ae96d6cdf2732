/-
  The program's signatures: bytes, scalar, challenge, power.
  The program's signatures: Sign, Vote, Verify, Text.
  The program's signatures: Verify, Text.
  The text of a signature; the line of a vote.
  Agree: slices.IndexFunc with the closures of package agree.
  Agree: counted.
  Agree: votes in a slice; totalOf.
  Agree: Check, as the program has it.
  The reference's texts of votes: Decimal, Hex, Text.
  The reference's signatures: Bytes, Challenge, SignWith, Sign, Vote.
  The reference's signatures: Verify.
  The reference's Words.
  The reference's Int and Unhex, of what votes contain.
  The reference's Read of the texts of votes.
  The reference's Total, Member, Counts.
  Agree, plain: the reference's sum is the program's.
  The reference's Check.
-/
import Derived.Test.YtldkjkjpaiajlaaGreatDoorPa23
import Derived.Test.YtldkjkjpaiajlaaGreatDoorPa09
import Derived.Test.YtldkjkjpaiajlaaGreatDoorPa24
import Derived.Test.YtldkjkjpaiajlaaGreatDoorPa08
import Derived.Test.YtldkjkjpaiajlaaGreatDoorPa14
import Derived.Test.YtldkjkjpaiajlaaGreatDoorPa25
import Derived.Test.YtldkjkjpaiajlaaGreatDoorPa22
namespace Go.Proofs.YtldkjkjpaiajlaaGreatDoor
open Go.RowKit

theorem lenL_byte8 (n : Int) (h : 0 ≤ n) : strOfNums (lenL n) = bytes8 n := by
  obtain ⟨m, rfl⟩ := Int.eq_ofNat_of_zero_le h
  have e : ∀ k, k < 8 → UInt8.ofNat (((m : Int) / 2 ^ (56 - 8 * k) % 256).toNat) = byte8 m k := by
    intro k hk
    unfold byte8
    have h1 : (2 : Int) ^ (56 - 8 * k) = ((256 ^ (7 - k) : Nat) : Int) := by
      rcases (by omega : k = 0 ∨ k = 1 ∨ k = 2 ∨ k = 3 ∨ k = 4 ∨ k = 5 ∨ k = 6 ∨ k = 7) with rfl | rfl | rfl | rfl | rfl | rfl | rfl | rfl <;> rfl
    rw [h1, ← Int.natCast_ediv, show (256 : Int) = ((256 : Nat) : Int) from rfl, ← Int.natCast_emod, Int.toNat_natCast, Int.toNat_natCast]
  unfold strOfNums lenL bytes8
  rw [List.map_map]
  exact congrArg (fun l : List UInt8 => (⟨l.toArray⟩ : ByteArray)) (List.map_congr_left fun k hk => e k (List.mem_range.1 hk))
set_option maxHeartbeats 1000000 in
theorem sbytes_any (n : Int) (w : World) (h0 : 0 ≤ n) (_h1 : n ≤ 9223372036854775807) :
    Calls Tryz.prog 157 #[.int .i64 n] w fun e w' => e = .returned (.string (bytes8 n)) ∧ Only (fun _ => False) w w' := by
  have HR := Lib.hid (lenL_byte8 n h0)
  go_enter Tryz.func157, Tryz.ntmps157
  go_wp2_with fail
  generalize hW : World.alloc _ _ = W
  have HS := Lib.hid (show LnAt w W n 0 by
    rw [← hW]
    have := World.rowIs_alloc w (Array.replicate 8 (.int .u8 0)) 257 (fun _ => .int .u8 0) (fun i hi => by simp at hi; simp [hi])
    rw [Array.size_replicate] at this
    exact ⟨this.congr (fun j _ => by simp), (Only.refl _ w).alloc _⟩)
  clear hW
  go_loopw [5] (fun vi wr => ∃ k : Nat, k ≤ 8 ∧ vi = .int .i64 k ∧ LnAt w wr n k) (fun vi _ => 8 - (intOf vi).toNat)
  case atStart => exact ⟨0, by omega, rfl, HS.out⟩
  case round =>
    clear HS
    obtain ⟨k, hk, rfl, hL⟩ := hrel
    by_cases hlt : k < 8
    · have hc := hL.row.cell (i := k) (by omega)
      have hf := hL.row.frozen k
      have hl := hL.row.lt
      have HL := Lib.hid hL.next
      have i1 : (k : Int) < 8 := by omega
      have i2 : 0 ≤ (k : Int) := by omega
      have i3 : (56 - 8 * (k : Int)).toNat = 56 - 8 * k := by omega
      have i4 : 0 ≤ 56 - 8 * (k : Int) := by omega
      clear hL hk
      go_wp2
      go_roundw
      case rel => exact ⟨k + 1, by omega, by go_num, HL.out⟩
      case measure => simp [intOf]; omega
    · obtain rfl : k = 8 := by omega
      have hcv := run_convert_bytes_arg (P := Tryz.prog) wr 22 5 Tryz.underlying22 Tryz.underlying5 w.heap.size 0 8 8 (lenL n) rfl (fun i hi => by
        rw [Nat.zero_add, hL.row.cell hi, if_pos hi]
        unfold lenL
        simp [List.getD, hi]) 9 Tryz.underlying9
      have hl := hL.row.lt
      have HO := Lib.hid hL.only
      clear hL hlt hk
      go_wp2
      go_ret
      exact ⟨by rw [← HR.out]; rfl, HO.out⟩
theorem bytes8_size (n : Int) : (bytes8 n).size = 8 := rfl
theorem spower_any (n : Int) (w : World) (h0 : 0 ≤ n) (h1 : n ≤ 9223372036854775807) :
    Calls Tryz.prog 116 #[.int .i64 n] w fun e w' => e = .returned (.int .i64 (powM 4 n 2305843009213691579)) ∧ Only (fun _ => False) w w' := by
  have HP := Lib.hid (fun w => pow_any 4 n 2305843009213691579 w (by decide) (by decide) h0 h1)
  generalize powM 4 n 2305843009213691579 = r at *
  go_enter Tryz.func116, Tryz.ntmps116
  go_wp2_with fail
  refine (HP.out _).mono ?_
  rintro e w1 ⟨rfl, rfl⟩
  have HO := Lib.hid ((Only.refl (fun _ => False) w).alloc (.cells #[.int .i64 2305843009213691579] 3))
  go_wp2
  go_ret
  exact ⟨rfl, HO.out⟩
theorem spositive_any (n : Int) (w : World) (h0 : 0 ≤ n) :
    Calls Tryz.prog 205 #[.int .i64 n] w fun e w' => e = .returned (.int .i64 (max n 1)) ∧ w = w' := by
  by_cases h : n = 0
  · subst h
    go_enter Tryz.func205, Tryz.ntmps205
    go_wp2
    go_ret
    exact ⟨rfl, rfl⟩
  · have e : max n 1 = n := by omega
    rw [e]
    go_enter Tryz.func205, Tryz.ntmps205
    go_wp2
    go_ret
    exact ⟨rfl, rfl⟩
/-- Strings, one behind the other. -/
def catB (xs : List ByteArray) : ByteArray := ⟨(Lib.join (xs.map (·.data.toList)) []).toArray⟩
theorem join_nil : ∀ (xs : List (List UInt8)), Lib.join xs [] = xs.flatten
  | [] => rfl
  | x :: r => by
    rw [Lib.join_cons]
    unfold Lib.joinTail
    simp
theorem cat4 (a b c d : ByteArray) : catB [a, b, c, d] = a ++ b ++ c ++ d := by
  unfold catB
  rw [join_nil]
  apply ByteArray.ext
  simp [ByteArray.data_append]
theorem cat3 (a b c : ByteArray) : catB [a, b, c] = a ++ b ++ c := by
  unfold catB
  rw [join_nil]
  apply ByteArray.ext
  simp [ByteArray.data_append]
set_option maxHeartbeats 1000000 in
theorem sscalar_any (bk c : Nat) (xs : List ByteArray) (w : World) (hcells : ∀ (j : Nat) x, xs[j]? = some x → w.cell? ⟨bk, 0 + j, none⟩ = some (.string x)) (hbk : bk < w.heap.size) (h2 : 2 ≤ xs.length) (h4 : xs.length ≤ 4) (hc : xs.length ≤ c)
    (hl : (catB xs).size ≤ 1000000) (hG : Glob w) :
    Calls Tryz.prog 156 #[.slice (some ⟨bk, 0, none⟩) xs.length c] w fun e w' => e = .returned (.int .i64 (scalarZ (catB xs))) ∧ Only (fun _ => False) w w' := by
  have hl2 : (Lib.join (xs.map (·.data.toList)) (⟨#[]⟩ : ByteArray).data.toList).length ≤ 1000000000 := by
    have : (catB xs).size = (Lib.join (xs.map (·.data.toList)) []).length := by unfold catB; simp [ByteArray.size]
    show (Lib.join (xs.map (·.data.toList)) []).length ≤ _
    omega
  have HSJ := Lib.hid (sjoin_many bk 0 c xs ⟨#[]⟩ w hcells hbk h2 (by omega) hc hl2)
  have HSC := Lib.hid (fun w hG => pscalar_any (catB xs) w (by omega) hG)
  have HE := Lib.hid (show (⟨(Lib.join (xs.map (·.data.toList)) (⟨#[]⟩ : ByteArray).data.toList).toArray⟩ : ByteArray) = catB xs from rfl)
  rw [HE.out] at HSJ
  have HG := Lib.hid hG
  generalize catB xs = J at *
  generalize xs.length = n at *
  clear hcells hl2 hG
  go_enter Tryz.func156, Tryz.ntmps156
  go_wp2_with fail
  refine HSJ.out.mono ?_
  rintro e w1 ⟨rfl, hb⟩
  have HO := Lib.hid (Only.ofBelow hb (fun _ => False))
  clear hb HSJ
  go_wp2_with fail
  refine (HSC.out _ (HG.out.only HO.out)).mono ?_
  rintro e w2 ⟨rfl, hO⟩
  have HO2 := Lib.hid (HO.out.trans hO)
  clear hO
  go_wp2
  go_ret
  exact ⟨rfl, HO2.out⟩
set_option maxHeartbeats 1000000 in
theorem schallenge_any (r pb : Int) (t : ByteArray) (w : World) (hr : 0 ≤ r ∧ r ≤ 9223372036854775807) (hp : 0 ≤ pb ∧ pb ≤ 9223372036854775807) (ht : t.size ≤ 100000) (hG : Glob w) :
    Calls Tryz.prog 115 #[.int .i64 r, .int .i64 pb, .string t] w fun e w' => e = .returned (.int .i64 (schalZ r pb t)) ∧ Only (fun _ => False) w w' := by
  have HB1 := Lib.hid (fun w => sbytes_any r w hr.1 hr.2)
  have HB2 := Lib.hid (fun w => sbytes_any pb w hp.1 hp.2)
  have hz : (catB [sgC, bytes8 r, bytes8 pb, t]).size ≤ 1000000 := by
    rw [cat4, ByteArray.size_append, ByteArray.size_append, ByteArray.size_append, bytes8_size, bytes8_size]
    show 1 + 8 + 8 + _ ≤ _
    omega
  have HS := Lib.hid (fun (W : World) (hG : Glob W) => sscalar_any W.heap.size 4 [sgC, bytes8 r, bytes8 pb, t] (W.alloc (.cells #[.string sgC, .string (bytes8 r), .string (bytes8 pb), .string t] 9)) (fun j x hx => by
    rw [Nat.zero_add]
    have := heap_alloc_last W (.cells #[.string sgC, .string (bytes8 r), .string (bytes8 pb), .string t] 9)
    rcases (by omega : j = 0 ∨ j = 1 ∨ j = 2 ∨ j = 3 ∨ 4 ≤ j) with rfl | rfl | rfl | rfl | h
    · cases hx; exact cell_of_row _ _ 0 _ _ _ this
    · cases hx; exact cell_of_row _ _ 1 _ _ _ this
    · cases hx; exact cell_of_row _ _ 2 _ _ _ this
    · cases hx; exact cell_of_row _ _ 3 _ _ _ this
    · rw [List.getElem?_eq_none (by simpa using h)] at hx; cases hx) (by simp) (show 2 ≤ 4 by decide) (show 4 ≤ 4 by decide) (show 4 ≤ 4 by decide) hz (hG.only ((Only.refl _ W).alloc _)))
  have HE := Lib.hid (show scalarZ (catB [sgC, bytes8 r, bytes8 pb, t]) = schalZ r pb t by rw [cat4]; rfl)
  rw [HE.out] at HS
  have HG := Lib.hid hG
  clear hz hG ht
  generalize bytes8 r = b1 at *
  generalize bytes8 pb = b2 at *
  generalize schalZ r pb t = z at *
  unfold sgC at *
  go_enter Tryz.func115, Tryz.ntmps115
  go_wp2_with fail
  refine (HB1.out _).mono ?_
  rintro e w1 ⟨rfl, hO⟩
  have HO1 := Lib.hid hO
  clear hO HB1
  go_wp2_with fail
  refine (HB2.out _).mono ?_
  rintro e w2 ⟨rfl, hO⟩
  have HO2 := Lib.hid (HO1.out.trans hO)
  clear hO HB2 HO1
  go_wp2_with fail
  refine (HS.out w2 (HG.out.only HO2.out)).mono ?_
  rintro e w3 ⟨rfl, hO⟩
  have HO3 := Lib.hid ((HO2.out.alloc _).trans hO)
  clear hO HO2
  go_wp2
  go_ret
  exact ⟨rfl, HO3.out⟩
end Go.Proofs.YtldkjkjpaiajlaaGreatDoor

namespace Go.Proofs.YtldkjkjpaiajlaaGreatDoor
open Go.RowKit

theorem Tryz.infoSig : (Tryz.prog.info? 33).map (·.size) = some 2 := by kernel_rfl
theorem sig_one (a b : Int) : (#[Value.int .i64 a, .int .i64 b] : Array Value).all (·.oneCell') = true := by simp [Value.oneCell']
theorem powP_bd (a n : Int) : 0 ≤ powM a n 2305843009213691579 ∧ powM a n 2305843009213691579 < 2305843009213691579 := powM_bd a n _ (by decide)
theorem sgN_any (secret : Int) (t : ByteArray) (ht : t.size ≤ 100000) (w : World) (hG : Glob w) :
    Calls Tryz.prog 156 #[.slice (some ⟨w.heap.size, 0, none⟩) 3 3] (w.alloc (.cells #[.string sgW, .string (bytes8 (expZ secret)), .string t] 9)) fun e w' => e = .returned (.int .i64 (scalarZ (sgW ++ bytes8 (expZ secret) ++ t))) ∧ Only (fun _ => False) w w' := by
  have hz : (catB [sgW, bytes8 (expZ secret), t]).size ≤ 1000000 := by
    rw [cat3, ByteArray.size_append, ByteArray.size_append, bytes8_size]
    show 1 + 8 + _ ≤ _
    omega
  rw [← cat3]
  have hA := (Only.refl (fun _ => False) w).alloc (.cells #[.string sgW, .string (bytes8 (expZ secret)), .string t] 9)
  refine (sscalar_any w.heap.size 3 [sgW, bytes8 (expZ secret), t] _ (fun j x hx => ?_) (by simp) (show 2 ≤ 3 by decide) (show 3 ≤ 4 by decide) (show 3 ≤ 3 by decide) hz (hG.only hA)).mono fun e w' h => ⟨h.1, hA.trans h.2⟩
  rw [Nat.zero_add]
  have := heap_alloc_last w (.cells #[.string sgW, .string (bytes8 (expZ secret)), .string t] 9)
  rcases (by omega : j = 0 ∨ j = 1 ∨ j = 2 ∨ 3 ≤ j) with rfl | rfl | rfl | h
  · cases hx; exact cell_of_row _ _ 0 _ _ _ this
  · cases hx; exact cell_of_row _ _ 1 _ _ _ this
  · cases hx; exact cell_of_row _ _ 2 _ _ _ this
  · rw [List.getElem?_eq_none (by simpa using h)] at hx; cases hx
set_option maxHeartbeats 2000000 in
theorem ssign_any (secret : Int) (t : ByteArray) (w : World) (ht : t.size ≤ 100000) (hG : Glob w) :
    Calls Tryz.prog 184 #[.int .i64 secret, .string t] w fun e w' => e = .returned (.agg #[.int .i64 (sgR secret t), .int .i64 (sgS secret t)]) ∧ Only (fun _ => False) w w' := by
  have HG := Lib.hid hG
  have hx := expZ_bd secret
  have hn := sgN_bd (expZ secret) t
  have hc := schalZ_bd (sgR secret t) (pubZ secret) t
  have hr : 0 ≤ sgR secret t ∧ sgR secret t < 2305843009213691579 := powP_bd _ _
  have hp : 0 ≤ pubZ secret ∧ pubZ secret < 2305843009213691579 := powP_bd _ _
  have hnz := scalarZ_bd (sgW ++ bytes8 (expZ secret) ++ t)
  have HA := Lib.hid (fun w => add_any secret 0 1152921504606845789 w (by decide) (by decide))
  have e0 : (secret + 0) % 1152921504606845789 = expZ secret := by rw [Int.add_zero]; rfl
  rw [e0] at HA
  have HB := Lib.hid (fun w => sbytes_any (expZ secret) w hx.1 (by omega))
  have HN := Lib.hid (fun w hG => sgN_any secret t ht w hG)
  have HQ := Lib.hid (fun w => spositive_any (scalarZ (sgW ++ bytes8 (expZ secret) ++ t)) w hnz.1)
  have HR := Lib.hid (fun w => spower_any (sgN (expZ secret) t) w (by omega) (by omega))
  have HP := Lib.hid (fun w => spower_any (expZ secret) w hx.1 (by omega))
  have HC := Lib.hid (fun w hG => schallenge_any (sgR secret t) (pubZ secret) t w ⟨hr.1, by omega⟩ ⟨hp.1, by omega⟩ ht hG)
  have HM := Lib.hid (fun w => mul_any (expZ secret) (schalZ (sgR secret t) (pubZ secret) t) 1152921504606845789 w (by decide) (by decide))
  have HD := Lib.hid (fun w => add_any (sgN (expZ secret) t) (expZ secret * schalZ (sgR secret t) (pubZ secret) t % 1152921504606845789) 1152921504606845789 w (by decide) (by decide))
  rw [show (sgN (expZ secret) t + expZ secret * schalZ (sgR secret t) (pubZ secret) t % 1152921504606845789) % 1152921504606845789 = sgS secret t from rfl] at HD
  rw [show max (scalarZ (sgW ++ bytes8 (expZ secret) ++ t)) 1 = sgN (expZ secret) t from rfl] at HQ
  rw [show powM 4 (sgN (expZ secret) t) 2305843009213691579 = sgR secret t from rfl] at HR
  rw [show powM 4 (expZ secret) 2305843009213691579 = pubZ secret from rfl] at HP
  clear hx hn hc hr hp hnz e0 hG
  generalize sgS secret t = vS at *
  generalize expZ secret * schalZ (sgR secret t) (pubZ secret) t % 1152921504606845789 = vM at *
  generalize schalZ (sgR secret t) (pubZ secret) t = vC at *
  generalize sgR secret t = vR at *
  generalize pubZ secret = vP at *
  generalize sgN (expZ secret) t = vN at *
  generalize scalarZ (sgW ++ bytes8 (expZ secret) ++ t) = vZ at *
  generalize bytes8 (expZ secret) = vB at *
  generalize expZ secret = vX at *
  unfold sgW at *
  have HA0 := Lib.hid ((Only.refl (fun _ => False) w).alloc (.cells #[.int .i64 0, .int .i64 0] 33))
  have HZ0 := Lib.hid (heap_alloc_last w (.cells #[.int .i64 0, .int .i64 0] 33))
  go_enter Tryz.func184, Tryz.ntmps184
  go_wp2_with fail
  refine (HA.out _).mono ?_
  rintro e w1 ⟨rfl, rfl⟩
  generalize w.alloc (.cells #[.int .i64 0, .int .i64 0] 33) = w1 at *
  go_wp2_with fail
  refine (HB.out _).mono ?_
  rintro e w2 ⟨rfl, hO⟩
  have HO2 := Lib.hid (HA0.out.trans hO)
  have HZ2 := Lib.hid (row_still hO HZ0.out)
  clear hO HA0 HZ0
  go_wp2_with fail
  refine (HN.out w2 (HG.out.only HO2.out)).mono ?_
  rintro e w3 ⟨rfl, hO⟩
  have HO3 := Lib.hid (HO2.out.trans hO)
  have HZ3 := Lib.hid (row_still hO HZ2.out)
  clear hO HO2 HZ2
  go_wp2_with fail
  refine (HQ.out _).mono ?_
  rintro e w3' ⟨rfl, rfl⟩
  go_wp2_with fail
  refine (HR.out _).mono ?_
  rintro e w4 ⟨rfl, hO⟩
  have HO4 := Lib.hid (HO3.out.trans hO)
  have HZ4 := Lib.hid (row_still hO HZ3.out)
  clear hO HO3 HZ3
  go_wp2_with fail
  refine (HP.out _).mono ?_
  rintro e w5 ⟨rfl, hO⟩
  have HO5 := Lib.hid (HO4.out.trans hO)
  have HZ5 := Lib.hid (row_still hO HZ4.out)
  clear hO HO4 HZ4
  go_wp2_with fail
  refine (HC.out _ (HG.out.only HO5.out)).mono ?_
  rintro e w6 ⟨rfl, hO⟩
  have HO6 := Lib.hid (HO5.out.trans hO)
  have HZ6 := Lib.hid (row_still hO HZ5.out)
  clear hO HO5 HZ5
  go_wp2_with fail
  refine (HM.out _).mono ?_
  rintro e w7 ⟨rfl, rfl⟩
  go_wp2_with fail
  refine (HD.out _).mono ?_
  rintro e w8 ⟨rfl, rfl⟩
  go_wp2_with (first | (refine wpList_store_row rfl 33 _ _ rfl w.heap.size #[.int .i64 vR, .int .i64 vS] rfl rfl 33 _ HZ6.out Tryz.infoSig rfl (sig_one _ _) ?_))
  exact bodyPost_ret (v := .agg #[.int .i64 vR, .int .i64 vS]) (results_cell_row rfl _ _ w.heap.size 33 #[.int .i64 vR, .int .i64 vS] (0, 0) _ rfl (setRow_heap _ _ _ _ _ _ HZ6.out) Tryz.underlying33 rfl Tryz.infoSig) rfl ⟨rfl, HO6.out.setRow (Nat.le_refl _) _⟩
theorem Tryz.infoVote : (Tryz.prog.info? 35).map (·.size) = some 4 := by kernel_rfl
theorem vote_one (a : Int) (t : ByteArray) (b c : Int) : (#[Value.int .i64 a, .string t, .int .i64 b, .int .i64 c] : Array Value).all (·.oneCell') = true := by simp [Value.oneCell']
set_option maxHeartbeats 1000000 in
theorem svote_any (who secret : Int) (t : ByteArray) (w : World) (ht : t.size ≤ 100000) (hG : Glob w) :
    Calls Tryz.prog 141 #[.int .i64 who, .int .i64 secret, .string t] w fun e w' => e = .returned (.agg #[.int .i64 who, .string t, .int .i64 (sgR secret t), .int .i64 (sgS secret t)]) ∧ Only (fun _ => False) w w' := by
  have hA := (Only.refl (fun _ => False) w).alloc (.cells #[.int .i64 0, .string (⟨#[]⟩ : ByteArray), .int .i64 0, .int .i64 0] 35)
  have HA := Lib.hid hA
  have HS := Lib.hid (ssign_any secret t _ ht (hG.only hA))
  have HZ := Lib.hid (heap_alloc_last w (.cells #[.int .i64 0, .string (⟨#[]⟩ : ByteArray), .int .i64 0, .int .i64 0] 35))
  generalize sgR secret t = R at *
  generalize sgS secret t = S at *
  clear hA hG
  go_enter Tryz.func141, Tryz.ntmps141
  go_wp2_with fail
  refine HS.out.mono ?_
  rintro e w1 ⟨rfl, hO⟩
  have HO := Lib.hid (HA.out.trans hO)
  have HZ1 := Lib.hid (row_still hO HZ.out)
  clear hO HA HZ HS
  go_wp2_with (first | (refine wpList_store_row rfl 35 _ _ rfl w.heap.size #[.int .i64 who, .string t, .int .i64 R, .int .i64 S] rfl rfl 35 _ HZ1.out Tryz.infoVote rfl (vote_one _ _ _ _) ?_))
  exact bodyPost_ret (v := .agg #[.int .i64 who, .string t, .int .i64 R, .int .i64 S]) (results_cell_row rfl _ _ w.heap.size 35 #[.int .i64 who, .string t, .int .i64 R, .int .i64 S] (0, 0) _ rfl (setRow_heap _ _ _ _ _ _ HZ1.out) Tryz.underlying35 rfl Tryz.infoVote) rfl ⟨rfl, HO.out.setRow (Nat.le_refl _) _⟩
end Go.Proofs.YtldkjkjpaiajlaaGreatDoor

namespace Go.Proofs.YtldkjkjpaiajlaaGreatDoor
open Go.RowKit

theorem memB_rng {a : Int} (h : memB a = true) : 1 ≤ a ∧ a < 2305843009213691579 := by
  have h1 := (memB_iff a).1 h
  exact ⟨h1.1, h1.2.1⟩
set_option maxHeartbeats 4000000 in
theorem sverify_any (pb R S : Int) (t : ByteArray) (bb : Bool) (w : World) (ht : t.size ≤ 100000) (hb : sverB pb t R S = bb) (hG : Glob w) :
    Calls Tryz.prog 74 #[.int .i64 pb, .string t, .agg #[.int .i64 R, .int .i64 S]] w fun e w' => e = .returned (.bool bb) ∧ Only (fun _ => False) w w' := by
  have hA := (Only.refl (fun _ => False) w).alloc (.cells #[.int .i64 R, .int .i64 S] 33)
  have HA := Lib.hid hA
  have HZ := Lib.hid (heap_alloc_last w (.cells #[.int .i64 R, .int .i64 S] 33))
  have HG := Lib.hid hG
  clear hA hG
  have y0 : (w.alloc (.cells #[.int .i64 R, .int .i64 S] 33)).cell? ⟨w.heap.size, 0, none⟩ = some (.int .i64 R) := cell_of_row _ _ 0 _ _ _ HZ.out
  have y1 : (w.alloc (.cells #[.int .i64 R, .int .i64 S] 33)).cell? ⟨w.heap.size, 1, none⟩ = some (.int .i64 S) := cell_of_row _ _ 1 _ _ _ HZ.out
  have HB := Lib.hid (Nat.le_refl w.heap.size)
  have M1 := Lib.hid (fun w => member_is pb (memB pb) w rfl)
  have M2 := Lib.hid (fun w => member_is R (memB R) w rfl)
  cases h1 : memB pb
  · have e : bb = false := by rw [← hb]; unfold sverB; rw [h1]; rfl
    subst e
    clear hb
    rw [h1] at M1
    go_enter Tryz.func74, Tryz.ntmps74
    go_wp2_with fail
    refine (M1.out _).mono ?_
    rintro e w1 ⟨rfl, hO⟩
    have HO := Lib.hid (HA.out.trans hO)
    clear hO
    go_wp2
    go_ret
    exact ⟨rfl, HO.out⟩
  · rw [h1] at M1
    cases h2 : memB R
    · have e : bb = false := by rw [← hb]; unfold sverB; rw [h2]; simp
      subst e
      clear hb
      rw [h2] at M2
      go_enter Tryz.func74, Tryz.ntmps74
      go_wp2_with fail
      refine (M1.out _).mono ?_
      rintro e w1 ⟨rfl, hO⟩
      have HO := Lib.hid (HA.out.trans hO)
      have z0 := hO.cell y0 id
      clear hO
      go_wp2_with fail
      refine (M2.out _).mono ?_
      rintro e w2 ⟨rfl, hO⟩
      have HO2 := Lib.hid (HO.out.trans hO)
      clear hO
      go_wp2
      go_ret
      exact ⟨rfl, HO2.out⟩
    · rw [h2] at M2
      by_cases hs : 0 ≤ S ∧ S < 1152921504606845789
      · obtain ⟨r0, r1⟩ := memB_rng h2
        obtain ⟨p0, p1⟩ := memB_rng h1
        have HCH := Lib.hid (fun w hG => schallenge_any R pb t w ⟨by omega, by omega⟩ ⟨by omega, by omega⟩ ht hG)
        have hc := schalZ_bd R pb t
        have HPS := Lib.hid (fun w => spower_any S w hs.1 (by omega))
        have HPW := Lib.hid (fun w => pow_any pb (schalZ R pb t) 2305843009213691579 w (by decide) (by decide) hc.1 (by omega))
        have HML := Lib.hid (fun w => mul_any R (powM pb (schalZ R pb t) 2305843009213691579) 2305843009213691579 w (by decide) (by decide))
        have HBB := Lib.hid (show (powM 4 S 2305843009213691579 == R * powM pb (schalZ R pb t) 2305843009213691579 % 2305843009213691579) = bb by
          rw [← hb]
          unfold sverB
          rw [h1, h2, decide_eq_true hs.1, decide_eq_true hs.2]
          simp)
        have i1 : ¬ S < 0 := by omega
        have i2 : ¬ 1152921504606845788 < S := by omega
        clear hb hc hs r0 r1 p0 p1
        generalize R * powM pb (schalZ R pb t) 2305843009213691579 % 2305843009213691579 = v3 at *
        generalize powM pb (schalZ R pb t) 2305843009213691579 = v2 at *
        generalize powM 4 S 2305843009213691579 = v1 at *
        generalize schalZ R pb t = v0 at *
        go_enter Tryz.func74, Tryz.ntmps74
        go_wp2_with fail
        refine (M1.out _).mono ?_
        rintro e w1 ⟨rfl, hO⟩
        have HO := Lib.hid (HA.out.trans hO)
        have z0 := hO.cell y0 id
        have z1 := hO.cell y1 id
        clear hO y0 y1
        go_wp2_with fail
        refine (M2.out _).mono ?_
        rintro e w2 ⟨rfl, hO⟩
        have HO2 := Lib.hid (HO.out.trans hO)
        have y0 := hO.cell z0 id
        have y1 := hO.cell z1 id
        clear hO z0 z1
        go_wp2_with fail
        refine (HCH.out _ (HG.out.only HO2.out)).mono ?_
        rintro e w3 ⟨rfl, hO⟩
        have HO3 := Lib.hid (HO2.out.trans hO)
        have e0 := hO.cell y0 id
        have e1 := hO.cell y1 id
        clear hO y0 y1 HO HO2
        go_upto_region 4 with fail
        have y0 := fun (d : Nat) (os : Array Obj) => cell_regrown e0 d os
        have y1 := fun (d : Nat) (os : Array Obj) => cell_regrown e1 d os
        clear e0 e1
        refine wp_region_quiet_below (by kernel_rfl) (by kernel_rfl) ?_
        repeat (go_big_quiet_step ((first | (go_at_call 116; with_reducible exact Calls.regrown_of ((HPS.out _).mono fun _ _ h => ⟨h.1, h.2.below (Nat.le_refl _) (fun _ _ h => h)⟩)) | (go_at_call 118; with_reducible exact Calls.regrown_of ((HPW.out _).mono fun _ _ h => ⟨h.1, by rw [h.2]; exact (Below.refl _ _).alloc (Nat.le_refl _) _⟩)) | (go_at_call 117; with_reducible exact Calls.regrown_of ((HML.out _).mono fun _ _ h => ⟨h.1, by rw [← h.2]; exact Below.refl _ _⟩)))))
        refine wpQuiet_nil ?_
        intro w4 hw'
        obtain ⟨pq, hw''⟩ := hw'
        have HO4 := Lib.hid (HO3.out.trans (Only.ofBelow (below_regrown w3 pq.d pq.os) (fun _ => False)))
        rw [← hw''] at HO4
        clear hw'' y0 y1
        go_wp2
        go_ret
        exact ⟨by rw [← HBB.out]; rfl, HO4.out⟩
      · have e : bb = false := by
          rw [← hb]
          unfold sverB
          rcases (by omega : S < 0 ∨ 1152921504606845789 ≤ S) with h | h
          · rw [decide_eq_false (show ¬ 0 ≤ S by omega)]; simp
          · rw [decide_eq_false (show ¬ S < 1152921504606845789 by omega)]; simp
        subst e
        clear hb
        rcases (by omega : S < 0 ∨ (¬ S < 0 ∧ 1152921504606845788 < S)) with h | ⟨h, h'⟩
        all_goals
          go_enter Tryz.func74, Tryz.ntmps74
          go_wp2_with fail
          refine (M1.out _).mono ?_
          rintro e w1 ⟨rfl, hO⟩
          have HO := Lib.hid (HA.out.trans hO)
          have z0 := hO.cell y0 id
          have z1 := hO.cell y1 id
          clear hO y0 y1
          go_wp2_with fail
          refine (M2.out _).mono ?_
          rintro e w2 ⟨rfl, hO⟩
          have HO2 := Lib.hid (HO.out.trans hO)
          have y0 := hO.cell z0 id
          have y1 := hO.cell z1 id
          clear hO z0 z1
          go_wp2
          go_ret
          exact ⟨rfl, HO2.out⟩
end Go.Proofs.YtldkjkjpaiajlaaGreatDoor

namespace Go.Proofs.YtldkjkjpaiajlaaGreatDoor
open Go.RowKit

/-- The text of a signature. -/
def sigB (R S : Nat) : ByteArray := decB R ++ (⟨#[46]⟩ : ByteArray) ++ decB S
theorem sigB_size {R S : Nat} (hR : R < 9223372036854775808) (hS : S < 9223372036854775808) : (sigB R S).size ≤ 43 := by
  have h1 := decB_size hR
  have h2 := decB_size hS
  unfold sigB
  rw [ByteArray.size_append, ByteArray.size_append]
  show _ + 1 + _ ≤ _
  omega
set_option maxHeartbeats 1000000 in
theorem stext_any (R S : Nat) (w : World) (hR : R < 9223372036854775808) (hS : S < 9223372036854775808) (hG : Glob w) :
    Calls Tryz.prog 181 #[.agg #[.int .i64 R, .int .i64 S]] w fun e w' => e = .returned (.string (sigB R S)) ∧ Only (fun _ => False) w w' := by
  have hA := (Only.refl (fun _ => False) w).alloc (.cells #[.int .i64 R, .int .i64 S] 33)
  have HA := Lib.hid hA
  have HG := Lib.hid (hG.only hA)
  have hz := heap_alloc_last w (.cells #[.int .i64 R, .int .i64 S] 33)
  have e0 : (w.alloc (.cells #[.int .i64 R, .int .i64 S] 33)).cell? ⟨w.heap.size, 0, none⟩ = some (.int .i64 R) := cell_of_row _ _ 0 _ _ _ hz
  have e1 : (w.alloc (.cells #[.int .i64 R, .int .i64 S] 33)).cell? ⟨w.heap.size, 1, none⟩ = some (.int .i64 S) := cell_of_row _ _ 1 _ _ _ hz
  have H1 := Lib.hid (fun w => itoa_any R w hR)
  have H2 := Lib.hid (fun w => itoa_any S w hS)
  have HE := Lib.hid (show decB R ++ (⟨#[46]⟩ : ByteArray) ++ decB S = sigB R S from rfl)
  have k1 := decB_size hR
  have k2 := decB_size hS
  have s1 : (decB R ++ (⟨#[46]⟩ : ByteArray)).size ≤ 22 := by rw [ByteArray.size_append]; show _ + 1 ≤ _; omega
  generalize decB R = d1 at *
  generalize decB S = d2 at *
  generalize (R : Int) = r at *
  generalize (S : Int) = s at *
  clear hA hz hG
  go_enter Tryz.func181, Tryz.ntmps181
  go_wp2_with fail
  generalize w.heap.size = blk at *
  generalize w.alloc (.cells #[.int .i64 r, .int .i64 s] 33) = w1 at *
  have y0 := fun (d : Nat) (os : Array Obj) => cell_regrown e0 d os
  have y1 := fun (d : Nat) (os : Array Obj) => cell_regrown e1 d os
  clear e0 e1
  refine wp_region_quiet_below (by kernel_rfl) (by kernel_rfl) ?_
  repeat (go_big_quiet_step ((first | (go_at_call 123; with_reducible exact Calls.regrown_of ((H1.out _ (Glob.grown HG.out _ _)).mono fun _ _ h => ⟨h.1, h.2.below (Nat.le_refl _) (fun _ _ h => h)⟩)) | (go_at_call 123; with_reducible exact Calls.regrown_of ((H2.out _ (Glob.grown HG.out _ _)).mono fun _ _ h => ⟨h.1, h.2.below (Nat.le_refl _) (fun _ _ h => h)⟩)))))
  refine wpQuiet_nil ?_
  intro w2 hw'
  obtain ⟨pq, hw''⟩ := hw'
  have HO := Lib.hid (HA.out.trans (Only.ofBelow (below_regrown w1 pq.d pq.os) (fun _ => False)))
  rw [← hw''] at HO
  clear hw'' y0 y1
  go_wp2
  go_ret
  exact ⟨by rw [HE.out]; rfl, HO.out⟩
/-- The line of a vote. -/
def vlineB (who : Nat) (t : ByteArray) (R S : Nat) : ByteArray := decB who ++ (⟨#[32]⟩ : ByteArray) ++ sigB R S ++ (⟨#[32]⟩ : ByteArray) ++ t ++ (⟨#[10]⟩ : ByteArray)
theorem vlineB_size {who R S : Nat} {t : ByteArray} (hw : who < 9223372036854775808) (hR : R < 9223372036854775808) (hS : S < 9223372036854775808) : (vlineB who t R S).size ≤ 67 + t.size := by
  have h1 := decB_size hw
  have h2 := sigB_size hR hS
  unfold vlineB
  rw [ByteArray.size_append, ByteArray.size_append, ByteArray.size_append, ByteArray.size_append, ByteArray.size_append]
  show _ + 1 + _ + 1 + _ + 1 ≤ _
  omega
set_option maxHeartbeats 2000000 in
theorem line_any (who R S : Nat) (t : ByteArray) (w : World) (hw : who < 9223372036854775808) (hR : R < 9223372036854775808) (hS : S < 9223372036854775808) (ht : t.size ≤ 1000000) (hG : Glob w) :
    Calls Tryz.prog 135 #[.agg #[.int .i64 who, .string t, .int .i64 R, .int .i64 S]] w fun e w' => e = .returned (.string (vlineB who t R S)) ∧ Only (fun _ => False) w w' := by
  have hA := (Only.refl (fun _ => False) w).alloc (.cells #[.int .i64 who, .string t, .int .i64 R, .int .i64 S] 35)
  have HA := Lib.hid hA
  have HG := Lib.hid (hG.only hA)
  have hz := heap_alloc_last w (.cells #[.int .i64 who, .string t, .int .i64 R, .int .i64 S] 35)
  have e0 : (w.alloc (.cells #[.int .i64 who, .string t, .int .i64 R, .int .i64 S] 35)).cell? ⟨w.heap.size, 0, none⟩ = some (.int .i64 who) := cell_of_row _ _ 0 _ _ _ hz
  have e1 : (w.alloc (.cells #[.int .i64 who, .string t, .int .i64 R, .int .i64 S] 35)).cell? ⟨w.heap.size, 1, none⟩ = some (.string t) := cell_of_row _ _ 1 _ _ _ hz
  have e2 : (w.alloc (.cells #[.int .i64 who, .string t, .int .i64 R, .int .i64 S] 35)).cell? ⟨w.heap.size, 2, none⟩ = some (.int .i64 R) := cell_of_row _ _ 2 _ _ _ hz
  have e3 : (w.alloc (.cells #[.int .i64 who, .string t, .int .i64 R, .int .i64 S] 35)).cell? ⟨w.heap.size, 3, none⟩ = some (.int .i64 S) := cell_of_row _ _ 3 _ _ _ hz
  have H1 := Lib.hid (fun w => itoa_any who w hw)
  have H2 := Lib.hid (fun w => stext_any R S w hR hS)
  have HE := Lib.hid (show decB who ++ (⟨#[32]⟩ : ByteArray) ++ sigB R S ++ (⟨#[32]⟩ : ByteArray) ++ t ++ (⟨#[10]⟩ : ByteArray) = vlineB who t R S from rfl)
  have k1 := decB_size hw
  have k2 := sigB_size hR hS
  have s1 : (decB who ++ (⟨#[32]⟩ : ByteArray)).size ≤ 22 := by rw [ByteArray.size_append]; show _ + 1 ≤ _; omega
  have s2 : (decB who ++ (⟨#[32]⟩ : ByteArray) ++ sigB R S).size ≤ 65 := by rw [ByteArray.size_append]; omega
  have s3 : (decB who ++ (⟨#[32]⟩ : ByteArray) ++ sigB R S ++ (⟨#[32]⟩ : ByteArray)).size ≤ 66 := by rw [ByteArray.size_append]; show _ + 1 ≤ _; omega
  have s4 : (decB who ++ (⟨#[32]⟩ : ByteArray) ++ sigB R S ++ (⟨#[32]⟩ : ByteArray) ++ t).size ≤ 1000066 := by rw [ByteArray.size_append]; omega
  generalize decB who = d1 at *
  generalize sigB R S = d2 at *
  generalize (who : Int) = i at *
  generalize (R : Int) = r at *
  generalize (S : Int) = s at *
  clear hA hz hG
  go_enter Tryz.func135, Tryz.ntmps135
  go_wp2_with fail
  generalize w.heap.size = blk at *
  generalize w.alloc (.cells #[.int .i64 i, .string t, .int .i64 r, .int .i64 s] 35) = w1 at *
  have y0 := fun (d : Nat) (os : Array Obj) => cell_regrown e0 d os
  have y1 := fun (d : Nat) (os : Array Obj) => cell_regrown e1 d os
  have y2 := fun (d : Nat) (os : Array Obj) => cell_regrown e2 d os
  have y3 := fun (d : Nat) (os : Array Obj) => cell_regrown e3 d os
  clear e0 e1 e2 e3
  refine wp_region_quiet_below (by kernel_rfl) (by kernel_rfl) ?_
  repeat (go_big_quiet_step ((first | (go_at_call 123; with_reducible exact Calls.regrown_of ((H1.out _ (Glob.grown HG.out _ _)).mono fun _ _ h => ⟨h.1, h.2.below (Nat.le_refl _) (fun _ _ h => h)⟩)) | (go_at_call 181; with_reducible exact Calls.regrown_of ((H2.out _ (Glob.grown HG.out _ _)).mono fun _ _ h => ⟨h.1, h.2.below (Nat.le_refl _) (fun _ _ h => h)⟩)))))
  refine wpQuiet_nil ?_
  intro w2 hw'
  obtain ⟨pq, hw''⟩ := hw'
  have HO := Lib.hid (HA.out.trans (Only.ofBelow (below_regrown w1 pq.d pq.os) (fun _ => False)))
  rw [← hw''] at HO
  clear hw'' y0 y1 y2 y3
  go_wp2
  go_ret
  exact ⟨by rw [HE.out]; rfl, HO.out⟩
end Go.Proofs.YtldkjkjpaiajlaaGreatDoor

namespace Go.Proofs.YtldkjkjpaiajlaaGreatDoor
open Go.RowKit

/-- The first number below n of which a predicate is true, or -1. -/
def firstI (p : Nat → Bool) (n : Nat) : Int := match (List.range n).find? p with | some j => (j : Int) | none => -1
theorem firstI_no {p : Nat → Bool} {n : Nat} (h : ∀ j, j < n → p j = false) : firstI p n = -1 := by
  unfold firstI
  rw [List.find?_eq_none.2 (fun j hj => by rw [h j (List.mem_range.1 hj)]; decide)]
theorem firstI_yes {p : Nat → Bool} {n k : Nat} (hk : k < n) (h : ∀ j, j < k → p j = false) (hp : p k = true) : firstI p n = k := by
  unfold firstI
  have e : (List.range n).find? p = some k := by
    have hs : List.range n = List.range k ++ (List.range (n - k)).map (k + ·) := by rw [← List.range_add, Nat.add_sub_cancel' (Nat.le_of_lt hk)]
    rw [hs, List.find?_append, List.find?_eq_none.2 (fun j hj => by rw [h j (List.mem_range.1 hj)]; decide)]
    have : List.range (n - k) = 0 :: (List.range (n - k - 1)).map Nat.succ := by
      rw [← List.range_succ_eq_map]
      congr 1
      omega
    rw [this]
    simp [hp]
  rw [e]
set_option maxHeartbeats 2000000 in
theorem cnt_idx (a : Option Addr) (n c : Nat) (x0 x1 x2 : Nat → Value) (c0 : Value) (p : Nat → Bool) (w : World) (hn : n ≤ 1000000)
    (hcell : ∀ j, j < n → ∃ b off, a = some ⟨b, off, none⟩ ∧ n ≤ c ∧ c ≤ 9223372036854775807 ∧ w.cell? ⟨b, off + j * 3, none⟩ = some (x0 j) ∧ w.cell? ⟨b, off + j * 3 + 1, none⟩ = some (x1 j) ∧ w.cell? ⟨b, off + j * 3 + 2, none⟩ = some (x2 j))
    (hclo : ∀ j, j < n → ∀ W, Only (fun _ => False) w W → Calls Tryz.prog 73 #[.agg #[x0 j, x1 j, x2 j], c0] W fun e w' => e = .returned (.bool (p j)) ∧ Only (fun _ => False) W w') :
    Calls Tryz.prog 72 #[.slice a n c, .func (.func 73) #[] #[c0]] w fun e w' => e = .returned (.int .i64 (firstI p n)) ∧ Only (fun _ => False) w w' := by
  have HC := Lib.hid hcell
  have HF := Lib.hid hclo
  clear hcell hclo
  go_enter Tryz.func72, Tryz.ntmps72
  go_wp2_with fail
  go_loopw [8] (fun vi wr => ∃ k : Nat, k ≤ n ∧ vi = .int .i64 k ∧ (∀ j, j < k → p j = false) ∧ Only (fun _ => False) w wr) (fun vi _ => n - (intOf vi).toNat)
  case atStart => exact ⟨0, Nat.zero_le _, rfl, fun j hj => absurd hj (Nat.not_lt_zero _), Only.refl _ _⟩
  case round =>
    obtain ⟨k, hk, rfl, hno, hO⟩ := hrel
    have HN := Lib.hid hno
    have HO := Lib.hid hO
    clear hno hO
    by_cases hlt : k < n
    · obtain ⟨b, off, rfl, hc1, hc2, d0, d1, d2⟩ := HC.out k hlt
      have e0 := HO.out.cell d0 id
      have e1 := HO.out.cell d1 id
      have e2 := HO.out.cell d2 id
      have HFK := Lib.hid (HF.out k hlt _ HO.out)
      generalize x0 k = y0 at *
      generalize x1 k = y1 at *
      generalize x2 k = y2 at *
      cases hp : p k
      · rw [hp] at HFK
        clear d0 d1 d2
        go_wp2_with fail
        refine HFK.out.mono ?_
        rintro e w2 ⟨rfl, hO2⟩
        have HO2 := Lib.hid (HO.out.trans hO2)
        clear hO2
        go_wp2
        go_roundw
        case rel => exact ⟨k + 1, by omega, by go_num, fun j hj => by
          rcases Nat.lt_or_ge j k with h | h
          · exact HN.out j h
          · rw [show j = k by omega]; exact hp, HO2.out⟩
        case measure => simp [intOf]; omega
      · rw [hp] at HFK
        have HR := Lib.hid (firstI_yes hlt HN.out hp)
        clear d0 d1 d2
        go_wp2_with fail
        refine HFK.out.mono ?_
        rintro e w2 ⟨rfl, hO2⟩
        have HO2 := Lib.hid (HO.out.trans hO2)
        clear hO2
        go_wp2
        go_ret
        exact ⟨by rw [HR.out]; rfl, HO2.out⟩
    · obtain rfl : k = n := by omega
      have HR := Lib.hid (firstI_no HN.out)
      go_wp2_with fail
      go_ret
      exact ⟨by rw [HR.out]; rfl, HO.out⟩
set_option maxHeartbeats 2000000 in
theorem new_idx (a : Option Addr) (n c : Nat) (x0 x1 x2 : Nat → Value) (c0 : Value) (p : Nat → Bool) (w : World) (hn : n ≤ 1000000)
    (hcell : ∀ j, j < n → ∃ b off, a = some ⟨b, off, none⟩ ∧ n ≤ c ∧ c ≤ 9223372036854775807 ∧ w.cell? ⟨b, off + j * 3, none⟩ = some (x0 j) ∧ w.cell? ⟨b, off + j * 3 + 1, none⟩ = some (x1 j) ∧ w.cell? ⟨b, off + j * 3 + 2, none⟩ = some (x2 j))
    (hclo : ∀ j, j < n → ∀ W, Only (fun _ => False) w W → Calls Tryz.prog 52 #[.agg #[x0 j, x1 j, x2 j], c0] W fun e w' => e = .returned (.bool (p j)) ∧ Only (fun _ => False) W w') :
    Calls Tryz.prog 72 #[.slice a n c, .func (.func 52) #[] #[c0]] w fun e w' => e = .returned (.int .i64 (firstI p n)) ∧ Only (fun _ => False) w w' := by
  have HC := Lib.hid hcell
  have HF := Lib.hid hclo
  clear hcell hclo
  go_enter Tryz.func72, Tryz.ntmps72
  go_wp2_with fail
  go_loopw [8] (fun vi wr => ∃ k : Nat, k ≤ n ∧ vi = .int .i64 k ∧ (∀ j, j < k → p j = false) ∧ Only (fun _ => False) w wr) (fun vi _ => n - (intOf vi).toNat)
  case atStart => exact ⟨0, Nat.zero_le _, rfl, fun j hj => absurd hj (Nat.not_lt_zero _), Only.refl _ _⟩
  case round =>
    obtain ⟨k, hk, rfl, hno, hO⟩ := hrel
    have HN := Lib.hid hno
    have HO := Lib.hid hO
    clear hno hO
    by_cases hlt : k < n
    · obtain ⟨b, off, rfl, hc1, hc2, d0, d1, d2⟩ := HC.out k hlt
      have e0 := HO.out.cell d0 id
      have e1 := HO.out.cell d1 id
      have e2 := HO.out.cell d2 id
      have HFK := Lib.hid (HF.out k hlt _ HO.out)
      generalize x0 k = y0 at *
      generalize x1 k = y1 at *
      generalize x2 k = y2 at *
      cases hp : p k
      · rw [hp] at HFK
        clear d0 d1 d2
        go_wp2_with fail
        refine HFK.out.mono ?_
        rintro e w2 ⟨rfl, hO2⟩
        have HO2 := Lib.hid (HO.out.trans hO2)
        clear hO2
        go_wp2
        go_roundw
        case rel => exact ⟨k + 1, by omega, by go_num, fun j hj => by
          rcases Nat.lt_or_ge j k with h | h
          · exact HN.out j h
          · rw [show j = k by omega]; exact hp, HO2.out⟩
        case measure => simp [intOf]; omega
      · rw [hp] at HFK
        have HR := Lib.hid (firstI_yes hlt HN.out hp)
        clear d0 d1 d2
        go_wp2_with fail
        refine HFK.out.mono ?_
        rintro e w2 ⟨rfl, hO2⟩
        have HO2 := Lib.hid (HO.out.trans hO2)
        clear hO2
        go_wp2
        go_ret
        exact ⟨by rw [HR.out]; rfl, HO2.out⟩
    · obtain rfl : k = n := by omega
      have HR := Lib.hid (firstI_no HN.out)
      go_wp2_with fail
      go_ret
      exact ⟨by rw [HR.out]; rfl, HO.out⟩
set_option maxHeartbeats 2000000 in
theorem prep_idx (a : Option Addr) (n c : Nat) (x0 x1 x2 x3 x4 x5 x6 x7 x8 : Nat → Value) (c0 c1 : Value) (p : Nat → Bool) (w : World) (hn : n ≤ 1000000)
    (hcell : ∀ j, j < n → ∃ b off, a = some ⟨b, off, none⟩ ∧ n ≤ c ∧ c ≤ 9223372036854775807 ∧ w.cell? ⟨b, off + j * 9, none⟩ = some (x0 j) ∧ w.cell? ⟨b, off + j * 9 + 1, none⟩ = some (x1 j) ∧ w.cell? ⟨b, off + j * 9 + 2, none⟩ = some (x2 j) ∧ w.cell? ⟨b, off + j * 9 + 3, none⟩ = some (x3 j) ∧ w.cell? ⟨b, off + j * 9 + 4, none⟩ = some (x4 j) ∧ w.cell? ⟨b, off + j * 9 + 5, none⟩ = some (x5 j) ∧ w.cell? ⟨b, off + j * 9 + 6, none⟩ = some (x6 j) ∧ w.cell? ⟨b, off + j * 9 + 7, none⟩ = some (x7 j) ∧ w.cell? ⟨b, off + j * 9 + 8, none⟩ = some (x8 j))
    (hclo : ∀ j, j < n → ∀ W, Only (fun _ => False) w W → Calls Tryz.prog 99 #[.agg #[x0 j, x1 j, x2 j, x3 j, x4 j, x5 j, x6 j, x7 j, x8 j], c0, c1] W fun e w' => e = .returned (.bool (p j)) ∧ Only (fun _ => False) W w') :
    Calls Tryz.prog 98 #[.slice a n c, .func (.func 99) #[] #[c0, c1]] w fun e w' => e = .returned (.int .i64 (firstI p n)) ∧ Only (fun _ => False) w w' := by
  have HC := Lib.hid hcell
  have HF := Lib.hid hclo
  clear hcell hclo
  go_enter Tryz.func98, Tryz.ntmps98
  go_wp2_with fail
  go_loopw [8] (fun vi wr => ∃ k : Nat, k ≤ n ∧ vi = .int .i64 k ∧ (∀ j, j < k → p j = false) ∧ Only (fun _ => False) w wr) (fun vi _ => n - (intOf vi).toNat)
  case atStart => exact ⟨0, Nat.zero_le _, rfl, fun j hj => absurd hj (Nat.not_lt_zero _), Only.refl _ _⟩
  case round =>
    obtain ⟨k, hk, rfl, hno, hO⟩ := hrel
    have HN := Lib.hid hno
    have HO := Lib.hid hO
    clear hno hO
    by_cases hlt : k < n
    · obtain ⟨b, off, rfl, hc1, hc2, d0, d1, d2, d3, d4, d5, d6, d7, d8⟩ := HC.out k hlt
      have e0 := HO.out.cell d0 id
      have e1 := HO.out.cell d1 id
      have e2 := HO.out.cell d2 id
      have e3 := HO.out.cell d3 id
      have e4 := HO.out.cell d4 id
      have e5 := HO.out.cell d5 id
      have e6 := HO.out.cell d6 id
      have e7 := HO.out.cell d7 id
      have e8 := HO.out.cell d8 id
      have HFK := Lib.hid (HF.out k hlt _ HO.out)
      generalize x0 k = y0 at *
      generalize x1 k = y1 at *
      generalize x2 k = y2 at *
      generalize x3 k = y3 at *
      generalize x4 k = y4 at *
      generalize x5 k = y5 at *
      generalize x6 k = y6 at *
      generalize x7 k = y7 at *
      generalize x8 k = y8 at *
      cases hp : p k
      · rw [hp] at HFK
        clear d0 d1 d2 d3 d4 d5 d6 d7 d8
        go_wp2_with fail
        refine HFK.out.mono ?_
        rintro e w2 ⟨rfl, hO2⟩
        have HO2 := Lib.hid (HO.out.trans hO2)
        clear hO2
        go_wp2
        go_roundw
        case rel => exact ⟨k + 1, by omega, by go_num, fun j hj => by
          rcases Nat.lt_or_ge j k with h | h
          · exact HN.out j h
          · rw [show j = k by omega]; exact hp, HO2.out⟩
        case measure => simp [intOf]; omega
      · rw [hp] at HFK
        have HR := Lib.hid (firstI_yes hlt HN.out hp)
        clear d0 d1 d2 d3 d4 d5 d6 d7 d8
        go_wp2_with fail
        refine HFK.out.mono ?_
        rintro e w2 ⟨rfl, hO2⟩
        have HO2 := Lib.hid (HO.out.trans hO2)
        clear hO2
        go_wp2
        go_ret
        exact ⟨by rw [HR.out]; rfl, HO2.out⟩
    · obtain rfl : k = n := by omega
      have HR := Lib.hid (firstI_no HN.out)
      go_wp2_with fail
      go_ret
      exact ⟨by rw [HR.out]; rfl, HO.out⟩
set_option maxHeartbeats 2000000 in
theorem wgt_idx (a : Option Addr) (n c : Nat) (x0 x1 x2 x3 x4 x5 x6 x7 x8 : Nat → Value) (c0 c1 : Value) (p : Nat → Bool) (w : World) (hn : n ≤ 1000000)
    (hcell : ∀ j, j < n → ∃ b off, a = some ⟨b, off, none⟩ ∧ n ≤ c ∧ c ≤ 9223372036854775807 ∧ w.cell? ⟨b, off + j * 9, none⟩ = some (x0 j) ∧ w.cell? ⟨b, off + j * 9 + 1, none⟩ = some (x1 j) ∧ w.cell? ⟨b, off + j * 9 + 2, none⟩ = some (x2 j) ∧ w.cell? ⟨b, off + j * 9 + 3, none⟩ = some (x3 j) ∧ w.cell? ⟨b, off + j * 9 + 4, none⟩ = some (x4 j) ∧ w.cell? ⟨b, off + j * 9 + 5, none⟩ = some (x5 j) ∧ w.cell? ⟨b, off + j * 9 + 6, none⟩ = some (x6 j) ∧ w.cell? ⟨b, off + j * 9 + 7, none⟩ = some (x7 j) ∧ w.cell? ⟨b, off + j * 9 + 8, none⟩ = some (x8 j))
    (hclo : ∀ j, j < n → ∀ W, Only (fun _ => False) w W → Calls Tryz.prog 182 #[.agg #[x0 j, x1 j, x2 j, x3 j, x4 j, x5 j, x6 j, x7 j, x8 j], c0, c1] W fun e w' => e = .returned (.bool (p j)) ∧ Only (fun _ => False) W w') :
    Calls Tryz.prog 98 #[.slice a n c, .func (.func 182) #[] #[c0, c1]] w fun e w' => e = .returned (.int .i64 (firstI p n)) ∧ Only (fun _ => False) w w' := by
  have HC := Lib.hid hcell
  have HF := Lib.hid hclo
  clear hcell hclo
  go_enter Tryz.func98, Tryz.ntmps98
  go_wp2_with fail
  go_loopw [8] (fun vi wr => ∃ k : Nat, k ≤ n ∧ vi = .int .i64 k ∧ (∀ j, j < k → p j = false) ∧ Only (fun _ => False) w wr) (fun vi _ => n - (intOf vi).toNat)
  case atStart => exact ⟨0, Nat.zero_le _, rfl, fun j hj => absurd hj (Nat.not_lt_zero _), Only.refl _ _⟩
  case round =>
    obtain ⟨k, hk, rfl, hno, hO⟩ := hrel
    have HN := Lib.hid hno
    have HO := Lib.hid hO
    clear hno hO
    by_cases hlt : k < n
    · obtain ⟨b, off, rfl, hc1, hc2, d0, d1, d2, d3, d4, d5, d6, d7, d8⟩ := HC.out k hlt
      have e0 := HO.out.cell d0 id
      have e1 := HO.out.cell d1 id
      have e2 := HO.out.cell d2 id
      have e3 := HO.out.cell d3 id
      have e4 := HO.out.cell d4 id
      have e5 := HO.out.cell d5 id
      have e6 := HO.out.cell d6 id
      have e7 := HO.out.cell d7 id
      have e8 := HO.out.cell d8 id
      have HFK := Lib.hid (HF.out k hlt _ HO.out)
      generalize x0 k = y0 at *
      generalize x1 k = y1 at *
      generalize x2 k = y2 at *
      generalize x3 k = y3 at *
      generalize x4 k = y4 at *
      generalize x5 k = y5 at *
      generalize x6 k = y6 at *
      generalize x7 k = y7 at *
      generalize x8 k = y8 at *
      cases hp : p k
      · rw [hp] at HFK
        clear d0 d1 d2 d3 d4 d5 d6 d7 d8
        go_wp2_with fail
        refine HFK.out.mono ?_
        rintro e w2 ⟨rfl, hO2⟩
        have HO2 := Lib.hid (HO.out.trans hO2)
        clear hO2
        go_wp2
        go_roundw
        case rel => exact ⟨k + 1, by omega, by go_num, fun j hj => by
          rcases Nat.lt_or_ge j k with h | h
          · exact HN.out j h
          · rw [show j = k by omega]; exact hp, HO2.out⟩
        case measure => simp [intOf]; omega
      · rw [hp] at HFK
        have HR := Lib.hid (firstI_yes hlt HN.out hp)
        clear d0 d1 d2 d3 d4 d5 d6 d7 d8
        go_wp2_with fail
        refine HFK.out.mono ?_
        rintro e w2 ⟨rfl, hO2⟩
        have HO2 := Lib.hid (HO.out.trans hO2)
        clear hO2
        go_wp2
        go_ret
        exact ⟨by rw [HR.out]; rfl, HO2.out⟩
    · obtain rfl : k = n := by omega
      have HR := Lib.hid (firstI_no HN.out)
      go_wp2_with fail
      go_ret
      exact ⟨by rw [HR.out]; rfl, HO.out⟩
theorem firstI_has (p : Nat → Bool) (n : Nat) : decide (0 ≤ firstI p n) = (List.range n).any p := by
  unfold firstI
  cases h : (List.range n).find? p with
  | none =>
    rw [List.find?_eq_none] at h
    rw [List.any_eq_false.2 (fun j hj => h j hj)]
    rfl
  | some j =>
    have h1 := List.find?_some h
    have h2 := List.mem_of_find?_eq_some h
    rw [List.any_eq_true.2 ⟨j, h2, h1⟩]
    exact decide_eq_true (Int.natCast_nonneg j)
set_option maxHeartbeats 1000000 in
theorem new_has (a : Option Addr) (n c : Nat) (x0 x1 x2 : Nat → Value) (c0 : Value) (p : Nat → Bool) (w : World) (hn : n ≤ 1000000)
    (hcell : ∀ j, j < n → ∃ b off, a = some ⟨b, off, none⟩ ∧ n ≤ c ∧ c ≤ 9223372036854775807 ∧ w.cell? ⟨b, off + j * 3, none⟩ = some (x0 j) ∧ w.cell? ⟨b, off + j * 3 + 1, none⟩ = some (x1 j) ∧ w.cell? ⟨b, off + j * 3 + 2, none⟩ = some (x2 j))
    (hclo : ∀ j, j < n → ∀ W, Only (fun _ => False) w W → Calls Tryz.prog 52 #[.agg #[x0 j, x1 j, x2 j], c0] W fun e w' => e = .returned (.bool (p j)) ∧ Only (fun _ => False) W w') :
    Calls Tryz.prog 51 #[.slice a n c, .func (.func 52) #[] #[c0]] w fun e w' => e = .returned (.bool ((List.range n).any p)) ∧ Only (fun _ => False) w w' := by
  have HI := Lib.hid (new_idx a n c x0 x1 x2 c0 p w hn hcell hclo)
  have HR := Lib.hid (firstI_has p n)
  generalize firstI p n = r at *
  generalize (List.range n).any p = bb at *
  clear hcell hclo
  go_enter Tryz.func51, Tryz.ntmps51
  go_wp2_with fail
  refine HI.out.mono ?_
  rintro e w1 ⟨rfl, hO⟩
  have HO := Lib.hid hO
  clear hO HI
  go_wp2
  go_ret
  exact ⟨by rw [← HR.out]; rfl, HO.out⟩
set_option maxHeartbeats 1000000 in
theorem wgt_has (a : Option Addr) (n c : Nat) (x0 x1 x2 x3 x4 x5 x6 x7 x8 : Nat → Value) (c0 c1 : Value) (p : Nat → Bool) (w : World) (hn : n ≤ 1000000)
    (hcell : ∀ j, j < n → ∃ b off, a = some ⟨b, off, none⟩ ∧ n ≤ c ∧ c ≤ 9223372036854775807 ∧ w.cell? ⟨b, off + j * 9, none⟩ = some (x0 j) ∧ w.cell? ⟨b, off + j * 9 + 1, none⟩ = some (x1 j) ∧ w.cell? ⟨b, off + j * 9 + 2, none⟩ = some (x2 j) ∧ w.cell? ⟨b, off + j * 9 + 3, none⟩ = some (x3 j) ∧ w.cell? ⟨b, off + j * 9 + 4, none⟩ = some (x4 j) ∧ w.cell? ⟨b, off + j * 9 + 5, none⟩ = some (x5 j) ∧ w.cell? ⟨b, off + j * 9 + 6, none⟩ = some (x6 j) ∧ w.cell? ⟨b, off + j * 9 + 7, none⟩ = some (x7 j) ∧ w.cell? ⟨b, off + j * 9 + 8, none⟩ = some (x8 j))
    (hclo : ∀ j, j < n → ∀ W, Only (fun _ => False) w W → Calls Tryz.prog 182 #[.agg #[x0 j, x1 j, x2 j, x3 j, x4 j, x5 j, x6 j, x7 j, x8 j], c0, c1] W fun e w' => e = .returned (.bool (p j)) ∧ Only (fun _ => False) W w') :
    Calls Tryz.prog 183 #[.slice a n c, .func (.func 182) #[] #[c0, c1]] w fun e w' => e = .returned (.bool ((List.range n).any p)) ∧ Only (fun _ => False) w w' := by
  have HI := Lib.hid (wgt_idx a n c x0 x1 x2 x3 x4 x5 x6 x7 x8 c0 c1 p w hn hcell hclo)
  have HR := Lib.hid (firstI_has p n)
  generalize firstI p n = r at *
  generalize (List.range n).any p = bb at *
  clear hcell hclo
  go_enter Tryz.func183, Tryz.ntmps183
  go_wp2_with fail
  refine HI.out.mono ?_
  rintro e w1 ⟨rfl, hO⟩
  have HO := Lib.hid hO
  clear hO HI
  go_wp2
  go_ret
  exact ⟨by rw [← HR.out]; rfl, HO.out⟩
end Go.Proofs.YtldkjkjpaiajlaaGreatDoor

namespace Go.Proofs.YtldkjkjpaiajlaaGreatDoor
open Go.RowKit

/-- The place of the first member with an Id. -/
def whoI (l : List Mb) (who : Int) : Int := firstI (fun j => (mbAt l j).id == who) l.length
/-- Does a signature count for a member? -/
def cntB (l : List Mb) (who : Int) (t : ByteArray) (R S : Int) : Bool := decide (0 ≤ whoI l who) && sverB (mbAt l (whoI l who).toNat).pb t R S
theorem cnt_clo (x y z who : Int) (pb : Nat) (w : World) (hp : w.cell? ⟨pb, 0, none⟩ = some (.int .i64 who)) :
    Calls Tryz.prog 73 #[.agg #[.int .i64 x, .int .i64 y, .int .i64 z], .pointer (some ⟨pb, 0, none⟩)] w fun e w' => e = .returned (.bool (x == who)) ∧ Only (fun _ => False) w w' := by
  have hlt := World.block_lt_of_cell? _ _ hp
  have hne : ¬ pb = w.heap.size := by dsimp only at hlt; omega
  have HO := Lib.hid ((Only.refl (fun _ => False) w).alloc (.cells #[.int .i64 x, .int .i64 y, .int .i64 z] 41))
  go_enter Tryz.func73, Tryz.ntmps73
  go_wp2
  go_ret
  exact ⟨rfl, HO.out⟩
/-- IndexFunc over the members, for a vote's owner. -/
theorem cnt_who (sv : Value) (l : List Mb) (who : Int) (pb : Nat) (w : World) (hM : MbsAt w sv l) (hl : l.length ≤ 1000000) (hp : w.cell? ⟨pb, 0, none⟩ = some (.int .i64 who)) :
    Calls Tryz.prog 72 #[sv, .func (.func 73) #[] #[.pointer (some ⟨pb, 0, none⟩)]] w fun e w' => e = .returned (.int .i64 (whoI l who)) ∧ Only (fun _ => False) w w' := by
  have hc : ∀ j, j < l.length → ∀ W, Only (fun _ => False) w W → Calls Tryz.prog 73 #[.agg #[.int .i64 (mbAt l j).id, .int .i64 (mbAt l j).wt, .int .i64 (mbAt l j).pb], .pointer (some ⟨pb, 0, none⟩)] W fun e w' => e = .returned (.bool ((mbAt l j).id == who)) ∧ Only (fun _ => False) W w' :=
    fun j _ W hO => cnt_clo _ _ _ who pb W (hO.cell hp id)
  rcases hM with ⟨a, c, rfl, rfl⟩ | ⟨b, off, cap, rfl, hb, h1, h2, hd⟩
  · exact cnt_idx a 0 c (fun j => .int .i64 (mbAt [] j).id) (fun j => .int .i64 (mbAt [] j).wt) (fun j => .int .i64 (mbAt [] j).pb) _ (fun j => (mbAt [] j).id == who) w (by decide) (fun j hj => absurd hj (Nat.not_lt_zero _)) hc
  · exact cnt_idx _ l.length cap (fun j => .int .i64 (mbAt l j).id) (fun j => .int .i64 (mbAt l j).wt) (fun j => .int .i64 (mbAt l j).pb) _ (fun j => (mbAt l j).id == who) w hl (fun j hj => ⟨b, off, rfl, h1, h2, hd j hj⟩) hc
theorem mbs_slice {W : World} {sv : Value} {l : List Mb} (h : MbsAt W sv l) : ∃ a c, sv = .slice a l.length c := by
  rcases h with ⟨a, c, rfl, rfl⟩ | ⟨b, off, cap, rfl, _⟩
  · exact ⟨a, c, rfl⟩
  · exact ⟨_, _, rfl⟩
theorem whoI_lt {l : List Mb} {who : Int} (h : 0 ≤ whoI l who) : (whoI l who).toNat < l.length := by
  unfold whoI firstI at *
  cases hf : (List.range l.length).find? fun j => (mbAt l j).id == who with
  | none => rw [hf] at h; exact absurd h (by decide)
  | some j =>
    show ((j : Int)).toNat < l.length
    rw [Int.toNat_natCast]
    exact List.mem_range.1 (List.mem_of_find?_eq_some hf)
set_option maxHeartbeats 4000000 in
set_option maxRecDepth 100000 in
theorem counted_any (sv : Value) (l : List Mb) (who R S : Int) (t : ByteArray) (ok r : Bool) (vk vx : ByteArray) (vh vv : Int) (w : World) (hM : MbsAt w sv l) (hl : l.length ≤ 1000000) (ht : t.size ≤ 100000)
    (hrd : ∀ w, GlobA w → Calls Tryz.prog 33 #[.string t] w fun e w' => e = .returned (.tuple #[.agg #[.string vk, .int .i64 vh, .int .i64 vv, .string vx], .bool ok]) ∧ Only (fun _ => False) w w')
    (hr : r = (ok && cntB l who t R S)) (hG : GlobA w) :
    Calls Tryz.prog 32 #[sv, .agg #[.int .i64 who, .string t, .int .i64 R, .int .i64 S]] w fun e w' => e = .returned (.tuple #[if r then .agg #[.string vk, .int .i64 vh, .int .i64 vv, .string vx] else blZero, .bool r]) ∧ Only (fun _ => False) w w' := by
  have hA1 := (Only.refl (fun _ => False) w).alloc (.cells #[.int .i64 who, .string t, .int .i64 R, .int .i64 S] 35)
  have hA2 := hA1.alloc (.cells #[.string (⟨#[]⟩ : ByteArray), .int .i64 0, .int .i64 0, .string (⟨#[]⟩ : ByteArray)] 86)
  have hz1 := row_still ((Only.refl (fun _ => False) (w.alloc (.cells #[.int .i64 who, .string t, .int .i64 R, .int .i64 S] 35))).alloc (.cells #[.string (⟨#[]⟩ : ByteArray), .int .i64 0, .int .i64 0, .string (⟨#[]⟩ : ByteArray)] 86)) (heap_alloc_last w (.cells #[.int .i64 who, .string t, .int .i64 R, .int .i64 S] 35))
  have hz2 := heap_alloc_last (w.alloc (.cells #[.int .i64 who, .string t, .int .i64 R, .int .i64 S] 35)) (.cells #[.string (⟨#[]⟩ : ByteArray), .int .i64 0, .int .i64 0, .string (⟨#[]⟩ : ByteArray)] 86)
  rw [World.size_alloc] at hz2
  have HM := Lib.hid (MbsAt.only hA2 hM)
  have HA := Lib.hid hA2
  have HG := Lib.hid hG
  have HV := Lib.hid hz1
  have HZ := Lib.hid hz2
  have HRD := Lib.hid hrd
  have HWI := Lib.hid (fun w (hM : MbsAt w sv l) hp => cnt_who sv l who w.heap.size w hM hl hp)
  have c0 := cell_of_row _ _ 0 _ _ _ hz1
  have HW := Lib.hid (cnt_who sv l who w.heap.size _ HM.out hl c0)
  have HLT := Lib.hid (fun h => whoI_lt (l := l) (who := who) h)
  have HSV := Lib.hid (fun w hG => sverify_any (mbAt l (whoI l who).toNat).pb R S t _ w ht rfl hG)
  have HCN := Lib.hid (show cntB l who t R S = (decide (0 ≤ whoI l who) && sverB (mbAt l (whoI l who).toNat).pb t R S) from rfl)
  clear hA1 hA2 hM hz1 hz2 hrd hG HWI c0
  generalize cntB l who t R S = cb at *
  generalize whoI l who = i at *
  obtain ⟨a1, c1, rfl⟩ := mbs_slice HM.out
  go_enter Tryz.func32, Tryz.ntmps32
  go_wp2_with fail
  refine HW.out.mono ?_
  rintro e w1 ⟨rfl, hO⟩
  have HO1 := Lib.hid (HA.out.trans hO)
  have HV1 := Lib.hid (row_still hO HV.out)
  have HZ1 := Lib.hid (row_still hO HZ.out)
  have HM1 := Lib.hid (MbsAt.only hO HM.out)
  clear hO HW HV HZ HM HA
  by_cases hi : i < 0
  · have e : r = false := by rw [hr, HCN.out, decide_eq_false (by omega)]; simp
    subst e
    clear hr
    go_wp2_with (first | (refine wpList_store_row rfl 86 _ _ rfl (w.heap.size + 1) #[.string (⟨#[]⟩ : ByteArray), .int .i64 0, .int .i64 0, .string (⟨#[]⟩ : ByteArray)] rfl rfl 86 _ HZ1.out Tryz.infoBl rfl (bl_one4 _ _ _ _) ?_))
    all_goals (exact bodyPost_ret (v := .tuple #[.agg #[.string (⟨#[]⟩ : ByteArray), .int .i64 0, .int .i64 0, .string (⟨#[]⟩ : ByteArray)], .bool false]) (results_cell_tmpA (p := 4) (q := 5) rfl _ _ (w.heap.size + 1) 86 #[.string (⟨#[]⟩ : ByteArray), .int .i64 0, .int .i64 0, .string (⟨#[]⟩ : ByteArray)] (0, 0) _ rfl (setRow_heap _ _ _ _ _ _ HZ1.out) Tryz.underlying86 rfl Tryz.infoBl _ rfl) rfl ⟨rfl, HO1.out.setRow (Nat.le_succ _) _⟩)
  · have HLI := Lib.hid (HLT.out (by omega))
    have y1 := cell_of_row _ _ 1 _ _ _ HV1.out
    go_wp2_with fail
    refine (HRD.out _ (HG.out.only HO1.out)).mono ?_
    rintro e w2 ⟨rfl, hO⟩
    have HO2 := Lib.hid (HO1.out.trans hO)
    have HV2 := Lib.hid (row_still hO HV1.out)
    have HZ2 := Lib.hid (row_still hO HZ1.out)
    have HM2 := Lib.hid (MbsAt.only hO HM1.out)
    clear hO HV1 HZ1 HM1 HO1 y1
    have hA3 := (Only.refl (fun _ => False) w2).alloc (.cells #[.string vk, .int .i64 vh, .int .i64 vv, .string vx] 86)
    have HP3 := Lib.hid (heap_alloc_last w2 (.cells #[.string vk, .int .i64 vh, .int .i64 vv, .string vx] 86))
    have HO3 := Lib.hid (HO2.out.trans hA3)
    have HV3 := Lib.hid (row_still hA3 HV2.out)
    have HZ3 := Lib.hid (row_still hA3 HZ2.out)
    have HM3 := Lib.hid (MbsAt.only hA3 HM2.out)
    have HG3 := Lib.hid (HG.out.glob.only HO3.out)
    clear hA3 HO2 HV2 HZ2 HM2
    have HSV' := Lib.hid HSV.out
    obtain ⟨sb, hsb⟩ : ∃ sb, sverB (mbAt l i.toNat).pb t R S = sb := ⟨_, rfl⟩
    have HCN2 := Lib.hid (show cb = sb by rw [HCN.out, decide_eq_true (by omega), hsb]; rfl)
    rw [hsb] at HSV
    clear hsb HSV' HCN
    rcases HM3.out with ⟨_, _, _, hx0⟩ | ⟨b1, o1, cp1, hv1, hb1, hc1, hd1, he1⟩
    · have := HLI.out; rw [hx0] at this; exact absurd this (Nat.not_lt_zero _)
    simp only [Value.slice.injEq, true_and] at hv1
    obtain ⟨rfl, rfl⟩ := hv1
    obtain ⟨_, _, m2⟩ := he1 i.toNat HLI.out
    have hli := HLI.out
    obtain ⟨n, rfl⟩ := Int.eq_ofNat_of_zero_le (show 0 ≤ i by omega)
    rw [Int.toNat_natCast] at m2 HSV hli
    generalize (mbAt l n).pb = pbv at *
    have v1 := cell_of_row _ _ 1 _ _ _ HV3.out
    have v2 := cell_of_row _ _ 2 _ _ _ HV3.out
    have v3 := cell_of_row _ _ 3 _ _ _ HV3.out
    clear he1
    go_upto_region 5 with fail
    generalize hw3 : w2.alloc (.cells #[.string vk, .int .i64 vh, .int .i64 vv, .string vx] 86) = w3 at *
    have y1 := fun (d : Nat) (os : Array Obj) => cell_regrown v1 d os
    have y2 := fun (d : Nat) (os : Array Obj) => cell_regrown v2 d os
    have y3 := fun (d : Nat) (os : Array Obj) => cell_regrown v3 d os
    have y4 := fun (d : Nat) (os : Array Obj) => cell_regrown m2 d os
    clear v1 v2 v3 m2 hw3
    cases ok
    · have e : r = false := by rw [hr]; rfl
      subst e
      clear hr
      refine wp_region_quiet_below (by kernel_rfl) (by kernel_rfl) ?_
      repeat (go_big_quiet_step ((go_at_call 74; with_reducible exact Calls.regrown_of ((HSV.out _ (Glob.grown HG3.out _ _)).mono fun _ _ h => ⟨h.1, h.2.below (Nat.le_refl _) (fun _ _ h => h)⟩))))
      refine wpQuiet_nil ?_
      intro w4 hw'
      obtain ⟨pq, hw''⟩ := hw'
      have hO4 := Only.ofBelow (below_regrown w3 pq.d pq.os) (fun _ => False)
      rw [← hw''] at hO4
      have HO4 := Lib.hid (HO3.out.trans hO4)
      have HZ4 := Lib.hid (row_still hO4 HZ3.out)
      have HP4 := Lib.hid (row_still hO4 HP3.out)
      clear hw'' hO4
      go_wp2_with (first | (refine wpList_store_row rfl 86 _ _ rfl (w.heap.size + 1) #[.string (⟨#[]⟩ : ByteArray), .int .i64 0, .int .i64 0, .string (⟨#[]⟩ : ByteArray)] rfl rfl 86 _ HZ4.out Tryz.infoBl rfl (bl_one4 _ _ _ _) ?_))
      all_goals (exact bodyPost_ret (v := .tuple #[.agg #[.string (⟨#[]⟩ : ByteArray), .int .i64 0, .int .i64 0, .string (⟨#[]⟩ : ByteArray)], .bool false]) (results_cell_tmpA (p := 4) (q := 5) rfl _ _ (w.heap.size + 1) 86 #[.string (⟨#[]⟩ : ByteArray), .int .i64 0, .int .i64 0, .string (⟨#[]⟩ : ByteArray)] (0, 0) _ rfl (setRow_heap _ _ _ _ _ _ HZ4.out) Tryz.underlying86 rfl Tryz.infoBl _ rfl) rfl ⟨rfl, HO4.out.setRow (Nat.le_succ _) _⟩)
    · rw [Bool.true_and, HCN2.out] at hr
      subst hr
      cases r
      · refine wp_region_quiet_below (by kernel_rfl) (by kernel_rfl) ?_
        repeat (go_big_quiet_step ((go_at_call 74; with_reducible exact Calls.regrown_of ((HSV.out _ (Glob.grown HG3.out _ _)).mono fun _ _ h => ⟨h.1, h.2.below (Nat.le_refl _) (fun _ _ h => h)⟩))))
        refine wpQuiet_nil ?_
        intro w4 hw'
        obtain ⟨pq, hw''⟩ := hw'
        have hO4 := Only.ofBelow (below_regrown w3 pq.d pq.os) (fun _ => False)
        rw [← hw''] at hO4
        have HO4 := Lib.hid (HO3.out.trans hO4)
        have HZ4 := Lib.hid (row_still hO4 HZ3.out)
        have HP4 := Lib.hid (row_still hO4 HP3.out)
        clear hw'' hO4
        go_wp2_with (first | (refine wpList_store_row rfl 86 _ _ rfl (w.heap.size + 1) #[.string (⟨#[]⟩ : ByteArray), .int .i64 0, .int .i64 0, .string (⟨#[]⟩ : ByteArray)] rfl rfl 86 _ HZ4.out Tryz.infoBl rfl (bl_one4 _ _ _ _) ?_))
        all_goals (exact bodyPost_ret (v := .tuple #[.agg #[.string (⟨#[]⟩ : ByteArray), .int .i64 0, .int .i64 0, .string (⟨#[]⟩ : ByteArray)], .bool false]) (results_cell_tmpA (p := 4) (q := 5) rfl _ _ (w.heap.size + 1) 86 #[.string (⟨#[]⟩ : ByteArray), .int .i64 0, .int .i64 0, .string (⟨#[]⟩ : ByteArray)] (0, 0) _ rfl (setRow_heap _ _ _ _ _ _ HZ4.out) Tryz.underlying86 rfl Tryz.infoBl _ rfl) rfl ⟨rfl, HO4.out.setRow (Nat.le_succ _) _⟩)
      · refine wp_region_quiet_below (by kernel_rfl) (by kernel_rfl) ?_
        repeat (go_big_quiet_step ((go_at_call 74; with_reducible exact Calls.regrown_of ((HSV.out _ (Glob.grown HG3.out _ _)).mono fun _ _ h => ⟨h.1, h.2.below (Nat.le_refl _) (fun _ _ h => h)⟩))))
        refine wpQuiet_nil ?_
        intro w4 hw'
        obtain ⟨pq, hw''⟩ := hw'
        have hO4 := Only.ofBelow (below_regrown w3 pq.d pq.os) (fun _ => False)
        rw [← hw''] at hO4
        have HO4 := Lib.hid (HO3.out.trans hO4)
        have HZ4 := Lib.hid (row_still hO4 HZ3.out)
        have HP4 := Lib.hid (row_still hO4 HP3.out)
        clear hw'' hO4
        go_wp2_with (first | (refine wpList_load_row rfl 86 _ rfl w2.heap.size rfl 86 #[.string vk, .int .i64 vh, .int .i64 vv, .string vx] (0, 0) _ HP4.out Tryz.underlying86 rfl Tryz.infoBl ?_) | (refine wpList_store_row rfl 86 _ _ rfl (w.heap.size + 1) #[.string vk, .int .i64 vh, .int .i64 vv, .string vx] rfl rfl 86 _ HZ4.out Tryz.infoBl rfl (bl_one4 _ _ _ _) ?_))
        all_goals (exact bodyPost_ret (v := .tuple #[.agg #[.string vk, .int .i64 vh, .int .i64 vv, .string vx], .bool true]) (results_cell_tmpA (p := 4) (q := 5) rfl _ _ (w.heap.size + 1) 86 #[.string vk, .int .i64 vh, .int .i64 vv, .string vx] (0, 0) _ rfl (setRow_heap _ _ _ _ _ _ HZ4.out) Tryz.underlying86 rfl Tryz.infoBl _ rfl) rfl ⟨rfl, HO4.out.setRow (Nat.le_succ _) _⟩)
end Go.Proofs.YtldkjkjpaiajlaaGreatDoor

namespace Go.Proofs.YtldkjkjpaiajlaaGreatDoor
open Go.RowKit

/-- The texts of votes that the laws meet. -/
inductive Tx where
  | bl (b : Bl)
  | odd
  | long
def Tx.t : Tx → ByteArray
  | .bl b => blB b
  | .odd => oddB
  | .long => longB
def Tx.rd : Tx → Option Bl
  | .bl b => some b
  | _ => none
def TxOk : Tx → Prop
  | .bl b => BlOk b
  | _ => True
def blOf (o : Option Bl) : Value := match o with | some b => blV b | none => blZero
theorem readb_tx (x : Tx) (h : TxOk x) (w : World) (hG : GlobA w) : Calls Tryz.prog 33 #[.string x.t] w fun e w' => e = .returned (.tuple #[blOf x.rd, .bool x.rd.isSome]) ∧ Only (fun _ => False) w w' := by
  cases x with
  | bl b => exact readb_bl b h w hG
  | odd => exact readb_oddB w hG
  | long => exact readb_longB w hG
theorem tx_size (x : Tx) (h : TxOk x) : x.t.size ≤ 40 := by
  cases x with
  | bl b => exact blv_len h
  | odd => decide
  | long => decide
/-- A vote: who, its text, its signature. -/
structure Vr where
  who : Int
  x : Tx
  R : Int
  S : Int
def vrC (v : Vr) : List Value := [.int .i64 v.who, .string v.x.t, .int .i64 v.R, .int .i64 v.S]
def vrAt (l : List Vr) (j : Nat) : Vr := l.getD j ⟨0, .odd, 0, 0⟩
structure VrOk (v : Vr) : Prop where
  x : TxOk v.x
  who : -9223372036854775808 ≤ v.who ∧ v.who ≤ 9223372036854775807
/-- Votes in a slice. -/
def VrsAt (W : World) (sv : Value) (l : List Vr) : Prop :=
  (∃ a c, sv = .slice a 0 c ∧ l = []) ∨ ∃ b off cap, sv = .slice (some ⟨b, off, none⟩) l.length cap ∧ b < W.heap.size ∧ l.length ≤ cap ∧ cap ≤ 9223372036854775807 ∧
    ∀ j, j < l.length → W.cell? ⟨b, off + j * 4, none⟩ = some (.int .i64 (vrAt l j).who) ∧ W.cell? ⟨b, off + j * 4 + 1, none⟩ = some (.string (vrAt l j).x.t) ∧ W.cell? ⟨b, off + j * 4 + 2, none⟩ = some (.int .i64 (vrAt l j).R) ∧ W.cell? ⟨b, off + j * 4 + 3, none⟩ = some (.int .i64 (vrAt l j).S)
theorem VrsAt.only {A B : World} (h : Only (fun _ => False) A B) {sv : Value} {l : List Vr} : VrsAt A sv l → VrsAt B sv l
  | .inl e => .inl e
  | .inr ⟨b, off, cap, e, hb, h1, h2, hc⟩ => .inr ⟨b, off, cap, e, Nat.lt_of_lt_of_le hb h.size, h1, h2, fun j hj => by
      obtain ⟨c0, c1, c2, c3⟩ := hc j hj
      exact ⟨h.cell c0 id, h.cell c1 id, h.cell c2 id, h.cell c3 id⟩⟩
theorem VrsAt.slice {W : World} {sv : Value} {l : List Vr} (h : VrsAt W sv l) : ∃ a c, sv = .slice a l.length c := by
  rcases h with ⟨a, c, rfl, rfl⟩ | ⟨b, off, cap, rfl, _⟩
  · exact ⟨a, c, rfl⟩
  · exact ⟨_, _, rfl⟩
theorem VrsAt.cellAt {W : World} {a : Option Addr} {n c : Nat} {l : List Vr} (h : VrsAt W (.slice a n c) l) {j : Nat} (hj : j < l.length) : ∃ b off, a = some ⟨b, off, none⟩ ∧ l.length ≤ c ∧ c ≤ 9223372036854775807 ∧ W.cell? ⟨b, off + j * 4, none⟩ = some (.int .i64 (vrAt l j).who) ∧ W.cell? ⟨b, off + j * 4 + 1, none⟩ = some (.string (vrAt l j).x.t) ∧ W.cell? ⟨b, off + j * 4 + 2, none⟩ = some (.int .i64 (vrAt l j).R) ∧ W.cell? ⟨b, off + j * 4 + 3, none⟩ = some (.int .i64 (vrAt l j).S) := by
  rcases h with ⟨_, _, _, rfl⟩ | ⟨b, off, cap, hv, _, h1, h2, hc⟩
  · exact absurd hj (Nat.not_lt_zero _)
  · cases hv
    exact ⟨b, off, rfl, h1, h2, hc j hj⟩
theorem MbsAt.cellAt {W : World} {a : Option Addr} {n c : Nat} {l : List Mb} (h : MbsAt W (.slice a n c) l) {j : Nat} (hj : j < l.length) : ∃ b off, a = some ⟨b, off, none⟩ ∧ l.length ≤ c ∧ c ≤ 9223372036854775807 ∧ W.cell? ⟨b, off + j * 3, none⟩ = some (.int .i64 (mbAt l j).id) ∧ W.cell? ⟨b, off + j * 3 + 1, none⟩ = some (.int .i64 (mbAt l j).wt) ∧ W.cell? ⟨b, off + j * 3 + 2, none⟩ = some (.int .i64 (mbAt l j).pb) := by
  rcases h with ⟨_, _, _, rfl⟩ | ⟨b, off, cap, hv, _, h1, h2, hc⟩
  · exact absurd hj (Nat.not_lt_zero _)
  · cases hv
    exact ⟨b, off, rfl, h1, h2, hc j hj⟩
set_option maxHeartbeats 1000000 in
theorem totalOf_any (sv : Value) (l : List Mb) (w : World) (hM : MbsAt w sv l) (hr : rightB l = true) :
    Calls Tryz.prog 34 #[sv] w fun e w' => e = .returned (.int .i64 (totZ l)) ∧ Only (fun _ => False) w w' := by
  obtain ⟨l1, l2, hok, _⟩ := rightB_spec hr
  have hb := mbOk_wt l l.length hok
  have HB := Lib.hid hb
  have HE := Lib.hid (show sumTo l l.length = totZ l by unfold totZ; rw [if_pos hr])
  obtain ⟨a, c, rfl⟩ := mbs_slice hM
  have HM := Lib.hid hM
  have HST := Lib.hid (fun k => show sumTo l (k + 1) = sumTo l k + (mbAt l k).wt from rfl)
  clear hM hb hok hr
  go_enter Tryz.func34, Tryz.ntmps34
  go_wp2_with fail
  go_loopw [3, 8] (fun vs vi wr => ∃ k : Nat, k ≤ l.length ∧ vi = .int .i64 k ∧ vs = .int .i64 (sumTo l k) ∧ Only (fun _ => False) w wr) (fun _ vi _ => l.length - (intOf vi).toNat)
  case atStart => exact ⟨0, Nat.zero_le _, rfl, rfl, Only.refl _ _⟩
  case round =>
    obtain ⟨k, hk, rfl, rfl, hO⟩ := hrel
    have HO := Lib.hid hO
    by_cases hlt : k < l.length
    · obtain ⟨b, off, rfl, hc1, hc2, d0, d1, d2⟩ := (MbsAt.only hO HM.out).cellAt hlt
      obtain ⟨w0, w1⟩ := HB.out.1 k hlt
      obtain ⟨s0, s1⟩ := HB.out.2 k hk
      have HS := Lib.hid (HST.out k)
      generalize (mbAt l k).id = x0 at *
      generalize (mbAt l k).wt = x1 at *
      generalize (mbAt l k).pb = x2 at *
      generalize sumTo l k = sk at *
      have HO2 := Lib.hid (HO.out.alloc (.cells #[.int .i64 x0, .int .i64 x1, .int .i64 x2] 41))
      clear hO
      go_wp2
      go_roundw
      case rel => exact ⟨k + 1, by omega, by go_num, by rw [HS.out], HO2.out⟩
      case measure => simp [intOf]; omega
    · obtain rfl : k = l.length := by omega
      go_wp2
      go_ret
      exact ⟨by rw [← HE.out]; rfl, HO.out⟩
end Go.Proofs.YtldkjkjpaiajlaaGreatDoor

namespace Go.Proofs.YtldkjkjpaiajlaaGreatDoor
open Go.RowKit

/-- A vote of a decision is right. -/
def okV (l : List Mb) (H : Int) (val : ByteArray) (v : Vr) : Bool := match v.x.rd with
  | none => false
  | some b => cntB l v.who v.x.t v.R v.S && (b.kind == 2 && ((b.height : Int) == H && decide (oneB b.val = val)))
def vwV (v : Vr) : Nat := match v.x.rd with | some b => b.view | none => 0
def ckTo (l : List Mb) (H : Int) (val : ByteArray) (vs : List Vr) : Nat → Bool
  | 0 => true
  | k + 1 => ckTo l H val vs k && (okV l H val (vrAt vs k) && vwV (vrAt vs 0) == vwV (vrAt vs k))
/-- Is z among the first k who have voted? -/
def whoTo (vs : List Vr) : Nat → Int → Bool
  | 0, _ => false
  | k + 1, z => z == (vrAt vs k).who || whoTo vs k z
/-- The weight of the first k members who have voted. -/
def sumV (l : List Mb) (vs : List Vr) : Nat → Int
  | 0 => 0
  | k + 1 => sumV l vs k + if whoTo vs vs.length (mbAt l k).id then (mbAt l k).wt else 0
def ckB (l : List Mb) (H : Int) (val : ByteArray) (vs : List Vr) : Bool := rightB l && (ckTo l H val vs vs.length && decide (2 * totZ l < 3 * sumV l vs l.length))
theorem ckTo_false (l : List Mb) (H : Int) (val : ByteArray) (vs : List Vr) : ∀ (k j : Nat), j ≤ k → ckTo l H val vs j = false → ckTo l H val vs k = false := by
  intro k
  induction k with
  | zero => intro j hj h; rw [show j = 0 by omega] at h; exact h
  | succ k ih =>
    intro j hj h
    by_cases e : j = k + 1
    · rw [← e]; exact h
    · rw [ckTo, ih j (by omega) h]; rfl
theorem sumV_bd {l : List Mb} (vs : List Vr) (h : mbOk l l.length = true) : ∀ k, k ≤ l.length → 0 ≤ sumV l vs k ∧ sumV l vs k ≤ sumTo l k := by
  intro k
  induction k with
  | zero => intro _; exact ⟨Int.le_refl _, Int.le_refl _⟩
  | succ k ih =>
    intro hk
    have h1 := ih (by omega)
    have h2 := (mbOk_wt l l.length h).1 k (by omega)
    rw [sumV, sumTo]
    split <;> omega
/-- What counts, of a vote. -/
def cnT (l : List Mb) (v : Vr) : Option Bl := match v.x.rd with | some b => if cntB l v.who v.x.t v.R v.S then some b else none | none => none
theorem okV_eq (l : List Mb) (H : Int) (val : ByteArray) (v : Vr) : okV l H val v = match cnT l v with | none => false | some b => b.kind == 2 && ((b.height : Int) == H && decide (oneB b.val = val)) := by
  unfold okV cnT
  cases v.x.rd with
  | none => rfl
  | some b => cases cntB l v.who v.x.t v.R v.S <;> rfl
theorem cnT_rd {l : List Mb} {v : Vr} {b : Bl} (h : cnT l v = some b) : v.x.rd = some b := by
  unfold cnT at h
  cases hr : v.x.rd with
  | none => rw [hr] at h; cases h
  | some c =>
    rw [hr] at h
    dsimp only at h
    split at h
    · exact h
    · cases h
theorem rd_ok {v : Vr} (h : VrOk v) {b : Bl} (hb : v.x.rd = some b) : BlOk b := by
  have := h.x
  cases hx : v.x with
  | bl c => rw [hx] at this hb; cases hb; exact this
  | odd => rw [hx] at hb; cases hb
  | long => rw [hx] at hb; cases hb
theorem counted_tx (sv : Value) (l : List Mb) (v : Vr) (w : World) (hM : MbsAt w sv l) (hl : l.length ≤ 1000000) (hv : VrOk v) (hG : GlobA w) :
    Calls Tryz.prog 32 #[sv, .agg #[.int .i64 v.who, .string v.x.t, .int .i64 v.R, .int .i64 v.S]] w fun e w' => e = .returned (.tuple #[blOf (cnT l v), .bool (cnT l v).isSome]) ∧ Only (fun _ => False) w w' := by
  have hs := tx_size v.x hv.x
  cases hr : v.x.rd with
  | none =>
    refine (counted_any sv l v.who v.R v.S v.x.t false false ⟨#[]⟩ ⟨#[]⟩ 0 0 w hM hl (by omega) (fun w hG => ?_) rfl hG).mono fun e w' h => ⟨?_, h.2⟩
    · have := readb_tx v.x hv.x w hG
      rw [hr] at this
      exact this
    · rw [show cnT l v = none by unfold cnT; rw [hr]]
      exact h.1
  | some b =>
    refine (counted_any sv l v.who v.R v.S v.x.t true (cntB l v.who v.x.t v.R v.S) (kindB b.kind) (oneB b.val) b.height b.view w hM hl (by omega) (fun w hG => ?_) rfl hG).mono fun e w' h => ⟨?_, h.2⟩
    · have := readb_tx v.x hv.x w hG
      rw [hr] at this
      exact this
    · rw [show cnT l v = if cntB l v.who v.x.t v.R v.S then some b else none by unfold cnT; rw [hr]]
      rw [h.1]
      cases cntB l v.who v.x.t v.R v.S <;> rfl
theorem ckTo_first {l : List Mb} {H : Int} {val : ByteArray} {vs : List Vr} : ∀ {k : Nat}, 0 < k → ckTo l H val vs k = true → okV l H val (vrAt vs 0) = true
  | 1, _, h => by
    rw [ckTo] at h
    simp only [Bool.and_eq_true] at h
    exact h.2.1
  | k + 2, _, h => by
    rw [ckTo, Bool.and_eq_true] at h
    exact ckTo_first (k := k + 1) (by omega) h.1
theorem vrAt_mem {vs : List Vr} {k : Nat} (h : k < vs.length) : vrAt vs k ∈ vs := by
  unfold vrAt
  rw [List.getD_eq_getElem?_getD, List.getElem?_eq_getElem h]
  exact List.getElem_mem h
theorem toList_lit {K : ByteArray} {a : Array UInt8} (h : K ≠ ⟨a⟩) : ¬ K.toList = a.toList := fun e => h (by
  rw [Lib.toList_data] at e
  exact ByteArray.ext (Array.toList_inj.1 e))
set_option maxHeartbeats 4000000 in
set_option maxRecDepth 100000 in
theorem check_any (sv dv : Value) (l : List Mb) (H : Int) (val : ByteArray) (vs : List Vr) (bb : Bool) (w : World) (hw : MbsW l) (hM : MbsAt w sv l) (hV : VrsAt w dv vs) (hl : l.length ≤ 1000000) (hvl : vs.length ≤ 1000) (hok : ∀ v ∈ vs, VrOk v)
    (hb : ckB l H val vs = bb) (hG : GlobA w) :
    Calls Tryz.prog 10 #[sv, .agg #[.int .i64 H, .string val, dv]] w fun e w' => e = .returned (.bool bb) ∧ Only (fun _ => False) w w' := by
  have hmm := @run_makeMap Tryz.prog
  obtain ⟨a1, c1, rfl⟩ := hV.slice
  obtain ⟨a2, c2, rfl⟩ := mbs_slice hM
  have hA := (Only.refl (fun _ => False) w).alloc (.cells #[.int .i64 H, .string val, .slice a1 vs.length c1] 31)
  have HA := Lib.hid hA
  have HD := Lib.hid (heap_alloc_last w (.cells #[.int .i64 H, .string val, .slice a1 vs.length c1] 31))
  have HM := Lib.hid hM
  have HV := Lib.hid hV
  have HG := Lib.hid hG
  have HP := Lib.hid (points_any _ l _ hw (MbsAt.only hA hM))
  have HOK := Lib.hid hok
  have HBB := Lib.hid hb
  clear hA hM hV hG hok hb
  go_enter Tryz.func10, Tryz.ntmps10
  go_wp2_with fail
  refine HP.out.mono ?_
  rintro e w1 ⟨hO, h⟩
  have HO1 := Lib.hid (HA.out.trans hO)
  have HD1 := Lib.hid (row_still hO HD.out)
  clear hO HP HD HA
  rcases h with ⟨hr, v, rfl, _⟩ | ⟨hr, rfl⟩
  rotate_left
  · have e : bb = false := by rw [← HBB.out]; unfold ckB; rw [hr]; rfl
    subst e
    go_wp2
    go_ret
    exact ⟨rfl, HO1.out⟩
  have HR := Lib.hid hr
  have HCK := Lib.hid (show bb = (ckTo l H val vs vs.length && decide (2 * totZ l < 3 * sumV l vs l.length)) by rw [← HBB.out]; unfold ckB; rw [hr]; rfl)
  clear hr HBB
  have y2 : _ = some (Value.slice a1 vs.length c1) := cell_of_row _ _ 2 _ _ _ HD1.out
  have hsz1 : w.heap.size < w1.heap.size := (Array.getElem?_eq_some_iff.1 HD1.out).1
  go_wp2_with fail
  have HS0 := Lib.hid (set_new (w1.alloc (.map #[] 0)) w1.heap.size (heap_alloc_new w1 _))
  have HO2 := Lib.hid ((Only.refl (fun _ => False) w1).alloc (.map #[] 0))
  clear hmm y2
  go_loopw [28] (fun vi wr => ∃ k : Nat, k ≤ vs.length ∧ vi = .int .i64 k ∧ ckTo l H val vs k = true ∧ SetAt wr w1.heap.size k (whoTo vs k) ∧ Only (fun _ => False) w1 wr) (fun vi _ => vs.length - (intOf vi).toNat)
  case atStart => exact ⟨0, Nat.zero_le _, rfl, rfl, HS0.out, HO2.out⟩
  case round =>
    clear HS0 HO2
    obtain ⟨k, hk, rfl, hck, hS, hO⟩ := hrel
    have HC := Lib.hid hck
    have HS := Lib.hid hS
    have HO := Lib.hid hO
    have hsz := hO.size
    clear hck hS hO
    by_cases hlt : k < vs.length
    · obtain ⟨b, off, rfl, hc1, hc2, d0, d1, d2, d3⟩ := (VrsAt.only (HO1.out.trans HO.out) HV.out).cellAt hlt
      have y0 : _ = some (Value.int .i64 H) := cell_of_row _ _ 0 _ _ _ (row_still HO.out HD1.out)
      have y1 : _ = some (Value.string val) := cell_of_row _ _ 1 _ _ _ (row_still HO.out HD1.out)
      have y2 : _ = some (Value.slice (some ⟨b, off, none⟩) vs.length c1) := cell_of_row _ _ 2 _ _ _ (row_still HO.out HD1.out)
      have HVK := Lib.hid (HOK.out _ (vrAt_mem hlt))
      have HK0 := Lib.hid (show 0 < vs.length by omega)
      have HAV := Lib.hid ((Only.refl (fun _ => False) wr).alloc (.cells #[.int .i64 (vrAt vs k).who, .string (vrAt vs k).x.t, .int .i64 (vrAt vs k).R, .int .i64 (vrAt vs k).S] 35))
      have HVB := Lib.hid (heap_alloc_last wr (.cells #[.int .i64 (vrAt vs k).who, .string (vrAt vs k).x.t, .int .i64 (vrAt vs k).R, .int .i64 (vrAt vs k).S] 35))
      have HCT := Lib.hid (counted_tx _ l (vrAt vs k) _ (MbsAt.only (HO1.out.trans (HO.out.trans HAV.out)) HM.out) hl HVK.out (HG.out.only (HO1.out.trans (HO.out.trans HAV.out))))
      have HST := Lib.hid (show ckTo l H val vs (k + 1) = (ckTo l H val vs k && (okV l H val (vrAt vs k) && vwV (vrAt vs 0) == vwV (vrAt vs k))) from rfl)
      have HOV := Lib.hid (okV_eq l H val (vrAt vs k))
      have HNO := Lib.hid (fun h : ckTo l H val vs (k + 1) = false => show bb = false by rw [HCK.out, ckTo_false l H val vs vs.length (k + 1) (by omega) h]; rfl)
      cases hc : cnT l (vrAt vs k) with
      | none =>
        have e : bb = false := HNO.out (by rw [HST.out, HOV.out, hc]; simp)
        subst e
        rw [hc] at HCT
        go_wp2_with fail
        refine HCT.out.mono ?_
        rintro e w3 ⟨rfl, hO⟩
        have HO3 := Lib.hid (HO1.out.trans (HO.out.trans (HAV.out.trans hO)))
        clear hO
        unfold blOf blZero
        go_wp2
        go_ret
        exact ⟨rfl, HO3.out.alloc _⟩
      | some b0 =>
        have HRD := Lib.hid (cnT_rd hc)
        have HBO := Lib.hid (rd_ok HVK.out HRD.out)
        rw [hc] at HCT HOV
        have HOV2 := Lib.hid (show okV l H val (vrAt vs k) = (b0.kind == 2 && ((b0.height : Int) == H && decide (oneB b0.val = val))) from HOV.out)
        unfold blOf blV blC at HCT
        go_wp2_with fail
        refine HCT.out.mono ?_
        rintro e w3 ⟨rfl, hO⟩
        have HO3 := Lib.hid (HO.out.trans (HAV.out.trans hO))
        have HS3 := Lib.hid (HS.out.frame (HAV.out.trans hO) (fun h => h))
        have hVB := row_still hO HVB.out
        have hs3 := hO.size
        have hs4 : w.heap.size < w3.heap.size := by have := HO3.out.size; omega
        have hs5 : wr.heap.size < w3.heap.size := (Array.getElem?_eq_some_iff.1 hVB).1
        have z0 := HO3.out.cell (cell_of_row _ _ 0 _ _ _ HD1.out) id
        have z1 := HO3.out.cell (cell_of_row _ _ 1 _ _ _ HD1.out) id
        have z2 := HO3.out.cell (cell_of_row _ _ 2 _ _ _ HD1.out) id
        change _ = some (Value.int .i64 H) at z0
        change _ = some (Value.string val) at z1
        change _ = some (Value.slice (some ⟨b, off, none⟩) vs.length c1) at z2
        have u0 : _ = some (Value.int .i64 (vrAt vs k).who) := cell_of_row _ _ 0 _ _ _ hVB
        clear hO d0 d1 d2 d3 y0 y1 y2 HCT hVB
        by_cases k2 : b0.kind = 2
        rotate_left
        · have e : bb = false := HNO.out (by rw [HST.out, HOV2.out, beq_eq_false_iff_ne.2 k2]; simp)
          subst e
          have hne : kindB b0.kind ≠ (⟨#[99, 111, 109, 109, 105, 116]⟩ : ByteArray) := fun h => k2 (kindB_inj b0.kind HBO.out.kind 2 (by decide) (congrArg (fun b : ByteArray => b.data.toList) h))
          generalize kindB b0.kind = K at *
          have q4 : ¬ K.toList = [99, 111, 109, 109, 105, 116] := toList_lit hne
          go_wp2
          go_ret
          exact ⟨rfl, HO1.out.trans (HO3.out.alloc _)⟩
        have hK : kindB b0.kind = (⟨#[99, 111, 109, 109, 105, 116]⟩ : ByteArray) := by rw [k2]; rfl
        rw [hK]
        by_cases hh : (b0.height : Int) = H
        rotate_left
        · have e : bb = false := HNO.out (by rw [HST.out, HOV2.out, beq_eq_false_iff_ne.2 hh]; simp)
          subst e
          generalize (b0.height : Int) = hb at *
          go_wp2
          go_ret
          exact ⟨rfl, HO1.out.trans (HO3.out.alloc _)⟩
        by_cases hv : oneB b0.val = val
        rotate_left
        · have e : bb = false := HNO.out (by rw [HST.out, HOV2.out, decide_eq_false hv]; simp)
          subst e
          generalize oneB b0.val = X at *
          have q1 := toList_ne_of hv
          have q2 : (X.toList == val.toList) = false := by
            rw [Bool.eq_false_iff]
            exact fun e => by rw [bne, e] at q1; cases q1
          have q3 : ¬ X.toList = val.toList := fun e => by rw [e] at q1; simp at q1
          rw [hh]
          go_wp2
          go_ret
          exact ⟨rfl, HO1.out.trans (HO3.out.alloc _)⟩
        rw [hh, hv]
        have HOK2 := Lib.hid (show okV l H val (vrAt vs k) = true by rw [HOV2.out, k2, beq_iff_eq.2 hh, decide_eq_true hv]; rfl)
        obtain ⟨f0, hf0⟩ : ∃ f0, (vrAt vs 0).x.rd = some f0 := by
          rcases Nat.eq_zero_or_pos k with h0 | h0
          · subst h0; exact ⟨b0, HRD.out⟩
          · have h1 := ckTo_first h0 HC.out
            rw [okV_eq] at h1
            cases hc0 : cnT l (vrAt vs 0) with
            | none => rw [hc0] at h1; cases h1
            | some f => exact ⟨f, cnT_rd hc0⟩
        have HVW := Lib.hid (show vwV (vrAt vs 0) = f0.view by unfold vwV; rw [hf0])
        have HVW2 := Lib.hid (show vwV (vrAt vs k) = b0.view by unfold vwV; rw [HRD.out])
        have HF0 := Lib.hid hf0
        have HB4 := Lib.hid ((Only.refl (fun _ => False) w3).alloc (.cells #[.string (⟨#[99, 111, 109, 109, 105, 116]⟩ : ByteArray), .int .i64 H, .int .i64 b0.view, .string val] 86))
        have HZ4 := Lib.hid (heap_alloc_last w3 (.cells #[.string (⟨#[99, 111, 109, 109, 105, 116]⟩ : ByteArray), .int .i64 H, .int .i64 b0.view, .string val] 86))
        have HTX := Lib.hid (readb_tx (vrAt vs 0).x (HOK.out _ (vrAt_mem HK0.out)).x _ (HG.out.only (HO1.out.trans (HO3.out.trans HB4.out))))
        rw [hf0] at HTX
        unfold blOf blV blC at HTX
        obtain ⟨b', off', hbo, _, _, _, d01, _, _⟩ := (VrsAt.only (HO1.out.trans HO3.out) HV.out).cellAt HK0.out
        cases hbo
        rw [Nat.zero_mul, Nat.add_zero] at d01
        have hbl : b < w3.heap.size := World.block_lt_of_cell? _ _ d01
        have hn0 : (0 : Nat) < vs.length := HK0.out
        clear hf0 hc
        go_wp2_with fail
        refine HTX.out.mono ?_
        rintro e w5 ⟨rfl, hO⟩
        have HO5 := Lib.hid (HB4.out.trans hO)
        have hZ5 := row_still hO HZ4.out
        have e2 : _ = some (Value.int .i64 b0.view) := cell_of_row _ _ 2 _ _ _ hZ5
        have hs6 : w3.heap.size < w5.heap.size := (Array.getElem?_eq_some_iff.1 hZ5).1
        have u1 := HO5.out.cell u0 id
        have hs7 : wr.heap.size < w5.heap.size := by omega
        have hwb := HVK.out.who
        clear hO hZ5 HTX HZ4 HB4 d01 z0 z1 z2 u0
        by_cases hvw : f0.view = b0.view
        · have HCN := Lib.hid (show ckTo l H val vs (k + 1) = true by rw [HST.out, HC.out, HOK2.out, HVW.out, HVW2.out, hvw]; simp)
          have hvi : (f0.view : Int) = b0.view := by rw [hvw]
          clear hvw
          generalize (f0.view : Int) = fv at *
          generalize (b0.view : Int) = bv at *
          subst hvi
          have HWS := Lib.hid (fun z => show whoTo vs (k + 1) z = (z == (vrAt vs k).who || whoTo vs k z) from rfl)
          have HOA := Lib.hid ((HO3.out.trans HO5.out).alloc (.cells #[.string (kindB f0.kind), .int .i64 f0.height, .int .i64 fv, .string (oneB f0.val)] 86))
          have hS6 : SetAt (w5.alloc (.cells #[.string (kindB f0.kind), .int .i64 f0.height, .int .i64 fv, .string (oneB f0.val)] 86)) w1.heap.size k (whoTo vs k) := HS3.out.frame ((HO5.out).alloc _) (fun h => h)
          obtain ⟨wn, hrun, hS7, hO7⟩ := hS6.add (by unfold maxLen; omega) (vrAt vs k).who (WalkArith.wf_i64 (by omega))
          have HS7 := Lib.hid hS7
          have HO7 := Lib.hid (HOA.out.trans' hO7 (fun i hi e => by omega))
          generalize (vrAt vs k).who = who at *
          generalize kindB f0.kind = K0 at *
          generalize oneB f0.val = X0 at *
          clear hS6 hS7 hO7 HOA
          go_wp2
          all_goals exact ⟨⟨k + 1, by omega, by go_num, HCN.out, by
            have e : (fun z => z == who || whoTo vs k z) = whoTo vs (k + 1) := by funext z; rw [HWS.out]
            rw [← e]; exact HS7.out, HO7.out⟩, by simp [intOf]; omega⟩
        · have hk0 : 0 < k := by
            rcases Nat.eq_zero_or_pos k with h | h
            · subst h
              have := HF0.out.symm.trans HRD.out
              cases this
              exact absurd rfl hvw
            · exact h
          have e : bb = false := HNO.out (by rw [HST.out, HVW.out, HVW2.out, beq_eq_false_iff_ne.2 hvw]; simp)
          subst e
          have i1 : (0 : Int) < k := by omega
          have i2 : ¬ (f0.view : Int) = b0.view := by omega
          have HO6 := Lib.hid (HO1.out.trans ((HO3.out.trans HO5.out).alloc (.cells #[.string (kindB f0.kind), .int .i64 f0.height, .int .i64 f0.view, .string (oneB f0.val)] 86)))
          generalize kindB f0.kind = K0 at *
          generalize oneB f0.val = X0 at *
          generalize (f0.view : Int) = fv at *
          generalize (b0.view : Int) = bv at *
          go_wp2
          go_ret
          exact ⟨rfl, HO6.out⟩
    · obtain rfl : k = vs.length := by omega
      have HCK2 := Lib.hid (show bb = decide (2 * totZ l < 3 * sumV l vs l.length) by rw [HCK.out, HC.out]; rfl)
      have HBD := Lib.hid (sumV_bd (l := l) vs (rightB_spec HR.out).2.2.1)
      have HWT := Lib.hid (mbOk_wt l l.length (rightB_spec HR.out).2.2.1)
      have HTZ := Lib.hid (totZ_pos HR.out)
      have HTS := Lib.hid (show totZ l = sumTo l l.length by unfold totZ; rw [if_pos HR.out])
      have HSS := Lib.hid (fun j => show sumV l vs (j + 1) = sumV l vs j + if whoTo vs vs.length (mbAt l j).id then (mbAt l j).wt else 0 from rfl)
      clear HCK HC hlt hk
      go_wp2_with fail
      go_loopw [14, 88] (fun vs' vi wq => ∃ j : Nat, j ≤ l.length ∧ vi = .int .i64 j ∧ vs' = .int .i64 (sumV l vs j) ∧ Only (fun _ => False) wr wq) (fun _ vi _ => l.length - (intOf vi).toNat)
      case atStart => exact ⟨0, Nat.zero_le _, rfl, rfl, Only.refl _ _⟩
      case round =>
        obtain ⟨j, hj, rfl, rfl, hO⟩ := hrel
        have HOQ := Lib.hid hO
        by_cases hjl : j < l.length
        · obtain ⟨b, off, rfl, hc1, hc2, d0, d1, d2⟩ := (MbsAt.only (HO1.out.trans (HO.out.trans hO)) HM.out).cellAt hjl
          obtain ⟨t0, t1⟩ := HWT.out.1 j hjl
          obtain ⟨b0, b1⟩ := HBD.out j (by omega)
          have hs60 := (HWT.out.2 j (by omega)).2
          have hid := hw.wf j
          have HSJ := Lib.hid (HSS.out j)
          have hS8 := HS.out.frame (hO.alloc (.cells #[.int .i64 (mbAt l j).id, .int .i64 (mbAt l j).wt, .int .i64 (mbAt l j).pb] 41)) (fun h => h)
          have hl8 := hS8.look (mbAt l j).id (WalkArith.wf_i64 hid.1)
          have HOQ2 := Lib.hid (hO.alloc (.cells #[.int .i64 (mbAt l j).id, .int .i64 (mbAt l j).wt, .int .i64 (mbAt l j).pb] 41))
          have hjb : (sumTo l j) ≤ 20 * j := hs60
          obtain ⟨_, l13, _⟩ := rightB_spec HR.out
          have hs61 : sumTo l j ≤ 260 := by omega
          generalize (mbAt l j).id = x0 at *
          generalize (mbAt l j).wt = x1 at *
          generalize (mbAt l j).pb = x2 at *
          generalize sumV l vs j = sj at *
          clear hO hS8 hid
          cases hwt : whoTo vs vs.length x0
          · rw [hwt] at hl8 HSJ
            have HSJ2 := Lib.hid (show sumV l vs (j + 1) = sj by rw [HSJ.out]; simp)
            go_wp2
            case roundEnd => exact ⟨⟨j + 1, by omega, by go_num, by rw [HSJ2.out], HOQ2.out⟩, by simp [intOf]; omega⟩
          · rw [hwt] at hl8 HSJ
            have HSJ2 := Lib.hid (show sumV l vs (j + 1) = sj + x1 by rw [HSJ.out]; simp)
            go_wp2
            case roundEnd => exact ⟨⟨j + 1, by omega, by go_num, by rw [HSJ2.out], HOQ2.out⟩, by simp [intOf]; omega⟩
        · obtain rfl : j = l.length := by omega
          obtain ⟨b0, b1⟩ := HBD.out l.length (Nat.le_refl _)
          have HTO := Lib.hid (totalOf_any _ l _ (MbsAt.only (HO1.out.trans (HO.out.trans hO)) HM.out) HR.out)
          have ht := HTZ.out
          have h60 : sumV l vs l.length ≤ 60 := by have := HTS.out; omega
          generalize sumV l vs l.length = sj at *
          generalize totZ l = tz at *
          clear hO
          go_wp2_with fail
          refine HTO.out.mono ?_
          rintro e wz ⟨rfl, hO⟩
          have HOZ := Lib.hid (HO1.out.trans (HO.out.trans (HOQ.out.trans hO)))
          clear hO
          go_wp2
          go_ret
          exact ⟨by rw [HCK2.out]; rfl, HOZ.out⟩
end Go.Proofs.YtldkjkjpaiajlaaGreatDoor

namespace Go.Proofs.YtldkjkjpaiajlaaGreatDoor
open Go.RowKit

set_option maxHeartbeats 1000000 in
theorem rdec11_any (n : Nat) (w : World) (hn : n < 9223372036854775808) :
    Calls Tryz.prog 28 #[.int .i64 n] w fun e w' => e = .returned (.string (decB n)) ∧ Only (fun _ => False) w w' := by
  have H1 := Lib.hid (rof_any n w hn)
  have H2 := Lib.hid (fun w => rtext1_any n w hn)
  have i0 : (0 : Int) ≤ n := by omega
  generalize natB n = bn at *
  generalize (n : Int) = z at *
  go_enter Tryz.func28, Tryz.ntmps28
  go_wp2_with fail
  refine H1.out.mono ?_
  rintro e w1 ⟨rfl, hO1⟩
  have HO1 := Lib.hid hO1
  clear hO1 H1
  go_wp2_with fail
  refine (H2.out _).mono ?_
  rintro e w2 ⟨rfl, hO2⟩
  have HO2 := Lib.hid (HO1.out.trans hO2)
  clear hO2
  go_wp2
  go_ret
  exact ⟨rfl, HO2.out⟩
theorem hexD_cut (n : Nat) (h : n < 16) : (⟨#[48, 49, 50, 51, 52, 53, 54, 55, 56, 57, 97, 98, 99, 100, 101, 102]⟩ : ByteArray).extract n (n + 1) = ⟨#[hexD n]⟩ := by
  have : ∀ n : Fin 16, ((⟨#[48, 49, 50, 51, 52, 53, 54, 55, 56, 57, 97, 98, 99, 100, 101, 102]⟩ : ByteArray).extract n.1 (n.1 + 1)).data.toList = [hexD n.1] := by decide +kernel
  exact ByteArray.ext (Array.toList_inj.1 (this ⟨n, h⟩))
theorem hex2_cat (a b : Nat) : (⟨#[]⟩ : ByteArray) ++ (⟨#[hexD a]⟩ : ByteArray) ++ ⟨#[hexD b]⟩ = hex2 a b := rfl
set_option maxHeartbeats 4000000 in
set_option maxRecDepth 100000 in
theorem rhex_one (n : Nat) (h : n < 256) (w : World) :
    Calls Tryz.prog 30 #[.string (oneB n)] w fun e w' => e = .returned (.string (hex9B (oneB n))) ∧ Only (fun _ => False) w w' := by
  rw [hex2_one n h]
  have hsz : (oneB n).size = 1 := rfl
  have hx : (oneB n)[0] = UInt8.ofNat n := rfl
  have hxn : (UInt8.ofNat n).toNat = n := by simp; omega
  have c1 := hexD_cut (n / 16) (by omega)
  have c2 := hexD_cut (n % 16) (by omega)
  have HC := Lib.hid (hex2_cat (n / 16) (n % 16))
  generalize hex2 (n / 16) (n % 16) = H2 at *
  go_enter Tryz.func30, Tryz.ntmps30
  go_wp2_with fail
  go_loopw [4, 5] (fun vo vi wr => ((vi = .int .i64 0 ∧ vo = .string ⟨#[]⟩) ∨ (vi = .int .i64 1 ∧ vo = .string H2)) ∧ Only (fun _ => False) w wr) (fun _ vi _ => 1 - (intOf vi).toNat)
  case atStart => exact ⟨.inl ⟨rfl, rfl⟩, Only.refl _ _⟩
  case round =>
    obtain ⟨h | h, hO⟩ := hrel
    · obtain ⟨rfl, rfl⟩ := h
      have HO := Lib.hid hO
      have j1 : (n : Int) / 16 < 16 := by omega
      have j2 : 0 ≤ (n : Int) / 16 := by omega
      have j3 : (n : Int) % 16 < 16 := by omega
      have j4 : 0 ≤ (n : Int) % 16 := by omega
      go_upto_region 6 with fail
      refine wp_region_quiet_below (by kernel_rfl) (by kernel_rfl) ?_
      repeat (go_big_quiet_step (fail))
      refine wpQuiet_nil ?_
      intro w2 hw'
      obtain ⟨pq, hw''⟩ := hw'
      have HO2 := Lib.hid (HO.out.trans (Only.ofBelow (below_regrown wr pq.d pq.os) (fun _ => False)))
      rw [← hw''] at HO2
      clear hw'' HO hO
      rw [HC.out]
      go_wp2
      case roundEnd => exact ⟨⟨.inr ⟨by go_num, rfl⟩, HO2.out⟩, by simp [intOf]⟩
    · obtain ⟨rfl, rfl⟩ := h
      have HO := Lib.hid hO
      clear hO
      go_wp2
      go_ret
      exact ⟨rfl, HO.out⟩
/-- The reference's text of a vote. -/
theorem rtext29_any (b : Bl) (h : BlOk b) (w : World) :
    Calls Tryz.prog 9 #[.string (kindB b.kind), .int .i64 b.height, .int .i64 b.view, .string (oneB b.val)] w fun e w' => e = .returned (.string (blB b)) ∧ Only (fun _ => False) w w' := by
  have H1 := Lib.hid (fun w => rdec11_any b.height w (by have := h.height; omega))
  have H2 := Lib.hid (fun w => rdec11_any b.view w (by have := h.view; omega))
  have H3 := Lib.hid (fun w => rhex_one b.val h.val w)
  have HC := Lib.hid (blB_cat b)
  have k1 : (decB b.height).size ≤ 21 := decB_size (n := b.height) (by have := h.height; omega)
  have k2 : (decB b.view).size ≤ 21 := decB_size (n := b.view) (by have := h.view; omega)
  have k0 : (kindB b.kind).size ≤ 7 := by
    have : ∀ k, k < 3 → (kindB k).size ≤ 7 := by decide
    exact this _ h.kind
  have s1 : (kindB b.kind ++ (⟨#[32]⟩ : ByteArray)).size ≤ 8 := by rw [ByteArray.size_append]; show _ + 1 ≤ _; omega
  have s2 : (kindB b.kind ++ (⟨#[32]⟩ : ByteArray) ++ decB b.height).size ≤ 29 := by rw [ByteArray.size_append]; omega
  have s3 : (kindB b.kind ++ (⟨#[32]⟩ : ByteArray) ++ decB b.height ++ (⟨#[32]⟩ : ByteArray)).size ≤ 30 := by rw [ByteArray.size_append]; show _ + 1 ≤ _; omega
  have s4 : (kindB b.kind ++ (⟨#[32]⟩ : ByteArray) ++ decB b.height ++ (⟨#[32]⟩ : ByteArray) ++ decB b.view).size ≤ 51 := by rw [ByteArray.size_append]; omega
  have s5 : (kindB b.kind ++ (⟨#[32]⟩ : ByteArray) ++ decB b.height ++ (⟨#[32]⟩ : ByteArray) ++ decB b.view ++ (⟨#[32]⟩ : ByteArray)).size ≤ 52 := by rw [ByteArray.size_append]; show _ + 1 ≤ _; omega
  have k3 : (hex9B (oneB b.val)).size ≤ 2 := by
    show (hexL (oneB b.val).data.toList).toArray.size ≤ 2
    rw [List.size_toArray, hexL_len]
    exact Nat.le_refl _
  generalize kindB b.kind = kk at *
  generalize oneB b.val = xx at *
  generalize decB b.height = d1 at *
  generalize decB b.view = d2 at *
  generalize hex9B xx = d3 at *
  generalize (b.height : Int) = hh at *
  generalize (b.view : Int) = vv at *
  clear h
  go_enter Tryz.func9, Tryz.ntmps9
  go_wp2_with fail
  refine (H1.out _).mono ?_
  rintro e w1 ⟨rfl, hO⟩
  have HO1 := Lib.hid hO
  clear hO H1
  go_wp2_with fail
  refine (H2.out _).mono ?_
  rintro e w2 ⟨rfl, hO⟩
  have HO2 := Lib.hid (HO1.out.trans hO)
  clear hO H2 HO1
  go_wp2_with fail
  refine (H3.out _).mono ?_
  rintro e w3 ⟨rfl, hO⟩
  have HO3 := Lib.hid (HO2.out.trans hO)
  clear hO H3 HO2
  go_wp2
  go_ret
  exact ⟨by rw [HC.out]; rfl, HO3.out⟩
end Go.Proofs.YtldkjkjpaiajlaaGreatDoor

namespace Go.Proofs.YtldkjkjpaiajlaaGreatDoor
open Go.RowKit

theorem byTo_len8 (n : Int) : byTo n 8 = lenL n := rfl
set_option maxRecDepth 100000 in
set_option maxHeartbeats 1000000 in
theorem rbytes5_any (n : Int) (w : World) (h0 : 0 ≤ n) (_h1 : n ≤ 9223372036854775807) :
    Calls Tryz.prog 70 #[.int .i64 n] w fun e w' => e = .returned (.string (bytes8 n)) ∧ Only (fun _ => False) w w' := by
  obtain ⟨i0, hi0, hz0, hz1, hz2⟩ := info_parts Tryz.infoB
  have HR := Lib.hid (lenL_byte8 n h0)
  go_enter Tryz.func70, Tryz.ntmps70
  go_wp2_with fail
  go_loopw [3, 4] (fun vb vi wr => ∃ j : Nat, j ≤ 8 ∧ vi = .int .i64 (7 - (j : Int)) ∧ wr.ownsRow w.heap.size 5 1 vb j (brow (byTo n j)) ∧ Only (fun _ => False) w wr) (fun _ vi _ => (intOf vi + 1).toNat)
  case atStart => exact ⟨0, by omega, rfl, World.ownsRow_nil _ _ _ _, Only.refl _ _⟩
  case round =>
    obtain ⟨j, hj, rfl, hown, hO⟩ := hrel
    have HO := Lib.hid hO
    have hsz := hO.size
    by_cases hlt : j < 8
    · have i1 : 0 ≤ 7 - (j : Int) := by omega
      have i2 : 8 * (7 - (j : Int)) ≤ 56 := by omega
      have i3 : 0 ≤ 8 * (7 - (j : Int)) := by omega
      have i4 : (8 * (7 - (j : Int))).toNat = 56 - 8 * j := by omega
      have HW := Lib.hid hown
      have hown2 := hown.alloc (.cells #[.int .u8 (n / 2 ^ (56 - 8 * j) % 256)] 5)
      obtain ⟨av, cv, rfl⟩ := slice_of_own hown
      have HBY := Lib.hid (show byTo n (j + 1) = byTo n j ++ [n / 2 ^ (56 - 8 * j) % 256] from rfl)
      clear hO hown
      go_wp2_with (at_builtin; refine wpList_append_lies _ rfl _ _ 22 rfl w.heap.size 5 i0 _ 1 1 Tryz.underlying22 hi0 hz0 hz1 hz2 rfl (by decide) _ j (brow (byTo n j)) rfl hown2 ⟨wr.heap.size, 0, none⟩ 1 1 [.int .u8 (n / 2 ^ (56 - 8 * j) % 256)] rfl rfl (cell_one_new _ _ _) (one_u8 _) (by decide) ?c1 ?c2 ?c3 _ rfl ?_)
      case c1 => unfold maxLen; omega
      case c2 => omega
      case c3 => first | omega | (simp; omega)
      intro g1 cp1 w1 ho1 hg1 ha1 hgl1
      have HO1 := Lib.hid ((HO.out.alloc (.cells #[.int .u8 (n / 2 ^ (56 - 8 * j) % 256)] 5)).grow hown2 (Nat.le_refl _) hg1)
      have HOW := Lib.hid ho1
      clear ho1 hg1 ha1 hown2
      go_wp2
      go_roundw
      case rel => exact ⟨j + 1, by omega, by congr 1; omega, by rw [HBY.out, brow_append]; exact HOW.out, HO1.out⟩
      case measure => simp [intOf]; omega
    · obtain rfl : j = 8 := by omega
      have hcv := conv_own 9 Tryz.underlying9 hown (byTo_len n 8)
      have HBS := Lib.hid (byTo_len8 n)
      obtain ⟨av, cv, rfl⟩ := slice_of_own hown
      rw [HBS.out, HR.out] at hcv
      obtain ⟨S, hS⟩ : ∃ S, bytes8 n = S := ⟨_, rfl⟩
      have HSS := Lib.hid hS
      rw [hS] at hcv
      clear hS
      clear hO hown
      go_wp2_with fail
      go_ret
      exact ⟨by rw [HSS.out]; rfl, HO.out⟩
set_option maxHeartbeats 1000000 in
theorem rchallenge_any (r pb : Int) (t : ByteArray) (w : World) (hr : 0 ≤ r ∧ r ≤ 9223372036854775807) (hp : 0 ≤ pb ∧ pb ≤ 9223372036854775807) (ht : t.size ≤ 100000) :
    Calls Tryz.prog 111 #[.int .i64 r, .int .i64 pb, .string t] w fun e w' => e = .returned (.int .i64 (schalZ r pb t)) ∧ Only (fun _ => False) w w' := by
  have HB1 := Lib.hid (fun w => rbytes5_any r w hr.1 hr.2)
  have HB2 := Lib.hid (fun w => rbytes5_any pb w hp.1 hp.2)
  have k1 : (bytes8 r).size ≤ 8 := Nat.le_refl 8
  have k2 : (bytes8 pb).size ≤ 8 := Nat.le_refl 8
  have s1 : (sgC ++ bytes8 r).size ≤ 9 := Nat.le_refl 9
  have s2 : (sgC ++ bytes8 r ++ bytes8 pb).size ≤ 17 := Nat.le_refl 17
  have s3 : (sgC ++ bytes8 r ++ bytes8 pb ++ t).size ≤ 100017 := by rw [ByteArray.size_append]; omega
  have HS := Lib.hid (fun w => rscalar_any (sgC ++ bytes8 r ++ bytes8 pb ++ t) w (by omega))
  have HE := Lib.hid (show scalarZ (sgC ++ bytes8 r ++ bytes8 pb ++ t) = schalZ r pb t from rfl)
  rw [HE.out] at HS
  generalize bytes8 r = b1 at *
  generalize bytes8 pb = b2 at *
  generalize schalZ r pb t = z at *
  unfold sgC at *
  go_enter Tryz.func111, Tryz.ntmps111
  go_wp2_with fail
  refine (HB1.out _).mono ?_
  rintro e w1 ⟨rfl, hO⟩
  have HO1 := Lib.hid hO
  clear hO HB1
  go_wp2_with fail
  refine (HB2.out _).mono ?_
  rintro e w2 ⟨rfl, hO⟩
  have HO2 := Lib.hid (HO1.out.trans hO)
  clear hO HB2 HO1
  go_wp2_with fail
  refine (HS.out w2).mono ?_
  rintro e w3 ⟨rfl, hO⟩
  have HO3 := Lib.hid (HO2.out.trans hO)
  clear hO HO2
  go_wp2
  go_ret
  exact ⟨rfl, HO3.out⟩
set_option maxHeartbeats 1000000 in
theorem rsignwith_any (secret n : Int) (t : ByteArray) (w : World) (hn : n = sgN (expZ secret) t) (ht : t.size ≤ 100000) :
    Calls Tryz.prog 71 #[.int .i64 secret, .string t, .int .i64 n] w fun e w' => e = .returned (.agg #[.int .i64 (sgR secret t), .int .i64 (sgS secret t)]) ∧ Only (fun _ => False) w w' := by
  have hx := expZ_bd secret
  have hnb := sgN_bd (expZ secret) t
  have hr : 0 ≤ sgR secret t ∧ sgR secret t < 2305843009213691579 := powP_bd _ _
  have hp : 0 ≤ pubZ secret ∧ pubZ secret < 2305843009213691579 := powP_bd _ _
  rw [← hn] at hnb
  have HX := Lib.hid (fun w => rexponent_any secret w)
  have HR := Lib.hid (fun w => rpow_any 4 n 2305843009213691579 w (by decide) (by decide) (by omega) (by omega))
  have HP := Lib.hid (fun w => rpublic5_any secret w)
  have HC := Lib.hid (fun w => rchallenge_any (sgR secret t) (pubZ secret) t w ⟨hr.1, by omega⟩ ⟨hp.1, by omega⟩ ht)
  have HM := Lib.hid (fun w => rmul_any (expZ secret) (schalZ (sgR secret t) (pubZ secret) t) 1152921504606845789 w (by decide) (by decide))
  have HD := Lib.hid (fun w => radd_any n (expZ secret * schalZ (sgR secret t) (pubZ secret) t % 1152921504606845789) 1152921504606845789 w (by decide) (by decide))
  rw [show (n + expZ secret * schalZ (sgR secret t) (pubZ secret) t % 1152921504606845789) % 1152921504606845789 = sgS secret t by rw [hn]; rfl] at HD
  rw [show secret % 1152921504606845789 = expZ secret from rfl] at HX HP
  rw [show powM 4 n 2305843009213691579 = sgR secret t by rw [hn]; rfl] at HR
  rw [show powM 4 (expZ secret) 2305843009213691579 = pubZ secret from rfl] at HP
  clear hx hn hr hp hnb
  generalize sgS secret t = vS at *
  generalize expZ secret * schalZ (sgR secret t) (pubZ secret) t % 1152921504606845789 = vM at *
  generalize schalZ (sgR secret t) (pubZ secret) t = vC at *
  generalize sgR secret t = vR at *
  generalize pubZ secret = vP at *
  generalize expZ secret = vX at *
  have HA0 := Lib.hid ((Only.refl (fun _ => False) w).alloc (.cells #[.int .i64 0, .int .i64 0] 33))
  have HZ0 := Lib.hid (heap_alloc_last w (.cells #[.int .i64 0, .int .i64 0] 33))
  go_enter Tryz.func71, Tryz.ntmps71
  go_wp2_with fail
  refine (HX.out _).mono ?_
  rintro e w1 ⟨rfl, rfl⟩
  generalize w.alloc (.cells #[.int .i64 0, .int .i64 0] 33) = w1 at *
  go_wp2_with fail
  refine (HR.out _).mono ?_
  rintro e w2 ⟨rfl, rfl⟩
  go_wp2_with fail
  refine (HP.out _).mono ?_
  rintro e w2 ⟨rfl, rfl⟩
  go_wp2_with fail
  refine (HC.out _).mono ?_
  rintro e w6 ⟨rfl, hO⟩
  have HO6 := Lib.hid (HA0.out.trans hO)
  have HZ6 := Lib.hid (row_still hO HZ0.out)
  clear hO HA0 HZ0
  go_wp2_with fail
  refine (HM.out _).mono ?_
  rintro e w7 ⟨rfl, rfl⟩
  go_wp2_with fail
  refine (HD.out _).mono ?_
  rintro e w8 ⟨rfl, rfl⟩
  go_wp2_with (first | (refine wpList_store_row rfl 33 _ _ rfl w.heap.size #[.int .i64 vR, .int .i64 vS] rfl rfl 33 _ HZ6.out Tryz.infoSig rfl (sig_one _ _) ?_))
  exact bodyPost_ret (v := .agg #[.int .i64 vR, .int .i64 vS]) (results_cell_row rfl _ _ w.heap.size 33 #[.int .i64 vR, .int .i64 vS] (0, 0) _ rfl (setRow_heap _ _ _ _ _ _ HZ6.out) Tryz.underlying33 rfl Tryz.infoSig) rfl ⟨rfl, HO6.out.setRow (Nat.le_refl _) _⟩
set_option maxHeartbeats 1000000 in
theorem rsign_any (secret : Int) (t : ByteArray) (w : World) (ht : t.size ≤ 100000) :
    Calls Tryz.prog 29 #[.int .i64 secret, .string t] w fun e w' => e = .returned (.agg #[.int .i64 (sgR secret t), .int .i64 (sgS secret t)]) ∧ Only (fun _ => False) w w' := by
  have hx := expZ_bd secret
  have HX := Lib.hid (fun w => rexponent_any secret w)
  have HB := Lib.hid (fun w => rbytes5_any (expZ secret) w hx.1 (by omega))
  have k1 : (bytes8 (expZ secret)).size ≤ 8 := Nat.le_refl 8
  have s1 : (sgW ++ bytes8 (expZ secret)).size ≤ 9 := Nat.le_refl 9
  have s3 : (sgW ++ bytes8 (expZ secret) ++ t).size ≤ 100009 := by rw [ByteArray.size_append]; omega
  have HN := Lib.hid (fun w => rpositive_any (sgW ++ bytes8 (expZ secret) ++ t) w (by omega))
  rw [show max (scalarZ (sgW ++ bytes8 (expZ secret) ++ t)) 1 = sgN (expZ secret) t from rfl] at HN
  have HW := Lib.hid (fun w => rsignwith_any secret (sgN (expZ secret) t) t w rfl ht)
  rw [show secret % 1152921504606845789 = expZ secret from rfl] at HX
  clear hx
  generalize sgS secret t = vS at *
  generalize sgR secret t = vR at *
  generalize sgN (expZ secret) t = vN at *
  generalize bytes8 (expZ secret) = vB at *
  generalize expZ secret = vX at *
  unfold sgW at *
  have HA0 := Lib.hid ((Only.refl (fun _ => False) w).alloc (.cells #[.int .i64 0, .int .i64 0] 33))
  have HZ0 := Lib.hid (heap_alloc_last w (.cells #[.int .i64 0, .int .i64 0] 33))
  go_enter Tryz.func29, Tryz.ntmps29
  go_wp2_with fail
  refine (HX.out _).mono ?_
  rintro e w1 ⟨rfl, rfl⟩
  generalize w.alloc (.cells #[.int .i64 0, .int .i64 0] 33) = w1 at *
  go_wp2_with fail
  refine (HB.out _).mono ?_
  rintro e w2 ⟨rfl, hO⟩
  have HO2 := Lib.hid (HA0.out.trans hO)
  have HZ2 := Lib.hid (row_still hO HZ0.out)
  clear hO HA0 HZ0
  go_wp2_with fail
  refine (HN.out _).mono ?_
  rintro e w3 ⟨rfl, hO⟩
  have HO3 := Lib.hid (HO2.out.trans hO)
  have HZ3 := Lib.hid (row_still hO HZ2.out)
  clear hO HO2 HZ2
  go_wp2_with fail
  refine (HW.out _).mono ?_
  rintro e w6 ⟨rfl, hO⟩
  have HO6 := Lib.hid (HO3.out.trans hO)
  have HZ6 := Lib.hid (row_still hO HZ3.out)
  clear hO HO3 HZ3
  go_wp2_with (first | (refine wpList_store_row rfl 33 _ _ rfl w.heap.size #[.int .i64 vR, .int .i64 vS] rfl rfl 33 _ HZ6.out Tryz.infoSig rfl (sig_one _ _) ?_))
  exact bodyPost_ret (v := .agg #[.int .i64 vR, .int .i64 vS]) (results_cell_row rfl _ _ w.heap.size 33 #[.int .i64 vR, .int .i64 vS] (0, 0) _ rfl (setRow_heap _ _ _ _ _ _ HZ6.out) Tryz.underlying33 rfl Tryz.infoSig) rfl ⟨rfl, HO6.out.setRow (Nat.le_refl _) _⟩
set_option maxHeartbeats 1000000 in
theorem rvote_any (who secret : Int) (t : ByteArray) (w : World) (ht : t.size ≤ 100000) :
    Calls Tryz.prog 8 #[.int .i64 who, .int .i64 secret, .string t] w fun e w' => e = .returned (.agg #[.int .i64 who, .string t, .int .i64 (sgR secret t), .int .i64 (sgS secret t)]) ∧ Only (fun _ => False) w w' := by
  have HA := Lib.hid ((Only.refl (fun _ => False) w).alloc (.cells #[.int .i64 0, .string (⟨#[]⟩ : ByteArray), .int .i64 0, .int .i64 0] 35))
  have HS := Lib.hid (fun w => rsign_any secret t w ht)
  have HZ := Lib.hid (heap_alloc_last w (.cells #[.int .i64 0, .string (⟨#[]⟩ : ByteArray), .int .i64 0, .int .i64 0] 35))
  generalize sgR secret t = R at *
  generalize sgS secret t = S at *
  go_enter Tryz.func8, Tryz.ntmps8
  go_wp2_with fail
  refine (HS.out _).mono ?_
  rintro e w1 ⟨rfl, hO⟩
  have HO := Lib.hid (HA.out.trans hO)
  have HZ1 := Lib.hid (row_still hO HZ.out)
  clear hO HA HZ HS
  go_wp2_with (first | (refine wpList_store_row rfl 35 _ _ rfl w.heap.size #[.int .i64 who, .string t, .int .i64 R, .int .i64 S] rfl rfl 35 _ HZ1.out Tryz.infoVote rfl (vote_one _ _ _ _) ?_))
  exact bodyPost_ret (v := .agg #[.int .i64 who, .string t, .int .i64 R, .int .i64 S]) (results_cell_row rfl _ _ w.heap.size 35 #[.int .i64 who, .string t, .int .i64 R, .int .i64 S] (0, 0) _ rfl (setRow_heap _ _ _ _ _ _ HZ1.out) Tryz.underlying35 rfl Tryz.infoVote) rfl ⟨rfl, HO.out.setRow (Nat.le_refl _) _⟩
end Go.Proofs.YtldkjkjpaiajlaaGreatDoor

namespace Go.Proofs.YtldkjkjpaiajlaaGreatDoor
open Go.RowKit

set_option maxHeartbeats 4000000 in
theorem rverify5_any (pb R S : Int) (t : ByteArray) (bb : Bool) (w : World) (ht : t.size ≤ 100000) (hb : sverB pb t R S = bb) :
    Calls Tryz.prog 84 #[.int .i64 pb, .string t, .agg #[.int .i64 R, .int .i64 S]] w fun e w' => e = .returned (.bool bb) ∧ Only (fun _ => False) w w' := by
  have hA := (Only.refl (fun _ => False) w).alloc (.cells #[.int .i64 R, .int .i64 S] 33)
  have HA := Lib.hid hA
  have HZ := Lib.hid (heap_alloc_last w (.cells #[.int .i64 R, .int .i64 S] 33))
  clear hA
  have y0 : (w.alloc (.cells #[.int .i64 R, .int .i64 S] 33)).cell? ⟨w.heap.size, 0, none⟩ = some (.int .i64 R) := cell_of_row _ _ 0 _ _ _ HZ.out
  have y1 : (w.alloc (.cells #[.int .i64 R, .int .i64 S] 33)).cell? ⟨w.heap.size, 1, none⟩ = some (.int .i64 S) := cell_of_row _ _ 1 _ _ _ HZ.out
  obtain ⟨m1, h1⟩ : ∃ m1, memB pb = m1 := ⟨_, rfl⟩
  obtain ⟨m2, h2⟩ : ∃ m2, memB R = m2 := ⟨_, rfl⟩
  have M1 := Lib.hid (fun w => rmember_is pb m1 w h1)
  have M2 := Lib.hid (fun w => rmember_is R m2 w h2)
  have HBB := Lib.hid hb
  have HM1 := Lib.hid h1
  have HM2 := Lib.hid h2
  clear hb h1 h2
  go_enter Tryz.func84, Tryz.ntmps84
  go_wp2_with fail
  refine (M1.out _).mono ?_
  rintro e w1 ⟨rfl, rfl⟩
  generalize w.alloc (.cells #[.int .i64 R, .int .i64 S] 33) = w1 at *
  go_wp2_with fail
  refine (M2.out _).mono ?_
  rintro e w2 ⟨rfl, rfl⟩
  cases m1
  · have e : bb = false := by rw [← HBB.out]; unfold sverB; rw [HM1.out]; rfl
    subst e
    go_wp2
    go_ret
    exact ⟨rfl, HA.out⟩
  cases m2
  · have e : bb = false := by rw [← HBB.out]; unfold sverB; rw [HM2.out]; simp
    subst e
    go_wp2
    go_ret
    exact ⟨rfl, HA.out⟩
  by_cases hs : 0 ≤ S ∧ S < 1152921504606845789
  · obtain ⟨r0, r1⟩ := memB_rng HM2.out
    obtain ⟨p0, p1⟩ := memB_rng HM1.out
    have HCH := Lib.hid (fun w => rchallenge_any R pb t w ⟨by omega, by omega⟩ ⟨by omega, by omega⟩ ht)
    have hc := schalZ_bd R pb t
    have HPS := Lib.hid (fun w => rpow_any 4 S 2305843009213691579 w (by decide) (by decide) hs.1 (by omega))
    have HPW := Lib.hid (fun w => rpow_any pb (schalZ R pb t) 2305843009213691579 w (by decide) (by decide) hc.1 (by omega))
    have HML := Lib.hid (fun w => rmul_any R (powM pb (schalZ R pb t) 2305843009213691579) 2305843009213691579 w (by decide) (by decide))
    have HB2 := Lib.hid (show (powM 4 S 2305843009213691579 == R * powM pb (schalZ R pb t) 2305843009213691579 % 2305843009213691579) = bb by
      rw [← HBB.out]
      unfold sverB
      rw [HM1.out, HM2.out, decide_eq_true hs.1, decide_eq_true hs.2]
      simp)
    have i1 : ¬ S < 0 := by omega
    have i2 : ¬ 1152921504606845789 ≤ S := by omega
    clear hc hs r0 r1 p0 p1 HBB
    generalize R * powM pb (schalZ R pb t) 2305843009213691579 % 2305843009213691579 = v3 at *
    generalize powM pb (schalZ R pb t) 2305843009213691579 = v2 at *
    generalize powM 4 S 2305843009213691579 = v1 at *
    generalize schalZ R pb t = v0 at *
    go_wp2_with fail
    refine (HCH.out _).mono ?_
    rintro e w3 ⟨rfl, hO⟩
    have HO3 := Lib.hid (HA.out.trans hO)
    have e0 := hO.cell y0 id
    have e1 := hO.cell y1 id
    clear hO y0 y1
    go_upto_region 6 with fail
    have y0 := fun (d : Nat) (os : Array Obj) => cell_regrown e0 d os
    have y1 := fun (d : Nat) (os : Array Obj) => cell_regrown e1 d os
    clear e0 e1
    refine wp_region_quiet_below (by kernel_rfl) (by kernel_rfl) ?_
    repeat (go_big_quiet_step ((first | (go_at_call 104; with_reducible exact Calls.regrown_of ((HPS.out _).mono fun _ _ h => ⟨h.1, by rw [← h.2]; exact Below.refl _ _⟩)) | (go_at_call 104; with_reducible exact Calls.regrown_of ((HPW.out _).mono fun _ _ h => ⟨h.1, by rw [← h.2]; exact Below.refl _ _⟩)) | (go_at_call 113; with_reducible exact Calls.regrown_of ((HML.out _).mono fun _ _ h => ⟨h.1, by rw [← h.2]; exact Below.refl _ _⟩)))))
    refine wpQuiet_nil ?_
    intro w4 hw'
    obtain ⟨pq, hw''⟩ := hw'
    have HO4 := Lib.hid (HO3.out.trans (Only.ofBelow (below_regrown w3 pq.d pq.os) (fun _ => False)))
    rw [← hw''] at HO4
    clear hw'' y0 y1
    go_wp2
    go_ret
    exact ⟨by rw [← HB2.out]; rfl, HO4.out⟩
  · have e : bb = false := by
      rw [← HBB.out]
      unfold sverB
      rcases (by omega : S < 0 ∨ 1152921504606845789 ≤ S) with h | h
      · rw [decide_eq_false (show ¬ 0 ≤ S by omega)]; simp
      · rw [decide_eq_false (show ¬ S < 1152921504606845789 by omega)]; simp
    subst e
    rcases (by omega : S < 0 ∨ (¬ S < 0 ∧ 1152921504606845789 ≤ S)) with h | ⟨h, h'⟩
    all_goals
      go_wp2
      go_ret
      exact ⟨rfl, HA.out⟩
end Go.Proofs.YtldkjkjpaiajlaaGreatDoor

namespace Go.Proofs.YtldkjkjpaiajlaaGreatDoor
open Go.RowKit

def WordsQ (s : ByteArray) (w : World) (e : Ending) (w' : World) : Prop := ∃ v, e = .returned v ∧ w'.ownsRow w.heap.size 9 1 v (wordsB s).length ((wordsB s).map Value.string) ∧ Only (fun _ => False) w w'
set_option maxRecDepth 100000 in
set_option maxHeartbeats 4000000 in
theorem rwords11_any (s : ByteArray) (w : World) (hs : s.size ≤ 100000) :
    Calls Tryz.prog 81 #[.string s] w fun e w' => WordsQ s w e w' := by
  obtain ⟨i0, hi, hz0, hz1, hz2⟩ := info_parts Tryz.infoStr
  have HI := Lib.hid hi
  have HI0 := Lib.hid hz0
  have HI1 := Lib.hid hz1
  have HI2 := Lib.hid hz2
  have hsl : s.data.toList.length = s.size := Array.length_toList
  have HSL := Lib.hid hsl
  clear hi hz0 hz1 hz2 hsl
  go_enter Tryz.func81, Tryz.ntmps81
  go_wp2_with fail
  go_loopw [3, 4, 5] (fun vo vf vi wr => ∃ (k f : Nat) (L : List (List UInt8)), vi = .int .i64 k ∧ vf = .int .i64 f ∧ ((k ≤ s.size ∧ CutAt 32 s k f L) ∨ (k = s.size + 1 ∧ L.map arrB = wordsC 32 s)) ∧ wr.ownsRow w.heap.size 9 1 vo L.length (rowW L) ∧ Only (fun _ => False) w wr) (fun _ _ vi _ => s.size + 1 - (intOf vi).toNat)
  case atStart => exact ⟨0, 0, [], rfl, rfl, .inl ⟨Nat.zero_le _, CutAt.start 32 s⟩, World.ownsRow_nil _ _ _ _, Only.refl _ _⟩
  case round =>
    obtain ⟨k, f, L, rfl, rfl, hC, hown, hO⟩ := hrel
    obtain ⟨av, cv, rfl⟩ := slice_of_own hown
    have HOWN := Lib.hid hown
    have HO := Lib.hid hO
    have hszw := hO.size
    clear hown hO
    rcases hC with ⟨hk, hC⟩ | ⟨rfl, hdn⟩
    · have HC := Lib.hid hC
      have hfk := hC.le
      have hfew := hC.few
      clear hC
      have j5 : (k : Int) ≤ s.size := by omega
      have j0 : 0 ≤ (k : Int) := by omega
      have j3 : (0 : Int) ≤ f := by omega
      have j4 : (f : Int) ≤ k := by omega
      have HEX := Lib.hid (ext_piece s f k)
      have hzp : (s.extract f k).size ≤ 100000 := by
        rw [ByteArray.size_extract]; omega
      have HK := Lib.hid hk
      by_cases hlt : k < s.size
      · have j1 : (k : Int) < s.size := by omega
        have j6 : ((k : Int) == s.size) = false := beq_eq_false_iff_ne.2 (by omega)
        have b0 := byteZ_eq s k hlt
        have hlt2 : k < s.data.toList.length := by rw [HSL.out]; exact hlt
        have hbz := byte_at hlt2
        have HLT := Lib.hid hlt
        by_cases hc : s.data.toList[k] = 32
        · have q1 : (byteZ s k == 32) = true := by
            rw [hbz, beq_iff_eq]
            have e := congrArg UInt8.toNat hc
            have e2 : (32 : UInt8).toNat = 32 := rfl
            omega
          have HCC := Lib.hid (HC.out.cut hlt2 hc)
          clear hc hbz
          generalize byteZ s k = y at *
          go_wp2_with (first | (refine wpList_append_lies _ rfl _ _ 39 rfl w.heap.size 9 i0 _ 1 16 Tryz.underlying39 HI.out HI0.out HI1.out HI2.out rfl (by decide) _ _ _ rfl (HOWN.out.alloc _) ⟨wr.heap.size, 0, none⟩ 1 1 [.string (s.extract f k)] rfl rfl (by exact newsR' wr _ _) (one_str1 _) (by decide) (by unfold maxLen; omega) (by omega) (by simp; omega) _ rfl ?_; intro g cap w5 hown1 hgrow hat hlt5))
          have HO5 := Lib.hid ((HO.out.alloc (.cells #[.string (s.extract f k)] 9)).trans' (S := fun _ => False) (T := fun i => (Value.slice av L.length cv).ownBlock = some i) ((Only.refl _ _).grown hgrow (fun i e _ => e)) (fun i hi e => by have := ownR_ge HOWN.out e; omega))
          have HW5 := Lib.hid (show w5.ownsRow w.heap.size 9 1 (.slice (some ⟨g, 0, none⟩) (L.length + 1) cap) (L ++ [(s.data.toList.take k).drop f]).length (rowW (L ++ [(s.data.toList.take k).drop f])) by
            rw [rowW_app, List.length_append, ← HEX.out]; exact hown1)
          go_roundw
          case rel => exact ⟨k + 1, k + 1, L ++ [(s.data.toList.take k).drop f], by go_num, by go_num, .inl ⟨HLT.out, HCC.out⟩, HW5.out, HO5.out⟩
          case measure => simp [intOf]; have := HLT.out; omega
        · have q1 : (byteZ s k == 32) = false := by
            rw [hbz, beq_eq_false_iff_ne]
            intro e
            exact hc (UInt8.toNat_inj.1 (by show _ = 32; omega))
          have HCC := Lib.hid (HC.out.step hlt2 hc)
          clear hc hbz
          generalize byteZ s k = y at *
          go_wp2_with fail
          go_roundw
          case rel => exact ⟨k + 1, f, L, by go_num, rfl, .inl ⟨HLT.out, HCC.out⟩, HOWN.out, HO.out⟩
          case measure => simp [intOf]; have := HLT.out; omega
      · obtain rfl : k = s.size := by omega
        have HDN := Lib.hid HC.out.done
        have j6 : ((s.size : Int) == s.size) = true := by simp
        go_wp2_with (first | (refine wpList_append_lies _ rfl _ _ 39 rfl w.heap.size 9 i0 _ 1 16 Tryz.underlying39 HI.out HI0.out HI1.out HI2.out rfl (by decide) _ _ _ rfl (HOWN.out.alloc _) ⟨wr.heap.size, 0, none⟩ 1 1 [.string (s.extract f s.size)] rfl rfl (by exact newsR' wr _ _) (one_str1 _) (by decide) (by unfold maxLen; omega) (by omega) (by simp; omega) _ rfl ?_; intro g cap w5 hown1 hgrow hat hlt5))
        have HO5 := Lib.hid ((HO.out.alloc (.cells #[.string (s.extract f s.size)] 9)).trans' (S := fun _ => False) (T := fun i => (Value.slice av L.length cv).ownBlock = some i) ((Only.refl _ _).grown hgrow (fun i e _ => e)) (fun i hi e => by have := ownR_ge HOWN.out e; omega))
        have HW5 := Lib.hid (show w5.ownsRow w.heap.size 9 1 (.slice (some ⟨g, 0, none⟩) (L.length + 1) cap) (L ++ [(s.data.toList.take s.size).drop f]).length (rowW (L ++ [(s.data.toList.take s.size).drop f])) by
          rw [rowW_app, List.length_append, ← HEX.out]; exact hown1)
        go_roundw
        case rel => exact ⟨s.size + 1, s.size + 1, L ++ [(s.data.toList.take s.size).drop f], by go_num, by go_num, .inr ⟨rfl, HDN.out.symm⟩, HW5.out, HO5.out⟩
        case measure => simp [intOf]
    · have HD := Lib.hid hdn
      have j1 : ¬ ((s.size : Int) + 1 ≤ s.size) := by omega
      have j2 : ¬ (((s.size + 1 : Nat) : Int) ≤ s.size) := by omega
      clear hdn
      go_wp2_with fail
      go_ret
      refine ⟨_, rfl, ?_, HO.out⟩
      have e : (wordsB s).map Value.string = rowW L := by rw [← wordsC_sp, ← HD.out, List.map_map]; rfl
      have el : (wordsB s).length = L.length := by rw [← wordsC_sp, ← HD.out, List.length_map]
      rw [e, el]
      exact HOWN.out
end Go.Proofs.YtldkjkjpaiajlaaGreatDoor

namespace Go.Proofs.YtldkjkjpaiajlaaGreatDoor
open Go.RowKit

set_option maxHeartbeats 1000000 in
theorem rint11_no (s : ByteArray) (w : World) (hs : 1 ≤ s.size) (hl : s.size ≤ 100) (hm : byteZ s 0 ≠ 45) (hn : numB s = false) :
    Calls Tryz.prog 82 #[.string s] w fun e w' => e = .returned (.tuple #[.int .i64 0, .bool false]) ∧ Only (fun _ => False) w w' := by
  have HP := Lib.hid (fun w => rparse1_any s w (by omega))
  rw [prs_no hn] at HP
  have b0 := byteZ_eq s 0 hs
  have i1 : (0 : Int) < s.size := by omega
  have q1 : (byteZ s 0 == 45) = false := beq_eq_false_iff_ne.2 hm
  generalize byteZ s 0 = y at *
  go_enter Tryz.func82, Tryz.ntmps82
  go_wp2_with fail
  refine (HP.out _).mono ?_
  rintro e w1 ⟨rfl, hO⟩
  have HO := Lib.hid hO
  clear hO HP
  go_wp2
  go_ret2
  exact ⟨rfl, HO.out⟩
set_option maxHeartbeats 1000000 in
theorem rint11_yes (s : ByteArray) (n : Nat) (w : World) (hs : 1 ≤ s.size) (hl : s.size ≤ 100) (hm : byteZ s 0 ≠ 45) (hn : numB s = true) (hd : decFold 0 s.data.toList = n) (hb : n < 9223372036854775808) :
    Calls Tryz.prog 82 #[.string s] w fun e w' => e = .returned (.tuple #[.int .i64 n, .bool true]) ∧ Only (fun _ => False) w w' := by
  have HP := Lib.hid (fun w => rparse1_any s w (by omega))
  rw [prs_yes hn, hd] at HP
  have HI := Lib.hid (fun w => rint_any n w hb)
  have b0 := byteZ_eq s 0 hs
  have i1 : (0 : Int) < s.size := by omega
  have q1 : (byteZ s 0 == 45) = false := beq_eq_false_iff_ne.2 hm
  have q2 : (s.toList == s.toList) = true := by simp
  generalize byteZ s 0 = y at *
  generalize natB n = bn at *
  go_enter Tryz.func82, Tryz.ntmps82
  go_wp2_with fail
  refine (HP.out _).mono ?_
  rintro e w1 ⟨rfl, hO⟩
  have HO := Lib.hid hO
  clear hO HP
  go_wp2_with fail
  refine (HI.out _).mono ?_
  rintro e w2 ⟨rfl, rfl⟩
  go_wp2
  go_ret2
  exact ⟨rfl, HO.out⟩
theorem decW_nat (n : Nat) : decW (n : Int) = decB n := rfl
theorem dec_first (n : Nat) : byteZ (decB n) 0 ≠ 45 ∧ 1 ≤ (decB n).size := by
  have hl : (decB n).data.toList = Lib.decDigits n := by unfold decB; simp
  have hp : 1 ≤ (Lib.decDigits n).length := by
    rw [Lib.decDigits]; split <;> simp
  have hs : (decB n).size = (Lib.decDigits n).length := by unfold decB; simp [ByteArray.size]
  refine ⟨?_, by omega⟩
  unfold byteZ
  rw [hl]
  cases hd : Lib.decDigits n with
  | nil => rw [hd] at hp; exact absurd hp (by decide)
  | cons c r =>
    have := digs_range n c (by rw [hd]; exact List.mem_cons_self)
    show ((c.toNat : Nat) : Int) ≠ 45
    omega
theorem rint11_dec (n : Nat) (w : World) (h : n ≤ 1000000000) : Calls Tryz.prog 82 #[.string (decB n)] w fun e w' => e = .returned (.tuple #[.int .i64 n, .bool true]) ∧ Only (fun _ => False) w w' := by
  obtain ⟨h1, h2⟩ := dec_first n
  refine rint11_yes (decB n) n w h2 (by have := decB_size (n := n) (by omega); omega) h1 (by have := dec_num (n : Int); rw [decW_nat] at this; exact this) ?_ (by omega)
  have hl : (decB n).data.toList = Lib.decDigits n := by unfold decB; simp
  rw [hl, decFold_digs]
set_option maxHeartbeats 1000000 in
theorem runhex_odd (c : UInt8) (w : World) : Calls Tryz.prog 83 #[.string ⟨#[c]⟩] w fun e w' => e = .returned (.tuple #[.string ⟨#[]⟩, .bool false]) ∧ Only (fun _ => False) w w' := by
  have hsz : (⟨#[c]⟩ : ByteArray).size = 1 := rfl
  have hcv : (convert 22 9 (.slice none 0 0)).run Tryz.prog w = .ok (.string ⟨#[]⟩) w := run_convert_bytes_nil (P := Tryz.prog) w 22 5 Tryz.underlying22 Tryz.underlying5 0 0 9 Tryz.underlying9
  generalize (⟨#[c]⟩ : ByteArray) = s at *
  go_enter Tryz.func83, Tryz.ntmps83
  go_wp2_with fail
  go_loop [5, 6] (fun vb vi => vb = .slice none 0 0 ∧ vi = .int .i64 0) (fun _ _ => 0)
  case atStart => exact ⟨rfl, rfl⟩
  case round =>
    obtain ⟨rfl, rfl⟩ := hrel
    go_wp2_with fail
    go_ret2
    exact ⟨rfl, Only.refl _ _⟩
/-- What has been read of a byte after k digits. -/
def nK (n : Nat) : Nat → Nat
  | 0 => 0
  | 1 => n / 16
  | _ => n
theorem hexD_inj2 (a b : Nat) (ha : a < 16) (hb : b < 16) : (((hexD a).toNat : Int) == (hexD b).toNat) = (a == b) := by
  by_cases h : a = b
  · subst h; simp
  · rw [beq_eq_false_iff_ne.2 h, beq_eq_false_iff_ne]
    intro e
    exact h (hexD_inj ha hb (UInt8.toNat_inj.1 (by omega)))
set_option maxHeartbeats 4000000 in
set_option maxRecDepth 100000 in
theorem runhex_one (n : Nat) (h : n < 256) (w : World) : Calls Tryz.prog 83 #[.string (hex9B (oneB n))] w fun e w' => e = .returned (.tuple #[.string (oneB n), .bool true]) ∧ Only (fun _ => False) w w' := by
  obtain ⟨i0, hi, hz0, hz1, hz2⟩ := info_parts Tryz.infoByte
  rw [hex2_one n h]
  have hsz : (hex2 (n / 16) (n % 16)).size = 2 := rfl
  have HX0 := Lib.hid (show (((hex2 (n / 16) (n % 16))[0]'(by rw [hsz]; decide)).toNat : Int) = (hexD (n / 16)).toNat from rfl)
  have HX1 := Lib.hid (show (((hex2 (n / 16) (n % 16))[1]'(by rw [hsz]; decide)).toNat : Int) = (hexD (n % 16)).toNat from rfl)
  have HS := Lib.hid (show strOfNums [(n : Int)] = oneB n from rfl)
  generalize hex2 (n / 16) (n % 16) = s at *
  have HSZ := Lib.hid hsz
  go_enter Tryz.func83, Tryz.ntmps83
  go_wp2_with fail
  go_loopw [5, 6] (fun v vi wr => ∃ (m : Nat) (a : Option Addr) (c : Nat), v = .slice a m c ∧ vi = .int .i64 (2 * m : Nat) ∧ m ≤ 1 ∧ wr.ownsRow w.heap.size 5 1 (.slice a m c) m (brow (if m = 0 then [] else [(n : Int)])) ∧ Only (fun _ => False) w wr) (fun _ vi _ => 2 - (intOf vi).toNat)
  case atStart => exact ⟨0, none, 0, rfl, rfl, Nat.zero_le _, World.ownsRow_nil _ _ _ _, Only.refl _ _⟩
  case round =>
    obtain ⟨m, a, c, rfl, rfl, hm, hown, hO⟩ := hrel
    generalize wr = wA at *
    have HO := Lib.hid hO
    have HOWN := Lib.hid hown
    have hs := hO.size
    clear hO hown
    rcases (by omega : m = 0 ∨ m = 1) with rfl | rfl
    · go_wp2_with fail
      go_loopw [7, 8] (fun vn vk wq => ∃ k : Nat, k ≤ 2 ∧ vk = .int .i64 k ∧ vn = .int .i64 (nK n k : Nat) ∧ Only (fun _ => False) wA wq) (fun _ vk _ => 2 - (intOf vk).toNat)
      case atStart => exact ⟨0, by decide, rfl, rfl, Only.refl _ _⟩
      case round =>
        obtain ⟨k, hk, rfl, rfl, hO2⟩ := hrel
        generalize wr = wB at *
        have HO2 := Lib.hid hO2
        clear hO2
        by_cases hk2 : k < 2
        · have HK := Lib.hid hk2
          obtain ⟨v, hv16, hxv, hnv, hNb⟩ : ∃ v, v < 16 ∧ (∀ p : 2 * 0 + k < s.size, ((s[2 * 0 + k]'p).toNat : Int) = (hexD v).toNat) ∧ 16 * nK n k + v = nK n (k + 1) ∧ nK n k ≤ 255 := by
            rcases (by omega : k = 0 ∨ k = 1) with rfl | rfl
            · exact ⟨n / 16, by omega, fun _ => HX0.out, by show 16 * 0 + n / 16 = n / 16; omega, Nat.zero_le _⟩
            · exact ⟨n % 16, by omega, fun _ => HX1.out, by show 16 * (n / 16) + n % 16 = n; omega, by show n / 16 ≤ 255; omega⟩
          have HNV := Lib.hid hnv
          have hx := hxv (by rw [hsz]; omega)
          generalize nK n k = N at *
          clear hnv hxv
          simp only [Nat.mul_zero, Nat.zero_add] at hx
          have HX := Lib.hid hx
          clear hx
          go_wp2_with fail
          go_loopw [9, 10] (fun vd vj wq => ∃ j : Nat, j ≤ 16 ∧ vj = .int .i64 j ∧ vd = .int .i64 (if v < j then (v : Int) else -1) ∧ Only (fun _ => False) wB wq) (fun _ vj _ => 16 - (intOf vj).toNat)
          case atStart => exact ⟨0, by decide, rfl, rfl, Only.refl _ _⟩
          case round =>
            obtain ⟨j, hj, rfl, rfl, hO3⟩ := hrel
            generalize wr = wC at *
            have HO3 := Lib.hid hO3
            clear hO3
            by_cases hj2 : j < 16
            · have HJ := Lib.hid hj2
              have yj : (((⟨#[48, 49, 50, 51, 52, 53, 54, 55, 56, 57, 97, 98, 99, 100, 101, 102]⟩ : ByteArray)[j]'hj2).toNat : Int) = (hexD j).toNat := by rw [hexD_get j hj2]
              have xk := HX.out
              have hq := hexD_inj2 j v hj2 hv16
              have hkk : k < s.size := by rw [hsz]; omega
              generalize ((hexD j).toNat : Int) = Y at *
              generalize ((hexD v).toNat : Int) = X at *
              go_upto_region 14 with fail
              refine wp_region_quiet_below (by kernel_rfl) (by kernel_rfl) ?_
              repeat (go_big_quiet_step (fail))
              refine wpQuiet_nil ?_
              intro wD hw'
              obtain ⟨pq, hw''⟩ := hw'
              have HO4 := Lib.hid (HO3.out.trans (Only.ofBelow (below_regrown wC pq.d pq.os) (fun _ => False)))
              rw [← hw''] at HO4
              clear hw'' HO3 yj xk hq
              by_cases hjv : j = v
              · have e1 : (j == v) = true := by rw [hjv]; simp
                have HE := Lib.hid (show (if v < j + 1 then (v : Int) else -1) = j by rw [if_pos (by omega), hjv])
                rw [e1]
                clear hjv e1
                go_wp2
                case roundEnd => exact ⟨⟨j + 1, HJ.out, by go_num, by rw [HE.out], HO4.out⟩, by simp [intOf]; have := HJ.out; omega⟩
              · have e1 : (j == v) = false := beq_eq_false_iff_ne.2 hjv
                have HE := Lib.hid (show (if v < j + 1 then (v : Int) else -1) = if v < j then (v : Int) else -1 by
                  by_cases h : v < j
                  · rw [if_pos h, if_pos (by omega)]
                  · rw [if_neg h, if_neg (by omega)])
                rw [e1]
                clear hjv e1
                go_wp2
                case roundEnd => exact ⟨⟨j + 1, HJ.out, by go_num, by rw [HE.out], HO4.out⟩, by simp [intOf]; have := HJ.out; omega⟩
            · obtain rfl : j = 16 := by omega
              rw [if_pos hv16]
              have i1 : ¬ (v : Int) < 0 := by omega
              go_wp2
              case roundEnd => exact ⟨⟨k + 1, HK.out, by go_num, by rw [← HNV.out]; go_num, HO2.out.trans HO3.out⟩, by simp [intOf]; have := HK.out; omega⟩
        · obtain rfl : k = 2 := by omega
          rw [show nK n 2 = n from rfl]
          have hn8 : (n : Int) % 256 = n := by omega
          have hown2 := HO2.out.owns HOWN.out (fun g _ h => h)
          rw [if_pos trivial] at hown2
          have hown3 : wB.ownsRow w.heap.size 5 1 (.slice a 0 c) 0 [] := hown2
          have hs2 := HO2.out.size
          clear hown2
          go_wp2_with (at_builtin; refine wpList_append_own _ rfl _ _ 22 rfl w.heap.size 5 i0 _ 1 1 Tryz.underlying22 hi hz0 hz1 hz2 rfl (by decide) _ 0 [] rfl (hown3.alloc _) ⟨wB.heap.size, 0, none⟩ 1 1 [.int .u8 n] rfl rfl ?c1 ?c2 ?c3 ?c4 ?c5 ?_)
          case c1 => exact cell_one_new _ _ _
          case c2 => intro u hu; cases List.mem_singleton.1 hu; rfl
          case c3 => decide
          case c4 => decide
          case c5 => simp; omega
          intro v' w3 hown4 hgrow3 _
          obtain ⟨a3, c3, hv⟩ := slice_of_own hown4
          rw [hv] at hown4 ⊢
          have HO3 := Lib.hid (((HO.out.trans HO2.out).alloc _).grow (hown3.alloc _) (Nat.le_refl _) hgrow3)
          have HOWN3 := Lib.hid hown4
          clear hgrow3 hv hown3 hown4
          go_wp2
          case roundEnd => exact ⟨⟨1, a3, c3, rfl, by go_num, Nat.le_refl _, HOWN3.out, HO3.out⟩, by simp [intOf]⟩
    · rw [if_neg (by decide)] at HOWN
      have hcv := conv_own 9 Tryz.underlying9 HOWN.out rfl
      have HSS := Lib.hid HS.out
      generalize strOfNums [(n : Int)] = so at *
      have i2 : ((s.size : Int).tmod 2 == 0) = true := by rw [hsz]; rfl
      go_wp2_with fail
      go_ret2
      exact ⟨by rw [← HSS.out]; rfl, HO.out⟩
end Go.Proofs.YtldkjkjpaiajlaaGreatDoor

namespace Go.Proofs.YtldkjkjpaiajlaaGreatDoor
open Go.RowKit

theorem Tryz.infoRb : (Tryz.prog.info? 92).map (·.size) = some 4 := by kernel_rfl
theorem ownS_cells {w : World} {base : Nat} {v : Value} {ws : List ByteArray} (h : w.ownsRow base 9 1 v ws.length (ws.map Value.string)) (hn : 1 ≤ ws.length) : ∃ g cap, v = .slice (some ⟨g, 0, none⟩) ws.length cap ∧ ws.length ≤ cap ∧ cap ≤ 9223372036854775807 ∧ ∀ j x, ws[j]? = some x → w.cell? ⟨g, j, none⟩ = some (.string x) := by
  have HO := h
  rcases h.2 with ⟨_, h0⟩ | ⟨g, cap, cur, rfl, _, _, hc, hc2, _, _⟩
  · omega
  · refine ⟨g, cap, rfl, hc, hc2, fun j x hx => ?_⟩
    have := HO.cells (g := g) rfl j (.string x) (by rw [List.getElem?_map, hx]; rfl)
    by_cases h0 : j = 0
    · subst h0; exact this
    · simpa [Addr.add, h0] using this
set_option maxHeartbeats 4000000 in
set_option maxRecDepth 100000 in
theorem rread_gen (s p0 p1 p2 p3 X : ByteArray) (h v : Int) (o1 o2 o3 r : Bool) (w : World) (hs : s.size ≤ 1000) (hw : wordsB s = [p0, p1, p2, p3]) (hk : p0 = kindB 0 ∨ p0 = kindB 1 ∨ p0 = kindB 2)
    (h1 : ∀ w, Calls Tryz.prog 82 #[.string p1] w fun e w' => e = .returned (.tuple #[.int .i64 h, .bool o1]) ∧ Only (fun _ => False) w w')
    (h2 : ∀ w, Calls Tryz.prog 82 #[.string p2] w fun e w' => e = .returned (.tuple #[.int .i64 v, .bool o2]) ∧ Only (fun _ => False) w w')
    (h3 : ∀ w, Calls Tryz.prog 83 #[.string p3] w fun e w' => e = .returned (.tuple #[.string X, .bool o3]) ∧ Only (fun _ => False) w w')
    (hh : 0 ≤ h ∧ h ≤ 1000000000) (hv : 0 ≤ v ∧ v ≤ 1000000000) (hX : o3 = true → X.size = 1) (hr : r = (o1 && (o2 && o3))) :
    Calls Tryz.prog 36 #[.string s] w fun e w' => e = .returned (.tuple #[if r then .agg #[.string p0, .int .i64 h, .int .i64 v, .string X] else blZero, .bool r]) ∧ Only (fun _ => False) w w' := by
  have HA := Lib.hid ((Only.refl (fun _ => False) w).alloc (.cells #[.string (⟨#[]⟩ : ByteArray), .int .i64 0, .int .i64 0, .string (⟨#[]⟩ : ByteArray)] 92))
  have HZ := Lib.hid (heap_alloc_last w (.cells #[.string (⟨#[]⟩ : ByteArray), .int .i64 0, .int .i64 0, .string (⟨#[]⟩ : ByteArray)] 92))
  have HW := Lib.hid (fun w => rwords11_any s w (by omega))
  have H1 := Lib.hid h1
  have H2 := Lib.hid h2
  have H3 := Lib.hid h3
  have HX := Lib.hid hX
  have HWS := Lib.hid hw
  have HK := Lib.hid hk
  clear h1 h2 h3 hX hw hs hk
  go_enter Tryz.func36, Tryz.ntmps36
  go_wp2_with fail
  refine (HW.out _).mono ?_
  rintro e w1 ⟨v0, rfl, hown, hO⟩
  rw [HWS.out] at hown
  obtain ⟨g, cap, rfl, hc1, hc2, hcell⟩ := ownS_cells hown (show 1 ≤ 4 by decide)
  have x0 : w1.cell? ⟨g, 0, none⟩ = some (.string p0) := hcell 0 _ rfl
  have x1 : w1.cell? ⟨g, 1, none⟩ = some (.string p1) := hcell 1 _ rfl
  have x2 : w1.cell? ⟨g, 2, none⟩ = some (.string p2) := hcell 2 _ rfl
  have x3 : w1.cell? ⟨g, 3, none⟩ = some (.string p3) := hcell 3 _ rfl
  have HO1 := Lib.hid (HA.out.trans hO)
  have HZ1 := Lib.hid (row_still hO HZ.out)
  change 4 ≤ cap at hc1
  clear hO hown hcell HA HZ HW HWS
  have e4 : ([p0, p1, p2, p3] : List ByteArray).length = 4 := rfl
  rw [e4]
  go_wp2_with fail
  refine (H1.out _).mono ?_
  rintro e w2 ⟨rfl, hO⟩
  have HO2 := Lib.hid (HO1.out.trans hO)
  have HZ2 := Lib.hid (row_still hO HZ1.out)
  have y0 := hO.cell x0 id
  have y2 := hO.cell x2 id
  have y3 := hO.cell x3 id
  clear hO HO1 HZ1 x0 x1 x2 x3 H1
  go_wp2_with fail
  refine (H2.out _).mono ?_
  rintro e w3 ⟨rfl, hO⟩
  have HO3 := Lib.hid (HO2.out.trans hO)
  have HZ3 := Lib.hid (row_still hO HZ2.out)
  have x0 := hO.cell y0 id
  have x3 := hO.cell y3 id
  clear hO HO2 HZ2 y0 y2 y3 H2
  go_wp2_with fail
  refine (H3.out _).mono ?_
  rintro e w4 ⟨rfl, hO⟩
  have HO4 := Lib.hid (HO3.out.trans hO)
  have HZ4 := Lib.hid (row_still hO HZ3.out)
  have y0 := hO.cell x0 id
  clear hO HO3 HZ3 x0 x3 H3
  have i1 : ¬ h < 0 := by omega
  have i2 : ¬ v < 0 := by omega
  have i3 : ¬ (1000000000 : Int) < h := by omega
  have i4 : ¬ (1000000000 : Int) < v := by omega
  rcases HK.out with rfl | rfl | rfl
  all_goals
    unfold kindB at *
    cases o1
    · have e : r = false := hr
      subst e
      clear hr
      go_wp2_with (first | (refine wpList_store_row rfl 92 _ _ rfl w.heap.size #[.string (⟨#[]⟩ : ByteArray), .int .i64 0, .int .i64 0, .string (⟨#[]⟩ : ByteArray)] rfl rfl 92 _ HZ4.out Tryz.infoRb rfl (bl_one4 _ _ _ _) ?_))
      all_goals (exact bodyPost_ret (v := .tuple #[.agg #[.string (⟨#[]⟩ : ByteArray), .int .i64 0, .int .i64 0, .string (⟨#[]⟩ : ByteArray)], .bool false]) (results_cell_tmpA (p := 2) (q := 3) rfl _ _ w.heap.size 92 #[.string (⟨#[]⟩ : ByteArray), .int .i64 0, .int .i64 0, .string (⟨#[]⟩ : ByteArray)] (0, 0) _ rfl (setRow_heap _ _ _ _ _ _ HZ4.out) Tryz.underlying92 rfl Tryz.infoRb _ rfl) rfl ⟨rfl, HO4.out.setRow (Nat.le_refl _) _⟩)
    cases o2
    · have e : r = false := hr
      subst e
      clear hr
      go_wp2_with (first | (refine wpList_store_row rfl 92 _ _ rfl w.heap.size #[.string (⟨#[]⟩ : ByteArray), .int .i64 0, .int .i64 0, .string (⟨#[]⟩ : ByteArray)] rfl rfl 92 _ HZ4.out Tryz.infoRb rfl (bl_one4 _ _ _ _) ?_))
      all_goals (exact bodyPost_ret (v := .tuple #[.agg #[.string (⟨#[]⟩ : ByteArray), .int .i64 0, .int .i64 0, .string (⟨#[]⟩ : ByteArray)], .bool false]) (results_cell_tmpA (p := 2) (q := 3) rfl _ _ w.heap.size 92 #[.string (⟨#[]⟩ : ByteArray), .int .i64 0, .int .i64 0, .string (⟨#[]⟩ : ByteArray)] (0, 0) _ rfl (setRow_heap _ _ _ _ _ _ HZ4.out) Tryz.underlying92 rfl Tryz.infoRb _ rfl) rfl ⟨rfl, HO4.out.setRow (Nat.le_refl _) _⟩)
    cases o3
    · have e : r = false := hr
      subst e
      clear hr
      go_wp2_with (first | (refine wpList_store_row rfl 92 _ _ rfl w.heap.size #[.string (⟨#[]⟩ : ByteArray), .int .i64 0, .int .i64 0, .string (⟨#[]⟩ : ByteArray)] rfl rfl 92 _ HZ4.out Tryz.infoRb rfl (bl_one4 _ _ _ _) ?_))
      all_goals (exact bodyPost_ret (v := .tuple #[.agg #[.string (⟨#[]⟩ : ByteArray), .int .i64 0, .int .i64 0, .string (⟨#[]⟩ : ByteArray)], .bool false]) (results_cell_tmpA (p := 2) (q := 3) rfl _ _ w.heap.size 92 #[.string (⟨#[]⟩ : ByteArray), .int .i64 0, .int .i64 0, .string (⟨#[]⟩ : ByteArray)] (0, 0) _ rfl (setRow_heap _ _ _ _ _ _ HZ4.out) Tryz.underlying92 rfl Tryz.infoRb _ rfl) rfl ⟨rfl, HO4.out.setRow (Nat.le_refl _) _⟩)
    have hx := HX.out rfl
    have e : r = true := hr
    subst e
    clear hr
    go_wp2_with (first | (refine wpList_store_row rfl 92 _ _ rfl w.heap.size #[.string (⟨#[112, 114, 111, 112, 111, 115, 101]⟩ : ByteArray), .int .i64 h, .int .i64 v, .string X] rfl rfl 92 _ HZ4.out Tryz.infoRb rfl (bl_one4 _ _ _ _) ?_) | (refine wpList_store_row rfl 92 _ _ rfl w.heap.size #[.string (⟨#[112, 114, 101, 112, 97, 114, 101]⟩ : ByteArray), .int .i64 h, .int .i64 v, .string X] rfl rfl 92 _ HZ4.out Tryz.infoRb rfl (bl_one4 _ _ _ _) ?_) | (refine wpList_store_row rfl 92 _ _ rfl w.heap.size #[.string (⟨#[99, 111, 109, 109, 105, 116]⟩ : ByteArray), .int .i64 h, .int .i64 v, .string X] rfl rfl 92 _ HZ4.out Tryz.infoRb rfl (bl_one4 _ _ _ _) ?_))
    all_goals (first | (exact bodyPost_ret (v := .tuple #[.agg #[.string (⟨#[112, 114, 111, 112, 111, 115, 101]⟩ : ByteArray), .int .i64 h, .int .i64 v, .string X], .bool true]) (results_cell_tmpA (p := 2) (q := 3) rfl _ _ w.heap.size 92 #[.string (⟨#[112, 114, 111, 112, 111, 115, 101]⟩ : ByteArray), .int .i64 h, .int .i64 v, .string X] (0, 0) _ rfl (setRow_heap _ _ _ _ _ _ HZ4.out) Tryz.underlying92 rfl Tryz.infoRb _ rfl) rfl ⟨rfl, HO4.out.setRow (Nat.le_refl _) _⟩) | (exact bodyPost_ret (v := .tuple #[.agg #[.string (⟨#[112, 114, 101, 112, 97, 114, 101]⟩ : ByteArray), .int .i64 h, .int .i64 v, .string X], .bool true]) (results_cell_tmpA (p := 2) (q := 3) rfl _ _ w.heap.size 92 #[.string (⟨#[112, 114, 101, 112, 97, 114, 101]⟩ : ByteArray), .int .i64 h, .int .i64 v, .string X] (0, 0) _ rfl (setRow_heap _ _ _ _ _ _ HZ4.out) Tryz.underlying92 rfl Tryz.infoRb _ rfl) rfl ⟨rfl, HO4.out.setRow (Nat.le_refl _) _⟩) | (exact bodyPost_ret (v := .tuple #[.agg #[.string (⟨#[99, 111, 109, 109, 105, 116]⟩ : ByteArray), .int .i64 h, .int .i64 v, .string X], .bool true]) (results_cell_tmpA (p := 2) (q := 3) rfl _ _ w.heap.size 92 #[.string (⟨#[99, 111, 109, 109, 105, 116]⟩ : ByteArray), .int .i64 h, .int .i64 v, .string X] (0, 0) _ rfl (setRow_heap _ _ _ _ _ _ HZ4.out) Tryz.underlying92 rfl Tryz.infoRb _ rfl) rfl ⟨rfl, HO4.out.setRow (Nat.le_refl _) _⟩))
theorem kind_cases (k : Nat) (h : k < 3) : kindB k = kindB 0 ∨ kindB k = kindB 1 ∨ kindB k = kindB 2 := by
  rcases (by omega : k = 0 ∨ k = 1 ∨ k = 2) with rfl | rfl | rfl <;> simp
theorem rread_tx (x : Tx) (h : TxOk x) (w : World) : Calls Tryz.prog 36 #[.string x.t] w fun e w' => e = .returned (.tuple #[blOf x.rd, .bool x.rd.isSome]) ∧ Only (fun _ => False) w w' := by
  have hs := tx_size x h
  cases x with
  | bl b => exact rread_gen (blB b) _ _ _ _ (oneB b.val) b.height b.view true true true true w (Nat.le_trans hs (by decide)) (bl_words4 h) (kind_cases b.kind h.kind) (fun w => rint11_dec b.height w h.height) (fun w => rint11_dec b.view w h.view) (fun w => runhex_one b.val h.val w) ⟨by omega, by have := h.height; omega⟩ ⟨by omega, by have := h.view; omega⟩ (fun _ => rfl) rfl
  | odd => exact rread_gen oddB (kindB 2) ⟨#[50]⟩ ⟨#[49]⟩ ⟨#[55]⟩ ⟨#[]⟩ 2 1 true true false false w (by decide) (bytesList_inj (words_of oddB (kindB 2).data.toList [[50], [49], [55]] (noSp_dec (by decide)) (by decide))) (.inr (.inr rfl)) (fun w => rint11_yes ⟨#[50]⟩ 2 w (by decide) (by decide) (by decide) (by decide +kernel) (by decide) (by decide)) (fun w => rint11_yes ⟨#[49]⟩ 1 w (by decide) (by decide) (by decide) (by decide +kernel) (by decide) (by decide)) (fun w => runhex_odd 55 w) ⟨by decide, by decide⟩ ⟨by decide, by decide⟩ (fun h => by cases h) rfl
  | long => exact rread_gen longB (kindB 2) ⟨#[48, 50]⟩ ⟨#[49]⟩ (hex9B (oneB 120)) (oneB 120) 0 1 false true true false w (by decide) (bytesList_inj (words_of longB (kindB 2).data.toList [[48, 50], [49], [55, 56]] (noSp_dec (by decide)) (by decide))) (.inr (.inr rfl)) (fun w => rint11_no ⟨#[48, 50]⟩ w (by decide) (by decide) (by decide) (by decide +kernel)) (fun w => rint11_yes ⟨#[49]⟩ 1 w (by decide) (by decide) (by decide) (by decide +kernel) (by decide) (by decide)) (fun w => runhex_one 120 (by decide) w) ⟨by decide, by decide⟩ ⟨by decide, by decide⟩ (fun _ => rfl) rfl
end Go.Proofs.YtldkjkjpaiajlaaGreatDoor

namespace Go.Proofs.YtldkjkjpaiajlaaGreatDoor
open Go.RowKit

theorem rTotal_any (sv : Value) (l : List Mb) (w : World) (hw : MbsW l) (hs : MbsAt w sv l) : Calls Tryz.prog 35 #[sv] w fun e w' => e = .returned (.int .i64 (totZ l)) ∧ Only (fun _ => False) w w' := by
  have HT := Lib.hid (rtotal_any sv l (totZ l) w hw hs rfl)
  generalize totZ l = z at *
  go_enter Tryz.func35, Tryz.ntmps35
  go_wp2_with fail
  refine HT.out.mono ?_
  rintro e w1 ⟨rfl, hO⟩
  have HO := Lib.hid hO
  clear hO
  go_wp2
  go_ret
  exact ⟨rfl, HO.out⟩
theorem Tryz.infoMb : (Tryz.prog.info? 41).map (·.size) = some 3 := by kernel_rfl
theorem mb_one (a b c : Int) : (#[Value.int .i64 a, .int .i64 b, .int .i64 c] : Array Value).all (·.oneCell') = true := by simp [Value.oneCell']
/-- The member with an Id, or none. -/
def mbWho (l : List Mb) (who : Int) : Mb := if 0 ≤ whoI l who then mbAt l (whoI l who).toNat else ⟨0, 0, 0⟩
theorem mbWho_yes {l : List Mb} {who : Int} {k : Nat} (h : firstI (fun j => (mbAt l j).id == who) l.length = k) : mbWho l who = mbAt l k := by
  unfold mbWho whoI
  rw [h, if_pos (by omega), Int.toNat_natCast]
theorem mbWho_no {l : List Mb} {who : Int} (h : firstI (fun j => (mbAt l j).id == who) l.length = -1) : mbWho l who = ⟨0, 0, 0⟩ := by
  unfold mbWho whoI
  rw [h, if_neg (by decide)]
set_option maxHeartbeats 2000000 in
theorem rmember29_any (sv : Value) (l : List Mb) (who : Int) (w : World) (hM : MbsAt w sv l) :
    Calls Tryz.prog 38 #[sv, .int .i64 who] w fun e w' => e = .returned (.tuple #[.agg #[.int .i64 (mbWho l who).id, .int .i64 (mbWho l who).wt, .int .i64 (mbWho l who).pb], .bool (decide (0 ≤ whoI l who))]) ∧ Only (fun _ => False) w w' := by
  have hA := (Only.refl (fun _ => False) w).alloc (.cells #[.int .i64 0, .int .i64 0, .int .i64 0] 41)
  have HA := Lib.hid hA
  have HZ := Lib.hid (heap_alloc_last w (.cells #[.int .i64 0, .int .i64 0, .int .i64 0] 41))
  have HM := Lib.hid (MbsAt.only hA hM)
  obtain ⟨a1, c1, rfl⟩ := mbs_slice hM
  have HWI := Lib.hid (show whoI l who = firstI (fun j => (mbAt l j).id == who) l.length from rfl)
  clear hA hM
  go_enter Tryz.func38, Tryz.ntmps38
  go_wp2_with fail
  generalize w.alloc (.cells #[.int .i64 0, .int .i64 0, .int .i64 0] 41) = w1 at *
  go_loopw [6] (fun vi wr => ∃ k : Nat, k ≤ l.length ∧ vi = .int .i64 k ∧ (∀ j, j < k → ((mbAt l j).id == who) = false) ∧ wr = w1) (fun vi _ => l.length - (intOf vi).toNat)
  case atStart => exact ⟨0, Nat.zero_le _, rfl, fun j hj => absurd hj (Nat.not_lt_zero _), rfl⟩
  case round =>
    obtain ⟨k, hk, rfl, hno, rfl⟩ := hrel
    have HN := Lib.hid hno
    clear hno
    by_cases hlt : k < l.length
    · obtain ⟨b, off, rfl, hc1, hc2, d0, d1, d2⟩ := HM.out.cellAt hlt
      have HLT := Lib.hid hlt
      cases hp : ((mbAt l k).id == who)
      · have HN2 := Lib.hid (show ∀ j, j < k + 1 → ((mbAt l j).id == who) = false from fun j hj => by
          rcases Nat.lt_or_ge j k with h | h
          · exact HN.out j h
          · rw [show j = k by omega]; exact hp)
        generalize (mbAt l k).id = x0 at *
        go_wp2
        go_roundw
        case rel => exact ⟨k + 1, HLT.out, by go_num, HN2.out, by trivial⟩
        case measure => simp [intOf]; have := HLT.out; omega
      · have hf := firstI_yes hlt HN.out hp
        have HMB := Lib.hid (mbWho_yes hf)
        have HW2 := Lib.hid (show whoI l who = k from hf)
        have HD := Lib.hid (show decide (0 ≤ (k : Int)) = true from decide_eq_true (by omega))
        clear hf
        generalize mbAt l k = m at *
        obtain ⟨x0, x1, x2⟩ := m
        dsimp only at hp d0 d1 d2
        go_wp2_with (first | (refine wpList_store_row rfl 41 _ _ rfl w.heap.size #[.int .i64 x0, .int .i64 x1, .int .i64 x2] rfl rfl 41 _ HZ.out Tryz.infoMb rfl (mb_one _ _ _) ?_))
        all_goals (exact bodyPost_ret (v := .tuple #[.agg #[.int .i64 x0, .int .i64 x1, .int .i64 x2], .bool true]) (results_cell_tmpA (p := 4) (q := 5) rfl _ _ w.heap.size 41 #[.int .i64 x0, .int .i64 x1, .int .i64 x2] (0, 0) _ rfl (setRow_heap _ _ _ _ _ _ HZ.out) Tryz.underlying41 rfl Tryz.infoMb _ rfl) rfl ⟨by rw [HMB.out, HW2.out, HD.out], HA.out.setRow (Nat.le_refl _) _⟩)
    · obtain rfl : k = l.length := by omega
      have hf := firstI_no HN.out
      have HMB := Lib.hid (mbWho_no hf)
      have HW2 := Lib.hid (show whoI l who = -1 from hf)
      clear hf
      go_wp2_with (first | (refine wpList_store_row rfl 41 _ _ rfl w.heap.size #[.int .i64 0, .int .i64 0, .int .i64 0] rfl rfl 41 _ HZ.out Tryz.infoMb rfl (mb_one _ _ _) ?_))
      all_goals (exact bodyPost_ret (v := .tuple #[.agg #[.int .i64 0, .int .i64 0, .int .i64 0], .bool false]) (results_cell_tmpA (p := 4) (q := 5) rfl _ _ w.heap.size 41 #[.int .i64 0, .int .i64 0, .int .i64 0] (0, 0) _ rfl (setRow_heap _ _ _ _ _ _ HZ.out) Tryz.underlying41 rfl Tryz.infoMb _ rfl) rfl ⟨by rw [HMB.out, HW2.out]; rfl, HA.out.setRow (Nat.le_refl _) _⟩)
set_option maxHeartbeats 4000000 in
set_option maxRecDepth 100000 in
theorem rcounts_gen (sv : Value) (l : List Mb) (who R S : Int) (t : ByteArray) (ok r : Bool) (vk vx : ByteArray) (vh vv : Int) (w : World) (hM : MbsAt w sv l) (ht : t.size ≤ 100000)
    (hrd : ∀ w, Calls Tryz.prog 36 #[.string t] w fun e w' => e = .returned (.tuple #[.agg #[.string vk, .int .i64 vh, .int .i64 vv, .string vx], .bool ok]) ∧ Only (fun _ => False) w w')
    (hr : r = (ok && cntB l who t R S)) :
    Calls Tryz.prog 37 #[sv, .agg #[.int .i64 who, .string t, .int .i64 R, .int .i64 S]] w fun e w' => ∃ V, e = .returned (.tuple #[.agg V, .bool r]) ∧ (r = true → V = #[.string vk, .int .i64 vh, .int .i64 vv, .string vx]) ∧ (∃ (x0 x3 : ByteArray) (x1 x2 : Int), V = #[.string x0, .int .i64 x1, .int .i64 x2, .string x3]) ∧ Only (fun _ => False) w w' := by
  have hA1 := (Only.refl (fun _ => False) w).alloc (.cells #[.int .i64 who, .string t, .int .i64 R, .int .i64 S] 35)
  have hA2 := hA1.alloc (.cells #[.string (⟨#[]⟩ : ByteArray), .int .i64 0, .int .i64 0, .string (⟨#[]⟩ : ByteArray)] 92)
  have hz1 := row_still ((Only.refl (fun _ => False) (w.alloc (.cells #[.int .i64 who, .string t, .int .i64 R, .int .i64 S] 35))).alloc (.cells #[.string (⟨#[]⟩ : ByteArray), .int .i64 0, .int .i64 0, .string (⟨#[]⟩ : ByteArray)] 92)) (heap_alloc_last w (.cells #[.int .i64 who, .string t, .int .i64 R, .int .i64 S] 35))
  have hz2 := heap_alloc_last (w.alloc (.cells #[.int .i64 who, .string t, .int .i64 R, .int .i64 S] 35)) (.cells #[.string (⟨#[]⟩ : ByteArray), .int .i64 0, .int .i64 0, .string (⟨#[]⟩ : ByteArray)] 92)
  rw [World.size_alloc] at hz2
  have HM := Lib.hid (MbsAt.only hA2 hM)
  have HA := Lib.hid hA2
  have HV := Lib.hid hz1
  have HZ := Lib.hid hz2
  have HRD := Lib.hid hrd
  have HMB := Lib.hid (fun w (hM : MbsAt w sv l) => rmember29_any sv l who w hM)
  have HSV := Lib.hid (fun (h : 0 ≤ whoI l who) w => rverify5_any (mbAt l (whoI l who).toNat).pb R S t _ w ht rfl)
  have HCN := Lib.hid (show cntB l who t R S = (decide (0 ≤ whoI l who) && sverB (mbAt l (whoI l who).toNat).pb t R S) from rfl)
  have HOF := Lib.hid (show ∀ _ : 0 ≤ whoI l who, mbWho l who = mbAt l (whoI l who).toNat from fun h => by unfold mbWho; rw [if_pos h])
  have y1 : _ = some (Value.string t) := cell_of_row _ _ 1 _ _ _ hz1
  have hs0 : w.heap.size < ((w.alloc (.cells #[.int .i64 who, .string t, .int .i64 R, .int .i64 S] 35)).alloc (.cells #[.string (⟨#[]⟩ : ByteArray), .int .i64 0, .int .i64 0, .string (⟨#[]⟩ : ByteArray)] 92)).heap.size := by simp; omega
  clear hA1 hA2 hM hz1 hz2 hrd
  obtain ⟨a1, c1, rfl⟩ := mbs_slice HM.out
  go_enter Tryz.func37, Tryz.ntmps37
  go_wp2_with fail
  refine (HRD.out _).mono ?_
  rintro e w2 ⟨rfl, hO⟩
  have hA3 := (Only.refl (fun _ => False) w2).alloc (.cells #[.string vk, .int .i64 vh, .int .i64 vv, .string vx] 92)
  have HO3 := Lib.hid (HA.out.trans (hO.trans hA3))
  have HV3 := Lib.hid (row_still (hO.trans hA3) HV.out)
  have HZ3 := Lib.hid (row_still (hO.trans hA3) HZ.out)
  have HM3 := Lib.hid (MbsAt.only (hO.trans hA3) HM.out)
  have HP3 := Lib.hid (heap_alloc_last w2 (.cells #[.string vk, .int .i64 vh, .int .i64 vv, .string vx] 92))
  have y0 : (w2.alloc (.cells #[.string vk, .int .i64 vh, .int .i64 vv, .string vx] 92)).cell? ⟨w.heap.size, 0, none⟩ = some (Value.int .i64 who) := cell_of_row _ _ 0 _ _ _ HV3.out
  have yw2 : w2.cell? ⟨w.heap.size, 0, none⟩ = some (Value.int .i64 who) := cell_of_row _ _ 0 _ _ _ (row_still hO HV.out)
  have hs2 : w.heap.size < w2.heap.size := by have := hO.size; omega
  clear hA3 hO HM HA HV HZ HRD y1 hs0
  go_wp2_with fail
  refine (HMB.out _ HM3.out).mono ?_
  rintro e w3 ⟨rfl, hO⟩
  obtain ⟨m0, hm0⟩ : ∃ m, (mbWho l who).id = m := ⟨_, rfl⟩
  obtain ⟨m1, hm1⟩ : ∃ m, (mbWho l who).wt = m := ⟨_, rfl⟩
  obtain ⟨m2, hm2⟩ : ∃ m, (mbWho l who).pb = m := ⟨_, rfl⟩
  rw [hm0, hm1, hm2]
  have hA4 := (Only.refl (fun _ => False) w3).alloc (.cells #[.int .i64 m0, .int .i64 m1, .int .i64 m2] 41)
  have HO4 := Lib.hid (HO3.out.trans (hO.trans hA4))
  have HV4 := Lib.hid (row_still (hO.trans hA4) HV3.out)
  have HZ4 := Lib.hid (row_still (hO.trans hA4) HZ3.out)
  have HP4 := Lib.hid (row_still (hO.trans hA4) HP3.out)
  have HQ4 := Lib.hid (heap_alloc_last w3 (.cells #[.int .i64 m0, .int .i64 m1, .int .i64 m2] 41))
  have hV3' := row_still hO HV3.out
  have z1 : w3.cell? ⟨w.heap.size, 1, none⟩ = some (Value.string t) := cell_of_row _ _ 1 _ _ _ hV3'
  have z2 : w3.cell? ⟨w.heap.size, 2, none⟩ = some (Value.int .i64 R) := cell_of_row _ _ 2 _ _ _ hV3'
  have z3 : w3.cell? ⟨w.heap.size, 3, none⟩ = some (Value.int .i64 S) := cell_of_row _ _ 3 _ _ _ hV3'
  have hs3 : w.heap.size < w3.heap.size := (Array.getElem?_eq_some_iff.1 hV3').1
  clear hA4 hO HO3 HV3 HZ3 HP3 hV3' y0 yw2
  cases ok
  · have e : r = false := hr
    subst e
    clear hr
    go_wp2_with (first | (refine wpList_store_row rfl 92 _ _ rfl (w.heap.size + 1) #[.string (⟨#[]⟩ : ByteArray), .int .i64 0, .int .i64 0, .string (⟨#[]⟩ : ByteArray)] rfl rfl 92 _ HZ4.out Tryz.infoRb rfl (bl_one4 _ _ _ _) ?_))
    all_goals (exact bodyPost_ret (v := .tuple #[.agg #[.string (⟨#[]⟩ : ByteArray), .int .i64 0, .int .i64 0, .string (⟨#[]⟩ : ByteArray)], .bool false]) (results_cell_tmpA (p := 4) (q := 5) rfl _ _ (w.heap.size + 1) 92 #[.string (⟨#[]⟩ : ByteArray), .int .i64 0, .int .i64 0, .string (⟨#[]⟩ : ByteArray)] (0, 0) _ rfl (setRow_heap _ _ _ _ _ _ HZ4.out) Tryz.underlying92 rfl Tryz.infoRb _ rfl) rfl ⟨_, rfl, (fun h => by cases h), ⟨_, _, _, _, rfl⟩, HO4.out.setRow (Nat.le_succ _) _⟩)
  rw [Bool.true_and] at hr
  by_cases hi : 0 ≤ whoI l who
  · have HPB := Lib.hid (show (mbAt l (whoI l who).toNat).pb = m2 by rw [← hm2, HOF.out hi])
    have HSV2 := Lib.hid (HSV.out hi)
    have hr2 : r = sverB m2 t R S := by rw [hr, HCN.out, decide_eq_true hi, HPB.out]; rfl
    rw [HPB.out, ← hr2] at HSV2
    rw [decide_eq_true hi]
    clear hr hr2 hi hm0 hm1 hm2 HSV HCN HOF
    go_wp2_with fail
    refine (HSV2.out _).mono ?_
    rintro e w5 ⟨rfl, hO⟩
    have HO5 := Lib.hid (HO4.out.trans hO)
    have HZ5 := Lib.hid (row_still hO HZ4.out)
    have HP5 := Lib.hid (row_still hO HP4.out)
    clear hO HZ4 HP4 HQ4 HV4
    go_wp2_with (first | (refine wpList_load_row rfl 92 _ rfl w2.heap.size rfl 92 #[.string vk, .int .i64 vh, .int .i64 vv, .string vx] (0, 0) _ HP5.out Tryz.underlying92 rfl Tryz.infoRb ?_) | (refine wpList_store_row rfl 92 _ _ rfl (w.heap.size + 1) #[.string vk, .int .i64 vh, .int .i64 vv, .string vx] rfl rfl 92 _ HZ5.out Tryz.infoRb rfl (bl_one4 _ _ _ _) ?_))
    all_goals (exact bodyPost_ret (v := .tuple #[.agg #[.string vk, .int .i64 vh, .int .i64 vv, .string vx], .bool r]) (results_cell_tmpA (p := 4) (q := 5) rfl _ _ (w.heap.size + 1) 92 #[.string vk, .int .i64 vh, .int .i64 vv, .string vx] (0, 0) _ rfl (setRow_heap _ _ _ _ _ _ HZ5.out) Tryz.underlying92 rfl Tryz.infoRb _ rfl) rfl ⟨_, rfl, (fun _ => rfl), ⟨_, _, _, _, rfl⟩, HO5.out.setRow (Nat.le_succ _) _⟩)
  · have e : r = false := by rw [hr, HCN.out, decide_eq_false hi]; rfl
    subst e
    rw [decide_eq_false hi]
    clear hr
    go_wp2_with (first | (refine wpList_store_row rfl 92 _ _ rfl (w.heap.size + 1) #[.string (⟨#[]⟩ : ByteArray), .int .i64 0, .int .i64 0, .string (⟨#[]⟩ : ByteArray)] rfl rfl 92 _ HZ4.out Tryz.infoRb rfl (bl_one4 _ _ _ _) ?_))
    all_goals (exact bodyPost_ret (v := .tuple #[.agg #[.string (⟨#[]⟩ : ByteArray), .int .i64 0, .int .i64 0, .string (⟨#[]⟩ : ByteArray)], .bool false]) (results_cell_tmpA (p := 4) (q := 5) rfl _ _ (w.heap.size + 1) 92 #[.string (⟨#[]⟩ : ByteArray), .int .i64 0, .int .i64 0, .string (⟨#[]⟩ : ByteArray)] (0, 0) _ rfl (setRow_heap _ _ _ _ _ _ HZ4.out) Tryz.underlying92 rfl Tryz.infoRb _ rfl) rfl ⟨_, rfl, (fun h => by cases h), ⟨_, _, _, _, rfl⟩, HO4.out.setRow (Nat.le_succ _) _⟩)
theorem rcounts_tx (sv : Value) (l : List Mb) (v : Vr) (w : World) (hM : MbsAt w sv l) (hv : VrOk v) :
    Calls Tryz.prog 37 #[sv, .agg #[.int .i64 v.who, .string v.x.t, .int .i64 v.R, .int .i64 v.S]] w fun e w' => ∃ V, e = .returned (.tuple #[.agg V, .bool (cnT l v).isSome]) ∧ (∀ b, cnT l v = some b → V = (blC b).toArray) ∧ (∃ (x0 x3 : ByteArray) (x1 x2 : Int), V = #[.string x0, .int .i64 x1, .int .i64 x2, .string x3]) ∧ Only (fun _ => False) w w' := by
  have hs := tx_size v.x hv.x
  cases hr : v.x.rd with
  | none =>
    refine (rcounts_gen sv l v.who v.R v.S v.x.t false false ⟨#[]⟩ ⟨#[]⟩ 0 0 w hM (by omega) (fun w => ?_) rfl).mono fun e w' h => ?_
    · have := rread_tx v.x hv.x w
      rw [hr] at this
      exact this
    · obtain ⟨V, h1, h2, h3, h4⟩ := h
      have hc : cnT l v = none := by unfold cnT; rw [hr]
      exact ⟨V, by rw [hc]; exact h1, (fun b hb => by rw [hc] at hb; cases hb), h3, h4⟩
  | some b =>
    refine (rcounts_gen sv l v.who v.R v.S v.x.t true (cntB l v.who v.x.t v.R v.S) (kindB b.kind) (oneB b.val) b.height b.view w hM (by omega) (fun w => ?_) rfl).mono fun e w' h => ?_
    · have := rread_tx v.x hv.x w
      rw [hr] at this
      exact this
    · obtain ⟨V, h1, h2, h3, h4⟩ := h
      have hc : cnT l v = if cntB l v.who v.x.t v.R v.S then some b else none := by unfold cnT; rw [hr]
      cases hcb : cntB l v.who v.x.t v.R v.S
      · rw [hcb] at h1 hc
        exact ⟨V, by rw [hc]; exact h1, (fun b hb => by rw [hc] at hb; cases hb), h3, h4⟩
      · rw [hcb] at h1 h2 hc
        exact ⟨V, by rw [hc]; exact h1, (fun b' hb => by rw [hc] at hb; cases hb; exact h2 rfl), h3, h4⟩
end Go.Proofs.YtldkjkjpaiajlaaGreatDoor

namespace Go.Proofs.YtldkjkjpaiajlaaGreatDoor
open Go.RowKit

/-- Who has voted, each once. -/
def seenTo (vs : List Vr) : Nat → List Int
  | 0 => []
  | k + 1 => if whoTo vs k (vrAt vs k).who then seenTo vs k else seenTo vs k ++ [(vrAt vs k).who]
theorem seenTo_mem (vs : List Vr) (z : Int) : ∀ k, z ∈ seenTo vs k ↔ whoTo vs k z = true
  | 0 => by simp [seenTo, whoTo]
  | k + 1 => by
    have ih := seenTo_mem vs z k
    unfold seenTo
    rw [whoTo, Bool.or_eq_true, beq_iff_eq]
    split
    · rename_i h
      rw [ih]
      constructor
      · exact .inr
      · rintro (rfl | h')
        · exact h
        · exact h'
    · rw [List.mem_append, ih, List.mem_singleton]
      exact Or.comm
def rsumTo (l : List Mb) (vs : List Vr) : Nat → Int
  | 0 => 0
  | k + 1 => if whoTo vs k (vrAt vs k).who then rsumTo l vs k else rsumTo l vs k + (mbWho l (vrAt vs k).who).wt
def sumP (l : List Mb) (P : Int → Bool) : Nat → Int
  | 0 => 0
  | m + 1 => sumP l P m + if P (mbAt l m).id then (mbAt l m).wt else 0
theorem sumV_P (l : List Mb) (vs : List Vr) : ∀ m, sumV l vs m = sumP l (whoTo vs vs.length) m
  | 0 => rfl
  | m + 1 => by rw [sumV, sumP, sumV_P l vs m]
theorem sumP_none (l : List Mb) : ∀ m, sumP l (fun _ => false) m = 0
  | 0 => rfl
  | m + 1 => by rw [sumP, sumP_none l m]; rfl
theorem sumP_add (l : List Mb) (P : Int → Bool) (x : Int) (t : Nat) (hx : (mbAt l t).id = x) (hP : P x = false) (n : Nat) (hd : ∀ j, j < n → j ≠ t → (mbAt l j).id ≠ x) :
    ∀ m, m ≤ n → sumP l (fun z => z == x || P z) m = sumP l P m + if t < m then (mbAt l t).wt else 0
  | 0, _ => rfl
  | m + 1, hm => by
    have ih := sumP_add l P x t hx hP n hd m (by omega)
    rw [sumP, sumP, ih]
    by_cases e : m = t
    · subst e
      rw [hx, hP, if_neg (Nat.lt_irrefl _), if_pos (Nat.lt_succ_self _), beq_self_eq_true, Bool.true_or, if_pos rfl, if_neg (by decide)]
    · have h1 : ((mbAt l m).id == x) = false := beq_eq_false_iff_ne.2 (hd m (by omega) e)
      rw [h1, Bool.false_or]
      generalize (if P (mbAt l m).id = true then (mbAt l m).wt else 0) = q
      by_cases h2 : t < m
      · rw [if_pos h2, if_pos (by omega)]; omega
      · rw [if_neg h2, if_neg (by omega)]; omega
theorem inTo_of (zs : List Int) (z : Int) : ∀ i k, i < k → ptAt zs i = z → inTo zs k z = true := by
  intro i k
  induction k with
  | zero => intro h; omega
  | succ k ih =>
    intro h hz
    unfold inTo
    by_cases e : i = k
    · subst e; rw [hz, beq_self_eq_true, Bool.true_or]
    · rw [ih (by omega) hz, Bool.or_true]
theorem ids_diff {l : List Mb} : ∀ {k : Nat}, mbOk l k = true → ∀ i j, i < j → j < k → (mbAt l i).id ≠ (mbAt l j).id := by
  intro k
  induction k with
  | zero => intro _ i j _ h; omega
  | succ k ih =>
    intro h i j hij hj
    rw [mbOk] at h
    simp only [Bool.and_eq_true] at h
    by_cases e : j = k
    · subst e
      have h2 := h.2.1
      intro hh
      have : inTo (ids l) j (mbAt l j).id = true := by
        refine inTo_of (ids l) _ i j hij ?_
        rw [ptAt_ids]; exact hh
      rw [this] at h2
      cases h2
    · exact ih h.1 i j hij (by omega)
theorem rsum_law {l : List Mb} (h : rightB l = true) (vs : List Vr) : ∀ k, (∀ j, j < k → 0 ≤ whoI l (vrAt vs j).who) → rsumTo l vs k = sumP l (whoTo vs k) l.length
  | 0, _ => (sumP_none l l.length).symm
  | k + 1, hw => by
    have ih := rsum_law h vs k (fun j hj => hw j (by omega))
    obtain ⟨_, _, hok, _⟩ := rightB_spec h
    unfold rsumTo
    split
    · rename_i hin
      rw [ih]
      congr 1
      funext z
      rw [whoTo]
      by_cases e : z = (vrAt vs k).who
      · rw [e, hin, Bool.or_true]
      · rw [beq_eq_false_iff_ne.2 e, Bool.false_or]
    · rename_i hin
      have hk := hw k (Nat.lt_succ_self k)
      have hlt := whoI_lt hk
      have hid : (mbAt l (whoI l (vrAt vs k).who).toNat).id = (vrAt vs k).who := by
        unfold whoI firstI at hk ⊢
        cases hf : (List.range l.length).find? fun j => (mbAt l j).id == (vrAt vs k).who with
        | none => rw [hf] at hk; exact absurd hk (by decide)
        | some j =>
          have := List.find?_some hf
          show (mbAt l ((j : Int)).toNat).id = _
          rw [Int.toNat_natCast]
          exact beq_iff_eq.1 this
      have e : whoTo vs (k + 1) = fun z => z == (vrAt vs k).who || whoTo vs k z := rfl
      rw [e, sumP_add l (whoTo vs k) (vrAt vs k).who _ hid (by simpa using hin) l.length (fun j hj hne => ?_) l.length (Nat.le_refl _), if_pos hlt, ih]
      · unfold mbWho
        rw [if_pos hk]
      · rw [← hid]
        rcases Nat.lt_or_gt_of_ne hne with h1 | h1
        · exact ids_diff hok _ _ h1 hlt
        · exact (ids_diff hok _ _ h1 hj).symm
end Go.Proofs.YtldkjkjpaiajlaaGreatDoor

namespace Go.Proofs.YtldkjkjpaiajlaaGreatDoor
open Go.RowKit

theorem blOf_shape (v : Vr) : ∃ (x0 x3 : ByteArray) (x1 : Int), blOf v.x.rd = .agg #[.string x0, .int .i64 x1, .int .i64 (vwV v), .string x3] := by
  unfold vwV
  cases v.x.rd with
  | none => exact ⟨⟨#[]⟩, ⟨#[]⟩, 0, rfl⟩
  | some b => exact ⟨kindB b.kind, oneB b.val, b.height, rfl⟩
theorem cnT_who {l : List Mb} {v : Vr} {b : Bl} (h : cnT l v = some b) : 0 ≤ whoI l v.who := by
  unfold cnT at h
  split at h
  · split at h
    · rename_i hc
      unfold cntB at hc
      rw [Bool.and_eq_true] at hc
      exact of_decide_eq_true hc.1
    · cases h
  · cases h
theorem ckTo_who {l : List Mb} {H : Int} {val : ByteArray} {vs : List Vr} : ∀ {k : Nat}, ckTo l H val vs k = true → ∀ j, j < k → 0 ≤ whoI l (vrAt vs j).who
  | 0, _, j, hj => by omega
  | k + 1, h, j, hj => by
    rw [ckTo, Bool.and_eq_true, Bool.and_eq_true] at h
    by_cases e : j = k
    · subst e
      have h1 := h.2.1
      rw [okV_eq] at h1
      cases hc : cnT l (vrAt vs j) with
      | none => rw [hc] at h1; cases h1
      | some b => exact cnT_who hc
    · exact ckTo_who h.1 j (by omega)
theorem mbWho_id {l : List Mb} {who : Int} (h : 0 ≤ whoI l who) : (mbWho l who).id = who ∧ ∃ j, j < l.length ∧ mbWho l who = mbAt l j := by
  have hlt := whoI_lt h
  refine ⟨?_, _, hlt, by unfold mbWho; rw [if_pos h]⟩
  unfold mbWho
  rw [if_pos h]
  unfold whoI firstI at h ⊢
  cases hf : (List.range l.length).find? fun j => (mbAt l j).id == who with
  | none => rw [hf] at h; exact absurd h (by decide)
  | some j =>
    have := List.find?_some hf
    show (mbAt l ((j : Int)).toNat).id = _
    rw [Int.toNat_natCast]
    exact beq_iff_eq.1 this
theorem sumP_bd {l : List Mb} (P : Int → Bool) (h : mbOk l l.length = true) : ∀ k, k ≤ l.length → 0 ≤ sumP l P k ∧ sumP l P k ≤ sumTo l k := by
  intro k
  induction k with
  | zero => intro _; exact ⟨Int.le_refl _, Int.le_refl _⟩
  | succ k ih =>
    intro hk
    have h1 := ih (by omega)
    have h2 := (mbOk_wt l l.length h).1 k (by omega)
    rw [sumP, sumTo]
    split <;> omega
theorem seen_len (vs : List Vr) : ∀ k, (seenTo vs k).length ≤ k
  | 0 => Nat.le_refl _
  | k + 1 => by
    have := seen_len vs k
    unfold seenTo
    split
    · omega
    · rw [List.length_append, List.length_singleton]; omega
/-- Is x among the first j? -/
def hasTo (zs : List Int) (x : Int) (j : Nat) : Bool := (zs.take j).any (· == x)
theorem hasTo_succ {zs : List Int} {x : Int} {j : Nat} (hj : j < zs.length) : hasTo zs x (j + 1) = (hasTo zs x j || zs.getD j 0 == x) := by
  unfold hasTo
  rw [List.take_succ_eq_append_getElem hj, List.any_append]
  simp [List.getD, hj]
theorem hasTo_all (vs : List Vr) (k : Nat) (x : Int) : hasTo (seenTo vs k) x (seenTo vs k).length = whoTo vs k x := by
  unfold hasTo
  rw [List.take_length]
  cases h : whoTo vs k x
  · rw [List.any_eq_false]
    intro y hy hh
    rw [beq_iff_eq] at hh
    subst hh
    rw [(seenTo_mem vs y k).1 hy] at h
    cases h
  · rw [List.any_eq_true]
    exact ⟨x, (seenTo_mem vs x k).2 h, by simp⟩
theorem ownI_cells {w : World} {base : Nat} {a : Option Addr} {n c : Nat} {zs : List Int} (h : w.ownsRow base 3 1 (.slice a n c) n (irow zs)) (hn : zs.length = n) {j : Nat} (hj : j < n) : ∃ g, a = some ⟨g, 0, none⟩ ∧ n ≤ c ∧ c ≤ 9223372036854775807 ∧ w.cell? ⟨g, j, none⟩ = some (.int .i64 (zs.getD j 0)) := by
  have HO := h
  rcases h.2 with ⟨_, h0⟩ | ⟨g, cap, cur, hv, _, _, hc, hc2, _, _⟩
  · omega
  · cases hv
    refine ⟨g, rfl, hc, hc2, ?_⟩
    have := HO.cells (g := g) rfl j (.int .i64 (zs.getD j 0)) (by
      unfold irow
      rw [List.getElem?_map, List.getElem?_eq_getElem (by omega)]
      simp [List.getD, show j < zs.length by omega])
    by_cases h0 : j = 0
    · subst h0; exact this
    · simpa [Addr.add, h0] using this
set_option maxHeartbeats 4000000 in
set_option maxRecDepth 100000 in
theorem rcheck_any (sv dv : Value) (l : List Mb) (H : Int) (val : ByteArray) (vs : List Vr) (bb : Bool) (w : World) (hw : MbsW l) (hM : MbsAt w sv l) (hV : VrsAt w dv vs) (hvl : vs.length ≤ 1000) (hok : ∀ v ∈ vs, VrOk v)
    (hb : ckB l H val vs = bb) :
    Calls Tryz.prog 11 #[sv, .agg #[.int .i64 H, .string val, dv]] w fun e w' => e = .returned (.bool bb) ∧ Only (fun _ => False) w w' := by
  obtain ⟨i0, hi0, hz0, hz1, hz2⟩ := info_parts Tryz.infoI
  obtain ⟨a1, c1, rfl⟩ := hV.slice
  obtain ⟨a2, c2, rfl⟩ := mbs_slice hM
  have hA := (Only.refl (fun _ => False) w).alloc (.cells #[.int .i64 H, .string val, .slice a1 vs.length c1] 31)
  have HA := Lib.hid hA
  have HD := Lib.hid (heap_alloc_last w (.cells #[.int .i64 H, .string val, .slice a1 vs.length c1] 31))
  have HM := Lib.hid hM
  have HV := Lib.hid hV
  have HT := Lib.hid (rTotal_any _ l _ hw (MbsAt.only hA hM))
  have HOK := Lib.hid hok
  have HBB := Lib.hid hb
  have hsz0 : w.heap.size < (w.alloc (.cells #[.int .i64 H, .string val, .slice a1 vs.length c1] 31)).heap.size := by simp
  clear hA hM hV hok hb
  go_enter Tryz.func11, Tryz.ntmps11
  go_wp2_with fail
  refine HT.out.mono ?_
  rintro e w1 ⟨rfl, hO⟩
  have HO1 := Lib.hid (HA.out.trans hO)
  have HD1 := Lib.hid (row_still hO HD.out)
  have y2 : _ = some (Value.slice a1 vs.length c1) := cell_of_row _ _ 2 _ _ _ HD1.out
  clear hO HT HD HA hsz0
  cases hr : rightB l
  · have e : bb = false := by rw [← HBB.out]; unfold ckB; rw [hr]; rfl
    subst e
    have hz : totZ l = 0 := by unfold totZ; rw [hr]; rfl
    rw [hz]
    clear hr hz
    go_wp2
    go_ret
    exact ⟨rfl, HO1.out⟩
  have HR := Lib.hid hr
  have htz := totZ_pos hr
  have HTZ := Lib.hid htz
  have q0 : (totZ l == 0) = false := beq_eq_false_iff_ne.2 (by omega)
  have HCK := Lib.hid (show bb = (ckTo l H val vs vs.length && decide (2 * totZ l < 3 * sumV l vs l.length)) by rw [← HBB.out]; unfold ckB; rw [hr]; rfl)
  clear hr HBB
  by_cases hn : vs.length = 0
  · have e : bb = false := by
      rw [HCK.out]
      have h0 : ∀ m, sumV l vs m = 0 := fun m => by
        rw [sumV_P, hn]
        exact sumP_none l m
      rw [h0, decide_eq_false (by omega), Bool.and_false]
    subst e
    have q1 : ((vs.length : Int) == 0) = true := by rw [hn]; rfl
    clear hn htz
    go_wp2
    go_ret
    exact ⟨rfl, HO1.out⟩
  have hn0 : 0 < vs.length := by omega
  have q1 : ((vs.length : Int) == 0) = false := beq_eq_false_iff_ne.2 (by omega)
  obtain ⟨b0, off0, rfl, hc1, hc2, d0, d1, d2, d3⟩ := (VrsAt.only HO1.out HV.out).cellAt hn0
  rw [Nat.zero_mul, Nat.add_zero] at d1
  have HRD := Lib.hid (fun w => rread_tx (vrAt vs 0).x (HOK.out _ (vrAt_mem hn0)).x w)
  obtain ⟨f0, f3, f1, hf⟩ := blOf_shape (vrAt vs 0)
  rw [hf] at HRD
  have HN0 := Lib.hid hn0
  obtain ⟨tz, htzz⟩ : ∃ z, totZ l = z := ⟨_, rfl⟩
  rw [htzz] at q0 HCK HTZ ⊢
  clear hf htz hn d0 d2 d3
  go_wp2_with fail
  refine (HRD.out _).mono ?_
  rintro e w2 ⟨rfl, hO⟩
  have hA3 := (Only.refl (fun _ => False) w2).alloc (.cells #[.string f0, .int .i64 f1, .int .i64 (vwV (vrAt vs 0)), .string f3] 92)
  have HO3 := Lib.hid (HO1.out.trans (hO.trans hA3))
  have HD3 := Lib.hid (row_still (hO.trans hA3) HD1.out)
  have HF3 := Lib.hid (heap_alloc_last w2 (.cells #[.string f0, .int .i64 f1, .int .i64 (vwV (vrAt vs 0)), .string f3] 92))
  clear hA3 hO HO1 HD1 HRD y2 d1 q0 q1
  have HG0 := Lib.hid (Nat.le_of_lt (show w.heap.size < w2.heap.size + 1 from by
    have := (Array.getElem?_eq_some_iff.1 HD3.out).1
    simp at this
    omega))
  go_wp2_with fail
  generalize hw3 : w2.alloc (.cells #[.string f0, .int .i64 f1, .int .i64 (vwV (vrAt vs 0)), .string f3] 92) = w3 at *
  clear hw3
  generalize w2.heap.size = fb at *
  go_loopw [8, 9, 10] (fun vsum vseen vi wr => ∃ (k : Nat) (a : Option Addr) (c : Nat), k ≤ vs.length ∧ vi = .int .i64 k ∧ vsum = .int .i64 (rsumTo l vs k) ∧ vseen = .slice a (seenTo vs k).length c ∧ ckTo l H val vs k = true ∧ wr.ownsRow w3.heap.size 3 1 (.slice a (seenTo vs k).length c) (seenTo vs k).length (irow (seenTo vs k)) ∧ Only (fun _ => False) w3 wr) (fun _ _ vi _ => vs.length - (intOf vi).toNat)
  case atStart => exact ⟨0, none, 0, Nat.zero_le _, rfl, rfl, rfl, rfl, World.ownsRow_nil _ _ _ _, Only.refl _ _⟩
  case round =>
    obtain ⟨k, asn, csn, hk, rfl, rfl, rfl, hck, hown, hO⟩ := hrel
    generalize wr = wA at *
    have HC := Lib.hid hck
    have HOWN := Lib.hid hown
    have HO := Lib.hid hO
    have hszA := hO.size
    have HDA := Lib.hid (row_still hO HD3.out)
    have HFA := Lib.hid (row_still hO HF3.out)
    have y2 : _ = some (Value.slice (some ⟨b0, off0, none⟩) vs.length c1) := cell_of_row _ _ 2 _ _ _ HDA.out
    have HKS := Lib.hid hk
    clear hck hown hO
    by_cases hlt : k < vs.length
    · have HLT := Lib.hid hlt
      obtain ⟨b', off', hbo, _, _, d0, d1, d2, d3⟩ := (VrsAt.only (HO3.out.trans HO.out) HV.out).cellAt hlt
      cases hbo
      have HVK := Lib.hid (HOK.out _ (vrAt_mem hlt))
      have HCT := Lib.hid (fun w (hM : MbsAt w (.slice a2 l.length c2) l) => rcounts_tx _ l (vrAt vs k) w hM HVK.out)
      have HMA := Lib.hid (MbsAt.only (HO3.out.trans HO.out) HM.out)
      have HST := Lib.hid (show ckTo l H val vs (k + 1) = (ckTo l H val vs k && (okV l H val (vrAt vs k) && vwV (vrAt vs 0) == vwV (vrAt vs k))) from rfl)
      have HOV := Lib.hid (okV_eq l H val (vrAt vs k))
      have HNO := Lib.hid (fun h : ckTo l H val vs (k + 1) = false => show bb = false by rw [HCK.out, ckTo_false l H val vs vs.length (k + 1) (by omega) h]; rfl)
      go_wp2_with fail
      refine (HCT.out _ HMA.out).mono ?_
      rintro e wB ⟨V, rfl, hVb, ⟨x0, x3, x1, x2, hVV⟩, hO⟩
      subst hVV
      have HOB := Lib.hid (HO.out.trans hO)
      have hDB := row_still hO HDA.out
      have hFB := row_still hO HFA.out
      have z0 : _ = some (Value.int .i64 H) := cell_of_row _ _ 0 _ _ _ hDB
      have z1 : _ = some (Value.string val) := cell_of_row _ _ 1 _ _ _ hDB
      have z2 : _ = some (Value.slice (some ⟨b0, off0, none⟩) vs.length c1) := cell_of_row _ _ 2 _ _ _ hDB
      have zf : _ = some (Value.int .i64 (vwV (vrAt vs 0))) := cell_of_row _ _ 2 _ _ _ hFB
      have hsB : w.heap.size < wB.heap.size := (Array.getElem?_eq_some_iff.1 hDB).1
      have hsF : fb < wB.heap.size := (Array.getElem?_eq_some_iff.1 hFB).1
      have HDB := Lib.hid hDB
      have HFB := Lib.hid hFB
      have HOWB := Lib.hid (hO.owns HOWN.out (fun g _ h => h))
      have HMB := Lib.hid (MbsAt.only hO HMA.out)
      clear hO hDB hFB y2 d0 d1 d2 d3 HDA HFA HOWN HMA HCT
      cases hc : cnT l (vrAt vs k) with
      | none =>
        have e : bb = false := HNO.out (by rw [HST.out, HOV.out, hc]; simp)
        subst e
        go_wp2
        go_ret
        exact ⟨rfl, HO3.out.trans (HOB.out.alloc _)⟩
      | some b2 =>
        have hV2 := hVb b2 hc
        simp only [blC, List.cons.injEq, Array.mk.injEq, Value.string.injEq, Value.int.injEq, true_and, and_true] at hV2
        obtain ⟨rfl, rfl, rfl, rfl⟩ := hV2
        clear hVb
        have HRD := Lib.hid (cnT_rd hc)
        have HBO := Lib.hid (rd_ok HVK.out HRD.out)
        have HWI := Lib.hid (cnT_who hc)
        have HVW2 := Lib.hid (show vwV (vrAt vs k) = b2.view by unfold vwV; rw [HRD.out])
        rw [hc] at HOV
        have HOV2 := Lib.hid (show okV l H val (vrAt vs k) = (b2.kind == 2 && ((b2.height : Int) == H && decide (oneB b2.val = val))) from HOV.out)
        by_cases k2 : b2.kind = 2
        rotate_left
        · have e : bb = false := HNO.out (by rw [HST.out, HOV2.out, beq_eq_false_iff_ne.2 k2]; simp)
          subst e
          have hne : kindB b2.kind ≠ (⟨#[99, 111, 109, 109, 105, 116]⟩ : ByteArray) := fun h => k2 (kindB_inj b2.kind HBO.out.kind 2 (by decide) (congrArg (fun b : ByteArray => b.data.toList) h))
          generalize kindB b2.kind = K at *
          have q4 : ¬ K.toList = [99, 111, 109, 109, 105, 116] := toList_lit hne
          go_wp2
          go_ret
          exact ⟨rfl, HO3.out.trans (HOB.out.alloc _)⟩
        have hK : kindB b2.kind = (⟨#[99, 111, 109, 109, 105, 116]⟩ : ByteArray) := by rw [k2]; rfl
        rw [hK]
        by_cases hh : (b2.height : Int) = H
        rotate_left
        · have e : bb = false := HNO.out (by rw [HST.out, HOV2.out, beq_eq_false_iff_ne.2 hh]; simp)
          subst e
          generalize (b2.height : Int) = hb at *
          go_wp2
          go_ret
          exact ⟨rfl, HO3.out.trans (HOB.out.alloc _)⟩
        by_cases hv : oneB b2.val = val
        rotate_left
        · have e : bb = false := HNO.out (by rw [HST.out, HOV2.out, decide_eq_false hv]; simp)
          subst e
          generalize oneB b2.val = X at *
          have q1 := toList_ne_of hv
          have q2 : (X.toList == val.toList) = false := by
            rw [Bool.eq_false_iff]
            exact fun e => by rw [bne, e] at q1; cases q1
          have q3 : ¬ X.toList = val.toList := fun e => by rw [e] at q1; simp at q1
          rw [hh]
          go_wp2
          go_ret
          exact ⟨rfl, HO3.out.trans (HOB.out.alloc _)⟩
        have HOK2 := Lib.hid (show okV l H val (vrAt vs k) = true by rw [HOV2.out, k2, beq_iff_eq.2 hh, decide_eq_true hv]; rfl)
        rw [hh, hv]
        by_cases hvw : vwV (vrAt vs 0) = vwV (vrAt vs k)
        rotate_left
        · have e : bb = false := HNO.out (by rw [HST.out, beq_eq_false_iff_ne.2 hvw]; simp)
          subst e
          rw [HVW2.out] at hvw
          have i2 : ¬ (b2.view : Int) = (vwV (vrAt vs 0) : Int) := by omega
          generalize (b2.view : Int) = bv at *
          generalize (vwV (vrAt vs 0) : Int) = fv at *
          go_wp2
          go_ret
          exact ⟨rfl, HO3.out.trans (HOB.out.alloc _)⟩
        have HCN := Lib.hid (show ckTo l H val vs (k + 1) = true by rw [HST.out, HC.out, HOK2.out, hvw]; simp)
        have hvi : (b2.view : Int) = (vwV (vrAt vs 0) : Int) := by rw [hvw, HVW2.out]
        rw [hvi]
        clear hvw hvi hh hv hK k2
        go_wp2_with fail
        have HOA := Lib.hid (HOB.out.alloc (.cells #[.string (⟨#[99, 111, 109, 109, 105, 116]⟩ : ByteArray), .int .i64 H, .int .i64 (vwV (vrAt vs 0)), .string val] 92))
        have hAB := (Only.refl (fun _ => False) wB).alloc (.cells #[.string (⟨#[99, 111, 109, 109, 105, 116]⟩ : ByteArray), .int .i64 H, .int .i64 (vwV (vrAt vs 0)), .string val] 92)
        have HOWC := Lib.hid (hAB.owns HOWB.out (fun g _ h => h))
        have HDC := Lib.hid (row_still hAB HDB.out)
        have HMC := Lib.hid (MbsAt.only hAB HMB.out)
        generalize wB.alloc (.cells #[.string (⟨#[99, 111, 109, 109, 105, 116]⟩ : ByteArray), .int .i64 H, .int .i64 (vwV (vrAt vs 0)), .string val] 92) = wC at *
        have HSL := Lib.hid (seen_len vs k)
        have HHA := Lib.hid (hasTo_all vs k (vrAt vs k).who)
        have HSE := Lib.hid (show seenTo vs (k + 1) = if whoTo vs k (vrAt vs k).who then seenTo vs k else seenTo vs k ++ [(vrAt vs k).who] from rfl)
        have HRS := Lib.hid (show rsumTo l vs (k + 1) = if whoTo vs k (vrAt vs k).who then rsumTo l vs k else rsumTo l vs k + (mbWho l (vrAt vs k).who).wt from rfl)
        have HSB := Lib.hid (show 0 ≤ rsumTo l vs k ∧ rsumTo l vs k ≤ 260 by
          rw [rsum_law HR.out vs k (ckTo_who HC.out)]
          obtain ⟨_, l13, hmo, l60⟩ := rightB_spec HR.out
          have h1 := sumP_bd (whoTo vs k) hmo l.length (Nat.le_refl _)
          omega)
        clear hAB HOB HOWB HDB HMB z0 z1 z2 zf hsB hsF HFB
        obtain ⟨zs, hzs⟩ : ∃ zs, seenTo vs k = zs := ⟨_, rfl⟩
        rw [hzs] at HOWC HSL HHA HSE ⊢
        have HZS := Lib.hid hzs
        clear hzs
        go_loopw [13, 14] (fun va vj wr => ∃ j : Nat, j ≤ zs.length ∧ vj = .int .i64 j ∧ va = .bool (hasTo zs (vrAt vs k).who j) ∧ Only (fun _ => False) wC wr) (fun _ vj _ => zs.length - (intOf vj).toNat)
        case atStart => exact ⟨0, Nat.zero_le _, rfl, rfl, Only.refl _ _⟩
        case round =>
          obtain ⟨j, hj, rfl, rfl, hOJ⟩ := hrel
          generalize wr = wJ at *
          have HOJ := Lib.hid hOJ
          by_cases hjl : j < zs.length
          · have HJL := Lib.hid hjl
            obtain ⟨g, rfl, hg1, hg2, gc⟩ := ownI_cells (hOJ.owns HOWC.out (fun g _ h => h)) rfl hjl
            have e2 : wJ.cell? ⟨w.heap.size, 2, none⟩ = some (Value.slice (some ⟨b0, off0, none⟩) vs.length c1) := cell_of_row _ _ 2 _ _ _ (row_still hOJ HDC.out)
            obtain ⟨b', off', hbo, _, _, v0, _, _, _⟩ := (VrsAt.only (HO3.out.trans (HOA.out.trans hOJ)) HV.out).cellAt hlt
            cases hbo
            have HHS := Lib.hid (hasTo_succ (x := (vrAt vs k).who) hjl)
            generalize (vrAt vs k).who = who at *
            generalize zs.getD j 0 = zj at *
            generalize hasTo zs who j = hb at *
            clear hOJ
            go_upto_region 17 with fail
            have y0 := fun (d : Nat) (os : Array Obj) => cell_regrown e2 d os
            have y1 := fun (d : Nat) (os : Array Obj) => cell_regrown v0 d os
            have y3 := fun (d : Nat) (os : Array Obj) => cell_regrown gc d os
            clear e2 v0 gc
            cases hb
            all_goals
              refine wp_region_quiet_below (by kernel_rfl) (by kernel_rfl) ?_
              repeat (go_big_quiet_step (fail))
              refine wpQuiet_nil ?_
              intro wD hw'
              obtain ⟨pq, hw''⟩ := hw'
              have HOD := Lib.hid (HOJ.out.trans (Only.ofBelow (below_regrown wJ pq.d pq.os) (fun _ => False)))
              rw [← hw''] at HOD
              clear hw'' y0 y1 y3
              go_wp2
              case roundEnd => exact ⟨⟨j + 1, HJL.out, by go_num, by rw [HHS.out]; simp, HOD.out⟩, by simp [intOf]; have := HJL.out; omega⟩
          · obtain rfl : j = zs.length := by omega
            rw [HHA.out]
            have HOWJ := Lib.hid (hOJ.owns HOWC.out (fun g _ h => h))
            have HOZ := Lib.hid (HOA.out.trans hOJ)
            cases hwt : whoTo vs k (vrAt vs k).who
            · rw [hwt] at HSE HRS
              have HSE2 := Lib.hid (show seenTo vs (k + 1) = zs ++ [(vrAt vs k).who] by rw [HSE.out]; simp)
              have HRS2 := Lib.hid (show rsumTo l vs (k + 1) = rsumTo l vs k + (mbWho l (vrAt vs k).who).wt by rw [HRS.out]; simp)
              obtain ⟨hmid, jm, hjm, hjme⟩ := mbWho_id HWI.out
              have hmw := (mbOk_wt l l.length (rightB_spec HR.out).2.2.1).1 jm hjm
              rw [← hjme] at hmw
              have e2 : wJ.cell? ⟨w.heap.size, 2, none⟩ = some (Value.slice (some ⟨b0, off0, none⟩) vs.length c1) := cell_of_row _ _ 2 _ _ _ (row_still hOJ HDC.out)
              obtain ⟨b', off', hbo, _, _, v0, _, _, _⟩ := (VrsAt.only (HO3.out.trans HOZ.out) HV.out).cellAt hlt
              cases hbo
              have HRM := Lib.hid (rmember29_any _ l (vrAt vs k).who wJ (MbsAt.only hOJ HMC.out))
              rw [hmid] at HRM
              have HEQ := Lib.hid (show irow (zs ++ [(vrAt vs k).who]) = irow zs ++ [.int .i64 (vrAt vs k).who] from irow_append _ _)
              have hzl : zs.length ≤ 1000 := by have := HSL.out; omega
              obtain ⟨s0, s1⟩ := HSB.out
              have hszJ := HOZ.out.size
              clear hOJ hjme hmid HHA hwt
              generalize (vrAt vs k).who = who at *
              generalize (mbWho l who).wt = mw at *
              generalize (mbWho l who).pb = mp at *
              generalize rsumTo l vs k = sk at *
              go_wp2_with fail
              refine HRM.out.mono ?_
              rintro e wK ⟨rfl, hO⟩
              have hown4 := (hO.trans ((Only.refl (fun _ => False) wK).alloc (.cells #[.int .i64 who, .int .i64 mw, .int .i64 mp] 41))).owns HOWJ.out (fun g _ h => h)
              have HO4 := Lib.hid (HOZ.out.trans (hO.trans ((Only.refl (fun _ => False) wK).alloc (.cells #[.int .i64 who, .int .i64 mw, .int .i64 mp] 41))))
              have hsz4 := hO.size
              clear hO e2 v0 HRM
              go_wp2_with (at_builtin; refine wpList_append_own _ rfl _ _ 26 rfl w3.heap.size 3 i0 _ 1 8 Tryz.underlying26 hi0 hz0 hz1 hz2 rfl (by decide) _ zs.length (irow zs) rfl (hown4.alloc _) ⟨wK.heap.size + 1, 0, none⟩ 1 1 [.int .i64 who] rfl rfl ?c1 ?c2 ?c3 ?c4 ?c5 ?_)
              case c1 =>
                have := cell_one_new (wK.alloc (.cells #[.int .i64 who, .int .i64 mw, .int .i64 mp] 41)) (.int .i64 who) 3
                rw [World.size_alloc] at this
                exact this
              case c2 => exact one_int _
              case c3 => unfold maxLen; omega
              case c4 => omega
              case c5 => simp; omega
              intro v' w5 hown5 hgrow5 _
              obtain ⟨a5, c5, hv⟩ := slice_of_own hown5
              rw [hv] at hown5 ⊢
              have HO5 := Lib.hid ((HO4.out.alloc _).grow (hown4.alloc _) (Nat.le_refl _) hgrow5)
              have HOW5 := Lib.hid hown5
              clear hgrow5 hv hown4 hown5
              go_wp2
              case roundEnd => exact ⟨⟨k + 1, a5, c5, HLT.out, by go_num, by rw [HRS2.out], by rw [HSE2.out, List.length_append]; rfl, HCN.out, by rw [HSE2.out, List.length_append, HEQ.out]; exact HOW5.out, HO5.out⟩, by simp [intOf]; have := HLT.out; omega⟩
            · rw [hwt] at HSE HRS
              have HSE2 := Lib.hid (show seenTo vs (k + 1) = zs by rw [HSE.out]; simp)
              have HRS2 := Lib.hid (show rsumTo l vs (k + 1) = rsumTo l vs k by rw [HRS.out]; simp)
              clear hOJ HHA hwt
              go_wp2
              case roundEnd => exact ⟨⟨k + 1, _, _, HLT.out, by go_num, by rw [HRS2.out], by rw [HSE2.out], HCN.out, by rw [HSE2.out]; exact HOWJ.out, HOZ.out⟩, by simp [intOf]; have := HLT.out; omega⟩
    · obtain rfl : k = vs.length := by omega
      have HCK2 := Lib.hid (show bb = decide (2 * tz < 3 * rsumTo l vs vs.length) by
        rw [HCK.out, HC.out, rsum_law HR.out vs vs.length (ckTo_who HC.out), sumV_P]; rfl)
      have hsb : 0 ≤ rsumTo l vs vs.length ∧ rsumTo l vs vs.length ≤ 260 := by
        rw [rsum_law HR.out vs vs.length (ckTo_who HC.out)]
        obtain ⟨_, l13, hmo, l60⟩ := rightB_spec HR.out
        have h1 := sumP_bd (whoTo vs vs.length) hmo l.length (Nat.le_refl _)
        omega
      have htz := HTZ.out
      generalize rsumTo l vs vs.length = sk at *
      go_wp2
      go_ret
      exact ⟨by rw [HCK2.out]; rfl, HO3.out.trans HO.out⟩
end Go.Proofs.YtldkjkjpaiajlaaGreatDoor
