/-
  Numbers in decimal: the reference's Text, decimal. Numbers in decimal: the reference's rational numbers that are whole; Text, decimal, Pad.
-/
import Derived.Test.YtalclldccnichaaGreatRefNat
import Derived.Lib.ItoaLen
namespace Go.Proofs.YtalclldccnichaaGreat
open Go.RowKit

theorem rquo_any (a b : Nat) (w : World) (ha : a < 9223372036854775808) (hb0 : 0 < b) (hb : b < 16777216) :
    Calls Tryz.prog 106 #[.string (natB a), .string (natB b)] w fun e w' => e = .returned (.tuple #[.string (natB (a / b)), .string (natB (a % b)), .bool true]) ∧ Only (fun _ => False) w w' := by
  by_cases h : a < 72057594037927936
  · exact rquo_small a b w h hb0 (by omega)
  · exact rquo_big a b w (by omega) ha hb0 hb
def decB (n : Nat) : ByteArray := ⟨(Lib.decDigits n).toArray⟩
theorem cat_one (x : Nat) (t : List UInt8) : strOfNums [(x : Int)] ++ (⟨t.toArray⟩ : ByteArray) = ⟨(UInt8.ofNat x :: t).toArray⟩ := by
  apply ByteArray.ext
  simp [strOfNums]
theorem decDigits_len {n : Nat} (h : n < 9223372036854775808) : (Lib.decDigits n).length ≤ 21 := by
  have := Lib.itoa_length_le (n : Int) (by omega) (by omega)
  unfold Lib.itoa at this
  rw [if_neg (by omega), Int.toNat_natCast] at this
  exact this
theorem decB_size {n : Nat} (h : n < 9223372036854775808) : (decB n).size ≤ 21 := by
  have := decDigits_len h
  simpa [decB, ByteArray.size] using this
/-- What is still to come, and what has been written. -/
def TextAt (n m : Nat) (t : List UInt8) : Prop := (m = 0 ∧ t = Lib.decDigits n) ∨ (0 < m ∧ Lib.decDigits m ++ t = Lib.decDigits n)
theorem TextAt.next {n m : Nat} {t : List UInt8} (h : TextAt n m t) (hm : 0 < m) : TextAt n (m / 10) (UInt8.ofNat (48 + m % 10) :: t) := by
  rcases h with ⟨h, _⟩ | ⟨_, h⟩
  · omega
  · by_cases h10 : m < 10
    · left
      rw [Lib.decDigits_one h10] at h
      refine ⟨by omega, ?_⟩
      rw [← h, Nat.mod_eq_of_lt h10]; rfl
    · right
      rw [decDigits_step h10, List.append_assoc] at h
      exact ⟨by omega, h⟩
theorem TextAt.len {n m : Nat} {t : List UInt8} (h : TextAt n m t) (hn : n < 9223372036854775808) : t.length ≤ 21 := by
  have h1 := decDigits_len hn
  rcases h with ⟨_, rfl⟩ | ⟨_, h⟩
  · exact h1
  · rw [← h, List.length_append] at h1; omega
theorem natB_empty (m : Nat) : (natB m).size = 0 ↔ m = 0 := by
  rw [natB_size]
  constructor
  · intro h; exact beL_nil (List.eq_nil_of_length_eq_zero h)
  · intro h; rw [h, beL_zero]; rfl

set_option maxRecDepth 100000 in
set_option maxHeartbeats 1000000 in
theorem rtext1_any (n : Nat) (w : World) (hn : n < 9223372036854775808) :
    Calls Tryz.prog 87 #[.string (natB n)] w fun e w' => e = .returned (.string (decB n)) ∧ Only (fun _ => False) w w' := by
  have hs8 : ∀ m, m < 9223372036854775808 → (natB m).size ≤ 8 := fun m hm => by rw [natB_size]; exact beL_len (Nat.lt_of_lt_of_le hm (by decide))
  have hsz := hs8 n hn
  have HC := Lib.hid (rcanon_any (natB n) w (by omega))
  rw [valB_natB] at HC
  have HN := Lib.hid hn
  have HS8 := Lib.hid hs8
  have O10 := Lib.hid (fun w => rof_any 10 w (by decide))
  have HE := Lib.hid natB_empty
  clear hn hs8
  by_cases h0 : n = 0
  · subst h0
    have q0 : (((natB 0).size : Int) == 0) = true := by rw [(HE.out 0).2 rfl]; rfl
    have HD := Lib.hid (show decB 0 = ⟨#[48]⟩ by unfold decB; rw [Lib.decDigits_one (by decide)]; rfl)
    generalize natB 0 = b at *
    go_enter Tryz.func87, Tryz.ntmps87
    go_wp2_with fail
    refine HC.out.mono ?_
    rintro e w' ⟨rfl, rfl⟩
    go_wp2
    go_ret
    exact ⟨by rw [HD.out]; rfl, Only.refl _ _⟩
  · have q0 : (((natB n).size : Int) == 0) = false := beq_eq_false_iff_ne.2 (fun h => h0 ((HE.out n).1 (by omega)))
    have HT0 := Lib.hid (show TextAt n n [] from .inr ⟨by omega, List.append_nil _⟩)
    clear h0
    go_enter Tryz.func87, Tryz.ntmps87
    go_wp2_with fail
    refine HC.out.mono ?_
    rintro e w' ⟨rfl, rfl⟩
    go_wp2_with fail
    go_loopw [0, 3] (fun va vs wr => ∃ (m : Nat) (t : List UInt8), va = .string (natB m) ∧ vs = .string ⟨t.toArray⟩ ∧ m ≤ n ∧ TextAt n m t ∧ Only (fun _ => False) w wr) (fun va _ _ => match va with | .string b => valB b | _ => 0)
    case atStart => exact ⟨n, [], rfl, rfl, Nat.le_refl _, HT0.out, Only.refl _ _⟩
    case round =>
      clear HT0 HC
      obtain ⟨m, t, rfl, rfl, hm, hT, hO⟩ := hrel
      have HO := Lib.hid hO
      have HT := Lib.hid hT
      have hsm := HS8.out m (by have := HN.out; omega)
      have htl : (⟨t.toArray⟩ : ByteArray).size ≤ 21 := by
        have := hT.len HN.out
        simpa [ByteArray.size] using this
      clear hO hT
      by_cases hpos : 0 < m
      · have hsp : 0 < (natB m).size := by
          rcases Nat.eq_zero_or_pos (natB m).size with h | h
          · have := (HE.out m).1 h; omega
          · exact h
        have i1 : (0 : Int) < (natB m).size := by omega
        have HNX := Lib.hid (HT.out.next hpos)
        have HCAT := Lib.hid (cat_one (48 + m % 10) t)
        have HVM := Lib.hid (show valB (natB (m / 10)) < valB (natB m) by rw [valB_natB, valB_natB]; omega)
        have HQ := Lib.hid (fun w => rquo_any m 10 w (by have := HN.out; omega) (by decide) (by decide))
        have HI := Lib.hid (fun w => rint_any (m % 10) w (by omega))
        have hd1 : m % 10 < 10 := Nat.mod_lt _ (by decide)
        have hcv := conv_one
        have hso := strOf_size1
        go_wp2_with fail
        refine (O10.out _).mono ?_
        rintro e w1 ⟨rfl, hO1⟩
        have HO1 := Lib.hid (HO.out.trans hO1)
        clear hO1
        go_wp2_with fail
        refine (HQ.out _).mono ?_
        rintro e w2 ⟨rfl, hO2⟩
        have HO2 := Lib.hid (HO1.out.trans hO2)
        clear hO2 HO1 HQ
        go_wp2_with fail
        refine (HI.out _).mono ?_
        rintro e w3 ⟨rfl, rfl⟩
        clear HI
        generalize m % 10 = d at *
        generalize (⟨t.toArray⟩ : ByteArray) = T at *
        go_wp2
        go_roundw
        case rel => exact ⟨m / 10, UInt8.ofNat (48 + d) :: t, rfl, by rw [← HCAT.out]; rfl, by omega, HNX.out, HO2.out.alloc _⟩
        case measure => exact HVM.out
      · obtain rfl : m = 0 := by omega
        have hsp : (natB 0).size = 0 := (HE.out 0).2 rfl
        have i1 : ¬ (0 : Int) < (natB 0).size := by omega
        have HR := Lib.hid (show (⟨t.toArray⟩ : ByteArray) = decB n by
          rcases HT.out with ⟨_, h⟩ | ⟨h, _⟩
          · rw [h]; rfl
          · omega)
        generalize natB 0 = b at *
        clear hsp
        go_wp2
        go_ret
        exact ⟨by rw [← HR.out]; rfl, HO.out⟩
end Go.Proofs.YtalclldccnichaaGreat

namespace Go.Proofs.YtalclldccnichaaGreat
open Go.RowKit

theorem natB8 {m : Nat} (hm : m < 9223372036854775808) : (natB m).size ≤ 8 := by rw [natB_size]; exact beL_len (Nat.lt_of_lt_of_le hm (by decide))
/-- A whole number. -/
def ratV (n : Nat) : Value := .agg #[.bool false, .string (natB n), .string (natB 1)]
theorem Tryz.infoR : (Tryz.prog.info? 91).map (·.size) = some 3 := by kernel_rfl

set_option maxHeartbeats 1000000 in
theorem rgcd1_any (n : Nat) (w : World) (hn : n < 9223372036854775808) :
    Calls Tryz.prog 115 #[.string (natB n), .string (natB 1)] w fun e w' => e = .returned (.string (natB 1)) ∧ Only (fun _ => False) w w' := by
  have h8 := natB8 hn
  have h1 := natB8 (m := 1) (by decide)
  have HC := Lib.hid (rcanon_any (natB n) w (by omega))
  have HC1 := Lib.hid (rcanon_any (natB 1) w (by omega))
  rw [valB_natB] at HC HC1
  have HQ := Lib.hid (rquo_any n 1 w hn (by decide) (by decide))
  rw [Nat.mod_one] at HQ
  have hp1 : 0 < (natB 1).size := by rw [natB_size, beL_pos (by decide)]; simp
  have hp0 : (natB 0).size = 0 := (natB_empty 0).2 rfl
  have i1 : (0 : Int) < (natB 1).size := by omega
  have i0 : ¬ (0 : Int) < (natB 0).size := by omega
  generalize natB (n / 1) = bq at *
  generalize natB n = bn at *
  have HV := Lib.hid (show valB (natB 0) < valB (natB 1) by rw [valB_natB, valB_natB]; decide)
  generalize natB 1 = b1 at *
  generalize natB 0 = b0 at *
  clear hp0 hp1
  go_enter Tryz.func115, Tryz.ntmps115
  go_wp2_with fail
  refine HC.out.mono ?_
  rintro e w' ⟨rfl, rfl⟩
  go_wp2_with fail
  refine HC1.out.mono ?_
  rintro e w' ⟨rfl, rfl⟩
  go_wp2_with fail
  go_loopw [0, 1] (fun va vb wr => (va = .string bn ∧ vb = .string b1 ∧ wr = w) ∨ (va = .string b1 ∧ vb = .string b0 ∧ Only (fun _ => False) w wr)) (fun _ vb _ => match vb with | .string b => valB b | _ => 0)
  case atStart => exact .inl ⟨rfl, rfl, rfl⟩
  case round =>
    rcases hrel with ⟨rfl, rfl, rfl⟩ | ⟨rfl, rfl, hO⟩
    · go_wp2_with fail
      refine HQ.out.mono ?_
      rintro e w2 ⟨rfl, hO⟩
      have HO := Lib.hid hO
      clear hO
      go_wp2
      go_roundw
      case rel => exact .inr ⟨rfl, rfl, HO.out⟩
      case measure => exact HV.out
    · have HO := Lib.hid hO
      clear hO
      go_wp2
      go_ret
      exact ⟨rfl, HO.out⟩

theorem rat_one (a : Bool) (b c : ByteArray) : (#[Value.bool a, .string b, .string c] : Array Value).all (·.oneCell') = true := by simp [Value.oneCell']
/-- A block that was made last, after a call. -/
theorem row_kept {w w1 : World} {z : Array Value} {t : TypeId} (h : Only (fun _ => False) (w.alloc (.cells z t)) w1) : w1.heap[w.heap.size]? = some (.cells z t (0, 0)) :=
  (h.block w.heap.size (by simp) (fun h => h)).trans (heap_alloc_last w _)
theorem row_still {w w1 : World} {g : Nat} {o : Obj} (h : Only (fun _ => False) w w1) (hg : w.heap[g]? = some o) : w1.heap[g]? = some o :=
  (h.block g (Array.getElem?_eq_some_iff.1 hg).1 (fun h => h)).trans hg

set_option maxHeartbeats 1000000 in
theorem rof2_any (n : Nat) (w : World) (hn : n < 9223372036854775808) :
    Calls Tryz.prog 57 #[.int .i64 n] w fun e w' => e = .returned (ratV n) ∧ Only (fun _ => False) w w' := by
  have O1 := Lib.hid (fun w => rof_any n w hn)
  have O2 := Lib.hid (fun w => rof_any 1 w (by decide))
  have HR := Lib.hid (show ratV n = .agg #[.bool false, .string (natB n), .string (natB 1)] from rfl)
  generalize natB n = bn at *
  generalize natB 1 = b1 at *
  have i0 : (0 : Int) ≤ n := by omega
  go_enter Tryz.func57, Tryz.ntmps57
  go_wp2_with fail
  refine (O1.out _).mono ?_
  rintro e w1 ⟨rfl, hO1⟩
  have HZ1 := Lib.hid (row_kept hO1)
  have HO1 := Lib.hid (((Only.refl (fun _ => False) w).alloc _).trans hO1)
  clear hO1
  go_wp2_with fail
  refine (O2.out _).mono ?_
  rintro e w2 ⟨rfl, hO2⟩
  have HZ2 := Lib.hid (row_still hO2 HZ1.out)
  have HO2 := Lib.hid (HO1.out.trans hO2)
  clear hO2 HO1 HZ1
  go_wp2_with (first | (refine wpList_store_row rfl 91 _ _ rfl w.heap.size #[.bool false, .string bn, .string b1] rfl rfl 91 _ HZ2.out Tryz.infoR rfl (rat_one _ _ _) ?_))
  exact bodyPost_ret (v := .agg #[.bool false, .string bn, .string b1]) (results_cell_row rfl _ _ w.heap.size 91 _ (0, 0) _ rfl (setRow_heap _ _ _ _ _ _ HZ2.out) Tryz.underlying91 rfl Tryz.infoR) rfl ⟨by rw [HR.out], HO2.out.setRow (Nat.le_refl _) _⟩

set_option maxHeartbeats 1000000 in
theorem rright2_any (n : Nat) (w : World) (hn : n < 9223372036854775808) :
    Calls Tryz.prog 104 #[ratV n] w fun e w' => e = .returned (.bool true) ∧ Only (fun _ => False) w w' := by
  have h8 := natB8 hn
  have h81 := natB8 (m := 1) (by decide)
  have HR1 := Lib.hid (fun w => rright_any n w (by omega))
  have HR2 := Lib.hid (fun w => rright_any 1 w (by omega))
  have HG := Lib.hid (fun w => rgcd1_any n w hn)
  have HO1' := Lib.hid (fun w => rof_any 1 w (by decide))
  have HC := Lib.hid (fun w => rcmp_same 1 w (by omega))
  have HE := Lib.hid (natB_empty n)
  have hp1 : 0 < (natB 1).size := by rw [natB_size, beL_pos (by decide)]; simp
  have HB1 := Lib.hid (show (natB 1).toList.isEmpty = false by
    rw [Lib.toList_data]
    cases h : (natB 1).data.toList with
    | nil => have : (natB 1).data.toList.length = (natB 1).size := by simp
             rw [h] at this; simp at this; omega
    | cons a l => rfl)
  have q1 := HB1.out
  unfold ratV
  by_cases h0 : n = 0
  · have q2 : (natB n).toList.isEmpty = true := by rw [Lib.toList_data, h0, natB_data, beL_zero]; rfl
    generalize natB 1 = b1 at *
    generalize natB n = bn at *
    clear h0 HE
    go_enter Tryz.func104, Tryz.ntmps104
    go_wp2_with fail
    refine (HR1.out _).mono ?_
    rintro e w1 ⟨rfl, rfl⟩
    go_wp2_with fail
    refine (HR2.out _).mono ?_
    rintro e w1 ⟨rfl, rfl⟩
    go_wp2_with fail
    have k0 : ∀ d os, (Go.Sort.grow (redrawn (w.alloc (.cells #[.bool false, .string bn, .string b1] 91)) d) os).cell? ⟨w.heap.size, 0, none⟩ = some (.bool false) := fun d os => cell_regrown (by rw [World.cell?_alloc_new]; rfl) d os
    have k2 : ∀ d os, (Go.Sort.grow (redrawn (w.alloc (.cells #[.bool false, .string bn, .string b1] 91)) d) os).cell? ⟨w.heap.size, 2, none⟩ = some (.string b1) := fun d os => cell_regrown (by rw [World.cell?_alloc_new]; rfl) d os
    have HOW := Lib.hid ((Only.refl (fun _ => False) w).alloc (.cells #[.bool false, .string bn, .string b1] 91))
    generalize w.alloc (.cells #[.bool false, .string bn, .string b1] 91) = W at *
    refine wp_region_quiet_below (by kernel_rfl) (by kernel_rfl) ?_
    repeat (go_big_quiet_step ((first | (go_at_call 89; exact Calls.regrown_of ((HO1'.out _).mono fun _ _ h => ⟨h.1, h.2.below (Nat.le_refl _) (fun _ _ h => h)⟩)) | (go_at_call 88; exact Calls.regrown_of ((HC.out _).mono fun _ _ h => ⟨h.1, h.2 ▸ Below.refl _ _⟩)))))
    refine wpQuiet_nil ?_
    intro _ hw'
    obtain ⟨pq, hw''⟩ := hw'
    have HO := Lib.hid (HOW.out.trans (Only.ofBelow (below_regrown W pq.d pq.os) (fun _ => False)))
    rw [← hw''] at HO
    clear hw'' k0 k2
    go_wp2
    go_ret
    exact ⟨rfl, HO.out⟩
  · have q2 : (natB n).toList.isEmpty = false := by
      rw [Lib.toList_data, natB_data]
      cases h : beL n with
      | nil => exact absurd (beL_nil h) h0
      | cons a l => rfl
    generalize natB 1 = b1 at *
    generalize natB n = bn at *
    clear h0 HE
    go_enter Tryz.func104, Tryz.ntmps104
    go_wp2_with fail
    refine (HR1.out _).mono ?_
    rintro e w1 ⟨rfl, rfl⟩
    go_wp2_with fail
    refine (HR2.out _).mono ?_
    rintro e w1 ⟨rfl, rfl⟩
    go_wp2_with fail
    refine (HG.out _).mono ?_
    rintro e w2 ⟨rfl, hO2⟩
    have HO2 := Lib.hid (((Only.refl (fun _ => False) w).alloc _).trans hO2)
    clear hO2
    go_wp2_with fail
    refine (HO1'.out _).mono ?_
    rintro e w3 ⟨rfl, hO3⟩
    have HO3 := Lib.hid (HO2.out.trans hO3)
    clear hO3
    go_wp2_with fail
    refine (HC.out _).mono ?_
    rintro e w4 ⟨rfl, rfl⟩
    go_wp2
    go_ret
    exact ⟨rfl, HO3.out⟩

set_option maxHeartbeats 1000000 in
theorem rvalue2_any (n : Nat) (w : World) (hn : n < 9223372036854775808) :
    Calls Tryz.prog 86 #[ratV n] w fun e w' => e = .returned (ratV n) ∧ Only (fun _ => False) w w' := by
  have HR := Lib.hid (fun w => rright2_any n w hn)
  have HV := Lib.hid (show ratV n = .agg #[.bool false, .string (natB n), .string (natB 1)] from rfl)
  unfold ratV at HR ⊢
  generalize natB 1 = b1 at *
  generalize natB n = bn at *
  go_enter Tryz.func86, Tryz.ntmps86
  go_wp2_with (first | (refine wpList_load_row rfl 91 _ rfl w.heap.size rfl 91 #[.bool false, .string bn, .string b1] (0, 0) _ (heap_alloc2_old w _ _) Tryz.underlying91 rfl Tryz.infoR ?_))
  refine (HR.out _).mono ?_
  rintro e w1 ⟨rfl, hO1⟩
  have HZ0 := Lib.hid (row_still hO1 (heap_alloc2_old w _ _))
  have HZ1 := Lib.hid (row_still hO1 (heap_alloc2_new w _ _))
  have HO1 := Lib.hid ((((Only.refl (fun _ => False) w).alloc _).alloc _).trans hO1)
  clear hO1
  go_wp2_with (first | (refine wpList_load_row rfl 91 _ rfl w.heap.size rfl 91 #[.bool false, .string bn, .string b1] (0, 0) _ HZ0.out Tryz.underlying91 rfl Tryz.infoR ?_) | (refine wpList_store_row rfl 91 _ _ rfl (w.heap.size + 1) #[.bool false, .string bn, .string b1] rfl rfl 91 _ HZ1.out Tryz.infoR rfl (rat_one _ _ _) ?_))
  exact bodyPost_ret (v := .agg #[.bool false, .string bn, .string b1]) (results_cell_row rfl _ _ (w.heap.size + 1) 91 _ (0, 0) _ rfl (setRow_heap _ _ _ _ _ _ HZ1.out) Tryz.underlying91 rfl Tryz.infoR) rfl ⟨rfl, HO1.out.setRow (by omega) _⟩

set_option maxHeartbeats 1000000 in
theorem rtext2_any (n : Nat) (w : World) (hn : n < 9223372036854775808) :
    Calls Tryz.prog 56 #[ratV n] w fun e w' => e = .returned (.string (decB n)) ∧ Only (fun _ => False) w w' := by
  have HR := Lib.hid (fun w => rvalue2_any n w hn)
  have HT := Lib.hid (fun w => rtext1_any n w hn)
  have HO1' := Lib.hid (fun w => rof_any 1 w (by decide))
  have HC := Lib.hid (fun w => rcmp_same 1 w (by have := natB8 (m := 1) (by decide); omega))
  have hds := decB_size hn
  unfold ratV at HR ⊢
  generalize natB 1 = b1 at *
  generalize natB n = bn at *
  generalize decB n = bd at *
  go_enter Tryz.func56, Tryz.ntmps56
  go_wp2_with (first | (refine wpList_load_row rfl 91 _ rfl w.heap.size rfl 91 #[.bool false, .string bn, .string b1] (0, 0) _ (heap_alloc_last w _) Tryz.underlying91 rfl Tryz.infoR ?_))
  refine (HR.out _).mono ?_
  rintro e w1 ⟨rfl, hO1⟩
  have HZ0 := Lib.hid (row_kept hO1)
  have HO1 := Lib.hid (((Only.refl (fun _ => False) w).alloc _).trans hO1)
  clear hO1
  have HZ1 := Lib.hid (setRow_heap _ _ _ #[.bool false, .string bn, .string b1] _ _ HZ0.out)
  have HO1b := Lib.hid (HO1.out.setRow (Nat.le_refl _) #[.bool false, .string bn, .string b1])
  have c1 := cell_of_row _ _ 1 _ _ _ HZ1.out
  have l0 := (Array.getElem?_eq_some_iff.1 HZ1.out).1
  go_wp2_with (first | (refine wpList_store_row rfl 91 _ _ rfl w.heap.size #[.bool false, .string bn, .string b1] rfl rfl 91 _ HZ0.out Tryz.infoR rfl (rat_one _ _ _) ?_))
  generalize w1.setRow w.heap.size #[.bool false, .string bn, .string b1] = w2 at *
  refine (HT.out _).mono ?_
  rintro e w3 ⟨rfl, hO3⟩
  have hz3 := row_still hO3 HZ1.out
  have d0 := cell_of_row _ _ 0 _ _ _ hz3
  have l3 := (Array.getElem?_eq_some_iff.1 hz3).1
  have HZ3 := Lib.hid hz3
  have HO3 := Lib.hid (HO1b.out.trans hO3)
  clear hO3 hz3 c1 l0
  go_wp2_with fail
  have k2 : ∀ d os, (Go.Sort.grow (redrawn w3 d) os).cell? ⟨w.heap.size, 2, none⟩ = some (.string b1) := fun d os => cell_regrown (cell_of_row _ _ 2 _ _ _ HZ3.out) d os
  refine wp_region_quiet_below (by kernel_rfl) (by kernel_rfl) ?_
  repeat (go_big_quiet_step ((first | (go_at_call 89; exact Calls.regrown_of ((HO1'.out _).mono fun _ _ h => ⟨h.1, h.2.below (Nat.le_refl _) (fun _ _ h => h)⟩)) | (go_at_call 88; exact Calls.regrown_of ((HC.out _).mono fun _ _ h => ⟨h.1, h.2 ▸ Below.refl _ _⟩)))))
  refine wpQuiet_nil ?_
  intro _ hw'
  obtain ⟨pq, hw''⟩ := hw'
  have HO := Lib.hid (HO3.out.trans (Only.ofBelow (below_regrown w3 pq.d pq.os) (fun _ => False)))
  rw [← hw''] at HO
  clear hw'' k2
  go_wp2
  go_ret
  exact ⟨rfl, HO.out⟩
theorem rtext8_any (n : Nat) (w : World) (hn : n < 9223372036854775808) :
    Calls Tryz.prog 21 #[.int .i64 n] w fun e w' => e = .returned (.string (decB n)) ∧ Only (fun _ => False) w w' := by
  have H1 := Lib.hid (rof2_any n w hn)
  have H2 := Lib.hid (fun w => rtext2_any n w hn)
  obtain ⟨R, hR⟩ : ∃ R, ratV n = R := ⟨_, rfl⟩
  rw [hR] at H1 H2
  have HRA := Lib.hid (show R = .agg #[.bool false, .string (natB n), .string (natB 1)] from hR.symm)
  clear hR
  go_enter Tryz.func21, Tryz.ntmps21
  go_wp2_with fail
  refine H1.out.mono ?_
  rintro e w1 ⟨rfl, hO1⟩
  have HO1 := Lib.hid hO1
  clear hO1 H1
  go_wp2_with fail
  refine (H2.out _).mono ?_
  rintro e w2 ⟨rfl, hO2⟩
  have HO2 := Lib.hid (HO1.out.trans hO2)
  clear hO2
  go_wp2
  go_ret
  exact ⟨rfl, HO2.out⟩
/-- decimal, from 0 on. -/
theorem rdecimal_any (n : Nat) (w : World) (hn : n < 9223372036854775808) :
    Calls Tryz.prog 111 #[.int .i64 n] w fun e w' => e = .returned (.string (decB n)) ∧ Only (fun _ => False) w w' := by
  have H1 := Lib.hid (rof_any n w hn)
  have H2 := Lib.hid (fun w => rtext1_any n w hn)
  have q0 : ((n : Int) == -9223372036854775808) = false := beq_eq_false_iff_ne.2 (by omega)
  have i0 : ¬ (n : Int) < 0 := by omega
  generalize natB n = bn at *
  go_enter Tryz.func111, Tryz.ntmps111
  go_wp2_with fail
  refine H1.out.mono ?_
  rintro e w1 ⟨rfl, hO1⟩
  have HO1 := Lib.hid hO1
  clear hO1 H1
  go_wp2_with fail
  refine (H2.out _).mono ?_
  rintro e w2 ⟨rfl, hO2⟩
  have HO2 := Lib.hid (HO1.out.trans hO2)
  clear hO2
  go_wp2
  go_ret
  exact ⟨rfl, HO2.out⟩
end Go.Proofs.YtalclldccnichaaGreat
