/-
  Numbers in decimal: the reference's Text, decimal. Numbers in decimal: the reference's rational numbers that are whole; Text, decimal, Pad.
  The reference's dealings: Pad, Seal, Value, members.
-/
import Derived.Test.YtldkjkjpaiajlaaGreatDoorPa15
import Derived.Lib.ItoaLen
import Derived.Test.YtldkjkjpaiajlaaGreatDoorPa13
import Derived.IntWalk
namespace Go.Proofs.YtldkjkjpaiajlaaGreatDoor
open Go.RowKit

theorem rquo_any (a b : Nat) (w : World) (ha : a < 9223372036854775808) (hb0 : 0 < b) (hb : b < 16777216) :
    Calls Tryz.prog 106 #[.string (natB a), .string (natB b)] w fun e w' => e = .returned (.tuple #[.string (natB (a / b)), .string (natB (a % b)), .bool true]) ∧ Only (fun _ => False) w w' := by
  by_cases h : a < 72057594037927936
  · exact rquo_small a b w h hb0 (by omega)
  · exact rquo_big a b w (by omega) ha hb0 hb
def decB (n : Nat) : ByteArray := ⟨(Lib.decDigits n).toArray⟩
theorem cat_one (x : Nat) (t : List UInt8) : strOfNums [(x : Int)] ++ (⟨t.toArray⟩ : ByteArray) = ⟨(UInt8.ofNat x :: t).toArray⟩ := by
  apply ByteArray.ext
  simp [strOfNums]
theorem decDigits_len {n : Nat} (h : n < 9223372036854775808) : (Lib.decDigits n).length ≤ 21 := by
  have := Lib.itoa_length_le (n : Int) (by omega) (by omega)
  unfold Lib.itoa at this
  rw [if_neg (by omega), Int.toNat_natCast] at this
  exact this
theorem decB_size {n : Nat} (h : n < 9223372036854775808) : (decB n).size ≤ 21 := by
  have := decDigits_len h
  simpa [decB, ByteArray.size] using this
/-- What is still to come, and what has been written. -/
def TextAt (n m : Nat) (t : List UInt8) : Prop := (m = 0 ∧ t = Lib.decDigits n) ∨ (0 < m ∧ Lib.decDigits m ++ t = Lib.decDigits n)
theorem TextAt.next {n m : Nat} {t : List UInt8} (h : TextAt n m t) (hm : 0 < m) : TextAt n (m / 10) (UInt8.ofNat (48 + m % 10) :: t) := by
  rcases h with ⟨h, _⟩ | ⟨_, h⟩
  · omega
  · by_cases h10 : m < 10
    · left
      rw [Lib.decDigits_one h10] at h
      refine ⟨by omega, ?_⟩
      rw [← h, Nat.mod_eq_of_lt h10]; rfl
    · right
      rw [decDigits_step h10, List.append_assoc] at h
      exact ⟨by omega, h⟩
theorem TextAt.len {n m : Nat} {t : List UInt8} (h : TextAt n m t) (hn : n < 9223372036854775808) : t.length ≤ 21 := by
  have h1 := decDigits_len hn
  rcases h with ⟨_, rfl⟩ | ⟨_, h⟩
  · exact h1
  · rw [← h, List.length_append] at h1; omega
theorem natB_empty (m : Nat) : (natB m).size = 0 ↔ m = 0 := by
  rw [natB_size]
  constructor
  · intro h; exact beL_nil (List.eq_nil_of_length_eq_zero h)
  · intro h; rw [h, beL_zero]; rfl

set_option maxRecDepth 100000 in
set_option maxHeartbeats 1000000 in
theorem rtext1_any (n : Nat) (w : World) (hn : n < 9223372036854775808) :
    Calls Tryz.prog 66 #[.string (natB n)] w fun e w' => e = .returned (.string (decB n)) ∧ Only (fun _ => False) w w' := by
  have hs8 : ∀ m, m < 9223372036854775808 → (natB m).size ≤ 8 := fun m hm => by rw [natB_size]; exact beL_len (Nat.lt_of_lt_of_le hm (by decide))
  have hsz := hs8 n hn
  have HC := Lib.hid (rcanon_any (natB n) w (by omega))
  rw [valB_natB] at HC
  have HN := Lib.hid hn
  have HS8 := Lib.hid hs8
  have O10 := Lib.hid (fun w => rof_any 10 w (by decide))
  have HE := Lib.hid natB_empty
  clear hn hs8
  by_cases h0 : n = 0
  · subst h0
    have q0 : (((natB 0).size : Int) == 0) = true := by rw [(HE.out 0).2 rfl]; rfl
    have HD := Lib.hid (show decB 0 = ⟨#[48]⟩ by unfold decB; rw [Lib.decDigits_one (by decide)]; rfl)
    generalize natB 0 = b at *
    go_enter Tryz.func66, Tryz.ntmps66
    go_wp2_with fail
    refine HC.out.mono ?_
    rintro e w' ⟨rfl, rfl⟩
    go_wp2
    go_ret
    exact ⟨by rw [HD.out]; rfl, Only.refl _ _⟩
  · have q0 : (((natB n).size : Int) == 0) = false := beq_eq_false_iff_ne.2 (fun h => h0 ((HE.out n).1 (by omega)))
    have HT0 := Lib.hid (show TextAt n n [] from .inr ⟨by omega, List.append_nil _⟩)
    clear h0
    go_enter Tryz.func66, Tryz.ntmps66
    go_wp2_with fail
    refine HC.out.mono ?_
    rintro e w' ⟨rfl, rfl⟩
    go_wp2_with fail
    go_loopw [0, 3] (fun va vs wr => ∃ (m : Nat) (t : List UInt8), va = .string (natB m) ∧ vs = .string ⟨t.toArray⟩ ∧ m ≤ n ∧ TextAt n m t ∧ Only (fun _ => False) w wr) (fun va _ _ => match va with | .string b => valB b | _ => 0)
    case atStart => exact ⟨n, [], rfl, rfl, Nat.le_refl _, HT0.out, Only.refl _ _⟩
    case round =>
      clear HT0 HC
      obtain ⟨m, t, rfl, rfl, hm, hT, hO⟩ := hrel
      have HO := Lib.hid hO
      have HT := Lib.hid hT
      have hsm := HS8.out m (by have := HN.out; omega)
      have htl : (⟨t.toArray⟩ : ByteArray).size ≤ 21 := by
        have := hT.len HN.out
        simpa [ByteArray.size] using this
      clear hO hT
      by_cases hpos : 0 < m
      · have hsp : 0 < (natB m).size := by
          rcases Nat.eq_zero_or_pos (natB m).size with h | h
          · have := (HE.out m).1 h; omega
          · exact h
        have i1 : (0 : Int) < (natB m).size := by omega
        have HNX := Lib.hid (HT.out.next hpos)
        have HCAT := Lib.hid (cat_one (48 + m % 10) t)
        have HVM := Lib.hid (show valB (natB (m / 10)) < valB (natB m) by rw [valB_natB, valB_natB]; omega)
        have HQ := Lib.hid (fun w => rquo_any m 10 w (by have := HN.out; omega) (by decide) (by decide))
        have HI := Lib.hid (fun w => rint_any (m % 10) w (by omega))
        have hd1 : m % 10 < 10 := Nat.mod_lt _ (by decide)
        have hcv := conv_one
        have hso := strOf_size1
        go_wp2_with fail
        refine (O10.out _).mono ?_
        rintro e w1 ⟨rfl, hO1⟩
        have HO1 := Lib.hid (HO.out.trans hO1)
        clear hO1
        go_wp2_with fail
        refine (HQ.out _).mono ?_
        rintro e w2 ⟨rfl, hO2⟩
        have HO2 := Lib.hid (HO1.out.trans hO2)
        clear hO2 HO1 HQ
        go_wp2_with fail
        refine (HI.out _).mono ?_
        rintro e w3 ⟨rfl, rfl⟩
        clear HI
        generalize m % 10 = d at *
        generalize (⟨t.toArray⟩ : ByteArray) = T at *
        go_wp2
        go_roundw
        case rel => exact ⟨m / 10, UInt8.ofNat (48 + d) :: t, rfl, by rw [← HCAT.out]; rfl, by omega, HNX.out, HO2.out.alloc _⟩
        case measure => exact HVM.out
      · obtain rfl : m = 0 := by omega
        have hsp : (natB 0).size = 0 := (HE.out 0).2 rfl
        have i1 : ¬ (0 : Int) < (natB 0).size := by omega
        have HR := Lib.hid (show (⟨t.toArray⟩ : ByteArray) = decB n by
          rcases HT.out with ⟨_, h⟩ | ⟨h, _⟩
          · rw [h]; rfl
          · omega)
        generalize natB 0 = b at *
        clear hsp
        go_wp2
        go_ret
        exact ⟨by rw [← HR.out]; rfl, HO.out⟩
end Go.Proofs.YtldkjkjpaiajlaaGreatDoor

namespace Go.Proofs.YtldkjkjpaiajlaaGreatDoor
open Go.RowKit

theorem row_still {w w1 : World} {g : Nat} {o : Obj} (h : Only (fun _ => False) w w1) (hg : w.heap[g]? = some o) : w1.heap[g]? = some o :=
  (h.block g (Array.getElem?_eq_some_iff.1 hg).1 (fun h => h)).trans hg

end Go.Proofs.YtldkjkjpaiajlaaGreatDoor

namespace Go.Proofs.YtldkjkjpaiajlaaGreatDoor
open Go.RowKit

end Go.Proofs.YtldkjkjpaiajlaaGreatDoor
