/-
  Rules, the reference: numeral, amount, IsName, words.
  Rules, the reference: words.
  Rules, plain: the reference's shapes of lines, and what may follow.
  Rules, the reference: shape, kind, follows.
  Rules, the reference: what it holds in memory; follows.
-/
import Derived.Test.YteikkpiginfbkaaGreatDoorPh23
import Derived.Test.YteikkpiginfbkaaGreatDoorPh26
import Derived.Test.YteikkpiginfbkaaGreatDoorPh17
namespace Go.Proofs.YteikkpiginfbkaaGreatDoor
open Go.RowKit

theorem rnumeral_any (s : ByteArray) (bb : Bool) (w : World) (hs : s.size ≤ 5000) (hb : numB s = bb) :
    Calls Tryz.prog 107 #[.string s] w fun e w' => e = .returned (.bool bb) ∧ Only (fun _ => False) w w' := by
  have HP := Lib.hid (rparse1_any s w hs)
  cases bb
  · rw [prs_no hb] at HP
    clear hb
    go_enter Tryz.func107, Tryz.ntmps107
    go_wp2_with fail
    refine HP.out.mono ?_
    rintro e w2 ⟨rfl, hO⟩
    go_wp2_with fail
    go_ret
    exact ⟨rfl, hO⟩
  · rw [prs_yes hb] at HP
    clear hb
    generalize natB (decFold 0 s.data.toList) = x at *
    go_enter Tryz.func107, Tryz.ntmps107
    go_wp2_with fail
    refine HP.out.mono ?_
    rintro e w2 ⟨rfl, hO⟩
    go_wp2_with fail
    go_ret
    exact ⟨rfl, hO⟩
/-- What amount gives for a numeral: its number, if that is at most 1000000000. -/
def AmtR (s : ByteArray) (w : World) (e : Ending) (w' : World) : Prop := (∃ n, e = .returned (.tuple #[.int .i64 n, .bool (decide (amtV s ≤ 1000000000))]) ∧ (amtV s ≤ 1000000000 → n = amtV s)) ∧ Only (fun _ => False) w w'
theorem ramount_any (s : ByteArray) (w : World) (hs : s.size ≤ 5000) (hb : numB s = true) :
    Calls Tryz.prog 108 #[.string s] w fun e w' => AmtR s w e w' := by
  have HP := Lib.hid (rparse1_any s w hs)
  rw [prs_yes hb] at HP
  have hz : (natB (decFold 0 s.data.toList)).size ≤ 1000000 := by
    have := decFold_size (num_digs hb)
    have e : s.data.toList.length = s.size := Array.length_toList
    omega
  have ham := amt_fold hb
  have HA := Lib.hid ham
  by_cases hbig : decFold 0 s.data.toList < 9223372036854775808
  · have HI := Lib.hid (fun w => rint_any (decFold 0 s.data.toList) w hbig)
    by_cases hm : decFold 0 s.data.toList ≤ 1000000000
    · have HR := Lib.hid (show decide (amtV s ≤ 1000000000) = true ∧ amtV s = (decFold 0 s.data.toList : Int) by rw [decide_eq_true_eq]; omega)
      have q1 : ((decFold 0 s.data.toList : Nat) : Int) ≤ 1000000000 := by omega
      clear hb hz ham hbig hm
      generalize decFold 0 s.data.toList = n at *
      generalize natB n = x at *
      go_enter Tryz.func108, Tryz.ntmps108
      go_wp2_with fail
      refine HP.out.mono ?_
      rintro e w2 ⟨rfl, hO⟩
      go_wp2_with fail
      refine (HI.out _).mono ?_
      rintro e w3 ⟨rfl, rfl⟩
      go_wp2_with fail
      go_ret2
      exact ⟨⟨(n : Int), by rw [HR.out.1]; rfl, fun _ => HR.out.2.symm⟩, hO⟩
    · have HR := Lib.hid (show decide (amtV s ≤ 1000000000) = false ∧ ¬ amtV s ≤ 1000000000 by rw [decide_eq_false_iff_not]; omega)
      have q1 : decide (((decFold 0 s.data.toList : Nat) : Int) ≤ 1000000000) = false := by rw [decide_eq_false_iff_not]; omega
      clear hb hz ham hbig hm
      generalize decFold 0 s.data.toList = n at *
      generalize natB n = x at *
      go_enter Tryz.func108, Tryz.ntmps108
      go_wp2_with fail
      refine HP.out.mono ?_
      rintro e w2 ⟨rfl, hO⟩
      go_wp2_with fail
      refine (HI.out _).mono ?_
      rintro e w3 ⟨rfl, rfl⟩
      go_wp2_with fail
      go_ret2
      exact ⟨⟨(n : Int), by rw [HR.out.1]; rfl, fun h => by have := HR.out.2; omega⟩, hO⟩
  · have HI := Lib.hid (fun w => rint_big (decFold 0 s.data.toList) w (by omega) hz)
    have HR := Lib.hid (show decide (amtV s ≤ 1000000000) = false ∧ ¬ amtV s ≤ 1000000000 by rw [decide_eq_false_iff_not]; omega)
    clear hb hz ham hbig
    generalize decFold 0 s.data.toList = n at *
    generalize natB n = x at *
    go_enter Tryz.func108, Tryz.ntmps108
    go_wp2_with fail
    refine HP.out.mono ?_
    rintro e w2 ⟨rfl, hO⟩
    go_wp2_with fail
    refine (HI.out _).mono ?_
    rintro e w3 ⟨rfl, rfl⟩
    go_wp2_with fail
    go_ret2
    exact ⟨⟨0, by rw [HR.out.1]; rfl, fun h => by have := HR.out.2; omega⟩, hO⟩
set_option maxRecDepth 100000 in
set_option maxHeartbeats 4000000 in
theorem risname_any (s : ByteArray) (bb : Bool) (w : World) (hbb : nameB s = bb) :
    Calls Tryz.prog 125 #[.string s] w fun e w' => e = .returned (.bool bb) ∧ w = w' := by
  by_cases h1 : s.size < 1
  · rw [name_no (.inl h1)] at hbb
    subst hbb
    have i1 : (s.size : Int) < 1 := by omega
    go_enter Tryz.func125, Tryz.ntmps125
    go_wp2
    go_ret
    exact ⟨rfl, rfl⟩
  · by_cases h2 : 20 < s.size
    · rw [name_no (.inr h2)] at hbb
      subst hbb
      have i1 : ¬ (s.size : Int) < 1 := by omega
      have i2 : (20 : Int) < s.size := by omega
      go_enter Tryz.func125, Tryz.ntmps125
      go_wp2
      go_ret
      exact ⟨rfl, rfl⟩
    · rw [name_of (by omega) (by omega)] at hbb
      have HB := Lib.hid hbb
      have i1 : ¬ (s.size : Int) < 1 := by omega
      have i2 : ¬ (20 : Int) < s.size := by omega
      clear hbb
      go_enter Tryz.func125, Tryz.ntmps125
      go_wp2
      go_loop [3] (fun i => ∃ k : Nat, i = .int .i64 k ∧ k ≤ s.size ∧ (List.range k).all (nmOk s) = true) (fun i => s.size - (intOf i).toNat)
      case atStart => exact ⟨0, rfl, Nat.zero_le _, rfl⟩
      case round =>
        obtain ⟨k, rfl, hk, hall⟩ := hrel
        have HA := Lib.hid hall
        clear hall
        by_cases hlt : k < s.size
        · have j1 : (k : Int) < s.size := by omega
          have j2 : 0 ≤ (k : Int) := by omega
          have hc := byteZ_eq s k hlt
          obtain ⟨y0, y1⟩ := byteZ_bdR s k
          have HO := Lib.hid (show nmOk s k = nmOkZ (byteZ s k) k from rfl)
          generalize byteZ s k = y at *
          have HF := Lib.hid (fun (h : nmOkZ y k = false) => show bb = false by rw [← HB.out]; exact all_range_no hlt (by rw [HO.out]; exact h))
          have HT := Lib.hid (fun (h : nmOkZ y k = true) => all_range_succ HA.out (by rw [HO.out]; exact h))
          rcases Nat.eq_zero_or_pos k with hk0 | hk0
          · subst hk0
            rcases @byte_cls y with c | c | c | c | c | c | c | c | c
            all_goals first | (have d0 : decide (97 ≤ y) = true := by simp; omega) | (have d0 : decide (97 ≤ y) = false := by simp; omega)
            all_goals first | (have d1 : decide (y ≤ 122) = true := by simp; omega) | (have d1 : decide (y ≤ 122) = false := by simp; omega)
            all_goals first | (have d2 : decide (65 ≤ y) = true := by simp; omega) | (have d2 : decide (65 ≤ y) = false := by simp; omega)
            all_goals first | (have d3 : decide (y ≤ 90) = true := by simp; omega) | (have d3 : decide (y ≤ 90) = false := by simp; omega)
            all_goals first | (have d4 : decide (48 ≤ y) = true := by simp; omega) | (have d4 : decide (48 ≤ y) = false := by simp; omega)
            all_goals first | (have d5 : decide (y ≤ 57) = true := by simp; omega) | (have d5 : decide (y ≤ 57) = false := by simp; omega)
            all_goals first | (have d6 : decide (y < 48) = true := by simp; omega) | (have d6 : decide (y < 48) = false := by simp; omega)
            all_goals first | (have d7 : decide (57 < y) = true := by simp; omega) | (have d7 : decide (57 < y) = false := by simp; omega)
            all_goals first | (have d8 : (y != 45) = true := by simp; omega) | (have d8 : (y != 45) = false := by simp; omega)
            all_goals first
              | (obtain rfl := HF.out (by simp [nmOkZ]; omega)
                 try subst c
                 go_wp2
                 go_ret
                 exact ⟨rfl, rfl⟩)
              | (have HG := Lib.hid (HT.out (by simp [nmOkZ]; omega))
                 go_wp2
                 go_round
                 case rel => exact ⟨_, rfl, hlt, HG.out⟩
                 case measure => simp [intOf]; omega)
          · have j3 : ((k : Int) == 0) = false := by simp; omega
            rcases @byte_cls y with c | c | c | c | c | c | c | c | c
            all_goals first | (have d0 : decide (97 ≤ y) = true := by simp; omega) | (have d0 : decide (97 ≤ y) = false := by simp; omega)
            all_goals first | (have d1 : decide (y ≤ 122) = true := by simp; omega) | (have d1 : decide (y ≤ 122) = false := by simp; omega)
            all_goals first | (have d2 : decide (65 ≤ y) = true := by simp; omega) | (have d2 : decide (65 ≤ y) = false := by simp; omega)
            all_goals first | (have d3 : decide (y ≤ 90) = true := by simp; omega) | (have d3 : decide (y ≤ 90) = false := by simp; omega)
            all_goals first | (have d4 : decide (48 ≤ y) = true := by simp; omega) | (have d4 : decide (48 ≤ y) = false := by simp; omega)
            all_goals first | (have d5 : decide (y ≤ 57) = true := by simp; omega) | (have d5 : decide (y ≤ 57) = false := by simp; omega)
            all_goals first | (have d6 : decide (y < 48) = true := by simp; omega) | (have d6 : decide (y < 48) = false := by simp; omega)
            all_goals first | (have d7 : decide (57 < y) = true := by simp; omega) | (have d7 : decide (57 < y) = false := by simp; omega)
            all_goals first | (have d8 : (y != 45) = true := by simp; omega) | (have d8 : (y != 45) = false := by simp; omega)
            all_goals first
              | (obtain rfl := HF.out (by simp [nmOkZ]; omega)
                 have j4 : (y == 45) = false := by simp; omega
                 go_wp2
                 go_ret
                 exact ⟨rfl, rfl⟩)
              | (have HG := Lib.hid (HT.out (by simp [nmOkZ]; omega))
                 first | (have j4 : (y == 45) = false := by simp; omega) | subst c
                 go_wp2
                 go_round
                 case rel => exact ⟨k + 1, by go_num, hlt, HG.out⟩
                 case measure => simp [intOf]; omega)
        · obtain rfl : k = s.size := by omega
          obtain rfl : true = bb := HA.out.symm.trans HB.out
          have j1 : ¬ (s.size : Int) < s.size := by omega
          go_wp2
          go_ret
          exact ⟨rfl, rfl⟩
end Go.Proofs.YteikkpiginfbkaaGreatDoor

namespace Go.Proofs.YteikkpiginfbkaaGreatDoor
open Go.RowKit

def arrB (l : List UInt8) : ByteArray := ⟨l.toArray⟩
/-- The pieces of a text between bytes c. -/
def wordsC (c : UInt8) (s : ByteArray) : List ByteArray := (cutC c s.data.toList).map arrB
theorem wordsC_sp (s : ByteArray) : wordsC 32 s = wordsB s := (words_eq s).symm
theorem ext_piece (s : ByteArray) (f k : Nat) : s.extract f k = arrB ((s.data.toList.take k).drop f) := by
  apply ba_ext
  show (s.extract f k).data.toList = (s.data.toList.take k).drop f
  have : (s.extract f k).data = s.data.extract f k := by simp
  rw [this, Array.toList_extract, List.extract_eq_take_drop, List.drop_take]
def rowW (L : List (List UInt8)) : List Value := L.map fun l => .string (arrB l)
theorem rowW_app (L : List (List UInt8)) (x : List UInt8) : rowW (L ++ [x]) = rowW L ++ [.string (arrB x)] := by simp [rowW]
/-- How far cutting has come. -/
structure CutAt (c : UInt8) (s : ByteArray) (k f : Nat) (L : List (List UInt8)) : Prop where
  free : ∀ l ∈ L, noC c l
  le : f ≤ k
  flat : s.data.toList.take f = L.flatMap (· ++ [c])
  last : noC c ((s.data.toList.take k).drop f)
  few : L.length ≤ f
theorem CutAt.start (c : UInt8) (s : ByteArray) : CutAt c s 0 0 [] := ⟨(fun l h => (by cases h)), Nat.le_refl _, rfl, (fun b h => (by simp at h)), Nat.le_refl _⟩
theorem drop_take_snoc {s : ByteArray} {k f : Nat} (hf : f ≤ k) (hk : k < s.data.toList.length) : (s.data.toList.take (k + 1)).drop f = (s.data.toList.take k).drop f ++ [s.data.toList[k]] := by
  rw [take_snoc hk, List.drop_append_of_le_length (by rw [List.length_take]; omega)]
theorem CutAt.step {c : UInt8} {s : ByteArray} {k f : Nat} {L : List (List UInt8)} (h : CutAt c s k f L) (hk : k < s.data.toList.length) (hc : s.data.toList[k] ≠ c) : CutAt c s (k + 1) f L := by
  refine ⟨h.free, by have := h.le; omega, h.flat, ?_, h.few⟩
  rw [drop_take_snoc h.le hk]
  intro b hb
  rcases List.mem_append.1 hb with hb | hb
  · exact h.last b hb
  · rw [List.mem_singleton.1 hb]; exact hc
theorem take_parts {l : List UInt8} {k f : Nat} (hf : f ≤ k) : l.take k = l.take f ++ (l.take k).drop f := by
  have e : (l.take k).take f = l.take f := by rw [List.take_take, Nat.min_eq_left hf]
  rw [← e, List.take_append_drop]
theorem CutAt.cut {c : UInt8} {s : ByteArray} {k f : Nat} {L : List (List UInt8)} (h : CutAt c s k f L) (hk : k < s.data.toList.length) (hc : s.data.toList[k] = c) : CutAt c s (k + 1) (k + 1) (L ++ [(s.data.toList.take k).drop f]) := by
  refine ⟨fun l hl => ?_, Nat.le_refl _, ?_, fun b hb => by simp at hb, by rw [List.length_append, List.length_singleton]; have := h.few; have := h.le; omega⟩
  · rcases List.mem_append.1 hl with hl | hl
    · exact h.free l hl
    · rw [List.mem_singleton.1 hl]; exact h.last
  · have h1 := take_parts (l := s.data.toList) h.le
    rw [h.flat] at h1
    generalize (s.data.toList.take k).drop f = p at *
    rw [take_snoc hk, h1, hc]
    simp
theorem CutAt.done {c : UInt8} {s : ByteArray} {f : Nat} {L : List (List UInt8)} (h : CutAt c s s.size f L) : wordsC c s = (L ++ [(s.data.toList.take s.size).drop f]).map arrB := by
  have e : s.data.toList.length = s.size := Array.length_toList
  unfold wordsC
  congr 1
  have h1 := take_parts (l := s.data.toList) h.le
  rw [h.flat] at h1
  have h2 := h.last
  generalize (s.data.toList.take s.size).drop f = p at *
  rw [take_all (by omega)] at h1
  rw [h1]
  exact cutC_flat h.free h2
def WordsR (c : UInt8) (s : ByteArray) (w : World) (e : Ending) (w' : World) : Prop := ∃ v, e = .returned v ∧ w'.ownsRow w.heap.size 9 1 v (wordsC c s).length ((wordsC c s).map Value.string) ∧ Only (fun _ => False) w w'
set_option maxRecDepth 100000 in
set_option maxHeartbeats 4000000 in
theorem rwords_any (s : ByteArray) (c : UInt8) (w : World) (hs : s.size ≤ 100000) :
    Calls Tryz.prog 44 #[.string s, .int .u8 c.toNat] w fun e w' => WordsR c s w e w' := by
  obtain ⟨i0, hi, hz0, hz1, hz2⟩ := info_parts Tryz.infoStr
  have HI := Lib.hid hi
  have HI0 := Lib.hid hz0
  have HI1 := Lib.hid hz1
  have HI2 := Lib.hid hz2
  have hsl : s.data.toList.length = s.size := Array.length_toList
  have HSL := Lib.hid hsl
  clear hi hz0 hz1 hz2 hsl
  go_enter Tryz.func44, Tryz.ntmps44
  go_wp2_with fail
  go_loopw [5, 6, 7] (fun vo vf vi wr => ∃ (k f : Nat) (L : List (List UInt8)), vi = .int .i64 k ∧ vf = .int .i64 f ∧ k ≤ s.size ∧ CutAt c s k f L ∧ wr.ownsRow w.heap.size 9 1 vo L.length (rowW L) ∧ Only (fun _ => False) w wr) (fun _ _ vi _ => s.size - (intOf vi).toNat)
  case atStart => exact ⟨0, 0, [], rfl, rfl, Nat.zero_le _, CutAt.start c s, World.ownsRow_nil _ _ _ _, Only.refl _ _⟩
  case round =>
    obtain ⟨k, f, L, rfl, rfl, hk, hC, hown, hO⟩ := hrel
    obtain ⟨av, cv, rfl⟩ := slice_of_own hown
    have HC := Lib.hid hC
    have HOWN := Lib.hid hown
    have HO := Lib.hid hO
    have hszw := hO.size
    have hfk := hC.le
    have hfew := hC.few
    clear hC hown hO
    by_cases hlt : k < s.size
    · have j1 : (k : Int) < s.size := by omega
      have j0 : 0 ≤ (k : Int) := by omega
      have b0 := byteZ_eq s k hlt
      have hlt2 : k < s.data.toList.length := by rw [HSL.out]; exact hlt
      have hbz := byte_at hlt2
      by_cases hc : s.data.toList[k] = c
      · have q1 : (byteZ s k == (c.toNat : Int)) = true := by rw [hbz, hc]; simp
        have HCC := Lib.hid (HC.out.cut hlt2 hc)
        have HEX := Lib.hid (ext_piece s f k)
        have hzp : (s.extract f k).size ≤ 100000 := by
          rw [ByteArray.size_extract]; omega
        have j3 : (0 : Int) ≤ f := by omega
        have j4 : (f : Int) ≤ k := by omega
        have j5 : (k : Int) ≤ s.size := by omega
        have HLT := Lib.hid hlt
        clear hc hbz
        generalize byteZ s k = y at *
        go_wp2_with (first | (refine wpList_append_lies _ rfl _ _ 42 rfl w.heap.size 9 i0 _ 1 16 Tryz.underlying42 HI.out HI0.out HI1.out HI2.out rfl (by decide) _ _ _ rfl (HOWN.out.alloc _) ⟨wr.heap.size, 0, none⟩ 1 1 [.string (s.extract f k)] rfl rfl (by exact newsR' wr _ _) (one_str1 _) (by decide) (by unfold maxLen; omega) (by omega) (by simp; omega) _ rfl ?_; intro g cap w5 hown1 hgrow hat hlt5))
        have HO5 := Lib.hid ((HO.out.alloc (.cells #[.string (s.extract f k)] 9)).trans' (S := fun _ => False) (T := fun i => (Value.slice av L.length cv).ownBlock = some i) ((Only.refl _ _).grown hgrow (fun i e _ => e)) (fun i hi e => by have := ownR_ge HOWN.out e; omega))
        have HW5 := Lib.hid (show w5.ownsRow w.heap.size 9 1 (.slice (some ⟨g, 0, none⟩) (L.length + 1) cap) (L ++ [(s.data.toList.take k).drop f]).length (rowW (L ++ [(s.data.toList.take k).drop f])) by
          rw [rowW_app, List.length_append, ← HEX.out]; exact hown1)
        go_roundw
        case rel => exact ⟨k + 1, k + 1, L ++ [(s.data.toList.take k).drop f], by go_num, by go_num, HLT.out, HCC.out, HW5.out, HO5.out⟩
        case measure => simp [intOf]; have := HLT.out; omega
      · have q1 : (byteZ s k == (c.toNat : Int)) = false := by
          rw [hbz, beq_eq_false_iff_ne]
          intro e
          exact hc (UInt8.toNat_inj.1 (by omega))
        have HCC := Lib.hid (HC.out.step hlt2 hc)
        have HLT := Lib.hid hlt
        clear hc hbz
        generalize byteZ s k = y at *
        go_wp2_with fail
        go_roundw
        case rel => exact ⟨k + 1, f, L, by go_num, rfl, HLT.out, HCC.out, HOWN.out, HO.out⟩
        case measure => simp [intOf]; have := HLT.out; omega
    · obtain rfl : k = s.size := by omega
      have j1 : ¬ (s.size : Int) < s.size := by omega
      have HDN := Lib.hid HC.out.done
      have HEX := Lib.hid (ext_piece s f s.size)
      have j3 : (0 : Int) ≤ f := by omega
      have j4 : (f : Int) ≤ s.size := by omega
      go_wp2_with (first | (refine wpList_append_lies _ rfl _ _ 42 rfl w.heap.size 9 i0 _ 1 16 Tryz.underlying42 HI.out HI0.out HI1.out HI2.out rfl (by decide) _ _ _ rfl (HOWN.out.alloc _) ⟨wr.heap.size, 0, none⟩ 1 1 [.string (s.extract f s.size)] rfl rfl (by exact newsR' wr _ _) (one_str1 _) (by decide) (by unfold maxLen; omega) (by omega) (by simp; omega) _ rfl ?_; intro g cap w5 hown1 hgrow hat hlt5))
      have HO5 := Lib.hid ((HO.out.alloc (.cells #[.string (s.extract f s.size)] 9)).trans' (S := fun _ => False) (T := fun i => (Value.slice av L.length cv).ownBlock = some i) ((Only.refl _ _).grown hgrow (fun i e _ => e)) (fun i hi e => by have := ownR_ge HOWN.out e; omega))
      go_ret
      refine ⟨_, rfl, ?_, HO5.out⟩
      rw [HDN.out, List.map_map]
      show w5.ownsRow w.heap.size 9 1 _ (List.map arrB (L ++ [(s.data.toList.take s.size).drop f])).length (rowW (L ++ [(s.data.toList.take s.size).drop f]))
      rw [List.length_map, rowW_app, List.length_append, ← HEX.out]
      exact hown1
end Go.Proofs.YteikkpiginfbkaaGreatDoor

namespace Go.Proofs.YteikkpiginfbkaaGreatDoor
open Go.RowKit

/-- What a word is: d a numeral, n a name, x another one. -/
def kindC (w : ByteArray) : UInt8 := if numB w = true then 100 else if nameB w = true then 110 else 120
def tailS (cs : List UInt8) : List UInt8 := cs.flatMap fun c => [32, c]
def shapeL (ws : List ByteArray) : List UInt8 := (wAt ws 0).data.toList ++ tailS ((ws.drop 1).map kindC)
def shapeB (ws : List ByteArray) : ByteArray := arrB (shapeL ws)
theorem tailS_cons (c : UInt8) (r : List UInt8) : tailS (c :: r) = 32 :: c :: tailS r := rfl
theorem tailS_inj : ∀ {a b : List UInt8}, tailS a = tailS b → a = b
  | [], [], _ => rfl
  | [], _ :: _, h => by simp [tailS] at h
  | _ :: _, [], h => by simp [tailS] at h
  | x :: a, y :: b, h => by
    rw [tailS_cons, tailS_cons] at h
    simp only [List.cons.injEq, true_and] at h
    rw [h.1, tailS_inj h.2]
theorem shape_cut {x y : List UInt8} (hx : noSp x) (hy : noSp y) {a b : List UInt8} (h : x ++ tailS a = y ++ tailS b) : x = y ∧ a = b := by
  cases a with
  | nil =>
    cases b with
    | nil => exact ⟨by simpa [tailS] using h, rfl⟩
    | cons c r =>
      exfalso
      rw [tailS_cons] at h
      have : (32 : UInt8) ∈ x := by
        have h2 : x = y ++ 32 :: c :: tailS r := by simpa [tailS] using h
        rw [h2]; simp
      exact hx 32 this rfl
  | cons c r =>
    cases b with
    | nil =>
      exfalso
      rw [tailS_cons] at h
      have : (32 : UInt8) ∈ y := by
        have h2 : y = x ++ 32 :: c :: tailS r := by simpa [tailS] using h.symm
        rw [h2]; simp
      exact hy 32 this rfl
    | cons c' r' =>
      rw [tailS_cons, tailS_cons] at h
      obtain ⟨e1, e2⟩ := word_cut hx hy h
      simp only [List.cons.injEq] at e2
      exact ⟨e1, by rw [e2.1, tailS_inj e2.2]⟩
theorem shape_is {ws : List ByteArray} (h : noSp (wAt ws 0).data.toList) (k : Nat) (hk : k < 11) (cs : List UInt8) (lit : ByteArray) (hl : lit.data.toList = (keyW k).data.toList ++ tailS cs) :
    shapeB ws = lit ↔ keyOf (wAt ws 0) = k ∧ (ws.drop 1).map kindC = cs := by
  constructor
  · intro e
    have h2 : shapeL ws = lit.data.toList := by rw [← e]; rfl
    rw [hl] at h2
    obtain ⟨e1, e2⟩ := shape_cut h (key_clean k hk).1 h2
    exact ⟨by rw [ba_ext e1, key_word k hk], e2⟩
  · rintro ⟨e1, e2⟩
    have e3 := key_is (w := wAt ws 0) (by omega)
    rw [e1] at e3
    apply ba_ext
    rw [hl]
    show shapeL ws = _
    unfold shapeL
    rw [e2, e3]
def codeC (b : Bool) : UInt8 := if b = true then 110 else 100
theorem kind_code (w : ByteArray) (b : Bool) : kindC w = codeC b ↔ (if b = true then nameB w else numB w) = true := by
  unfold kindC codeC
  cases hn : numB w with
  | true =>
    have h2 := num_not_name hn
    cases b <;> simp [h2]
  | false => cases hm : nameB w <;> cases b <;> simp
theorem fit_kinds : ∀ {f : List Bool} {ws : List ByteArray}, fitB f ws = true ↔ ws.map kindC = f.map codeC
  | [], [] => by simp [fitB]
  | [], w :: ws => by simp [fitB]
  | b :: f, [] => by simp [fitB]
  | b :: f, w :: ws => by
    rw [List.map_cons, List.map_cons, List.cons.injEq, kind_code, ← fit_kinds]
    show ((if b = true then nameB w else numB w) && fitB f ws) = true ↔ _
    rw [Bool.and_eq_true]
theorem fit_key {ws : List ByteArray} {k : Nat} (hk : k < 11) (h : keyOf (wAt ws 0) = k) (h0 : ws ≠ []) (f : List Bool) : fitB (true :: f) ws = true ↔ (ws.drop 1).map kindC = f.map codeC := by
  cases ws with
  | nil => exact absurd rfl h0
  | cons w ws =>
    have e : w = keyW k := by
      have e3 := key_is (w := wAt (w :: ws) 0) (by omega)
      rw [h] at e3
      exact e3
    have hn : nameB w = true := by rw [e]; exact key_nameB k hk
    rw [← fit_kinds]
    show ((if true = true then nameB w else numB w) && fitB f ws) = true ↔ _
    rw [if_pos rfl, hn, Bool.true_and]
    exact Iff.rfl
def sDraw : ByteArray := ⟨#[100, 114, 97, 119, 32, 110]⟩
def sLottery : ByteArray := ⟨#[108, 111, 116, 116, 101, 114, 121, 32, 100, 32, 100]⟩
def sBallot : ByteArray := ⟨#[98, 97, 108, 108, 111, 116, 32, 100]⟩
def sPanel : ByteArray := ⟨#[112, 97, 110, 101, 108, 32, 100]⟩
def sRound : ByteArray := ⟨#[114, 111, 117, 110, 100, 32, 100]⟩
def sPrice : ByteArray := ⟨#[112, 114, 105, 99, 101, 32, 100]⟩
def sTier : ByteArray := ⟨#[116, 105, 101, 114, 32, 100, 32, 100]⟩
def sRoll : ByteArray := ⟨#[114, 111, 108, 108]⟩
def sPlace : ByteArray := ⟨#[112, 108, 97, 99, 101, 32, 110, 32, 100]⟩
def sQuota : ByteArray := ⟨#[113, 117, 111, 116, 97, 32, 110, 32, 100, 32, 100]⟩
def sBar : ByteArray := ⟨#[98, 97, 114, 32, 100]⟩
def kindZ (s : ByteArray) : Int := if s = sTier ∨ s = sRoll then 1 else if s = sPlace then 2 else if s = sQuota then 3 else if s = sBar then 0 else -1
def followsP (ln kd : Int) (ro ba : Bool) (s : ByteArray) : Int :=
  if ln = 0 then (if s = sDraw then 0 else 12)
  else if ln = 1 then (if s = sLottery ∨ s = sBallot ∨ s = sPanel then 0 else 12)
  else if ln = 2 then (if s = sRound then 0 else 12)
  else if ln = 3 then (if s = sPrice then 0 else 12)
  else if kindZ s < 0 ∨ (0 < kindZ s ∧ ba = true) then 12
  else if 0 < kindZ s ∧ kindZ s ≠ kd then 14
  else if kindZ s = 0 ∨ ro = false then 0 else 12
/-- The error of a line as to its shape and its place. -/
def followsZ (t : St) (s : ByteArray) : Int := followsP t.lines t.d.kind t.rolled t.barred s
def formK : Nat → List Bool
  | 0 => [true]
  | 1 => [false, false]
  | 2 => [false]
  | 3 => [false]
  | 4 => [false]
  | 5 => [false]
  | 6 => [false, false]
  | 7 => []
  | 8 => [true, false]
  | 9 => [true, false, false]
  | _ => [false]
/-- The shape of a line by its key, where its form is the key's. -/
def shapeK : Nat → ByteArray
  | 0 => sDraw
  | 1 => sLottery
  | 2 => sBallot
  | 3 => sPanel
  | 4 => sRound
  | 5 => sPrice
  | 6 => sTier
  | 7 => sRoll
  | 8 => sPlace
  | 9 => sQuota
  | _ => sBar
theorem shapeK_data : ∀ k, k < 11 → (shapeK k).data.toList = (keyW k).data.toList ++ tailS ((formK k).map codeC) := by decide
/-- The line has the form of its key. -/
def goodL (ws : List ByteArray) (k : Nat) : Prop := keyOf (wAt ws 0) = k ∧ fitB (true :: formK k) ws = true
theorem good_shape {ws : List ByteArray} (h : noSp (wAt ws 0).data.toList) (h0 : ws ≠ []) (k : Nat) (hk : k < 11) : shapeB ws = shapeK k ↔ goodL ws k := by
  rw [shape_is h k hk _ _ (shapeK_data k hk)]
  constructor
  · rintro ⟨e1, e2⟩
    exact ⟨e1, (fit_key hk e1 h0 _).2 e2⟩
  · rintro ⟨e1, e2⟩
    exact ⟨e1, (fit_key hk e1 h0 _).1 e2⟩
theorem kind_6 : kindZ (shapeK 6) = 1 := by decide
theorem kind_7 : kindZ (shapeK 7) = 1 := by decide
theorem kind_8 : kindZ (shapeK 8) = 2 := by decide
theorem kind_9 : kindZ (shapeK 9) = 3 := by decide
theorem kind_10 : kindZ (shapeK 10) = 0 := by decide
theorem kind_none {s : ByteArray} (h : ∀ k, 6 ≤ k → k < 11 → s ≠ shapeK k) : kindZ s = -1 := by
  unfold kindZ
  rw [if_neg (by rintro (e | e); exact h 6 (by decide) (by decide) e; exact h 7 (by decide) (by decide) e), if_neg (show ¬ s = sPlace from h 8 (by decide) (by decide)), if_neg (show ¬ s = sQuota from h 9 (by decide) (by decide)), if_neg (show ¬ s = sBar from h 10 (by decide) (by decide))]
end Go.Proofs.YteikkpiginfbkaaGreatDoor

namespace Go.Proofs.YteikkpiginfbkaaGreatDoor
open Go.RowKit

def shapeTo (ws : List ByteArray) (k : Nat) : ByteArray := arrB ((wAt ws 0).data.toList ++ tailS (((ws.take k).drop 1).map kindC))
theorem shapeTo_one {ws : List ByteArray} (h : 0 < ws.length) : shapeTo ws 1 = wAt ws 0 := by
  unfold shapeTo
  have e : (ws.take 1).drop 1 = [] := List.drop_of_length_le (by rw [List.length_take]; omega)
  rw [e]
  show arrB ((wAt ws 0).data.toList ++ []) = _
  rw [List.append_nil]
  exact arr_list _
theorem shapeTo_end (ws : List ByteArray) : shapeTo ws ws.length = shapeB ws := by unfold shapeTo; rw [List.take_length]; rfl
theorem tailS_app (a : List UInt8) (c : UInt8) : tailS (a ++ [c]) = tailS a ++ [32, c] := by simp [tailS]
theorem shapeTo_succ {ws : List ByteArray} {k : Nat} (h : k < ws.length) (hk : 1 ≤ k) : shapeTo ws (k + 1) = shapeTo ws k ++ ⟨#[32, kindC (wAt ws k)]⟩ := by
  unfold shapeTo
  apply ba_ext
  rw [app_data, take_snoc h, List.drop_append_of_le_length (by rw [List.length_take]; omega), List.map_append, List.map_singleton, tailS_app, wAt_get h]
  simp [arrB]
theorem tailS_len (a : List UInt8) : (tailS a).length = 2 * a.length := by
  induction a with
  | nil => rfl
  | cons x a ih => rw [tailS_cons, List.length_cons, List.length_cons, ih, List.length_cons]; omega
theorem arrB_size (l : List UInt8) : (arrB l).size = l.length := by show l.toArray.size = l.length; simp
theorem shapeTo_size (ws : List ByteArray) (k : Nat) : (shapeTo ws k).size ≤ (wAt ws 0).size + 2 * k := by
  have e : (shapeTo ws k).size = ((wAt ws 0).data.toList ++ tailS (((ws.take k).drop 1).map kindC)).length := arrB_size _
  have e2 : (wAt ws 0).data.toList.length = (wAt ws 0).size := Array.length_toList
  rw [e, List.length_append, tailS_len, e2, List.length_map, List.length_drop, List.length_take]
  omega
theorem str_cell {w : World} {base c : Nat} {a : Option Addr} {ws : List ByteArray} (h : w.ownsRow base 9 1 (.slice a ws.length c) ws.length (ws.map Value.string)) {j : Nat} (hj : j < ws.length) :
    ∃ g, a = some ⟨g, 0, none⟩ ∧ g < w.heap.size ∧ ws.length ≤ c ∧ c ≤ 9223372036854775807 ∧ w.cell? ⟨g, j, none⟩ = some (.string (wAt ws j)) := by
  have hu : (ws.map Value.string)[j]? = some (.string (wAt ws j)) := by rw [List.getElem?_map, List.getElem?_eq_getElem hj, wAt_get hj]; rfl
  obtain ⟨g, cap, hv, hg, h1, h2, hc⟩ := own_cell h hu
  simp only [Value.slice.injEq, true_and] at hv
  obtain ⟨rfl, rfl⟩ := hv
  exact ⟨g, rfl, hg, h1, h2, hc⟩
set_option maxRecDepth 100000 in
set_option maxHeartbeats 4000000 in
theorem rshape_any (base c : Nat) (a : Option Addr) (ws : List ByteArray) (w : World) (hI : w.ownsRow base 9 1 (.slice a ws.length c) ws.length (ws.map Value.string)) (h0 : 0 < ws.length) (hl : ws.length ≤ 5001) (hs : ∀ x ∈ ws, x.size ≤ 5000) :
    Calls Tryz.prog 106 #[.slice a ws.length c] w fun e w' => e = .returned (.string (shapeB ws)) ∧ Only (fun _ => False) w w' := by
  have HI := Lib.hid hI
  have HS := Lib.hid hs
  have HT1 := Lib.hid (shapeTo_one h0)
  have HTE := Lib.hid (shapeTo_end ws)
  obtain ⟨g, rfl, hg, hc1, hc2, d0⟩ := str_cell hI h0
  have hsz0 : (wAt ws 0).size ≤ 5000 := hs _ (wAt_mem h0)
  have HSZ := Lib.hid hsz0
  have j0 : (0 : Int) < ws.length := by omega
  rw [← HT1.out] at d0
  clear hI hs hsz0
  go_enter Tryz.func106, Tryz.ntmps106
  go_wp2_with fail
  go_loopw [3, 4] (fun vs vi wr => ∃ k : Nat, vi = .int .i64 k ∧ 1 ≤ k ∧ k ≤ ws.length ∧ vs = .string (shapeTo ws k) ∧ Only (fun _ => False) w wr) (fun _ vi _ => ws.length - (intOf vi).toNat)
  case atStart => exact ⟨1, rfl, Nat.le_refl _, h0, rfl, Only.refl _ _⟩
  case round =>
    obtain ⟨k, rfl, hk1, hk, rfl, hO⟩ := hrel
    have HO := Lib.hid hO
    have HW := Lib.hid (hO.owns HI.out (fun _ _ h => h))
    clear hO d0
    by_cases hlt : k < ws.length
    · have j1 : (k : Int) < ws.length := by omega
      have j2 : 0 ≤ (k : Int) := by omega
      have HLT := Lib.hid hlt
      obtain ⟨g', e1, hg', _, _, dk⟩ := str_cell HW.out hlt
      simp only [Option.some.injEq, Addr.mk.injEq, and_true] at e1
      subst e1
      have HST := Lib.hid (shapeTo_succ hlt hk1)
      have hxs : (wAt ws k).size ≤ 5000 := HS.out _ (by rw [← wAt_get hlt]; exact List.getElem_mem hlt)
      have hss := shapeTo_size ws k
      have hs0 := HSZ.out
      have i1 : ¬ (9223372036854775807 < (shapeTo ws k).size + 2) := by omega
      have HX := Lib.hid hxs
      have HKC := Lib.hid (show kindC (wAt ws k) = if numB (wAt ws k) = true then 100 else if nameB (wAt ws k) = true then 110 else 120 from rfl)
      clear hss hs0 hxs
      generalize shapeTo ws k = s at *
      generalize wAt ws k = x at *
      obtain ⟨bn, hbn⟩ : ∃ b, numB x = b := ⟨_, rfl⟩
      obtain ⟨bm, hbm⟩ : ∃ b, nameB x = b := ⟨_, rfl⟩
      have HN := Lib.hid (fun w => rnumeral_any x bn w HX.out hbn)
      have HM := Lib.hid (fun w => risname_any x bm w hbm)
      rw [hbn, hbm] at HKC
      clear hbn hbm
      generalize kindC x = kc at *
      have fin : ∀ w2, Only (fun _ => False) wr w2 → w2.cell? ⟨g, k, none⟩ = some (.string x) := fun w2 h => h.cell dk id
      have HFIN := Lib.hid fin
      clear fin
      cases bn
      · cases bm
        · have e := HKC.out
          simp only [Bool.false_eq_true, if_false] at e
          subst e
          go_wp2_with fail
          refine (HN.out _).mono ?_
          rintro e w2 ⟨rfl, hO2⟩
          have d2 := HFIN.out w2 hO2
          have HO2 := Lib.hid (HO.out.trans hO2)
          clear hO2
          go_wp2_with fail
          refine (HM.out _).mono ?_
          rintro e w3 ⟨rfl, rfl⟩
          go_wp2_with fail
          go_roundw
          case rel => exact ⟨k + 1, by go_num, by omega, HLT.out, by rw [HST.out], HO2.out⟩
          case measure => simp [intOf]; have := HLT.out; omega
        · have e := HKC.out
          simp only [Bool.false_eq_true, if_false, if_true] at e
          subst e
          go_wp2_with fail
          refine (HN.out _).mono ?_
          rintro e w2 ⟨rfl, hO2⟩
          have d2 := HFIN.out w2 hO2
          have HO2 := Lib.hid (HO.out.trans hO2)
          clear hO2
          go_wp2_with fail
          refine (HM.out _).mono ?_
          rintro e w3 ⟨rfl, rfl⟩
          go_wp2_with fail
          go_roundw
          case rel => exact ⟨k + 1, by go_num, by omega, HLT.out, by rw [HST.out], HO2.out⟩
          case measure => simp [intOf]; have := HLT.out; omega
      · have e := HKC.out
        simp only [if_true] at e
        subst e
        go_wp2_with fail
        refine (HN.out _).mono ?_
        rintro e w2 ⟨rfl, hO2⟩
        have d2 := HFIN.out w2 hO2
        have HO2 := Lib.hid (HO.out.trans hO2)
        clear hO2
        go_wp2_with fail
        refine (HM.out _).mono ?_
        rintro e w3 ⟨rfl, rfl⟩
        go_wp2_with fail
        go_roundw
        case rel => exact ⟨k + 1, by go_num, by omega, HLT.out, by rw [HST.out], HO2.out⟩
        case measure => simp [intOf]; have := HLT.out; omega
    · obtain rfl : k = ws.length := by omega
      have j1 : ¬ (ws.length : Int) < ws.length := by omega
      rw [HTE.out]
      go_wp2_with fail
      go_ret
      exact ⟨rfl, HO.out⟩
theorem lit_eq (s : ByteArray) (l : List UInt8) (b : Bool) (h : decide (s = arrB l) = b) : (s.toList == l) = b := by
  rw [← h, Bool.eq_iff_iff, beq_iff_eq, decide_eq_true_eq, ByteArray.toList_eq]
  exact ⟨fun e => ba_ext e, fun e => by rw [e]; rfl⟩
set_option maxRecDepth 100000 in
set_option maxHeartbeats 4000000 in
theorem rkind_any (s : ByteArray) (w : World) :
    Calls Tryz.prog 124 #[.string s] w fun e w' => e = .returned (.int .i64 (kindZ s)) ∧ w = w' := by
  by_cases h6 : s = sTier
  · have HK := Lib.hid (show kindZ s = 1 by unfold kindZ; rw [if_pos (.inl h6)])
    have p6 : (s.toList == [116, 105, 101, 114, 32, 100, 32, 100]) = true := lit_eq _ _ _ (decide_eq_true h6)
    clear h6
    go_enter Tryz.func124, Tryz.ntmps124
    go_wp2_with fail
    go_ret
    rw [HK.out]
    exact ⟨rfl, rfl⟩
  have p6 : (s.toList == [116, 105, 101, 114, 32, 100, 32, 100]) = false := lit_eq _ _ _ (decide_eq_false h6)
  by_cases h7 : s = sRoll
  · have HK := Lib.hid (show kindZ s = 1 by unfold kindZ; rw [if_pos (.inr h7)])
    have p7 : (s.toList == [114, 111, 108, 108]) = true := lit_eq _ _ _ (decide_eq_true h7)
    clear h6 h7
    go_enter Tryz.func124, Tryz.ntmps124
    go_wp2_with fail
    go_ret
    rw [HK.out]
    exact ⟨rfl, rfl⟩
  have p7 : (s.toList == [114, 111, 108, 108]) = false := lit_eq _ _ _ (decide_eq_false h7)
  by_cases h8 : s = sPlace
  · have HK := Lib.hid (show kindZ s = 2 by unfold kindZ; rw [if_neg (by rintro (e | e); exact h6 e; exact h7 e), if_pos h8])
    have p8 : (s.toList == [112, 108, 97, 99, 101, 32, 110, 32, 100]) = true := lit_eq _ _ _ (decide_eq_true h8)
    clear h6 h7 h8
    go_enter Tryz.func124, Tryz.ntmps124
    go_wp2_with fail
    go_ret
    rw [HK.out]
    exact ⟨rfl, rfl⟩
  have p8 : (s.toList == [112, 108, 97, 99, 101, 32, 110, 32, 100]) = false := lit_eq _ _ _ (decide_eq_false h8)
  by_cases h9 : s = sQuota
  · have HK := Lib.hid (show kindZ s = 3 by unfold kindZ; rw [if_neg (by rintro (e | e); exact h6 e; exact h7 e), if_neg h8, if_pos h9])
    have p9 : (s.toList == [113, 117, 111, 116, 97, 32, 110, 32, 100, 32, 100]) = true := lit_eq _ _ _ (decide_eq_true h9)
    clear h6 h7 h8 h9
    go_enter Tryz.func124, Tryz.ntmps124
    go_wp2_with fail
    go_ret
    rw [HK.out]
    exact ⟨rfl, rfl⟩
  have p9 : (s.toList == [113, 117, 111, 116, 97, 32, 110, 32, 100, 32, 100]) = false := lit_eq _ _ _ (decide_eq_false h9)
  by_cases h10 : s = sBar
  · have HK := Lib.hid (show kindZ s = 0 by unfold kindZ; rw [if_neg (by rintro (e | e); exact h6 e; exact h7 e), if_neg h8, if_neg h9, if_pos h10])
    have p10 : (s.toList == [98, 97, 114, 32, 100]) = true := lit_eq _ _ _ (decide_eq_true h10)
    clear h6 h7 h8 h9 h10
    go_enter Tryz.func124, Tryz.ntmps124
    go_wp2_with fail
    go_ret
    rw [HK.out]
    exact ⟨rfl, rfl⟩
  have p10 : (s.toList == [98, 97, 114, 32, 100]) = false := lit_eq _ _ _ (decide_eq_false h10)
  have HK := Lib.hid (show kindZ s = -1 by unfold kindZ; rw [if_neg (by rintro (e | e); exact h6 e; exact h7 e), if_neg h8, if_neg h9, if_neg h10])
  clear h6 h7 h8 h9 h10
  go_enter Tryz.func124, Tryz.ntmps124
  go_wp2_with fail
  go_ret
  rw [HK.out]
  exact ⟨rfl, rfl⟩
end Go.Proofs.YteikkpiginfbkaaGreatDoor

namespace Go.Proofs.YteikkpiginfbkaaGreatDoor
open Go.RowKit

def stCells (t : St) (vt vp vq vb : Value) : Array Value :=
  #[.string t.d.name, .int .i64 t.d.kind, .int .i64 t.d.round, .int .i64 t.d.price, .int .i64 t.d.pool, .int .i64 t.d.pick, vt, .bool t.d.roll, vp, .int .i64 t.d.cls, .int .i64 t.d.size, vq, vb, .int .i64 t.lines, .bool t.rolled, .bool t.barred]
/-- The reference's state in a block of its own, and its lists. -/
structure StAt (base : Nat) (W : World) (B : Nat) (t : St) (vt vp vq vb : Value) : Prop where
  blk : W.heap[B]? = some (.cells (stCells t vt vp vq vb) 130 (0, 0))
  tiers : W.ownsRow base 50 2 vt t.d.tiers.length (trow t.d.tiers)
  places : W.ownsRow base 73 2 vp t.d.places.length (prow t.d.places)
  quotas : W.ownsRow base 75 3 vq t.d.quotas.length (qrow t.d.quotas)
  bars : W.ownsRow base 3 1 vb t.d.barred.length (irow t.d.barred)
theorem StAt.still {base B : Nat} {w w' : World} {t : St} {vt vp vq vb : Value} (h : StAt base w B t vt vp vq vb) (hO : Only (fun _ => False) w w') : StAt base w' B t vt vp vq vb :=
  ⟨row_still hO h.blk, hO.owns h.tiers (fun _ _ h => h), hO.owns h.places (fun _ _ h => h), hO.owns h.quotas (fun _ _ h => h), hO.owns h.bars (fun _ _ h => h)⟩
theorem StAt.lt {base B : Nat} {w : World} {t : St} {vt vp vq vb : Value} (h : StAt base w B t vt vp vq vb) : B < w.heap.size := (Array.getElem?_eq_some_iff.1 h.blk).1
theorem StAt.cell {base B : Nat} {w : World} {t : St} {vt vp vq vb : Value} (h : StAt base w B t vt vp vq vb) (j : Nat) {v : Value} (hv : (stCells t vt vp vq vb)[j]? = some v) : w.cell? ⟨B, j, none⟩ = some v := (cell_of_row _ _ j _ _ _ h.blk).trans hv
theorem StAt.frz {base B : Nat} {w : World} {t : St} {vt vp vq vb : Value} (h : StAt base w B t vt vp vq vb) (j : Nat) : w.frozen? ⟨B, j, none⟩ = false := frozen_of_row _ _ _ _ _ h.blk
theorem StAt.set {base B : Nat} {w : World} {t : St} {vt vp vq vb : Value} (h : StAt base w B t vt vp vq vb) {t' : St} (j : Nat) (v : Value)
    (he : (stCells t vt vp vq vb).setIfInBounds j v = stCells t' vt vp vq vb) (e1 : t'.d.tiers = t.d.tiers) (e2 : t'.d.places = t.d.places) (e3 : t'.d.quotas = t.d.quotas) (e4 : t'.d.barred = t.d.barred) :
    StAt base (w.setCell ⟨B, j, none⟩ v) B t' vt vp vq vb := by
  refine ⟨?_, ?_, ?_, ?_, ?_⟩
  · rw [← he]; exact heap_setCell_same w B j _ _ _ h.blk
  · rw [e1]; exact set_own h.tiers (ownR_blk h.tiers h.blk (by decide))
  · rw [e2]; exact set_own h.places (ownR_blk h.places h.blk (by decide))
  · rw [e3]; exact set_own h.quotas (ownR_blk h.quotas h.blk (by decide))
  · rw [e4]; exact set_own h.bars (ownR_blk h.bars h.blk (by decide))
set_option maxRecDepth 100000 in
set_option maxHeartbeats 8000000 in
theorem rfollows_any (base B : Nat) (t : St) (vt vp vq vb : Value) (s : ByteArray) (w : World) (hR : StAt base w B t vt vp vq vb) :
    Calls Tryz.prog 105 #[.pointer (some ⟨B, 0, none⟩), .string s] w fun e w' => e = .returned (.int .i64 (followsZ t s)) ∧ w = w' := by
  have c1 : w.cell? ⟨B, 1, none⟩ = some (.int .i64 t.d.kind) := hR.cell 1 rfl
  have c13 : w.cell? ⟨B, 13, none⟩ = some (.int .i64 t.lines) := hR.cell 13 rfl
  have c14 : w.cell? ⟨B, 14, none⟩ = some (.bool t.rolled) := hR.cell 14 rfl
  have c15 : w.cell? ⟨B, 15, none⟩ = some (.bool t.barred) := hR.cell 15 rfl
  clear hR
  have HK := Lib.hid (fun w => rkind_any s w)
  obtain ⟨ln, hln⟩ : ∃ z, t.lines = z := ⟨_, rfl⟩
  obtain ⟨ro, hro⟩ : ∃ z, t.rolled = z := ⟨_, rfl⟩
  obtain ⟨ba, hba⟩ : ∃ z, t.barred = z := ⟨_, rfl⟩
  obtain ⟨kd, hkd⟩ : ∃ z, t.d.kind = z := ⟨_, rfl⟩
  rw [hln] at c13
  rw [hro] at c14
  rw [hba] at c15
  rw [hkd] at c1
  unfold followsZ
  rw [hln, hro, hba, hkd]
  obtain ⟨F, hF⟩ : ∃ F, followsP ln kd ro ba s = F := ⟨_, rfl⟩
  rw [hF]
  have hF2 := hF.symm
  unfold followsP at hF2
  have HFF := Lib.hid hF2
  clear hln hro hba hkd hF hF2
  by_cases l0 : ln = 0
  · have HH := HFF.out
    rw [if_pos l0] at HH
    have n0 : (ln == 0) = true := by rw [l0]; rfl
    clear HFF
    by_cases hsDraw : s = sDraw
    · rw [if_pos hsDraw] at HH
      subst HH
      have psDraw : (s.toList == [100, 114, 97, 119, 32, 110]) = true := lit_eq _ _ _ (decide_eq_true hsDraw)
      clear l0 hsDraw
      go_enter Tryz.func105, Tryz.ntmps105
      go_wp2_with fail
      go_ret
      exact ⟨rfl, rfl⟩
    · rw [if_neg (fun e => hsDraw e)] at HH
      subst HH
      have psDraw : (s.toList == [100, 114, 97, 119, 32, 110]) = false := lit_eq _ _ _ (decide_eq_false hsDraw)
      clear l0 hsDraw
      go_enter Tryz.func105, Tryz.ntmps105
      go_wp2_with fail
      go_ret
      exact ⟨rfl, rfl⟩
  by_cases l1 : ln = 1
  · have HH := HFF.out
    rw [if_neg l0] at HH
    rw [if_pos l1] at HH
    have n0 : (ln == 0) = false := beq_eq_false_iff_ne.2 l0
    have n1 : (ln == 1) = true := by rw [l1]; rfl
    clear HFF
    by_cases hsLottery : s = sLottery
    · rw [if_pos (.inl hsLottery)] at HH
      subst HH
      have psLottery : (s.toList == [108, 111, 116, 116, 101, 114, 121, 32, 100, 32, 100]) = true := lit_eq _ _ _ (decide_eq_true hsLottery)
      clear l0 l1 hsLottery
      go_enter Tryz.func105, Tryz.ntmps105
      go_wp2_with fail
      go_ret
      exact ⟨rfl, rfl⟩
    · by_cases hsBallot : s = sBallot
      · rw [if_pos (.inr (.inl hsBallot))] at HH
        subst HH
        have psLottery : (s.toList == [108, 111, 116, 116, 101, 114, 121, 32, 100, 32, 100]) = false := lit_eq _ _ _ (decide_eq_false hsLottery)
        have psBallot : (s.toList == [98, 97, 108, 108, 111, 116, 32, 100]) = true := lit_eq _ _ _ (decide_eq_true hsBallot)
        clear l0 l1 hsLottery hsBallot
        go_enter Tryz.func105, Tryz.ntmps105
        go_wp2_with fail
        go_ret
        exact ⟨rfl, rfl⟩
      · by_cases hsPanel : s = sPanel
        · rw [if_pos (.inr (.inr hsPanel))] at HH
          subst HH
          have psLottery : (s.toList == [108, 111, 116, 116, 101, 114, 121, 32, 100, 32, 100]) = false := lit_eq _ _ _ (decide_eq_false hsLottery)
          have psBallot : (s.toList == [98, 97, 108, 108, 111, 116, 32, 100]) = false := lit_eq _ _ _ (decide_eq_false hsBallot)
          have psPanel : (s.toList == [112, 97, 110, 101, 108, 32, 100]) = true := lit_eq _ _ _ (decide_eq_true hsPanel)
          clear l0 l1 hsLottery hsBallot hsPanel
          go_enter Tryz.func105, Tryz.ntmps105
          go_wp2_with fail
          go_ret
          exact ⟨rfl, rfl⟩
        · rw [if_neg (fun e => e.elim hsLottery (fun e => e.elim hsBallot hsPanel))] at HH
          subst HH
          have psLottery : (s.toList == [108, 111, 116, 116, 101, 114, 121, 32, 100, 32, 100]) = false := lit_eq _ _ _ (decide_eq_false hsLottery)
          have psBallot : (s.toList == [98, 97, 108, 108, 111, 116, 32, 100]) = false := lit_eq _ _ _ (decide_eq_false hsBallot)
          have psPanel : (s.toList == [112, 97, 110, 101, 108, 32, 100]) = false := lit_eq _ _ _ (decide_eq_false hsPanel)
          clear l0 l1 hsLottery hsBallot hsPanel
          go_enter Tryz.func105, Tryz.ntmps105
          go_wp2_with fail
          go_ret
          exact ⟨rfl, rfl⟩
  by_cases l2 : ln = 2
  · have HH := HFF.out
    rw [if_neg l0] at HH
    rw [if_neg l1] at HH
    rw [if_pos l2] at HH
    have n0 : (ln == 0) = false := beq_eq_false_iff_ne.2 l0
    have n1 : (ln == 1) = false := beq_eq_false_iff_ne.2 l1
    have n2 : (ln == 2) = true := by rw [l2]; rfl
    clear HFF
    by_cases hsRound : s = sRound
    · rw [if_pos hsRound] at HH
      subst HH
      have psRound : (s.toList == [114, 111, 117, 110, 100, 32, 100]) = true := lit_eq _ _ _ (decide_eq_true hsRound)
      clear l0 l1 l2 hsRound
      go_enter Tryz.func105, Tryz.ntmps105
      go_wp2_with fail
      go_ret
      exact ⟨rfl, rfl⟩
    · rw [if_neg (fun e => hsRound e)] at HH
      subst HH
      have psRound : (s.toList == [114, 111, 117, 110, 100, 32, 100]) = false := lit_eq _ _ _ (decide_eq_false hsRound)
      clear l0 l1 l2 hsRound
      go_enter Tryz.func105, Tryz.ntmps105
      go_wp2_with fail
      go_ret
      exact ⟨rfl, rfl⟩
  by_cases l3 : ln = 3
  · have HH := HFF.out
    rw [if_neg l0] at HH
    rw [if_neg l1] at HH
    rw [if_neg l2] at HH
    rw [if_pos l3] at HH
    have n0 : (ln == 0) = false := beq_eq_false_iff_ne.2 l0
    have n1 : (ln == 1) = false := beq_eq_false_iff_ne.2 l1
    have n2 : (ln == 2) = false := beq_eq_false_iff_ne.2 l2
    have n3 : (ln == 3) = true := by rw [l3]; rfl
    clear HFF
    by_cases hsPrice : s = sPrice
    · rw [if_pos hsPrice] at HH
      subst HH
      have psPrice : (s.toList == [112, 114, 105, 99, 101, 32, 100]) = true := lit_eq _ _ _ (decide_eq_true hsPrice)
      clear l0 l1 l2 l3 hsPrice
      go_enter Tryz.func105, Tryz.ntmps105
      go_wp2_with fail
      go_ret
      exact ⟨rfl, rfl⟩
    · rw [if_neg (fun e => hsPrice e)] at HH
      subst HH
      have psPrice : (s.toList == [112, 114, 105, 99, 101, 32, 100]) = false := lit_eq _ _ _ (decide_eq_false hsPrice)
      clear l0 l1 l2 l3 hsPrice
      go_enter Tryz.func105, Tryz.ntmps105
      go_wp2_with fail
      go_ret
      exact ⟨rfl, rfl⟩
  have HH := HFF.out
  rw [if_neg l0] at HH
  rw [if_neg l1] at HH
  rw [if_neg l2] at HH
  rw [if_neg l3] at HH
  have n0 : (ln == 0) = false := beq_eq_false_iff_ne.2 l0
  have n1 : (ln == 1) = false := beq_eq_false_iff_ne.2 l1
  have n2 : (ln == 2) = false := beq_eq_false_iff_ne.2 l2
  have n3 : (ln == 3) = false := beq_eq_false_iff_ne.2 l3
  have HHH := Lib.hid HH
  clear HFF HH l0 l1 l2 l3
  generalize kindZ s = k at *
  by_cases k0 : k < 0
  · have HH := HHH.out
    rw [if_pos (.inl k0)] at HH
    subst HH
    go_enter Tryz.func105, Tryz.ntmps105
    go_wp2_with fail
    refine (HK.out _).mono ?_
    rintro e w' ⟨rfl, rfl⟩
    go_wp2_with fail
    go_ret
    exact ⟨rfl, rfl⟩
  · by_cases k1 : 0 < k
    · have m0 : (k == 0) = false := beq_eq_false_iff_ne.2 (by omega)
      cases ba
      · by_cases k2 : k = kd
        · have HH := HHH.out
          rw [if_neg (by rintro (e | e); exact k0 e; cases e.2), if_neg (fun e => e.2 k2)] at HH
          have m1 : (k != kd) = false := by rw [k2]; simp
          cases ro
          · rw [if_pos (.inr rfl)] at HH
            subst HH
            clear k2
            go_enter Tryz.func105, Tryz.ntmps105
            go_wp2_with fail
            refine (HK.out _).mono ?_
            rintro e w' ⟨rfl, rfl⟩
            go_wp2_with fail
            go_ret
            exact ⟨rfl, rfl⟩
          · rw [if_neg (by rintro (e | e); omega; cases e)] at HH
            subst HH
            clear k2
            go_enter Tryz.func105, Tryz.ntmps105
            go_wp2_with fail
            refine (HK.out _).mono ?_
            rintro e w' ⟨rfl, rfl⟩
            go_wp2_with fail
            go_ret
            exact ⟨rfl, rfl⟩
        · have HH := HHH.out
          rw [if_neg (by rintro (e | e); exact k0 e; cases e.2), if_pos ⟨k1, k2⟩] at HH
          have m1 : (k != kd) = true := bne_iff_ne.2 k2
          subst HH
          clear k2
          go_enter Tryz.func105, Tryz.ntmps105
          go_wp2_with fail
          refine (HK.out _).mono ?_
          rintro e w' ⟨rfl, rfl⟩
          go_wp2_with fail
          go_ret
          exact ⟨rfl, rfl⟩
      · have HH := HHH.out
        rw [if_pos (.inr ⟨k1, rfl⟩)] at HH
        subst HH
        go_enter Tryz.func105, Tryz.ntmps105
        go_wp2_with fail
        refine (HK.out _).mono ?_
        rintro e w' ⟨rfl, rfl⟩
        go_wp2_with fail
        go_ret
        exact ⟨rfl, rfl⟩
    · obtain rfl : k = 0 := by omega
      have HH := HHH.out
      rw [if_neg (by rintro (e | e); exact k0 e; exact k1 e.1), if_neg (fun e => k1 e.1), if_pos (.inl rfl)] at HH
      subst HH
      clear k0 k1
      go_enter Tryz.func105, Tryz.ntmps105
      go_wp2_with fail
      refine (HK.out _).mono ?_
      rintro e w' ⟨rfl, rfl⟩
      go_wp2_with fail
      go_ret
      exact ⟨rfl, rfl⟩
end Go.Proofs.YteikkpiginfbkaaGreatDoor
