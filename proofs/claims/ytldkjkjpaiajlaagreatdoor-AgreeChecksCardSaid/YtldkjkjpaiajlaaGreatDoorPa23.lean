/-
  Agree: strings.Builder's WriteByte; hexadecimal; the text of a ballot.
  Agree: isValue, right, the text of a ballot.
  Agree: strconv.ParseUint of two hexadecimal digits.
  Agree: bytesOf, readBallot.
  Agree: readBallot.
  Agree: readBallot of a vote's text, and of the two other texts that the law meets.
-/
import Derived.Test.YtldkjkjpaiajlaaGreatDoorPa20
import Derived.Test.YtldkjkjpaiajlaaGreatDoorPa21
import Derived.Test.YtldkjkjpaiajlaaGreatDoorPa17
import Derived.Lib.FrozenHead2
import Derived.Maps.AppendAt
import Derived.Lib.QuietBelow
import Derived.Lib.ConvBytes
import Derived.Test.YtldkjkjpaiajlaaGreatDoorPa07
namespace Go.Proofs.YtldkjkjpaiajlaaGreatDoor
open Go.RowKit

set_option maxHeartbeats 2000000 in
set_option maxRecDepth 100000 in
theorem bwbyte_any (B b : Nat) (l : List UInt8) (c : UInt8) (w : World) (h : BldAt B b l w) (hlen : l.length ≤ 1000000000000) (hBw : B ≤ w.heap.size) :
    Calls Tryz.prog 172 #[.pointer (some ⟨b, 0, none⟩), .int .u8 c.toNat] w fun e w' => e = .returned .nilIface ∧ BldPost B b (l ++ [c]) w w' := by
  obtain ⟨i0, hi, hz0, hz1, hz2⟩ := info_parts Tryz.infoByte
  have hcl := Lib.byteCells_length l
  have e240 : ∀ args w, (callFunc 180 args).run Tryz.prog w = .ok (.enter 180 args) w := enters_of Tryz.func180 (by kernel_rfl) rfl
  have HCC := Lib.hid (fun w (h : Lib.IsBuilderF 218 5 B b (Lib.byteCells l) w) => copyCheck_any B b l w h)
  have HL := Lib.hid (show Lib.byteCells (l ++ [c]) = Lib.byteCells l ++ [.int .u8 c.toNat] from Lib.byteCells_append _ _)
  unfold BldAt at h
  have H := Lib.hid h
  clear h
  generalize Lib.byteCells l = bs at *
  rw [← hcl] at hlen
  clear hcl
  generalize (c.toNat : Int) = x at *
  go_enter Tryz.func172, Tryz.ntmps172
  go_wp2_with fail
  refine (HCC.out _ H.out).mono ?_
  rintro e w1 ⟨rfl, h1, hb1, hk1⟩
  obtain ⟨hB, v, hbk, hown, hne⟩ := h1
  have c0 : w1.cell? ⟨b, 0, none⟩ = some (.pointer (some ⟨b, 0, none⟩)) := by rw [Lib.cell_of_heap hbk]; rfl
  have c1 : w1.cell? ⟨b, 1, none⟩ = some v := by rw [Lib.cell_of_heap hbk]; rfl
  have HB1 := Lib.hid hb1
  have HK1 := Lib.hid hk1
  have hsz1 := hb1.size
  clear hb1 hk1 HCC H
  go_wp2_with (at_builtin; refine wpList_append_ownF _ rfl _ _ 22 rfl B 5 i0 _ 1 1 Tryz.underlying22 hi hz0 hz1 hz2 rfl (by decide) _ _ _ rfl (World.ownsRowF.alloc hown _) ⟨w1.heap.size, 0, none⟩ 1 1 [.int .u8 x] rfl rfl ?c1 ?c2 ?c3 ?c4 ?c5 ?_)
  case c1 => exact cell_one_new _ _ _
  case c2 => intro u hu; cases List.mem_singleton.1 hu; rfl
  case c3 => unfold maxLen; omega
  case c4 => omega
  case c5 => simp; omega
  intro v' w2 hown' hgrow _
  have hlt : b < w1.heap.size := by
    rcases Nat.lt_or_ge b w1.heap.size with h' | h'
    · exact h'
    · simp [Array.getElem?_eq_none h'] at hbk
  have hb2 : w2.heap[b]? = some (.cells #[.pointer (some ⟨b, 0, none⟩), v] 218 (0, 0)) := by
    rw [hgrow.block b (by simp; omega) (fun e => hne e.symm), heap_alloc_old w1 _ hlt]
    exact hbk
  have d0 : w2.cell? ⟨b, 0, none⟩ = some (.pointer (some ⟨b, 0, none⟩)) := by rw [Lib.cell_of_heap hb2]; rfl
  have d1 : w2.cell? ⟨b, 1, none⟩ = some v := by rw [Lib.cell_of_heap hb2]; rfl
  have f1 : w2.frozen? ⟨b, 1, none⟩ = false := Lib.frozen_of_heap hb2 1
  obtain ⟨ao, n', cap, rfl⟩ : ∃ ao n' cap, v' = .slice ao n' cap := by
    rcases hown'.2 with ⟨hv, _⟩ | ⟨g, cap, cur, fz, hv, _⟩
    · exact ⟨_, _, _, hv⟩
    · exact ⟨_, _, _, hv⟩
  have HP := Lib.hid (show BldPost B b (l ++ [c]) w (w2.setCell ⟨b, 1, none⟩ (.slice ao n' cap)) from
    ⟨by unfold BldAt; rw [HL.out]; exact .inr (Lib.BuilderAtF.put (T := 218) (e := 5) hB hb2 (bs' := bs ++ [.int .u8 x]) (by simpa using hown') (by decide)),
      ((HB1.out.alloc (by omega) _).grown hgrow (by simp; omega) (fun k hk => (hown.lt k hk).1)).setCell (p := ⟨b, 1, none⟩) hB _,
      ((HK1.out.alloc _).grown hgrow (Lib.ownsRowF_kind (World.ownsRowF.alloc hown _))).setCell ⟨b, 1, none⟩ rfl _⟩)
  clear hown hown' hgrow hbk hb2 hne
  go_wp2
  go_ret
  exact ⟨rfl, HP.out⟩
theorem hexD_get (n : Nat) (h : n < 16) : (⟨#[48, 49, 50, 51, 52, 53, 54, 55, 56, 57, 97, 98, 99, 100, 101, 102]⟩ : ByteArray)[n]'h = hexD n := by
  have : ∀ n : Fin 16, (⟨#[48, 49, 50, 51, 52, 53, 54, 55, 56, 57, 97, 98, 99, 100, 101, 102]⟩ : ByteArray)[n.1]'n.2 = hexD n.1 := by decide +kernel
  exact this ⟨n, h⟩
theorem and15h (m : Nat) (h : m < 256) : bits BinOp.and IntKind.u8 (m : Int) 15 = (m % 16 : Nat) := by
  have : ∀ n : Fin 256, bits BinOp.and IntKind.u8 (n.1 : Int) 15 = (n.1 % 16 : Nat) := by decide +kernel
  exact this ⟨m, h⟩
/-- The text of one byte. -/
theorem hex9_one (n : Nat) (h : n < 256) : hexL [UInt8.ofNat n] = [hexD (n / 16), hexD (n % 16)] := by
  have : (UInt8.ofNat n).toNat = n := by simp; omega
  show [hexD ((UInt8.ofNat n).toNat / 16), hexD ((UInt8.ofNat n).toNat % 16)] = _
  rw [this]
theorem hexTo_step (s : ByteArray) (k : Nat) (h : k < s.size) : hexL (s.data.toList.take (k + 1)) = hexL (s.data.toList.take k) ++ [hexD ((s.data.toList[k]'(by simpa using h)).toNat / 16)] ++ [hexD ((s.data.toList[k]'(by simpa using h)).toNat % 16)] := by
  rw [List.take_succ_eq_append_getElem (by simpa using h)]
  unfold hexL
  rw [List.flatMap_append]
  simp
set_option maxHeartbeats 4000000 in
set_option maxRecDepth 100000 in
/-- hexadecimal. -/
theorem hexa_any (s : ByteArray) (hs : s.size ≤ 1000) (w : World) :
    Calls Tryz.prog 124 #[.string s] w fun e w' => e = .returned (.string (hex9B s)) ∧ Only (fun _ => False) w w' := by
  have HB := Lib.hid (bld_new w.heap.size w (Nat.le_refl _))
  have hO0 := (Below.refl w.heap.size w).alloc (Nat.le_refl _) (.cells #[.pointer none, .slice none 0 0] 218)
  go_enter Tryz.func124, Tryz.ntmps124
  go_wp2_with fail
  go_loopw [4] (fun vi wr => ∃ k : Nat, k ≤ s.size ∧ vi = .int .i64 k ∧ BldAt w.heap.size w.heap.size (hexL (s.data.toList.take k)) wr ∧ Below w.heap.size w wr) (fun vi _ => s.size - (intOf vi).toNat)
  case atStart => exact ⟨0, Nat.zero_le _, rfl, by rw [List.take_zero]; exact HB.out, hO0⟩
  case round =>
    obtain ⟨k, hk, rfl, hT, hO⟩ := hrel
    have HT := Lib.hid hT
    have HO := Lib.hid hO
    have hsz := hO.size
    clear hT hO
    by_cases hlt : k < s.size
    · have hl : (hexL (s.data.toList.take k)).length ≤ 2000 := by rw [hexL_len, List.length_take]; simp; omega
      have HS := Lib.hid (hexTo_step s k hlt)
      rw [show s.data.toList[k]'(by simpa using hlt) = s[k] from rfl] at HS
      have hm : s[k].toNat < 256 := s[k].toNat_lt
      generalize hms : s[k].toNat = m at *
      have j1 : (m : Int) / 16 < 16 := by omega
      have j2 : 0 ≤ (m : Int) / 16 := by omega
      go_wp2_with fail
      rw [hexD_get (m / 16) (by omega)]
      refine (bwbyte_any w.heap.size w.heap.size _ (hexD (m / 16)) wr HT.out (by omega) (by omega)).mono ?_
      rintro e w1 ⟨rfl, hp1⟩
      have HP1 := Lib.hid hp1
      have hs1 := hp1.below.size
      clear hp1 HT
      have ha := and15h m hm
      have j3 : ((m % 16 : Nat) : Int) < 16 := by omega
      have j4 : 0 ≤ ((m % 16 : Nat) : Int) := by omega
      go_wp2_with fail
      rw [hexD_get (m % 16) (by omega)]
      refine (bwbyte_any w.heap.size w.heap.size _ (hexD (m % 16)) w1 HP1.out.is (by rw [List.length_append]; simp; omega) (by omega)).mono ?_
      rintro e w2 ⟨rfl, hp2⟩
      have HP2 := Lib.hid (HP1.out.trans hp2)
      clear hp2 HP1
      have HO2 := Lib.hid (HO.out.trans HP2.out.below)
      go_wp2
      go_roundw
      case rel => exact ⟨k + 1, by omega, by go_num, by rw [HS.out]; exact HP2.out.is, HO2.out⟩
      case measure => simp [intOf]; omega
    · obtain rfl : k = s.size := by omega
      have HE := Lib.hid (show hexL (s.data.toList.take s.size) = hexL s.data.toList by rw [List.take_of_length_le (by simp)])
      go_wp2_with fail
      refine (bstring_any w.heap.size w.heap.size _ wr HT.out (by omega)).mono ?_
      rintro e w1 ⟨rfl, hb⟩
      have HO2 := Lib.hid (HO.out.trans hb)
      clear hb HT
      go_wp2
      go_ret
      exact ⟨by rw [HE.out]; rfl, Only.ofBelow HO2.out _⟩
end Go.Proofs.YtldkjkjpaiajlaaGreatDoor

namespace Go.Proofs.YtldkjkjpaiajlaaGreatDoor
open Go.RowKit

/-- A ballot as a value, and its cells. -/
def blC (b : Bl) : List Value := [.string (kindB b.kind), .int .i64 b.height, .int .i64 b.view, .string (oneB b.val)]
def blV (b : Bl) : Value := .agg (blC b).toArray
theorem oneB_size (n : Nat) : (oneB n).size = 1 := rfl
theorem isValue_one (n : Nat) (w : World) : Calls Tryz.prog 54 #[.string (oneB n)] w fun e w' => e = .returned (.bool true) ∧ w = w' := by
  have h1 : ((oneB n).size : Int) ≥ 1 := by rw [oneB_size]; decide
  have h2 : ((oneB n).size : Int) ≤ 200 := by rw [oneB_size]; decide
  generalize oneB n = s at *
  go_enter Tryz.func54, Tryz.ntmps54
  go_wp2
  go_ret
  exact ⟨rfl, rfl⟩
theorem blB_cat (b : Bl) : kindB b.kind ++ (⟨#[32]⟩ : ByteArray) ++ decB b.height ++ (⟨#[32]⟩ : ByteArray) ++ decB b.view ++ (⟨#[32]⟩ : ByteArray) ++ hex9B (oneB b.val) = blB b := by
  unfold blB blL decB hex9B
  apply ByteArray.ext
  simp [Lib.join_cons, Lib.joinTail, ByteArray.data_append, oneB]
set_option maxHeartbeats 1000000 in
theorem bright_any (b : Bl) (h : BlOk b) (w : World) : Calls Tryz.prog 78 #[blV b] w fun e w' => e = .returned (.bool true) ∧ Only (fun _ => False) w w' := by
  have HV := Lib.hid (fun w => isValue_one b.val w)
  have hA := (Only.refl (fun _ => False) w).alloc (.cells (blC b).toArray 86)
  have HA := Lib.hid hA
  have hz := heap_alloc_last w (.cells (blC b).toArray 86)
  have i1 : ¬ (b.height : Int) < 0 := by omega
  have i2 : ¬ (1000000000 : Int) < b.height := by have := h.height; omega
  have i3 : ¬ (b.view : Int) < 0 := by omega
  have i4 : ¬ (1000000000 : Int) < b.view := by have := h.view; omega
  have hk : kindB b.kind = kindB 0 ∨ kindB b.kind = kindB 1 ∨ kindB b.kind = kindB 2 := by
    have := h.kind
    rcases (by omega : b.kind = 0 ∨ b.kind = 1 ∨ b.kind = 2) with e | e | e <;> rw [e] <;> simp
  unfold blV
  unfold blC at *
  generalize (b.height : Int) = hh at *
  generalize (b.view : Int) = vv at *
  generalize kindB b.kind = kk at *
  generalize oneB b.val = xx at *
  clear hA h
  rcases hk with rfl | rfl | rfl
  all_goals
    unfold kindB at *
    go_enter Tryz.func78, Tryz.ntmps78
    go_wp2_with fail
    refine (HV.out _).mono ?_
    rintro e w1 ⟨rfl, rfl⟩
    go_wp2
    go_ret
    exact ⟨rfl, HA.out⟩
set_option maxHeartbeats 2000000 in
theorem btext_any (b : Bl) (h : BlOk b) (w : World) (hG : Glob w) : Calls Tryz.prog 79 #[blV b] w fun e w' => e = .returned (.string (blB b)) ∧ Only (fun _ => False) w w' := by
  have hA := (Only.refl (fun _ => False) w).alloc (.cells (blC b).toArray 86)
  have HA := Lib.hid hA
  have HG := Lib.hid (hG.only hA)
  have hz := heap_alloc_last w (.cells (blC b).toArray 86)
  have e0 : (w.alloc (.cells (blC b).toArray 86)).cell? ⟨w.heap.size, 0, none⟩ = some (.string (kindB b.kind)) := cell_of_row _ _ 0 _ _ _ hz
  have e1 : (w.alloc (.cells (blC b).toArray 86)).cell? ⟨w.heap.size, 1, none⟩ = some (.int .i64 b.height) := cell_of_row _ _ 1 _ _ _ hz
  have e2 : (w.alloc (.cells (blC b).toArray 86)).cell? ⟨w.heap.size, 2, none⟩ = some (.int .i64 b.view) := cell_of_row _ _ 2 _ _ _ hz
  have e3 : (w.alloc (.cells (blC b).toArray 86)).cell? ⟨w.heap.size, 3, none⟩ = some (.string (oneB b.val)) := cell_of_row _ _ 3 _ _ _ hz
  have H1 := Lib.hid (fun w => itoa_any b.height w (by have := h.height; omega))
  have H2 := Lib.hid (fun w => itoa_any b.view w (by have := h.view; omega))
  have H3 := Lib.hid (fun w => hexa_any (oneB b.val) (by rw [oneB_size]; decide) w)
  have HC := Lib.hid (blB_cat b)
  have k1 : (decB b.height).size ≤ 21 := decB_size (n := b.height) (by have := h.height; omega)
  have k2 : (decB b.view).size ≤ 21 := decB_size (n := b.view) (by have := h.view; omega)
  have k0 : (kindB b.kind).size ≤ 7 := by
    have : ∀ k, k < 3 → (kindB k).size ≤ 7 := by decide
    exact this _ h.kind
  have s1 : (kindB b.kind ++ (⟨#[32]⟩ : ByteArray)).size ≤ 8 := by rw [ByteArray.size_append]; show _ + 1 ≤ _; omega
  have s2 : (kindB b.kind ++ (⟨#[32]⟩ : ByteArray) ++ decB b.height).size ≤ 29 := by rw [ByteArray.size_append]; omega
  have s3 : (kindB b.kind ++ (⟨#[32]⟩ : ByteArray) ++ decB b.height ++ (⟨#[32]⟩ : ByteArray)).size ≤ 30 := by rw [ByteArray.size_append]; show _ + 1 ≤ _; omega
  have s4 : (kindB b.kind ++ (⟨#[32]⟩ : ByteArray) ++ decB b.height ++ (⟨#[32]⟩ : ByteArray) ++ decB b.view).size ≤ 51 := by rw [ByteArray.size_append]; omega
  have s5 : (kindB b.kind ++ (⟨#[32]⟩ : ByteArray) ++ decB b.height ++ (⟨#[32]⟩ : ByteArray) ++ decB b.view ++ (⟨#[32]⟩ : ByteArray)).size ≤ 52 := by rw [ByteArray.size_append]; show _ + 1 ≤ _; omega
  have k3 : (hex9B (oneB b.val)).size ≤ 2 := by
    show (hexL (oneB b.val).data.toList).toArray.size ≤ 2
    rw [List.size_toArray, hexL_len]
    exact Nat.le_refl _
  unfold blV
  unfold blC at *
  generalize kindB b.kind = kk at *
  generalize oneB b.val = xx at *
  generalize decB b.height = d1 at *
  generalize decB b.view = d2 at *
  generalize hex9B xx = d3 at *
  generalize (b.height : Int) = hh at *
  generalize (b.view : Int) = vv at *
  clear hA hz h hG
  go_enter Tryz.func79, Tryz.ntmps79
  go_wp2_with fail
  generalize w.heap.size = blk at *
  generalize w.alloc (.cells [.string kk, .int .i64 hh, .int .i64 vv, .string xx].toArray 86) = w1 at *
  have y0 := fun (d : Nat) (os : Array Obj) => cell_regrown e0 d os
  have y1 := fun (d : Nat) (os : Array Obj) => cell_regrown e1 d os
  have y2 := fun (d : Nat) (os : Array Obj) => cell_regrown e2 d os
  have y3 := fun (d : Nat) (os : Array Obj) => cell_regrown e3 d os
  clear e0 e1 e2 e3
  refine wp_region_quiet_below (by kernel_rfl) (by kernel_rfl) ?_
  repeat (go_big_quiet_step ((first | (go_at_call 123; with_reducible exact Calls.regrown_of ((H1.out _ (Glob.grown HG.out _ _)).mono fun _ _ h => ⟨h.1, h.2.below (Nat.le_refl _) (fun _ _ h => h)⟩)) | (go_at_call 123; with_reducible exact Calls.regrown_of ((H2.out _ (Glob.grown HG.out _ _)).mono fun _ _ h => ⟨h.1, h.2.below (Nat.le_refl _) (fun _ _ h => h)⟩)) | (go_at_call 124; with_reducible exact Calls.regrown_of ((H3.out _).mono fun _ _ h => ⟨h.1, h.2.below (Nat.le_refl _) (fun _ _ h => h)⟩)))))
  refine wpQuiet_nil ?_
  intro w2 hw'
  obtain ⟨pq, hw''⟩ := hw'
  have HO := Lib.hid (HA.out.trans (Only.ofBelow (below_regrown w1 pq.d pq.os) (fun _ => False)))
  rw [← hw''] at HO
  clear hw'' y0 y1 y2 y3
  go_wp2
  go_ret
  exact ⟨by rw [HC.out]; rfl, HO.out⟩
end Go.Proofs.YtldkjkjpaiajlaaGreatDoor

namespace Go.Proofs.YtldkjkjpaiajlaaGreatDoor
open Go.RowKit

theorem or32 (c : Int) (h0 : 97 ≤ c) (h1 : c ≤ 102) : bits BinOp.or IntKind.u8 c 32 = c := by
  obtain ⟨n, rfl⟩ := Int.eq_ofNat_of_zero_le (show 0 ≤ c by omega)
  have : ∀ n : Fin 103, 97 ≤ n.1 → bits BinOp.or IntKind.u8 (n.1 : Int) 32 = (n.1 : Int) := by decide +kernel
  exact this ⟨n, by omega⟩ (by show 97 ≤ n; omega)
theorem lower_hex (c : Int) (h0 : 97 ≤ c) (h1 : c ≤ 102) (w : World) : Calls Tryz.prog 196 #[.int .u8 c] w fun e w' => e = .returned (.int .u8 c) ∧ w = w' := by
  have hb := or32 c h0 h1
  go_enter Tryz.func196, Tryz.ntmps196
  go_wp2
  go_ret
  exact ⟨rfl, rfl⟩
theorem hexD_cls (n : Nat) (h : n < 16) : (n < 10 ∧ ((hexD n).toNat : Int) = 48 + n) ∨ (10 ≤ n ∧ ((hexD n).toNat : Int) = 87 + n) := by
  rw [hexD_val n h]
  split <;> omega
/-- Two digits. -/
def hex2 (a b : Nat) : ByteArray := ⟨#[hexD a, hexD b]⟩
theorem bytesW_onlyH (w : World) (e : TypeId) (s : ByteArray) : Only (fun _ => False) w (Lib.bytesWorld w e s) :=
  ⟨rfl, rfl, rfl, by rw [Lib.bytesWorld_size]; omega, fun k hk _ => Lib.bytesWorld_at_old w e s k hk⟩
set_option maxHeartbeats 4000000 in
set_option maxRecDepth 100000 in
theorem parseHex_in (a b : Nat) (ha : a < 16) (hb : b < 16) (w : World) :
    Calls Tryz.prog 170 #[.string (hex2 a b), .int .i64 16, .int .i64 8] w fun e w' => e = .returned (.tuple #[.int .u64 (16 * a + b : Nat), .nilIface]) ∧ Only (fun _ => False) w w' := by
  have ca := hexD_cls a ha
  have cb := hexD_cls b hb
  have HL := Lib.hid (fun c h0 h1 w => lower_hex c h0 h1 w)
  have hsz : (hex2 a b).size = 2 := rfl
  have hne : (hex2 a b).toList.isEmpty = false := by
    rw [Lib.toList_data]; rfl
  have hcv := Lib.run_convert_string_bytes (P := Tryz.prog) w 9 22 5 (hex2 a b) Tryz.underlying9 Tryz.underlying22 Tryz.underlying5
  have d0 : (Lib.bytesWorld w 5 (hex2 a b)).cell? ⟨w.heap.size, 0, none⟩ = some (.int .u8 (hexD a).toNat) := Lib.bytesWorld_cell w 5 (hex2 a b) 0 (by rw [hsz]; decide)
  have d1 : (Lib.bytesWorld w 5 (hex2 a b)).cell? ⟨w.heap.size, 1, none⟩ = some (.int .u8 (hexD b).toNat) := Lib.bytesWorld_cell w 5 (hex2 a b) 1 (by rw [hsz]; decide)
  have HO := Lib.hid (bytesW_onlyH w 5 (hex2 a b))
  generalize hex2 a b = s at *
  generalize Lib.bytesWorld w 5 s = w1 at *
  generalize grownCap w s.size 0 5 = c5 at *
  generalize ((hexD a).toNat : Int) = xa at *
  generalize ((hexD b).toNat : Int) = xb at *
  rw [hsz] at hcv
  go_enter Tryz.func170, Tryz.ntmps170
  go_wp2_with fail
  go_loopw [12, 13, 101] (fun vu vn vi wr => ∃ (k n : Nat), vu = .bool false ∧ vi = .int .i64 k ∧ vn = .int .u64 n ∧ wr = w1 ∧ ((k = 0 ∧ n = 0) ∨ (k = 1 ∧ n = a) ∨ (k = 2 ∧ n = 16 * a + b))) (fun _ _ vi _ => 2 - (intOf vi).toNat)
  case atStart => exact ⟨0, 0, rfl, rfl, rfl, rfl, .inl ⟨rfl, rfl⟩⟩
  case round =>
    obtain ⟨k, n, rfl, rfl, rfl, rfl, h⟩ := hrel
    rcases h with ⟨rfl, rfl⟩ | ⟨rfl, rfl⟩ | ⟨rfl, rfl⟩
    · clear cb
      rcases ca with ⟨c1, c2⟩ | ⟨c1, c2⟩
      · have HC2 := Lib.hid c2
        have g1 : (48 : Int) ≤ xa := by omega
        have g2 : xa ≤ 57 := by omega
        have g3 : xa ≠ 95 := by omega
        clear c2
        go_wp2_with fail
        case roundEnd => exact ⟨⟨1, a, by trivial, by go_num, by congr 1; have := HC2.out; omega, by trivial, .inr (.inl ⟨rfl, rfl⟩)⟩, by simp [intOf]⟩
      · have HC2 := Lib.hid c2
        have g1 : (48 : Int) ≤ xa := by omega
        have g2 : ¬ xa ≤ 57 := by omega
        have g3 : xa ≠ 95 := by omega
        have g4 : 97 ≤ xa := by omega
        have g5 : xa ≤ 102 := by omega
        have g6 : xa ≤ 122 := by omega
        clear c2
        go_wp2_with fail
        refine (HL.out xa g4 g5 _).mono ?_
        rintro e w9 ⟨rfl, rfl⟩
        go_wp2_with fail
        refine (HL.out xa g4 g5 _).mono ?_
        rintro e w9 ⟨rfl, rfl⟩
        go_wp2_with fail
        refine (HL.out xa g4 g5 _).mono ?_
        rintro e w9 ⟨rfl, rfl⟩
        go_wp2_with fail
        case roundEnd => exact ⟨⟨1, a, by trivial, by go_num, by congr 1; have := HC2.out; omega, by trivial, .inr (.inl ⟨rfl, rfl⟩)⟩, by simp [intOf]⟩
    · clear ca
      have m0 : 0 ≤ (n : Int) := by omega
      have m1 : (n : Int) ≤ 15 := by omega
      have m2 : ¬ (1152921504606846976 : Int) ≤ n := by omega
      have HN := Lib.hid (show (n : Int) = n from rfl)
      generalize hN : (n : Int) = N at *
      rcases cb with ⟨c1, c2⟩ | ⟨c1, c2⟩
      · have HC2 := Lib.hid c2
        have g1 : (48 : Int) ≤ xb := by omega
        have g2 : xb ≤ 57 := by omega
        have g3 : xb ≠ 95 := by omega
        clear c2
        go_wp2_with fail
        case roundEnd => exact ⟨⟨2, 16 * n + b, by trivial, by go_num, by congr 1; have := HC2.out; omega, by trivial, .inr (.inr ⟨rfl, rfl⟩)⟩, by simp [intOf]⟩
      · have HC2 := Lib.hid c2
        have g1 : (48 : Int) ≤ xb := by omega
        have g2 : ¬ xb ≤ 57 := by omega
        have g3 : xb ≠ 95 := by omega
        have g4 : 97 ≤ xb := by omega
        have g5 : xb ≤ 102 := by omega
        have g6 : xb ≤ 122 := by omega
        clear c2
        go_wp2_with fail
        refine (HL.out xb g4 g5 _).mono ?_
        rintro e w9 ⟨rfl, rfl⟩
        go_wp2_with fail
        refine (HL.out xb g4 g5 _).mono ?_
        rintro e w9 ⟨rfl, rfl⟩
        go_wp2_with fail
        refine (HL.out xb g4 g5 _).mono ?_
        rintro e w9 ⟨rfl, rfl⟩
        go_wp2_with fail
        case roundEnd => exact ⟨⟨2, 16 * n + b, by trivial, by go_num, by congr 1; have := HC2.out; omega, by trivial, .inr (.inr ⟨rfl, rfl⟩)⟩, by simp [intOf]⟩
    · go_wp2_with fail
      go_ret2
      exact ⟨rfl, HO.out⟩
end Go.Proofs.YtldkjkjpaiajlaaGreatDoor

namespace Go.Proofs.YtldkjkjpaiajlaaGreatDoor
open Go.RowKit

theorem parseHex_any (a b : Nat) (ha : a < 16) (hb : b < 16) (w : World) :
    Calls Tryz.prog 122 #[.string (hex2 a b), .int .i64 16, .int .i64 8] w fun e w' => e = .returned (.tuple #[.int .u64 (16 * a + b : Nat), .nilIface]) ∧ Only (fun _ => False) w w' := by
  have HI := Lib.hid (parseHex_in a b ha hb w)
  generalize hex2 a b = s at *
  generalize ((16 * a + b : Nat) : Int) = n at *
  go_enter Tryz.func122, Tryz.ntmps122
  go_wp2_with fail
  refine HI.out.mono ?_
  rintro e w1 ⟨rfl, hO⟩
  have HO := Lib.hid hO
  clear hO HI
  go_wp2_with fail
  go_ret2
  exact ⟨rfl, HO.out⟩
theorem bytesOf_odd (s : ByteArray) (h : s.size % 2 = 1) (w : World) : Calls Tryz.prog 77 #[.string s] w fun e w' => e = .returned (.tuple #[.string (⟨#[]⟩ : ByteArray), .bool false]) ∧ w = w' := by
  have h1 : (s.size : Int).tmod 2 = 1 := by
    rw [Int.tmod_eq_emod_of_nonneg (by omega)]; omega
  go_enter Tryz.func77, Tryz.ntmps77
  go_wp2_with fail
  go_ret2
  exact ⟨rfl, rfl⟩
theorem hex2_one (n : Nat) (h : n < 256) : hex9B (oneB n) = hex2 (n / 16) (n % 16) := by
  unfold hex9B hex2
  rw [show (oneB n).data.toList = [UInt8.ofNat n] from rfl, hex9_one n h]
set_option maxHeartbeats 4000000 in
set_option maxRecDepth 100000 in
theorem bytesOf_one (n : Nat) (h : n < 256) (w : World) : Calls Tryz.prog 77 #[.string (hex9B (oneB n))] w fun e w' => e = .returned (.tuple #[.string (oneB n), .bool true]) ∧ Only (fun _ => False) w w' := by
  obtain ⟨i0, hi, hz0, hz1, hz2⟩ := info_parts Tryz.infoByte
  rw [hex2_one n h]
  have HP := Lib.hid (fun w => parseHex_any (n / 16) (n % 16) (by omega) (by omega) w)
  rw [show 16 * (n / 16) + n % 16 = n by omega] at HP
  have hsz : (hex2 (n / 16) (n % 16)).size = 2 := rfl
  have hex : (hex2 (n / 16) (n % 16)).extract 0 2 = hex2 (n / 16) (n % 16) := by
    apply ByteArray.ext; simp [hex2]
  generalize hex2 (n / 16) (n % 16) = s at *
  obtain ⟨w1, hmk, hown1, hg1⟩ := run_make_own (P := Tryz.prog) w w.heap.size 22 5 i0 _ 1 Tryz.underlying22 hi hz0 hz1 .i64 .i64 1 (by rw [hz2]; decide) (by decide) (Nat.le_refl _)
  have hmk : (Instr.makeSlice 22 (.int .i64 0) (.int .i64 1)).run Tryz.prog w = .ok (.slice (some ⟨w.heap.size, 0, none⟩) 0 1) w1 := hmk
  have HO1 := Lib.hid ((Only.refl (fun _ => False) w).grown hg1 (fun k hk => by cases hk))
  have HOWN1 := Lib.hid hown1
  clear hown1 hg1
  go_enter Tryz.func77, Tryz.ntmps77
  go_wp2_with fail
  go_loopw [4, 5] (fun v vi wr => ∃ (k : Nat) (a : Option Addr) (m c : Nat), v = .slice a m c ∧ vi = .int .i64 (2 * k : Nat) ∧ m = k ∧ k ≤ 1 ∧ wr.ownsRow w.heap.size 5 1 (.slice a m c) m (if k = 0 then [] else [.int .u8 n]) ∧ Only (fun _ => False) w wr) (fun _ vi _ => 2 - (intOf vi).toNat)
  case atStart => exact ⟨0, _, 0, _, rfl, rfl, rfl, Nat.zero_le _, HOWN1.out, HO1.out⟩
  case round =>
    obtain ⟨k, a, m, c, rfl, rfl, rfl, hk, hown, hO⟩ := hrel
    rcases (by omega : m = 0 ∨ m = 1) with rfl | rfl
    · rw [if_pos rfl] at hown
      have HO := Lib.hid hO
      have hs := hO.size
      clear hO HO1 HOWN1
      go_wp2_with fail
      refine (HP.out wr).mono ?_
      rintro e w2 ⟨rfl, hO2⟩
      have hown2 := hO2.owns hown (fun g _ h => h)
      have HO2 := Lib.hid (HO.out.trans hO2)
      have hs2 := hO2.size
      have hn : (n : Int) % 256 = n := by omega
      clear hO2 hown HO HP
      go_wp2_with (at_builtin; refine wpList_append_own _ rfl _ _ 22 rfl w.heap.size 5 i0 _ 1 1 Tryz.underlying22 hi hz0 hz1 hz2 rfl (by decide) _ 0 [] rfl (hown2.alloc _) ⟨w2.heap.size, 0, none⟩ 1 1 [.int .u8 n] rfl rfl ?c1 ?c2 ?c3 ?c4 ?c5 ?_)
      case c1 => exact cell_one_new _ _ _
      case c2 => intro u hu; cases List.mem_singleton.1 hu; rfl
      case c3 => decide
      case c4 => decide
      case c5 => simp; omega
      intro v' w3 hown3 hgrow3 _
      obtain ⟨a3, c3, hv⟩ := slice_of_own hown3
      rw [hv] at hown3 ⊢
      have HO3 := Lib.hid ((HO2.out.alloc _).grow (hown2.alloc _) (Nat.le_refl _) hgrow3)
      have HOWN3 := Lib.hid hown3
      clear hgrow3 hv hown2 hown3 HO2
      go_wp2
      go_roundw
      case rel => exact ⟨1, a3, 1, c3, rfl, by go_num, rfl, Nat.le_refl _, HOWN3.out, HO3.out⟩
      case measure => simp [intOf]
    · rw [if_neg (by decide)] at hown
      have HO := Lib.hid hO
      have HOWN := Lib.hid hown
      rcases hown.2 with ⟨hv, h0⟩ | ⟨g, cap, cur, hv, hb, hg, hrest⟩
      · cases h0
      · cases hv
        have hc0 : wr.cell? ⟨g, 0 + 0, none⟩ = some (.int .u8 n) := HOWN.out.cells (g := g) rfl 0 _ rfl
        have hcv := run_convert_bytes_arg (P := Tryz.prog) wr 22 5 Tryz.underlying22 Tryz.underlying5 g 0 1 c [(n : Int)] rfl (fun i hi => by
          have e : i = 0 := by omega
          subst e
          exact hc0) 9 Tryz.underlying9
        have HS := Lib.hid (show strOfNums [(n : Int)] = oneB n from rfl)
        generalize strOfNums [(n : Int)] = so at *
        clear HOWN hown hrest hc0 hb hg HO1 HOWN1 HP hO
        go_wp2_with fail
        go_ret2
        exact ⟨by rw [HS.out]; rfl, HO.out⟩
end Go.Proofs.YtldkjkjpaiajlaaGreatDoor

namespace Go.Proofs.YtldkjkjpaiajlaaGreatDoor
open Go.RowKit

/-- The listed variables, the library's splitter's too. -/
structure GlobA (w : World) : Prop where
  glob : Glob w
  len : ∃ m, w.cell? ⟨2, 0, none⟩ = some (.int .i64 m)
theorem GlobA.only {a b : World} (h : GlobA a) (hO : Only (fun _ => False) a b) : GlobA b := by
  obtain ⟨h1, ⟨m, h4⟩⟩ := h
  exact ⟨h1.only hO, ⟨m, hO.cell h4 id⟩⟩
def blZero : Value := .agg #[.string (⟨#[]⟩ : ByteArray), .int .i64 0, .int .i64 0, .string (⟨#[]⟩ : ByteArray)]
theorem atoi_okA (s : ByteArray) (v : Int) (w : World) (hs : s.size ≤ 1000) (h : Lib.atoiAll s.data.toList = .ok v) : Calls Tryz.prog 76 #[.string s] w fun e w' => e = .returned (.tuple #[.int .i64 v, .nilIface]) ∧ Only (fun _ => False) w w' :=
  (Tryz.strconv_Atoi_ok s (by omega) v h w).mono fun e w' hw => ⟨hw.1, by
    rcases hw.2 with hw | ⟨t, hw⟩
    · rw [hw]; exact Only.refl _ _
    · rw [hw]; exact bytesW_onlyH _ _ _⟩
theorem split_sp (s : ByteArray) (w : World) (hs : s.size ≤ 1000000) (hG : GlobA w) :
    Calls Tryz.prog 75 #[.string s, .string ⟨#[32]⟩] w fun e w' => e = .returned (.slice (some ⟨w.heap.size, 0, none⟩) (wordsB s).length (wordsB s).length) ∧ w' = w.alloc (.cells ((wordsB s).map Value.string).toArray 9) := by
  obtain ⟨m, hm⟩ := hG.len
  refine (Tryz.strings_Split s ⟨#[32]⟩ m w (by omega) hm (by decide)).mono fun e w' h => ?_
  rw [← wordsB_len s] at h
  exact h
section
variable {P : Program}
/-- A struct and one slot come back. -/
theorem results_cell_tmpA {fn : Func} {p q : Go.Tmp} {ty : TypeId} (h : fn.results = #[.cell p ty, .tmp q]) (tmps : Array Value) (w : World) (g : Nat) (t : TypeId) (cs : Array Value) (fr : Nat × Nat) (d : TypeDesc)
    (hp : tmps.getD p undef = .pointer (some ⟨g, 0, none⟩)) (hg : w.heap[g]? = some (.cells cs t fr))
    (hu : P.underlying ty = some d) (hd : (match d with | .struct _ | .array _ _ => true | _ => false) = true) (hi : (P.info? ty).map (·.size) = some cs.size) (v : Value) (hv : tmps.getD q undef = v) :
    (results fn tmps).run P w = .ok (.tuple #[.agg cs, v]) w := by
  subst hv
  have hp' : tmps[p]?.getD undef = .pointer (some ⟨g, 0, none⟩) := by simpa using hp
  simp [results, h, hp', asAddr, run_loadVar_row w g t ty cs fr d hg hu hd hi]
end
theorem Tryz.infoBl : (Tryz.prog.info? 86).map (·.size) = some 4 := by kernel_rfl
theorem bl_one4 (a d : ByteArray) (b c : Int) : (#[Value.string a, .int .i64 b, .int .i64 c, .string d] : Array Value).all (·.oneCell') = true := by simp [Value.oneCell']
theorem toList_ne_of {a b : ByteArray} (h : a ≠ b) : (a.toList != b.toList) = true := by
  rw [bne_iff_ne, Lib.toList_data, Lib.toList_data]
  exact fun e => h (ByteArray.ext (Array.toList_inj.1 e))
set_option maxHeartbeats 4000000 in
set_option maxRecDepth 100000 in
/-- readBallot, of four words with two numbers. -/
theorem readb_gen (s p0 p1 p2 p3 X T : ByteArray) (h v : Int) (ok r : Bool) (w : World) (hs : s.size ≤ 1000) (hw : wordsB s = [p0, p1, p2, p3]) (h1 : Lib.atoiAll p1.data.toList = .ok h) (h2 : Lib.atoiAll p2.data.toList = .ok v) (hl : p1.size ≤ 1000 ∧ p2.size ≤ 1000)
    (h3 : ∀ w, Calls Tryz.prog 77 #[.string p3] w fun e w' => e = .returned (.tuple #[.string X, .bool ok]) ∧ Only (fun _ => False) w w')
    (h4 : ok = true → ∀ w, Calls Tryz.prog 78 #[.agg #[.string p0, .int .i64 h, .int .i64 v, .string X]] w fun e w' => e = .returned (.bool true) ∧ Only (fun _ => False) w w')
    (h5 : ok = true → ∀ w, Glob w → Calls Tryz.prog 79 #[.agg #[.string p0, .int .i64 h, .int .i64 v, .string X]] w fun e w' => e = .returned (.string T) ∧ Only (fun _ => False) w w')
    (hr : r = (ok && decide (T = s))) (hG : GlobA w) :
    Calls Tryz.prog 33 #[.string s] w fun e w' => e = .returned (.tuple #[if r then .agg #[.string p0, .int .i64 h, .int .i64 v, .string X] else blZero, .bool r]) ∧ Only (fun _ => False) w w' := by
  have hA := (Only.refl (fun _ => False) w).alloc (.cells #[.string (⟨#[]⟩ : ByteArray), .int .i64 0, .int .i64 0, .string (⟨#[]⟩ : ByteArray)] 86)
  have HA := Lib.hid hA
  have HSP := Lib.hid (split_sp s _ (by omega) (hG.only hA))
  rw [hw] at HSP
  have H1 := Lib.hid (fun w => atoi_okA p1 h w hl.1 h1)
  have H2 := Lib.hid (fun w => atoi_okA p2 v w hl.2 h2)
  have H3 := Lib.hid h3
  have HG := Lib.hid hG
  clear hA hw h1 h2 h3 hl hs hG
  go_enter Tryz.func33, Tryz.ntmps33
  go_wp2_with fail
  refine HSP.out.mono ?_
  rintro e w1 ⟨rfl, hw1⟩
  have hz := heap_alloc_last (w.alloc (.cells #[.string (⟨#[]⟩ : ByteArray), .int .i64 0, .int .i64 0, .string (⟨#[]⟩ : ByteArray)] 86)) (.cells ([p0, p1, p2, p3].map Value.string).toArray 9)
  rw [← hw1] at hz
  have HO1 := Lib.hid (show Only (fun _ => False) w w1 by rw [hw1]; exact HA.out.alloc _)
  have HR0 := Lib.hid (show w1.heap[w.heap.size]? = some (.cells #[.string (⟨#[]⟩ : ByteArray), .int .i64 0, .int .i64 0, .string (⟨#[]⟩ : ByteArray)] 86 (0, 0)) by
    rw [hw1]
    exact row_still ((Only.refl (fun _ => False) _).alloc _) (heap_alloc_last w _))
  have hb : (w.alloc (.cells #[.string (⟨#[]⟩ : ByteArray), .int .i64 0, .int .i64 0, .string (⟨#[]⟩ : ByteArray)] 86)).heap.size = w.heap.size + 1 := by simp
  rw [hb] at hz ⊢
  have HZ := Lib.hid hz
  clear hw1 hz hb HSP HA
  have x1 := cell_of_row _ _ 1 _ _ _ HZ.out
  go_wp2_with fail
  refine (H1.out w1).mono ?_
  rintro e w2 ⟨rfl, hO⟩
  have HO2 := Lib.hid (HO1.out.trans hO)
  have HZ2 := Lib.hid (row_still hO HZ.out)
  have HR2 := Lib.hid (row_still hO HR0.out)
  clear x1 hO HO1 HZ HR0 H1
  have x2 := cell_of_row _ _ 2 _ _ _ HZ2.out
  go_wp2_with fail
  refine (H2.out w2).mono ?_
  rintro e w3 ⟨rfl, hO⟩
  have HO3 := Lib.hid (HO2.out.trans hO)
  have HZ3 := Lib.hid (row_still hO HZ2.out)
  have HR3 := Lib.hid (row_still hO HR2.out)
  clear x2 hO HO2 HZ2 HR2 H2
  have x3 := cell_of_row _ _ 3 _ _ _ HZ3.out
  go_wp2_with fail
  refine (H3.out w3).mono ?_
  rintro e w4 ⟨rfl, hO⟩
  have HO4 := Lib.hid (HO3.out.trans hO)
  have x0 := cell_of_row _ _ 0 _ _ _ (row_still hO HZ3.out)
  have hR4 := row_still hO HR3.out
  have HG4 := Lib.hid (HG.out.only HO4.out)
  clear x3 hO HO3 HZ3 HR3 H3 HG
  have HA4 := Lib.hid ((Only.refl (fun _ => False) w4).alloc (.cells #[.string p0, .int .i64 h, .int .i64 v, .string X] 86))
  have HZ4 := Lib.hid (row_still HA4.out hR4)
  have HP4 := Lib.hid (heap_alloc_last w4 (.cells #[.string p0, .int .i64 h, .int .i64 v, .string X] 86))
  have HW4 := Lib.hid (HO4.out.trans HA4.out)
  have HG5 := Lib.hid (HG4.out.only HA4.out)
  clear hR4 HG4 HO4
  cases ok
  · subst hr
    clear h4 h5
    go_wp2_with (first | (refine wpList_store_row rfl 86 _ _ rfl w.heap.size #[.string (⟨#[]⟩ : ByteArray), .int .i64 0, .int .i64 0, .string (⟨#[]⟩ : ByteArray)] rfl rfl 86 _ HZ4.out Tryz.infoBl rfl (bl_one4 _ _ _ _) ?_))
    all_goals (exact bodyPost_ret (v := .tuple #[.agg #[.string (⟨#[]⟩ : ByteArray), .int .i64 0, .int .i64 0, .string (⟨#[]⟩ : ByteArray)], .bool false]) (results_cell_tmpA (p := 2) (q := 3) rfl _ _ w.heap.size 86 #[.string (⟨#[]⟩ : ByteArray), .int .i64 0, .int .i64 0, .string (⟨#[]⟩ : ByteArray)] (0, 0) _ rfl (setRow_heap _ _ _ _ _ _ HZ4.out) Tryz.underlying86 rfl Tryz.infoBl _ rfl) rfl ⟨rfl, HW4.out.setRow (Nat.le_refl _) _⟩)
  · have H4 := Lib.hid (h4 rfl)
    have H5 := Lib.hid (h5 rfl)
    clear h4 h5
    rw [Bool.true_and] at hr
    by_cases hts : T = s
    · rw [decide_eq_true hts] at hr
      subst hr hts
      have q1 : (T.toList != T.toList) = false := by simp
      go_wp2_with (first | (refine wpList_load_row rfl 86 _ rfl w4.heap.size rfl 86 #[.string p0, .int .i64 h, .int .i64 v, .string X] (0, 0) _ HP4.out Tryz.underlying86 rfl Tryz.infoBl ?_))
      refine (H4.out _).mono ?_
      rintro e w5 ⟨rfl, hO5⟩
      have HZ5 := Lib.hid (row_still hO5 HZ4.out)
      have HP5 := Lib.hid (row_still hO5 HP4.out)
      have HW5 := Lib.hid (HW4.out.trans hO5)
      have HG6 := Lib.hid (HG5.out.only hO5)
      clear hO5 HG5 HW4 HP4 HZ4
      have y0 := cell_of_row _ _ 0 _ _ _ HP5.out
      have y1 := cell_of_row _ _ 1 _ _ _ HP5.out
      have y2 := cell_of_row _ _ 2 _ _ _ HP5.out
      have y3 := cell_of_row _ _ 3 _ _ _ HP5.out
      go_wp2_with fail
      refine (H5.out _ HG6.out.glob).mono ?_
      rintro e w6 ⟨rfl, hO6⟩
      have HZ6 := Lib.hid (row_still hO6 HZ5.out)
      have HP6 := Lib.hid (row_still hO6 HP5.out)
      have HW6 := Lib.hid (HW5.out.trans hO6)
      clear hO6 HG6 HW5 HP5 HZ5 y0 y1 y2 y3
      go_wp2_with (first | (refine wpList_load_row rfl 86 _ rfl w4.heap.size rfl 86 #[.string p0, .int .i64 h, .int .i64 v, .string X] (0, 0) _ HP6.out Tryz.underlying86 rfl Tryz.infoBl ?_) | (refine wpList_store_row rfl 86 _ _ rfl w.heap.size #[.string p0, .int .i64 h, .int .i64 v, .string X] rfl rfl 86 _ HZ6.out Tryz.infoBl rfl (bl_one4 _ _ _ _) ?_))
      all_goals (exact bodyPost_ret (v := .tuple #[.agg #[.string p0, .int .i64 h, .int .i64 v, .string X], .bool true]) (results_cell_tmpA (p := 2) (q := 3) rfl _ _ w.heap.size 86 #[.string p0, .int .i64 h, .int .i64 v, .string X] (0, 0) _ rfl (setRow_heap _ _ _ _ _ _ HZ6.out) Tryz.underlying86 rfl Tryz.infoBl _ rfl) rfl ⟨rfl, HW6.out.setRow (Nat.le_refl _) _⟩)
    · rw [decide_eq_false hts] at hr
      subst hr
      have q1 := toList_ne_of hts
      have q2 : (T.toList == s.toList) = false := by
        rw [Bool.eq_false_iff]
        exact fun e => by rw [bne, e] at q1; cases q1
      have q3 : ¬ T.toList = s.toList := fun e => by rw [e] at q1; simp at q1
      go_wp2_with (first | (refine wpList_load_row rfl 86 _ rfl w4.heap.size rfl 86 #[.string p0, .int .i64 h, .int .i64 v, .string X] (0, 0) _ HP4.out Tryz.underlying86 rfl Tryz.infoBl ?_))
      refine (H4.out _).mono ?_
      rintro e w5 ⟨rfl, hO5⟩
      have HZ5 := Lib.hid (row_still hO5 HZ4.out)
      have HP5 := Lib.hid (row_still hO5 HP4.out)
      have HW5 := Lib.hid (HW4.out.trans hO5)
      have HG6 := Lib.hid (HG5.out.only hO5)
      clear hO5 HG5 HW4 HP4 HZ4
      have y0 := cell_of_row _ _ 0 _ _ _ HP5.out
      have y1 := cell_of_row _ _ 1 _ _ _ HP5.out
      have y2 := cell_of_row _ _ 2 _ _ _ HP5.out
      have y3 := cell_of_row _ _ 3 _ _ _ HP5.out
      go_wp2_with fail
      refine (H5.out _ HG6.out.glob).mono ?_
      rintro e w6 ⟨rfl, hO6⟩
      have HZ6 := Lib.hid (row_still hO6 HZ5.out)
      have HW6 := Lib.hid (HW5.out.trans hO6)
      clear hO6 HG6 HW5 HP5 HZ5 y0 y1 y2 y3
      go_wp2_with (first | (refine wpList_store_row rfl 86 _ _ rfl w.heap.size #[.string (⟨#[]⟩ : ByteArray), .int .i64 0, .int .i64 0, .string (⟨#[]⟩ : ByteArray)] rfl rfl 86 _ HZ6.out Tryz.infoBl rfl (bl_one4 _ _ _ _) ?_))
      all_goals (exact bodyPost_ret (v := .tuple #[.agg #[.string (⟨#[]⟩ : ByteArray), .int .i64 0, .int .i64 0, .string (⟨#[]⟩ : ByteArray)], .bool false]) (results_cell_tmpA (p := 2) (q := 3) rfl _ _ w.heap.size 86 #[.string (⟨#[]⟩ : ByteArray), .int .i64 0, .int .i64 0, .string (⟨#[]⟩ : ByteArray)] (0, 0) _ rfl (setRow_heap _ _ _ _ _ _ HZ6.out) Tryz.underlying86 rfl Tryz.infoBl _ rfl) rfl ⟨rfl, HW6.out.setRow (Nat.le_refl _) _⟩)
end Go.Proofs.YtldkjkjpaiajlaaGreatDoor

namespace Go.Proofs.YtldkjkjpaiajlaaGreatDoor
open Go.RowKit

theorem bytesList_inj {l m : List ByteArray} (h : l.map (·.data.toList) = m.map (·.data.toList)) : l = m := by
  induction l generalizing m with
  | nil => cases m with
    | nil => rfl
    | cons _ _ => cases h
  | cons a l ih => cases m with
    | nil => cases h
    | cons b m =>
      simp only [List.map_cons, List.cons.injEq] at h
      rw [ih h.2, ByteArray.ext (Array.toList_inj.1 h.1)]
theorem bl_words4 {b : Bl} (h : BlOk b) : wordsB (blB b) = [kindB b.kind, decB b.height, decB b.view, hex9B (oneB b.val)] := bytesList_inj (bl_words h.kind)
theorem atoi_dec (n : Nat) (h : n ≤ 1000000000) : Lib.atoiAll (decB n).data.toList = .ok n := by
  have := atoi_itoa (v := (n : Int)) ⟨by omega, by omega⟩
  rw [Lib.itoa_nonneg] at this
  exact this
theorem readb_bl (b : Bl) (h : BlOk b) (w : World) (hG : GlobA w) : Calls Tryz.prog 33 #[.string (blB b)] w fun e w' => e = .returned (.tuple #[blV b, .bool true]) ∧ Only (fun _ => False) w w' := by
  have h1 := blv_len h
  have h2 := decB_size (n := b.height) (by have := h.height; omega)
  have h3 := decB_size (n := b.view) (by have := h.view; omega)
  exact readb_gen (blB b) _ _ _ _ (oneB b.val) (blB b) b.height b.view true true w (by omega) (bl_words4 h) (atoi_dec _ h.height) (atoi_dec _ h.view) ⟨by omega, by omega⟩ (fun w => bytesOf_one b.val h.val w) (fun _ w => bright_any b h w) (fun _ w hG => btext_any b h w hG) (by simp) hG
theorem noSp_dec {ws : List (List UInt8)} (h : (ws.all fun l => l.all (· != 32)) = true) : ∀ l ∈ ws, noSp l := fun l hl b hb e => by
  have := List.all_eq_true.1 (List.all_eq_true.1 h l hl) b hb
  rw [e] at this
  cases this
/-- A text with a blank, with an odd number of digits: "commit 2 1 7". -/
def oddB : ByteArray := ⟨#[99, 111, 109, 109, 105, 116, 32, 50, 32, 49, 32, 55]⟩
/-- "commit 02 1 78". -/
def longB : ByteArray := ⟨#[99, 111, 109, 109, 105, 116, 32, 48, 50, 32, 49, 32, 55, 56]⟩
theorem readb_oddB (w : World) (hG : GlobA w) : Calls Tryz.prog 33 #[.string oddB] w fun e w' => e = .returned (.tuple #[blZero, .bool false]) ∧ Only (fun _ => False) w w' :=
  readb_gen oddB (kindB 2) ⟨#[50]⟩ ⟨#[49]⟩ ⟨#[55]⟩ ⟨#[]⟩ ⟨#[]⟩ 2 1 false false w (by decide) (bytesList_inj (words_of oddB (kindB 2).data.toList [[50], [49], [55]] (noSp_dec (by decide)) (by decide))) (by decide +kernel) (by decide +kernel) ⟨by decide, by decide⟩ (fun w => (bytesOf_odd ⟨#[55]⟩ rfl w).mono fun _ _ h => ⟨h.1, h.2 ▸ Only.refl _ _⟩) (fun h => by cases h) (fun h => by cases h) (by decide) hG
def bl2 : Bl := ⟨2, 2, 1, 120⟩
theorem bl2_ok : BlOk bl2 := ⟨by decide, by decide, by decide, by decide⟩
theorem longB_ne : blB bl2 ≠ longB := fun h => by
  have := congrArg ByteArray.size h
  revert this
  decide +kernel
theorem readb_longB (w : World) (hG : GlobA w) : Calls Tryz.prog 33 #[.string longB] w fun e w' => e = .returned (.tuple #[blZero, .bool false]) ∧ Only (fun _ => False) w w' :=
  readb_gen longB (kindB 2) ⟨#[48, 50]⟩ ⟨#[49]⟩ (hex9B (oneB 120)) (oneB 120) (blB bl2) 2 1 true false w (by decide) (bytesList_inj (words_of longB (kindB 2).data.toList [[48, 50], [49], [55, 56]] (noSp_dec (by decide)) (by decide))) (by decide +kernel) (by decide +kernel) ⟨by decide, by decide⟩ (fun w => bytesOf_one 120 (by decide) w) (fun _ w => bright_any bl2 bl2_ok w) (fun _ w hG => btext_any bl2 bl2_ok w hG) (by rw [decide_eq_false longB_ne]; rfl) hG
end Go.Proofs.YtldkjkjpaiajlaaGreatDoor
