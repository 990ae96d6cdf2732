/-
  The program's reader of dealings: bytes.
  The program's reader of dealings: deal.Read.
  The law DealKeeps: what a dealing's numbers are; rows that are stored into (plain).
  The walk of the law DealKeeps.
-/
import Derived.Test.YtkpfachmakfncaaGreatDoorPk23
import Derived.Test.YtkpfachmakfncaaGreatDoorPk25
import Derived.Test.YtkpfachmakfncaaGreatDoorPk17
import Derived.IntWalk
import Derived.Test.YtkpfachmakfncaaGreatDoorPk20
import Derived.Test.YtkpfachmakfncaaGreatDoorPk18
import Derived.Test.YtkpfachmakfncaaGreatDoorPk19
namespace Go.Proofs.YtkpfachmakfncaaGreatDoor
open Go.RowKit

theorem byteZ_bdP (b : ByteArray) (j : Nat) : 0 ≤ byteZ b j ∧ byteZ b j ≤ 255 := by
  obtain ⟨n, hn, e⟩ := byteZ_nat b j
  rw [e]
  omega
theorem hex_index (y : Int) (h0 : 0 ≤ y) (h1 : y ≤ 255) : Lib.indexByte hexS.data.toList y.toNat.toUInt8 = hexV y := by
  obtain ⟨n, rfl⟩ := Int.eq_ofNat_of_zero_le h0
  have : ∀ n : Fin 256, Lib.indexByte hexS.data.toList (n.1 : Int).toNat.toUInt8 = hexV (n.1 : Int) := by decide +kernel
  exact this ⟨n, by omega⟩
/-- The bytes behind k digits. -/
def hxAt (vs : List Nat) (m : Nat) : Nat := if 2 * m + 1 < vs.length then 16 * vs.getD (2 * m) 0 + vs.getD (2 * m + 1) 0 else vs.getD (2 * m) 0
theorem getD_lt {vs : List Nat} (hv : ∀ v ∈ vs, v < 16) (k : Nat) : vs.getD k 0 < 16 := by
  rw [List.getD_eq_getElem?_getD]
  cases h : vs[k]? with
  | none => decide
  | some x => exact hv x (List.mem_of_getElem? h)
theorem getD_app_lt {vs : List Nat} {v k : Nat} (h : k < vs.length) : (vs ++ [v]).getD k 0 = vs.getD k 0 := by
  rw [List.getD_eq_getElem?_getD, List.getD_eq_getElem?_getD, List.getElem?_append_left h]
theorem getD_app_eq (vs : List Nat) (v : Nat) : (vs ++ [v]).getD vs.length 0 = v := by
  rw [List.getD_eq_getElem?_getD, List.getElem?_append_right (Nat.le_refl _), Nat.sub_self]
  rfl
theorem getD_ge {vs : List Nat} {k : Nat} (h : vs.length ≤ k) : vs.getD k 0 = 0 := by
  rw [List.getD_eq_getElem?_getD, List.getElem?_eq_none h]
  rfl
theorem hxAt_put {vs : List Nat} {v : Nat} (m : Nat) : hxAt (vs ++ [v]) m = if m = vs.length / 2 then hxAt vs m * 16 + v else hxAt vs m := by
  unfold hxAt
  rw [List.length_append, List.length_singleton]
  by_cases he : m = vs.length / 2
  · rw [if_pos he]
    rcases Nat.mod_two_eq_zero_or_one vs.length with h | h
    · have e : 2 * m = vs.length := by omega
      rw [if_neg (by omega), if_neg (by omega), e, getD_app_eq, getD_ge (Nat.le_refl _)]
      omega
    · have e : 2 * m + 1 = vs.length := by omega
      rw [if_pos (by omega), if_neg (by omega), e, getD_app_eq, getD_app_lt (by omega)]
      omega
  · rw [if_neg he]
    by_cases h2 : 2 * m + 1 < vs.length
    · rw [if_pos (by omega), if_pos h2, getD_app_lt (by omega), getD_app_lt h2]
    · rw [if_neg (by omega), if_neg h2, getD_ge (vs := vs) (by omega), getD_ge (by rw [List.length_append, List.length_singleton]; omega)]
theorem hxAt_small {vs : List Nat} (hv : ∀ v ∈ vs, v < 16) : hxAt vs (vs.length / 2) < 16 := by
  unfold hxAt
  rw [if_neg (by omega)]
  exact getD_lt hv _
theorem hxAt_byte {vs : List Nat} (hv : ∀ v ∈ vs, v < 16) (m : Nat) : hxAt vs m < 256 := by
  have := getD_lt hv (2 * m)
  have := getD_lt hv (2 * m + 1)
  unfold hxAt
  split <;> omega
/-- The answer of bytes(). -/
def DByR (P : ByteArray) (w w' : World) (e : Ending) : Prop :=
  ∃ (y : ByteArray) (ok : Bool), e = .returned (.tuple #[.string y, .bool ok]) ∧ (ok = true → P.data.toList = hexB y) ∧ (ok = false → ∀ z, P.data.toList ≠ hexB z) ∧ y.size ≤ P.size ∧ Only (fun _ => False) w w'
def DgL (P : ByteArray) (vs : List Nat) : Prop := (∀ v ∈ vs, v < 16) ∧ P.data.toList.take vs.length = vs.map hexDig ∧ vs.length ≤ P.size
theorem DgL.add {P : ByteArray} {vs : List Nat} (h : DgL P vs) (hl : vs.length < P.size) {n : Nat} (hn : n < 16) (e : byteZ P vs.length = ((hexDig n).toNat : Int)) : DgL P (vs ++ [n]) := by
  refine ⟨fun v hv => ?_, ?_, by rw [List.length_append, List.length_singleton]; omega⟩
  · rcases List.mem_append.1 hv with hv | hv
    · exact h.1 v hv
    · rw [List.mem_singleton.1 hv]; exact hn
  · rw [List.length_append, List.length_singleton, take_byte hl e, h.2.1, List.map_append]
    rfl
theorem dg_no {P : ByteArray} {k : Nat} (hk : k < P.size) (h : hexV (byteZ P k) < 0) : ∀ z, P.data.toList ≠ hexB z := by
  intro z e
  have hl : P.data.toList.length = P.size := Array.length_toList
  obtain ⟨n, hn, e1⟩ := hexB_digs z _ _ (List.getElem_mem (show k < (hexB z).length by rw [← e, hl]; exact hk))
  obtain ⟨b, _, e2, e3⟩ := byte_of hk
  rw [e, List.getElem?_eq_getElem (show k < (hexB z).length by rw [← e, hl]; exact hk)] at e2
  injection e2 with e2
  have e4 : b = hexDig n := e2.symm.trans e1
  rw [e3, e4, hexV_dig hn] at h
  omega
theorem dg_odd {P : ByteArray} (h : P.size % 2 = 1) : ∀ z, P.data.toList ≠ hexB z := by
  intro z e
  have hl : P.data.toList.length = P.size := Array.length_toList
  rw [e, hexB_len] at hl
  omega
theorem dg_even {P : ByteArray} {vs : List Nat} (h : DgL P vs) (he : P.size % 2 = 0) (hl : vs.length = P.size) : P.data.toList = hexB (unhex vs) := by
  rw [hexB_unhex h.1 (by omega), ← h.2.1, List.take_of_length_le (by rw [hl]; exact Nat.le_of_eq Array.length_toList)]
theorem unhexL_hx {vs : List Nat} : unhexL vs = (List.range (vs.length / 2)).map (fun m => ((hxAt vs m : Nat) : Int)) := by
  unfold unhexL
  apply List.map_congr_left
  intro m hm
  rw [List.mem_range] at hm
  unfold hxAt
  rw [if_pos (by omega)]
theorem unhexL_getD {vs : List Nat} {m : Nat} (hm : m < vs.length / 2) : (unhexL vs).getD m 0 = ((hxAt vs m : Nat) : Int) := by
  rw [unhexL_hx, List.getD_eq_getElem?_getD, List.getElem?_map, List.getElem?_range hm]
  rfl
theorem shl4or {x v : Nat} (hx : x < 16) (hv : v < 16) : bits BinOp.or IntKind.u8 (((x * 16 : Nat) : Int)) (v : Int) = ((x * 16 + v : Nat) : Int) := by
  have : ∀ x v : Fin 16, bits BinOp.or IntKind.u8 (((x.1 * 16 : Nat) : Int)) (v.1 : Int) = ((x.1 * 16 + v.1 : Nat) : Int) := by decide +kernel
  exact this ⟨x, hx⟩ ⟨v, hv⟩
structure DbAt (w wr : World) (B n : Nat) (vs : List Nat) : Prop where
  row : wr.rowIs B 5 n (fun j => .int .u8 (hxAt vs j : Nat))
  lo : w.heap.size ≤ B
  only : Only (fun _ => False) w wr
theorem DbAt.put {w wr : World} {B n v : Nat} {vs : List Nat} (h : DbAt w wr B n vs) : DbAt w (wr.setCell ⟨B, vs.length / 2, none⟩ (.int .u8 ((hxAt vs (vs.length / 2) * 16 + v : Nat) : Int))) B n (vs ++ [v]) := by
  refine ⟨(h.row.set (vs.length / 2) _).congr (fun j _ => ?_), h.lo, h.only.setCell (.inr h.lo) _⟩
  rw [hxAt_put]
  by_cases e : j = vs.length / 2
  · rw [if_pos e, if_pos e, e]
  · rw [if_neg e, if_neg e]
set_option maxHeartbeats 2000000 in
set_option maxRecDepth 100000 in
theorem dbytes_any (P : ByteArray) (w : World) (hP : P.size ≤ 100000000000) :
    Calls Tryz.prog 29 #[.string P] w fun e w' => DByR P w w' e := by
  obtain ⟨j0, hj0, hy0, hy1, hy2⟩ := info_parts Tryz.infoByte
  obtain ⟨n, hn⟩ : ∃ n, n = P.size / 2 := ⟨_, rfl⟩
  have hmk := run_make_row (P := Tryz.prog) 33 5 j0 _ Tryz.underlying33 hj0 hy0 hy1 rfl .i64 .i64 n (by rw [hy2]; omega) (by omega) w
  have hb := World.rowIs_made w (.int .u8 0) n 5
  have HB0 := Lib.hid (show DbAt w (w.alloc (.cells (madeCells #[.int .u8 0] n) 5)) w.heap.size n [] from ⟨hb.congr (fun j _ => by simp [hxAt]), Nat.le_refl _, (Only.refl _ w).alloc _⟩)
  have e2 : (P.size : Int) / 2 = (n : Int) := by omega
  have HN := Lib.hid hn
  have hnb : 2 * n ≤ P.size := by omega
  clear hb hn
  go_enter Tryz.func29, Tryz.ntmps29
  go_wp2_with fail
  clear hmk
  generalize World.alloc w _ = w1 at *
  have HI := Lib.hid (show ∀ (y : Int) (h0 : 0 ≤ y) (h1 : y ≤ 255) (W : World), Calls Tryz.prog 54 #[.string ⟨#[48, 49, 50, 51, 52, 53, 54, 55, 56, 57, 97, 98, 99, 100, 101, 102]⟩, .int .u8 y] W fun e w' => e = .returned (.int .i64 (hexV y)) ∧ w' = W from fun y h0 h1 W => by
    have h := Tryz.strings_IndexByte hexS y W
    rw [hex_index y h0 h1] at h
    exact h)
  go_loopw [14] (fun iv wr => ∃ (vs : List Nat) (k : Nat), vs.length = k ∧ iv = .int .i64 k ∧ k ≤ 2 * n ∧ DgL P vs ∧ DbAt w wr w.heap.size n vs) (fun iv _ => 2 * n - (intOf iv).toNat)
  case atStart => exact ⟨[], 0, rfl, rfl, Nat.zero_le _, ⟨fun _ hv => (by cases hv), rfl, Nat.zero_le _⟩, HB0.out⟩
  case round =>
    clear HB0
    obtain ⟨vs, k, hk, rfl, hkn, hg, hb⟩ := hrel
    have HK := Lib.hid hk
    have HG := Lib.hid hg
    have HB := Lib.hid hb
    have hwB : w.heap.size < wr.heap.size := hb.row.lt
    by_cases hlt : k < 2 * n
    · have j0 : (k : Int) < 2 * n := by omega
      have j1 : 0 ≤ (k : Int) := by omega
      have j2 : (k : Int) < P.size := by omega
      have b0 := byteZ_eq P k (by omega)
      obtain ⟨r0, r1⟩ := byteZ_bdP P k
      have HIX := Lib.hid (HI.out (byteZ P k) r0 r1)
      obtain ⟨y, hy⟩ : ∃ y, byteZ P k = y := ⟨_, rfl⟩
      have HY := Lib.hid hy
      rw [hy] at b0 HIX r0 r1
      by_cases hv : hexV y < 0
      · have HN := Lib.hid (dg_no (P := P) (k := k) (by omega) (by rw [hy]; exact hv))
        generalize hexV y = x at *
        clear hg hb hy
        go_wp2_with fail
        refine (HIX.out _).mono ?_
        rintro e w' ⟨rfl, rfl⟩
        go_wp2
        go_ret2
        exact ⟨⟨#[]⟩, false, rfl, fun e => (by cases e), fun _ => HN.out, Nat.zero_le _, HB.out.only⟩
      · obtain ⟨v, hv16, ev, ev2⟩ := hexV_yes (c := y) (by omega)
        have HIX := Lib.hid HIX.out
        rw [ev] at HIX
        have hx := hxAt_small HG.out.1
        have hcell := hb.row.cell (i := k / 2) (by omega)
        have hfz := hb.row.frozen (k / 2)
        have HS := Lib.hid (shl4or hx hv16)
        have HP := Lib.hid (HB.out.put (v := v))
        have HGN := Lib.hid (HG.out.add (by omega) hv16 (by rw [hk, hy]; exact ev2))
        rw [hk] at hx HS HP
        rw [← HS.out] at HP
        generalize hxAt vs (k / 2) = x at *
        have k1 : (k : Int).tdiv 2 = ((k / 2 : Nat) : Int) := by rw [Int.tdiv_eq_ediv_of_nonneg (by omega)]; omega
        have k2 : (k : Int) / 2 = ((k / 2 : Nat) : Int) := by omega
        have j3 : ((k / 2 : Nat) : Int) < n := by omega
        have j4 : 0 ≤ ((k / 2 : Nat) : Int) := by omega
        clear hg hb hy hv ev ev2
        generalize k / 2 = q at *
        go_wp2_with fail
        refine (HIX.out _).mono ?_
        rintro e w' ⟨rfl, rfl⟩
        go_wp2
        go_roundw
        case rel => exact ⟨vs ++ [v], k + 1, by rw [List.length_append, HK.out]; rfl, by go_num, by omega, HGN.out, HP.out⟩
        case measure => simp [intOf]; omega
    · obtain rfl : k = 2 * n := by omega
      have j0 : decide (((2 * n : Nat) : Int) < 2 * n) = false := decide_eq_false (by omega)
      have hcv := run_convert_bytes_arg (P := Tryz.prog) wr 33 5 Tryz.underlying33 Tryz.underlying5 w.heap.size 0 n n (unhexL vs) (by rw [unhexL_len, hk]; omega) (fun j hj => by
        rw [unhexL_getD (by omega), Nat.zero_add]
        exact hb.row.cell hj) 9 Tryz.underlying9
      rw [unhex_str] at hcv
      have HSZ := Lib.hid (show (unhex vs).size ≤ P.size by rw [unhex_size]; omega)
      have HO := Lib.hid hb.only
      clear hg hb hlt
      rcases Nat.mod_two_eq_zero_or_one P.size with hm | hm
      · have hl : vs.length = P.size := by rw [hk]; have := HN.out; omega
        have HE := Lib.hid (dg_even HG.out hm hl)
        have k1 : (P.size : Int).tmod 2 = 0 := by rw [Int.tmod_eq_emod_of_nonneg (by omega)]; omega
        have k2 : (P.size : Int) % 2 = 0 := by omega
        clear hm hl hk hnb e2
        go_wp2
        go_ret2
        exact ⟨unhex vs, true, rfl, fun _ => HE.out, fun e => (by cases e), HSZ.out, HO.out⟩
      · have HE := Lib.hid (dg_odd hm)
        have k1 : (P.size : Int).tmod 2 = 1 := by rw [Int.tmod_eq_emod_of_nonneg (by omega)]; omega
        have k2 : (P.size : Int) % 2 = 1 := by omega
        clear hm hk hnb e2
        go_wp2
        go_ret2
        exact ⟨unhex vs, false, rfl, fun e => (by cases e), fun _ => HE.out, HSZ.out, HO.out⟩
end Go.Proofs.YtkpfachmakfncaaGreatDoor

namespace Go.Proofs.YtkpfachmakfncaaGreatDoor
open Go.RowKit

theorem dw_cell {W : World} {g : Nat} {s : ByteArray} {t : TypeId} (h : W.heap[g]? = some (.cells ((wordsB s).map Value.string).toArray t (0, 0))) {j : Nat} (hj : j < (wordsB s).length) : W.cell? ⟨g, j, none⟩ = some (.string (dwAt s j)) := by
  rw [cell_of_row W g j _ _ _ h]
  unfold dwAt
  simp [List.getD, hj]
theorem ne_facts {a b : ByteArray} (h : a ≠ b) : (a.toList != b.toList) = true ∧ (a.toList == b.toList) = false ∧ ¬ a.toList = b.toList := by
  have h2 : ¬ a.toList = b.toList := fun e => h (tl_iff.1 (beq_iff_eq.2 e))
  exact ⟨by simpa using h2, by simpa using h2, h2⟩
theorem dealW_is {P : ByteArray} (h : P ≠ ⟨#[100, 101, 97, 108]⟩) : P.data.toList ≠ dealW := by
  intro e
  apply h
  apply ByteArray.ext
  apply Array.ext'
  exact e
theorem intsW_R64 {l : List Int} (h : ∀ v ∈ l, R64 v) : IntsW l := ⟨fun j => by
  unfold ptAt
  rw [List.getD_eq_getElem?_getD]
  cases hj : l[j]? with
  | none => exact ⟨by decide, by decide⟩
  | some x => exact h x (List.mem_of_getElem? hj)⟩
theorem sAt_le {l : List ByteArray} {n : Nat} (h : ∀ y ∈ l, y.size ≤ n) (i : Nat) : (sAt l i).size ≤ n := by
  unfold sAt
  rw [List.getD_eq_getElem?_getD]
  cases hj : l[i]? with
  | none => exact Nat.zero_le _
  | some x => exact h x (List.mem_of_getElem? hj)
theorem dealC_out {w w3 wr : World} {vc vb : Value} {L : List Int} {p : Int} {X : List ByteArray} (h : DealC w3 wr w3.heap.size vc vb L p X) (hlt : w.heap.size < w3.heap.size) (cs : Array Value) : DlOwn w.heap.size (wr.setRow w.heap.size cs) vc vb ⟨L, p, X⟩ :=
  ⟨own_base ((setRow_only wr w.heap.size cs).owns h.own (fun g hg e => by have := own_low' h.own hg; omega)) (by omega), own_base ((setRow_only wr w.heap.size cs).owns h.ownS (fun g hg e => by have := own_low' h.ownS hg; omega)) (by omega)⟩
set_option maxHeartbeats 8000000 in
set_option maxRecDepth 100000 in
theorem dread_any (s : ByteArray) (w : World) (hs : s.size ≤ 1900000) (hG : GlobT w) :
    Calls Tryz.prog 7 #[.string s] w fun e w' => ReadOut s w w' e := by
  obtain ⟨i0, hi0, hz0, hz1, hz2⟩ := info_parts Tryz.infoI
  obtain ⟨j0, hj0, hy0, hy1, hy2⟩ := info_parts Tryz.infoS1
  have HG := Lib.hid hG
  obtain ⟨m, hm⟩ := hG.len
  have hA := (Only.refl (fun _ => False) w).alloc (.cells #[.slice none 0 0, .int .i64 0, .slice none 0 0] 25)
  have HZ := Lib.hid (heap_alloc_last w (.cells #[.slice none 0 0, .int .i64 0, .slice none 0 0] 25))
  have HSP := Lib.hid (Tryz.strings_Split s ⟨#[32]⟩ m _ (by omega) (hA.cell hm id) (by decide))
  have HA := Lib.hid hA
  have HWL := Lib.hid (wordsB_len s)
  have hcl : Lib.countB s ⟨#[32]⟩ + 1 ≤ s.size + 1 := by
    have := Lib.countB_le ⟨#[32]⟩ (by decide) s.size s (Nat.le_refl _)
    omega
  clear hA hm hG
  go_enter Tryz.func7, Tryz.ntmps7
  go_wp2_with fail
  refine HSP.out.mono ?_
  rintro e w2 ⟨rfl, hw2⟩
  have hx1 := heap_alloc_last (w.alloc (.cells #[.slice none 0 0, .int .i64 0, .slice none 0 0] 25)) (.cells ((wordsB s).map Value.string).toArray 9)
  have hx2 := (Only.refl (fun _ => False) (w.alloc (.cells #[.slice none 0 0, .int .i64 0, .slice none 0 0] 25))).alloc (.cells ((wordsB s).map Value.string).toArray 9)
  rw [show (w.alloc (.cells #[.slice none 0 0, .int .i64 0, .slice none 0 0] 25)).alloc (.cells ((wordsB s).map Value.string).toArray 9) = w2 from hw2.symm] at hx1 hx2
  rw [World.size_alloc] at hx1 ⊢
  have HR2 := Lib.hid hx1
  have HZ2 := Lib.hid (row_still hx2 HZ.out)
  have HO2 := Lib.hid (HA.out.trans hx2)
  have hsz2 : w.heap.size + 1 < w2.heap.size := (Array.getElem?_eq_some_iff.1 hx1).1
  clear hw2 hx1 hx2 HA HZ HSP
  obtain ⟨n, hn⟩ : ∃ n, n = Lib.countB s ⟨#[32]⟩ + 1 := ⟨_, rfl⟩
  rw [← hn] at HWL hcl ⊢
  clear hn
  have HWD := Lib.hid (fun (W : World) (hO : Only (fun _ => False) w2 W) (j : Nat) (hj : j < n) => dw_cell (row_still hO HR2.out) (j := j) (by rw [HWL.out]; exact hj))
  have HWS := Lib.hid (fun j => dwAt_le s j)
  have HGW := Lib.hid (fun (W : World) (hO : Only (fun _ => False) w2 W) => HG.out.only (HO2.out.trans hO))
  clear HR2 HG
  by_cases h3 : n < 3
  · have HN := Lib.hid (no_few (s := s) (by rw [HWL.out]; exact h3))
    have d1 : (n : Int) < 3 := by omega
    go_wp2_with (first | (refine wpList_store_row rfl 25 _ _ rfl w.heap.size #[.slice none 0 0, .int .i64 0, .slice none 0 0] rfl rfl 25 _ HZ2.out Tryz.infoD rfl (dl_one none none 0 0 0 0 0) ?_))
    all_goals (exact bodyPost_ret (v := .tuple #[.agg #[.slice none 0 0, .int .i64 0, .slice none 0 0], .bool false]) (results_cell_tmp (p := 2) (q := 3) rfl _ _ w.heap.size 25 #[.slice none 0 0, .int .i64 0, .slice none 0 0] (0, 0) _ rfl (setRow_heap _ _ _ _ _ _ HZ2.out) Tryz.underlying25 rfl Tryz.infoD _ rfl) rfl (readOut_no HN.out (HO2.out.setRow (Nat.le_refl _) _)))
  · have d1 : decide ((n : Int) < 3) = false := decide_eq_false (by omega)
    have d2 : decide (n < 3) = false := decide_eq_false h3
    have c0 := HWD.out w2 (Only.refl _ _) 0 (by omega)
    by_cases hd : dwAt s 0 = ⟨#[100, 101, 97, 108]⟩
    · rw [hd] at c0
      have c1 := HWD.out w2 (Only.refl _ _) 1 (by omega)
      have i1 : (1 : Int) < n := by omega
      have i0' : (0 : Int) < n := by omega
      clear hd
      go_wp2_with fail
      refine (atoi_any (dwAt s 1) w2 (by have := HWS.out 1; omega) (HGW.out w2 (Only.refl _ _))).mono ?_
      rintro e w3 (⟨v, rfl, hv, hO3⟩ | ⟨v, t, p, rfl, hv, hO3⟩)
      · have HV := Lib.hid hv
        have HZ3 := Lib.hid (row_still hO3 HZ2.out)
        have HL3 := Lib.hid hO3
        have HO3 := Lib.hid (HO2.out.trans hO3)
        have hsz3 := hO3.size
        have k1 : IntKind.i64.wrap ((n : Int) - 3) = n - 3 := IntWalk.i64_in _ (by omega)
        clear hO3 c0 c1 HZ2 HO2
        by_cases hr : v < 0
        · have HN := Lib.hid (no_range (by omega) hv (.inl hr))
          go_wp2_with (first | (refine wpList_store_row rfl 25 _ _ rfl w.heap.size #[.slice none 0 0, .int .i64 0, .slice none 0 0] rfl rfl 25 _ HZ3.out Tryz.infoD rfl (dl_one none none 0 0 0 0 0) ?_))
          all_goals (exact bodyPost_ret (v := .tuple #[.agg #[.slice none 0 0, .int .i64 0, .slice none 0 0], .bool false]) (results_cell_tmp (p := 2) (q := 3) rfl _ _ w.heap.size 25 #[.slice none 0 0, .int .i64 0, .slice none 0 0] (0, 0) _ rfl (setRow_heap _ _ _ _ _ _ HZ3.out) Tryz.underlying25 rfl Tryz.infoD _ rfl) rfl (readOut_no HN.out (HO3.out.setRow (Nat.le_refl _) _)))
        · by_cases hr2 : (n : Int) - 3 < v
          · have HN := Lib.hid (no_range (by omega) hv (.inr (by rw [HWL.out]; exact hr2)))
            have d3 : decide (v < 0) = false := decide_eq_false hr
            go_wp2_with (first | (refine wpList_store_row rfl 25 _ _ rfl w.heap.size #[.slice none 0 0, .int .i64 0, .slice none 0 0] rfl rfl 25 _ HZ3.out Tryz.infoD rfl (dl_one none none 0 0 0 0 0) ?_))
            all_goals (exact bodyPost_ret (v := .tuple #[.agg #[.slice none 0 0, .int .i64 0, .slice none 0 0], .bool false]) (results_cell_tmp (p := 2) (q := 3) rfl _ _ w.heap.size 25 #[.slice none 0 0, .int .i64 0, .slice none 0 0] (0, 0) _ rfl (setRow_heap _ _ _ _ _ _ HZ3.out) Tryz.underlying25 rfl Tryz.infoD _ rfl) rfl (readOut_no HN.out (HO3.out.setRow (Nat.le_refl _) _)))
          · obtain ⟨N, rfl⟩ := Int.eq_ofNat_of_zero_le (show 0 ≤ v by omega)
            have d3 : decide ((N : Int) < 0) = false := decide_eq_false hr
            have d4 : decide ((n : Int) - 3 < N) = false := decide_eq_false hr2
            have hN3 : N + 3 ≤ n := by omega
            have k2 : IntKind.i64.wrap (2 + (N : Int)) = 2 + N := IntWalk.i64_in _ (by omega)
            have k3 : IntKind.i64.wrap (3 + (N : Int)) = 3 + N := IntWalk.i64_in _ (by omega)
            have i2 : (2 : Int) ≤ 2 + N := by omega
            have i3 : (2 : Int) + N ≤ n := by omega
            have i4 : ((2 : Int) + N).toNat = 2 + N := by omega
            have i5 : 0 ≤ (2 : Int) + N := by omega
            clear hr hr2 hv
            go_wp2_with fail
            have HD0 := Lib.hid (deal_start w3 w3 0 (Only.refl _ _))
            have hW4 : w3.heap.size < (w3.alloc (.cells #[.slice none 0 0, .int .i64 0, .slice none 0 0] 25)).heap.size := by rw [World.size_alloc]; exact Nat.lt_succ_self _
            generalize w3.alloc (.cells #[.slice none 0 0, .int .i64 0, .slice none 0 0] 25) = w4 at *
            go_loopw [54] (fun iv wr => ∃ (k : Nat) (vc : Value) (L : List Int), iv = .int .i64 k ∧ L.length = k ∧ k ≤ N ∧ DealC w3 wr w3.heap.size vc (.slice none 0 0) L 0 [] ∧ CmsOk s L ∧ (∀ v ∈ L, R64 v)) (fun iv _ => N - (intOf iv).toNat)
            case atStart => exact ⟨0, _, [], rfl, rfl, Nat.zero_le _, HD0.out, CmsOk.nil s, fun _ hv => (by cases hv)⟩
            case round =>
              clear HD0 hW4
              obtain ⟨k, vc, L, rfl, hL, hk, hD, hC, hvv⟩ := hrel
              have HL := Lib.hid hL
              have HD := Lib.hid hD
              have HC := Lib.hid hC
              have HVV := Lib.hid hvv
              have hBl := (Array.getElem?_eq_some_iff.1 hD.blk).1
              clear hL hD hC hvv
              by_cases hlt : k < N
              · have c0 := HWD.out wr (HL3.out.trans HD.out.only) (2 + k) (by omega)
                have i6 : (k : Int) < N := by omega
                have i7 : 0 ≤ (k : Int) := by omega
                clear hk
                go_wp2_with fail
                refine (atoi_any (dwAt s (2 + k)) wr (by have := HWS.out (2 + k); omega) (HGW.out wr (HL3.out.trans HD.out.only))).mono ?_
                rintro e w5 (⟨v, rfl, hv, hO5⟩ | ⟨v, t, p, rfl, hv, hO5⟩)
                · have HD5 := Lib.hid (HD.out.later hO5)
                  have HCN := Lib.hid (HC.out.add (v := v) (by rw [HL.out]; exact hv))
                  have HVN := Lib.hid (show ∀ u ∈ L ++ [v], R64 u from fun u hu => by
                    rcases List.mem_append.1 hu with hu | hu
                    · exact HVV.out u hu
                    · rw [List.mem_singleton.1 hu]; exact atoi_R64 hv)
                  obtain ⟨ac, cc, hvc⟩ := slice_of_own HD5.out.own
                  rw [HL.out] at hvc
                  have HOW5 := Lib.hid (show w5.ownsRow (w3.heap.size + 1) 3 1 vc k (irow L) by have h := HD5.out.own; rw [HL.out] at h; exact h)
                  have HB5 := (Array.getElem?_eq_some_iff.1 HD5.out.blk).1
                  have HN0 := Lib.hid (show some w3.heap.size ≠ vc.ownBlock from fun e => by have := own_low' HD5.out.own e.symm; omega)
                  have e0 : w5.cell? ⟨w3.heap.size, 0, none⟩ = some vc := cell_of_row _ _ 0 _ _ _ HD5.out.blk
                  have HGO := Lib.hid (fun (w1 : World) (g cap : Nat) h1 h2 h3 => HD5.out.commit' (wz := w5.alloc (.cells #[.int .i64 v] 3)) (z := v) (g := g) (cap := cap) (w1 := w1) HL.out ((Only.refl _ w5).alloc _) h1 h2 h3)
                  have HOA := Lib.hid (((Only.refl (fun _ => False) w5).alloc (.cells #[.int .i64 v] 3)).owns HOW5.out (fun _ _ h => h))
                  clear hO5 hv c0 HD
                  subst hvc
                  generalize hvc : Value.slice ac k cc = vc at *
                  have HVC := Lib.hid hvc
                  clear hvc
                  go_wp2_with (at_builtin; refine wpList_append_lies _ rfl _ _ 22 rfl (w3.heap.size + 1) 3 i0 _ 1 8 Tryz.underlying22 hi0 hz0 hz1 hz2 rfl (by decide) vc k (irow L) rfl HOA.out ⟨w5.heap.size, 0, none⟩ 1 1 [.int .i64 v] rfl rfl (World.news_of_block (cs := #[.int .i64 v]) (t := 3) (fr := (0, 0)) (heap_alloc_new w5 _)) (one_int _) (by decide) ?c1 ?c2 ?c3 _ rfl ?_)
                  case c1 => unfold maxLen; omega
                  case c2 => omega
                  case c3 => simp; omega
                  intro g cap w6 hown1 hgrow hat hlt1
                  obtain ⟨hbl, hdn⟩ := HGO.out _ _ _ hown1 hgrow (by simpa using hat)
                  have HD6 := Lib.hid hdn
                  have c1 := cell_of_row _ _ 0 _ _ _ hbl
                  have f1 := frozen_of_row _ _ 0 _ _ hbl
                  have l1 := (Array.getElem?_eq_some_iff.1 hbl).1
                  clear hown1 hgrow hat hdn hbl e0
                  go_wp2
                  go_roundw
                  case rel => exact ⟨k + 1, _, L ++ [v], by go_num, by rw [List.length_append, HL.out]; rfl, by omega, HD6.out, HCN.out, HVN.out⟩
                  case measure => simp [intOf]; omega
                · have HN := Lib.hid (no_commit (by omega) HV.out hlt hv)
                  have HZ5 := Lib.hid (row_still (HD.out.only.trans hO5) HZ3.out)
                  have HO5 := Lib.hid (HO3.out.trans (HD.out.only.trans hO5))
                  clear hO5 hv c0
                  go_wp2_with (first | (refine wpList_store_row rfl 25 _ _ rfl w.heap.size #[.slice none 0 0, .int .i64 0, .slice none 0 0] rfl rfl 25 _ HZ5.out Tryz.infoD rfl (dl_one none none 0 0 0 0 0) ?_))
                  all_goals (exact bodyPost_ret (v := .tuple #[.agg #[.slice none 0 0, .int .i64 0, .slice none 0 0], .bool false]) (results_cell_tmp (p := 2) (q := 3) rfl _ _ w.heap.size 25 #[.slice none 0 0, .int .i64 0, .slice none 0 0] (0, 0) _ rfl (setRow_heap _ _ _ _ _ _ HZ5.out) Tryz.underlying25 rfl Tryz.infoD _ rfl) rfl (readOut_no HN.out (HO5.out.setRow (Nat.le_refl _) _)))
              · obtain rfl : k = N := by omega
                have c0 := HWD.out wr (HL3.out.trans HD.out.only) (2 + k) (by omega)
                have i6 : ¬ (k : Int) < k := by omega
                have i8 : (2 : Int) + k < n := by omega
                have i9 : (3 : Int) + k ≤ n := by omega
                have i10 : 0 ≤ (3 : Int) + k := by omega
                have i11 : ((3 : Int) + k).toNat = 3 + k := by omega
                clear hk hlt
                go_wp2_with fail
                refine (atoi_any (dwAt s (2 + k)) wr (by have := HWS.out (2 + k); omega) (HGW.out wr (HL3.out.trans HD.out.only))).mono ?_
                rintro e w5 (⟨p, rfl, hv, hO5⟩ | ⟨p, t, p2, rfl, hv, hO5⟩)
                · have HD5 := Lib.hid ((HD.out.later hO5).point p)
                  have HPV := Lib.hid hv
                  have hpr := atoi_R64 hv
                  have hblk := (HD.out.later hO5).blk
                  have c1 := cell_of_row _ _ 1 _ _ _ hblk
                  have f1 := frozen_of_row _ _ 1 _ _ hblk
                  have l1 := (Array.getElem?_eq_some_iff.1 hblk).1
                  clear hO5 hv c0 hblk HD
                  by_cases h0 : n = 3 + k
                  · subst h0
                    go_wp2_with fail
                    generalize w5.setCell _ _ = w6 at *
                    clear c1 f1 l1
                    go_loopw [91] (fun iv wr => ∃ (j : Nat) (vb : Value) (Y : List ByteArray), iv = .int .i64 j ∧ Y.length = j ∧ j ≤ (3 + k) - (3 + k) ∧ DealC w3 wr w3.heap.size vc vb L p Y ∧ BxsOk s k Y ∧ (∀ y ∈ Y, y.size ≤ s.size)) (fun iv _ => (3 + k) - (3 + k) - (intOf iv).toNat)
                    case atStart => exact ⟨0, _, [], rfl, rfl, Nat.zero_le _, HD5.out, BxsOk.nil s k, fun _ hv => (by cases hv)⟩
                    case round =>
                      clear HD5
                      obtain ⟨j, vb, Y, rfl, hY, hj, hD, hB, hyy⟩ := hrel
                      have HYL := Lib.hid hY
                      have HD := Lib.hid hD
                      have HB := Lib.hid hB
                      have HYY := Lib.hid hyy
                      have hBl := (Array.getElem?_eq_some_iff.1 hD.blk).1
                      clear hY hD hB hyy
                      by_cases hlt : j < (3 + k) - (3 + k)
                      · exact absurd hlt (by omega)
                      · have hjn : j = (3 + k) - (3 + k) := by omega
                        have i6 : ¬ (j : Int) < (((3 + k) - (3 + k) : Nat) : Int) := by omega
                        obtain rfl : j = 0 := by omega
                        obtain ⟨a0, kk0, a2, kk2, rfl, rfl⟩ := HD.out.slices
                        have hLl := HL.out
                        have hYl := HYL.out
                        have HBK := Lib.hid HD.out.blk
                        have HDL := Lib.hid ((HD.out.fin (v := w) (by omega)).at (by show L.length ≤ _; omega) (by show Y.length ≤ _; omega))
                        have HTX := Lib.hid (textW_any a0 a2 kk0 kk2 ⟨L, p, Y⟩ wr HDL.out (by show L.length ≤ _; omega) (by show Y.length ≤ _; omega) ⟨intsW_R64 HVV.out, hpr.1, hpr.2⟩ (fun i => Nat.le_trans (sAt_le HYY.out i) (by omega)) (HGW.out wr (HL3.out.trans HD.out.only)).glob)
                        have HV2 := Lib.hid (show Lib.atoiAll (dwAt s 1).data.toList = .ok (L.length : Int) by rw [HL.out]; exact HV.out)
                        have HPV2 := Lib.hid (show Lib.atoiAll (dwAt s (2 + L.length)).data.toList = .ok p by rw [HL.out]; exact HPV.out)
                        have HB2 := Lib.hid (show BxsOk s L.length Y by rw [HL.out]; exact HB.out)
                        by_cases ht : textB ⟨L, p, Y⟩ = s
                        · have HE := Lib.hid (show s = textB ⟨L, p, Y⟩ ∧ DlR ⟨L, p, Y⟩ from ⟨ht.symm, HVV.out, hpr⟩)
                          rw [ht] at HTX
                          have q1 : (s.toList != s.toList) = false := by simp
                          have q2 : (s.toList == s.toList) = true := by simp
                          clear ht hlt hjn hLl hYl
                          go_wp2_with (first | (refine wpList_load_row rfl 25 _ rfl w3.heap.size rfl 25 #[.slice a0 L.length kk0, .int .i64 p, .slice a2 Y.length kk2] (0, 0) _ HBK.out Tryz.underlying25 rfl Tryz.infoD ?_))
                          refine HTX.out.mono ?_
                          rintro e w8 ⟨rfl, hO8⟩
                          have HD8 := Lib.hid (HD.out.later hO8)
                          have HZ8 := Lib.hid (row_still (HD.out.only.trans hO8) HZ3.out)
                          have HBK8 := Lib.hid HD8.out.blk
                          have HO8 := Lib.hid (HO3.out.trans (HD.out.only.trans hO8))
                          clear hO8
                          go_wp2_with (first | (refine wpList_load_row rfl 25 _ rfl w3.heap.size rfl 25 #[.slice a0 L.length kk0, .int .i64 p, .slice a2 Y.length kk2] (0, 0) _ HBK8.out Tryz.underlying25 rfl Tryz.infoD ?_) | (refine wpList_store_row rfl 25 _ _ rfl w.heap.size #[.slice a0 L.length kk0, .int .i64 p, .slice a2 Y.length kk2] rfl rfl 25 _ HZ8.out Tryz.infoD rfl (dl_one a0 a2 _ _ _ _ _) ?_))
                          all_goals (exact bodyPost_ret (v := .tuple #[.agg #[.slice a0 L.length kk0, .int .i64 p, .slice a2 Y.length kk2], .bool true]) (results_cell_tmp (p := 2) (q := 3) rfl _ _ w.heap.size 25 #[.slice a0 L.length kk0, .int .i64 p, .slice a2 Y.length kk2] (0, 0) _ rfl (setRow_heap _ _ _ _ _ _ HZ8.out) Tryz.underlying25 rfl Tryz.infoD _ rfl) rfl (readOut_yes HE.out (dealC_out HD8.out (by omega) _) (HO8.out.setRow (Nat.le_refl _) _)))
                        · have HN := Lib.hid (no_end (by omega) HV2.out HC.out HPV2.out HB2.out (by rw [HWL.out]; omega) ht)
                          obtain ⟨q1, q2, q3⟩ := ne_facts ht
                          clear ht hlt hjn hLl hYl
                          generalize textB ⟨L, p, Y⟩ = Tx at *
                          go_wp2_with (first | (refine wpList_load_row rfl 25 _ rfl w3.heap.size rfl 25 #[.slice a0 L.length kk0, .int .i64 p, .slice a2 Y.length kk2] (0, 0) _ HBK.out Tryz.underlying25 rfl Tryz.infoD ?_))
                          refine HTX.out.mono ?_
                          rintro e w8 ⟨rfl, hO8⟩
                          have HZ8 := Lib.hid (row_still (HD.out.only.trans hO8) HZ3.out)
                          have HO8 := Lib.hid (HO3.out.trans (HD.out.only.trans hO8))
                          clear hO8
                          go_wp2_with (first | (refine wpList_store_row rfl 25 _ _ rfl w.heap.size #[.slice none 0 0, .int .i64 0, .slice none 0 0] rfl rfl 25 _ HZ8.out Tryz.infoD rfl (dl_one none none 0 0 0 0 0) ?_))
                          all_goals (exact bodyPost_ret (v := .tuple #[.agg #[.slice none 0 0, .int .i64 0, .slice none 0 0], .bool false]) (results_cell_tmp (p := 2) (q := 3) rfl _ _ w.heap.size 25 #[.slice none 0 0, .int .i64 0, .slice none 0 0] (0, 0) _ rfl (setRow_heap _ _ _ _ _ _ HZ8.out) Tryz.underlying25 rfl Tryz.infoD _ rfl) rfl (readOut_no HN.out (HO8.out.setRow (Nat.le_refl _) _)))
                  · have h1 : 3 + k < n := by omega
                    have h2 : ¬ n - (3 + k) = 0 := by omega
                    have h4 : (3 : Int) + k < n := by omega
                    go_wp2_with fail
                    generalize w5.setCell _ _ = w6 at *
                    clear c1 f1 l1
                    go_loopw [91] (fun iv wr => ∃ (j : Nat) (vb : Value) (Y : List ByteArray), iv = .int .i64 j ∧ Y.length = j ∧ j ≤ n - (3 + k) ∧ DealC w3 wr w3.heap.size vc vb L p Y ∧ BxsOk s k Y ∧ (∀ y ∈ Y, y.size ≤ s.size)) (fun iv _ => n - (3 + k) - (intOf iv).toNat)
                    case atStart => exact ⟨0, _, [], rfl, rfl, Nat.zero_le _, HD5.out, BxsOk.nil s k, fun _ hv => (by cases hv)⟩
                    case round =>
                      clear HD5
                      obtain ⟨j, vb, Y, rfl, hY, hj, hD, hB, hyy⟩ := hrel
                      have HYL := Lib.hid hY
                      have HD := Lib.hid hD
                      have HB := Lib.hid hB
                      have HYY := Lib.hid hyy
                      have hBl := (Array.getElem?_eq_some_iff.1 hD.blk).1
                      clear hY hD hB hyy
                      by_cases hlt : j < n - (3 + k)
                      · have c0 := HWD.out wr (HL3.out.trans HD.out.only) (3 + k + j) (by omega)
                        have i6 : (j : Int) < ((n - (3 + k) : Nat) : Int) := by omega
                        have i7 : 0 ≤ (j : Int) := by omega
                        go_wp2_with fail
                        refine (dbytes_any (dwAt s (3 + k + j)) wr (by have := HWS.out (3 + k + j); omega)).mono ?_
                        rintro e w7 ⟨y, ok, rfl, hok, hno, hys, hO7⟩
                        cases ok
                        · have HN := Lib.hid (no_box (by omega) HV.out (by rw [HWL.out]; omega) (hno rfl))
                          have HZ7 := Lib.hid (row_still (HD.out.only.trans hO7) HZ3.out)
                          have HO7 := Lib.hid (HO3.out.trans (HD.out.only.trans hO7))
                          clear hO7 hok hno c0
                          go_wp2_with (first | (refine wpList_store_row rfl 25 _ _ rfl w.heap.size #[.slice none 0 0, .int .i64 0, .slice none 0 0] rfl rfl 25 _ HZ7.out Tryz.infoD rfl (dl_one none none 0 0 0 0 0) ?_))
                          all_goals (exact bodyPost_ret (v := .tuple #[.agg #[.slice none 0 0, .int .i64 0, .slice none 0 0], .bool false]) (results_cell_tmp (p := 2) (q := 3) rfl _ _ w.heap.size 25 #[.slice none 0 0, .int .i64 0, .slice none 0 0] (0, 0) _ rfl (setRow_heap _ _ _ _ _ _ HZ7.out) Tryz.underlying25 rfl Tryz.infoD _ rfl) rfl (readOut_no HN.out (HO7.out.setRow (Nat.le_refl _) _)))
                        · have HD7 := Lib.hid (HD.out.later hO7)
                          have HBN := Lib.hid (HB.out.add (y := y) (by rw [HYL.out]; exact hok rfl))
                          have HYN := Lib.hid (show ∀ u ∈ Y ++ [y], u.size ≤ s.size from fun u hu => by
                            rcases List.mem_append.1 hu with hu | hu
                            · exact HYY.out u hu
                            · rw [List.mem_singleton.1 hu]; exact Nat.le_trans hys (HWS.out _))
                          obtain ⟨ac, cc, hvc⟩ := slice_of_own HD7.out.ownS
                          rw [HYL.out] at hvc
                          have HOW7 := Lib.hid (show w7.ownsRow (w3.heap.size + 1) 9 1 vb j (srowS Y) by have h := HD7.out.ownS; rw [HYL.out] at h; exact h)
                          have HB7 := (Array.getElem?_eq_some_iff.1 HD7.out.blk).1
                          have HN0 := Lib.hid (show some w3.heap.size ≠ vb.ownBlock from fun e => by have := own_low' HD7.out.ownS e.symm; omega)
                          have e0 : w7.cell? ⟨w3.heap.size, 2, none⟩ = some vb := cell_of_row _ _ 2 _ _ _ HD7.out.blk
                          have HGO := Lib.hid (fun (w1 : World) (g cap : Nat) h1 h2 h3 => HD7.out.box (wz := w7.alloc (.cells #[.string y] 9)) (s := y) (g := g) (cap := cap) (w1 := w1) HYL.out ((Only.refl _ w7).alloc _) h1 h2 h3)
                          have HOA := Lib.hid (((Only.refl (fun _ => False) w7).alloc (.cells #[.string y] 9)).owns HOW7.out (fun _ _ h => h))
                          clear hO7 hok hno c0 HD
                          subst hvc
                          generalize hvc : Value.slice ac j cc = vb at *
                          have HVC := Lib.hid hvc
                          clear hvc
                          go_wp2_with (at_builtin; refine wpList_append_lies _ rfl _ _ 23 rfl (w3.heap.size + 1) 9 j0 _ 1 16 Tryz.underlying23 hj0 hy0 hy1 hy2 rfl (by decide) vb j (srowS Y) rfl HOA.out ⟨w7.heap.size, 0, none⟩ 1 1 [.string y] rfl rfl (World.news_of_block (cs := #[.string y]) (t := 9) (fr := (0, 0)) (heap_alloc_new w7 _)) (one_str _) (by decide) ?c1 ?c2 ?c3 _ rfl ?_)
                          case c1 => unfold maxLen; omega
                          case c2 => omega
                          case c3 => simp; omega
                          intro g cap w8 hown1 hgrow hat hlt1
                          obtain ⟨hbl, hdn⟩ := HGO.out _ _ _ hown1 hgrow (by simpa using hat)
                          have HD8 := Lib.hid hdn
                          have c1 := cell_of_row _ _ 2 _ _ _ hbl
                          have f1 := frozen_of_row _ _ 2 _ _ hbl
                          have l1 := (Array.getElem?_eq_some_iff.1 hbl).1
                          clear hown1 hgrow hat hdn hbl e0
                          go_wp2
                          go_roundw
                          case rel => exact ⟨j + 1, _, Y ++ [y], by go_num, by rw [List.length_append, HYL.out]; rfl, by omega, HD8.out, HBN.out, HYN.out⟩
                          case measure => simp [intOf]; omega
                      · have hjn : j = n - (3 + k) := by omega
                        have i6 : ¬ (j : Int) < ((n - (3 + k) : Nat) : Int) := by omega
                        have i7 : 0 ≤ (j : Int) := by omega
                        obtain ⟨a0, kk0, a2, kk2, rfl, rfl⟩ := HD.out.slices
                        have hLl := HL.out
                        have hYl := HYL.out
                        have HBK := Lib.hid HD.out.blk
                        have HDL := Lib.hid ((HD.out.fin (v := w) (by omega)).at (by show L.length ≤ _; omega) (by show Y.length ≤ _; omega))
                        have HTX := Lib.hid (textW_any a0 a2 kk0 kk2 ⟨L, p, Y⟩ wr HDL.out (by show L.length ≤ _; omega) (by show Y.length ≤ _; omega) ⟨intsW_R64 HVV.out, hpr.1, hpr.2⟩ (fun i => Nat.le_trans (sAt_le HYY.out i) (by omega)) (HGW.out wr (HL3.out.trans HD.out.only)).glob)
                        have HV2 := Lib.hid (show Lib.atoiAll (dwAt s 1).data.toList = .ok (L.length : Int) by rw [HL.out]; exact HV.out)
                        have HPV2 := Lib.hid (show Lib.atoiAll (dwAt s (2 + L.length)).data.toList = .ok p by rw [HL.out]; exact HPV.out)
                        have HB2 := Lib.hid (show BxsOk s L.length Y by rw [HL.out]; exact HB.out)
                        by_cases ht : textB ⟨L, p, Y⟩ = s
                        · have HE := Lib.hid (show s = textB ⟨L, p, Y⟩ ∧ DlR ⟨L, p, Y⟩ from ⟨ht.symm, HVV.out, hpr⟩)
                          rw [ht] at HTX
                          have q1 : (s.toList != s.toList) = false := by simp
                          have q2 : (s.toList == s.toList) = true := by simp
                          clear ht hlt hjn hLl hYl
                          go_wp2_with (first | (refine wpList_load_row rfl 25 _ rfl w3.heap.size rfl 25 #[.slice a0 L.length kk0, .int .i64 p, .slice a2 Y.length kk2] (0, 0) _ HBK.out Tryz.underlying25 rfl Tryz.infoD ?_))
                          refine HTX.out.mono ?_
                          rintro e w8 ⟨rfl, hO8⟩
                          have HD8 := Lib.hid (HD.out.later hO8)
                          have HZ8 := Lib.hid (row_still (HD.out.only.trans hO8) HZ3.out)
                          have HBK8 := Lib.hid HD8.out.blk
                          have HO8 := Lib.hid (HO3.out.trans (HD.out.only.trans hO8))
                          clear hO8
                          go_wp2_with (first | (refine wpList_load_row rfl 25 _ rfl w3.heap.size rfl 25 #[.slice a0 L.length kk0, .int .i64 p, .slice a2 Y.length kk2] (0, 0) _ HBK8.out Tryz.underlying25 rfl Tryz.infoD ?_) | (refine wpList_store_row rfl 25 _ _ rfl w.heap.size #[.slice a0 L.length kk0, .int .i64 p, .slice a2 Y.length kk2] rfl rfl 25 _ HZ8.out Tryz.infoD rfl (dl_one a0 a2 _ _ _ _ _) ?_))
                          all_goals (exact bodyPost_ret (v := .tuple #[.agg #[.slice a0 L.length kk0, .int .i64 p, .slice a2 Y.length kk2], .bool true]) (results_cell_tmp (p := 2) (q := 3) rfl _ _ w.heap.size 25 #[.slice a0 L.length kk0, .int .i64 p, .slice a2 Y.length kk2] (0, 0) _ rfl (setRow_heap _ _ _ _ _ _ HZ8.out) Tryz.underlying25 rfl Tryz.infoD _ rfl) rfl (readOut_yes HE.out (dealC_out HD8.out (by omega) _) (HO8.out.setRow (Nat.le_refl _) _)))
                        · have HN := Lib.hid (no_end (by omega) HV2.out HC.out HPV2.out HB2.out (by rw [HWL.out]; omega) ht)
                          obtain ⟨q1, q2, q3⟩ := ne_facts ht
                          clear ht hlt hjn hLl hYl
                          generalize textB ⟨L, p, Y⟩ = Tx at *
                          go_wp2_with (first | (refine wpList_load_row rfl 25 _ rfl w3.heap.size rfl 25 #[.slice a0 L.length kk0, .int .i64 p, .slice a2 Y.length kk2] (0, 0) _ HBK.out Tryz.underlying25 rfl Tryz.infoD ?_))
                          refine HTX.out.mono ?_
                          rintro e w8 ⟨rfl, hO8⟩
                          have HZ8 := Lib.hid (row_still (HD.out.only.trans hO8) HZ3.out)
                          have HO8 := Lib.hid (HO3.out.trans (HD.out.only.trans hO8))
                          clear hO8
                          go_wp2_with (first | (refine wpList_store_row rfl 25 _ _ rfl w.heap.size #[.slice none 0 0, .int .i64 0, .slice none 0 0] rfl rfl 25 _ HZ8.out Tryz.infoD rfl (dl_one none none 0 0 0 0 0) ?_))
                          all_goals (exact bodyPost_ret (v := .tuple #[.agg #[.slice none 0 0, .int .i64 0, .slice none 0 0], .bool false]) (results_cell_tmp (p := 2) (q := 3) rfl _ _ w.heap.size 25 #[.slice none 0 0, .int .i64 0, .slice none 0 0] (0, 0) _ rfl (setRow_heap _ _ _ _ _ _ HZ8.out) Tryz.underlying25 rfl Tryz.infoD _ rfl) rfl (readOut_no HN.out (HO8.out.setRow (Nat.le_refl _) _)))
                · have HN := Lib.hid (no_point (by omega) HV.out hv)
                  have hblk := (HD.out.later hO5).blk
                  have hO6 := (HD.out.only.trans hO5).setCell (p := ⟨w3.heap.size, 1, none⟩) (.inr (Nat.le_refl _)) (.int .i64 p)
                  have HZ5 := Lib.hid (row_still hO6 HZ3.out)
                  have HO5 := Lib.hid (HO3.out.trans hO6)
                  have c1 := cell_of_row _ _ 1 _ _ _ hblk
                  have f1 := frozen_of_row _ _ 1 _ _ hblk
                  have l1 := (Array.getElem?_eq_some_iff.1 hblk).1
                  clear hO5 hO6 hv c0 hblk
                  go_wp2_with (first | (refine wpList_store_row rfl 25 _ _ rfl w.heap.size #[.slice none 0 0, .int .i64 0, .slice none 0 0] rfl rfl 25 _ HZ5.out Tryz.infoD rfl (dl_one none none 0 0 0 0 0) ?_))
                  all_goals (exact bodyPost_ret (v := .tuple #[.agg #[.slice none 0 0, .int .i64 0, .slice none 0 0], .bool false]) (results_cell_tmp (p := 2) (q := 3) rfl _ _ w.heap.size 25 #[.slice none 0 0, .int .i64 0, .slice none 0 0] (0, 0) _ rfl (setRow_heap _ _ _ _ _ _ HZ5.out) Tryz.underlying25 rfl Tryz.infoD _ rfl) rfl (readOut_no HN.out (HO5.out.setRow (Nat.le_refl _) _)))
      · have HN := Lib.hid (no_count (by omega) hv)
        have HZ3 := Lib.hid (row_still hO3 HZ2.out)
        have HO3 := Lib.hid (HO2.out.trans hO3)
        clear hO3 hv c0 c1
        go_wp2_with (first | (refine wpList_store_row rfl 25 _ _ rfl w.heap.size #[.slice none 0 0, .int .i64 0, .slice none 0 0] rfl rfl 25 _ HZ3.out Tryz.infoD rfl (dl_one none none 0 0 0 0 0) ?_))
        all_goals (exact bodyPost_ret (v := .tuple #[.agg #[.slice none 0 0, .int .i64 0, .slice none 0 0], .bool false]) (results_cell_tmp (p := 2) (q := 3) rfl _ _ w.heap.size 25 #[.slice none 0 0, .int .i64 0, .slice none 0 0] (0, 0) _ rfl (setRow_heap _ _ _ _ _ _ HZ3.out) Tryz.underlying25 rfl Tryz.infoD _ rfl) rfl (readOut_no HN.out (HO3.out.setRow (Nat.le_refl _) _)))
    · have HN := Lib.hid (no_deal (s := s) (dealW_is hd))
      obtain ⟨q1, q2, q3⟩ : ((dwAt s 0).toList != [100, 101, 97, 108]) = true ∧ ((dwAt s 0).toList == [100, 101, 97, 108]) = false ∧ ¬ (dwAt s 0).toList = [100, 101, 97, 108] := by
        have h := ne_facts hd
        rw [show (⟨#[100, 101, 97, 108]⟩ : ByteArray).toList = [100, 101, 97, 108] by simp] at h
        exact h
      have i0' : (0 : Int) < n := by omega
      clear hd
      go_wp2_with (first | (refine wpList_store_row rfl 25 _ _ rfl w.heap.size #[.slice none 0 0, .int .i64 0, .slice none 0 0] rfl rfl 25 _ HZ2.out Tryz.infoD rfl (dl_one none none 0 0 0 0 0) ?_))
      all_goals (exact bodyPost_ret (v := .tuple #[.agg #[.slice none 0 0, .int .i64 0, .slice none 0 0], .bool false]) (results_cell_tmp (p := 2) (q := 3) rfl _ _ w.heap.size 25 #[.slice none 0 0, .int .i64 0, .slice none 0 0] (0, 0) _ rfl (setRow_heap _ _ _ _ _ _ HZ2.out) Tryz.underlying25 rfl Tryz.infoD _ rfl) rfl (readOut_no HN.out (HO2.out.setRow (Nat.le_refl _) _)))
end Go.Proofs.YtkpfachmakfncaaGreatDoor

namespace Go.Proofs.YtkpfachmakfncaaGreatDoor
open Go.RowKit

theorem cmTo_R (cs : List Int) : ∀ k, ∀ v ∈ cmTo cs k, R64 v
  | 0, v, hv => by cases hv
  | k + 1, v, hv => by
    rcases List.mem_append.1 (show v ∈ cmTo cs k ++ [powM 4 (ptAt cs k) 2305843009213691579] from hv) with h | h
    · exact cmTo_R cs k v h
    · rw [List.mem_singleton.1 h]
      have := powM_bd 4 (ptAt cs k) 2305843009213691579 (by decide)
      exact ⟨by omega, by omega⟩
theorem dealD_R (cs ks : List Int) (seed : ByteArray) : DlR (dealD cs ks seed) := by
  unfold dealD
  split
  · refine ⟨cmTo_R cs _, ?_⟩
    have := powM_bd 4 (scalarZ (ptS seed)) 2305843009213691579 (by decide)
    show R64 (powM 4 (scalarZ (ptS seed)) 2305843009213691579)
    exact ⟨by omega, by omega⟩
  · exact ⟨fun _ hv => (by cases hv), (show R64 0 from ⟨by decide, by decide⟩)⟩
theorem dealD_16 (cs ks : List Int) (seed : ByteArray) (i : Nat) : (sAt (dealD cs ks seed).bx i).size ≤ 16 := by
  unfold dealD
  split
  · by_cases hi : i < ks.length
    · rw [show sAt (dealZ cs ks seed).bx i = boxOf cs ks (scalarZ (ptS seed)) i from bxTo_at _ _ _ _ _ hi]
      unfold boxOf
      rw [strOf_size, sealL_len]
      decide
    · have e : (dealZ cs ks seed).bx.length = ks.length := bxTo_len _ _ _ _
      have : sAt (dealZ cs ks seed).bx i = ByteArray.empty := by
        unfold sAt
        rw [List.getD, List.getElem?_eq_none (by omega)]; rfl
      rw [this]; decide
  · show (ByteArray.empty).size ≤ _; decide
theorem dealD_len (cs ks : List Int) (seed : ByteArray) : (dealD cs ks seed).cm.length ≤ cs.length ∧ (dealD cs ks seed).bx.length ≤ ks.length := by
  unfold dealD
  split
  · exact ⟨Nat.le_of_eq (cmTo_len _ _), Nat.le_of_eq (bxTo_len _ _ _ _)⟩
  · exact ⟨Nat.zero_le _, Nat.zero_le _⟩
theorem dealD_pt (cs ks : List Int) (seed : ByteArray) (h : 0 < (dealD cs ks seed).bx.length) : memB (dealD cs ks seed).pt = true := by
  unfold dealD at h ⊢
  split
  · exact pt_dealt cs ks seed
  · rename_i hn
    rw [if_neg hn] at h
    cases h
theorem mem_sAtD {l : List ByteArray} {n : Nat} (h : ∀ i, (sAt l i).size ≤ n) : ∀ y ∈ l, y.size ≤ n := mem_sAt h
theorem text_small (cs ks : List Int) (seed : ByteArray) (h1 : cs.length ≤ 12) (h2 : ks.length ≤ 12) : (textB (dealD cs ks seed)).size ≤ 1000 := by
  obtain ⟨l1, l2⟩ := dealD_len cs ks seed
  obtain ⟨r1, r2, r3⟩ := dealD_R cs ks seed
  have r4 := mem_sAtD (dealD_16 cs ks seed)
  generalize dealD cs ks seed = d at *
  have e : (textB d).size = (textL d).length := (Array.length_toList (xs := (textB d).data)).symm
  rw [e, textL_at]
  have h3 := dAt1_len d.cm.length (by omega)
  have h4 := numsB_len d.cm r1
  have h5 := numB_len d.pt r2 r3
  have h6 := boxesB_lenN 16 d.bx r4
  unfold dAt4 dAt3 dAt2
  simp only [List.length_append]
  omega
/-- A row of n elements at least, that is stored into. -/
def RowOk (W : World) (g : Nat) (t : TypeId) (n : Nat) : Prop := ∃ cur : Array Value, W.heap[g]? = some (.cells cur t (0, 0)) ∧ n ≤ cur.size
theorem RowOk.lt {W : World} {g n : Nat} {t : TypeId} (h : RowOk W g t n) : g < W.heap.size := by
  obtain ⟨cur, h1, _⟩ := h
  exact (Array.getElem?_eq_some_iff.1 h1).1
theorem RowOk.cell {W : World} {g n : Nat} {t : TypeId} (h : RowOk W g t n) {j : Nat} (hj : j < n) : (∃ v, W.cell? ⟨g, j, none⟩ = some v) ∧ W.frozen? ⟨g, j, none⟩ = false := by
  obtain ⟨cur, h1, h2⟩ := h
  refine ⟨?_, frozen_of_row _ _ j _ _ h1⟩
  rw [cell_of_row W g j _ _ _ h1]
  exact ⟨_, Array.getElem?_eq_getElem (by omega)⟩
theorem RowOk.set {W : World} {g n : Nat} {t : TypeId} (h : RowOk W g t n) (j : Nat) (v : Value) : RowOk (W.setCell ⟨g, j, none⟩ v) g t n := by
  obtain ⟨cur, h1, h2⟩ := h
  exact ⟨_, heap_setCell_same W g j _ _ _ h1, by simpa using h2⟩
theorem RowOk.of_own {W : World} {base n : Nat} {t : TypeId} {a : Option Addr} {c : Nat} {xs : List Value} (h : W.ownsRow base t 1 (.slice a n c) n xs) (hn : 0 < n) : ∃ g, a = some ⟨g, 0, none⟩ ∧ RowOk W g t n ∧ base ≤ g := by
  rcases h.2 with ⟨_, h0⟩ | ⟨g, cap, cur, hv, hb, hg, hcap, hcap2, hsz, htk⟩
  · omega
  · simp only [Value.slice.injEq] at hv
    obtain ⟨rfl, _, rfl⟩ := hv
    exact ⟨g, rfl, ⟨cur, hg, by omega⟩, hb⟩
theorem RowOk.keep {W : World} {g n : Nat} {t : TypeId} (h : RowOk W g t n) (g' j : Nat) (v : Value) : RowOk (W.setCell ⟨g', j, none⟩ v) g t n := by
  by_cases e : g' = g
  · subst e; exact h.set j v
  · obtain ⟨cur, h1, h2⟩ := h
    exact ⟨cur, by rw [heap_setCell_other _ _ _ _ (by show g ≠ g'; exact fun h => e h.symm)]; exact h1, h2⟩
/-- What the stores of the law leave. -/
structure KpAt (T : Nat → Prop) (w wr : World) (g0 g2 b0 : Option Addr) (nc nb : Nat) : Prop where
  only : Only T w wr
  r1 : 0 < nc → ∃ g, g0 = some ⟨g, 0, none⟩ ∧ RowOk wr g 3 nc
  r2 : 0 < nb → ∃ g, g2 = some ⟨g, 0, none⟩ ∧ RowOk wr g 9 nb
  r3 : 0 < nc → ∃ g, b0 = some ⟨g, 0, none⟩ ∧ RowOk wr g 3 nc
theorem KpAt.put {T : Nat → Prop} {w wr : World} {g0 g2 b0 : Option Addr} {nc nb : Nat} (h : KpAt T w wr g0 g2 b0 nc nb) {g j : Nat} {v : Value} (hT : T g) : KpAt T w (wr.setCell ⟨g, j, none⟩ v) g0 g2 b0 nc nb :=
  ⟨h.only.setCell (.inl hT) _, fun hn => (h.r1 hn).imp fun _ x => ⟨x.1, x.2.keep g j v⟩, fun hn => (h.r2 hn).imp fun _ x => ⟨x.1, x.2.keep g j v⟩, fun hn => (h.r3 hn).imp fun _ x => ⟨x.1, x.2.keep g j v⟩⟩
end Go.Proofs.YtkpfachmakfncaaGreatDoor

namespace Go.Proofs.YtkpfachmakfncaaGreatDoor
open Go.RowKit

set_option maxRecDepth 100000 in
set_option maxHeartbeats 8000000 in
theorem dk_walk (sv cv : Value) (S C : List Int) (seed : ByteArray) (w : World) (hS : PtsAt w.heap.size w sv S) (hC : PtsAt w.heap.size w cv C) (hSl : S.length ≤ 9223372036854775807) (hCl : C.length ≤ 9223372036854775807) (hsd : seed.size ≤ 148000000000000)
    (hG : GlobT w) :
    Calls Tryz.prog 4 #[.agg #[sv, cv, .string seed]] w fun e w' => e = .returned (.bool true) ∧ Below w.heap.size w w' := by
  obtain ⟨a0, c0, rfl⟩ := hS.slice
  obtain ⟨a1, c1, rfl⟩ := hC.slice
  have hA := (Only.refl (fun _ => False) w).alloc (.cells #[.slice a0 S.length c0, .slice a1 C.length c1, .string seed] 36)
  have HSAN := Lib.hid (sanity7_any _ (hG.only hA).glob)
  have HZP := Lib.hid (heap_alloc_last w (.cells #[.slice a0 S.length c0, .slice a1 C.length c1, .string seed] 36))
  have HA := Lib.hid hA
  have HS := Lib.hid hS
  have HC := Lib.hid hC
  have HG := Lib.hid (fun W (hO : Only (fun _ => False) w W) => hG.only hO)
  have hK12 : (keysL S).length ≤ 12 := by have := keysL_len S; omega
  have hF12 : (numsL S C).length ≤ 12 := by have := numsL_len S C; omega
  obtain ⟨K, hK⟩ : ∃ K, keysL S = K := ⟨_, rfl⟩
  obtain ⟨F, hF⟩ : ∃ F, numsL S C = F := ⟨_, rfl⟩
  rw [hK] at hK12
  rw [hF] at hF12
  have HKE := Lib.hid hK
  have HFE := Lib.hid hF
  clear hA hS hC hG hK hF
  go_enter Tryz.func4, Tryz.ntmps4
  go_wp2_with fail
  refine HSAN.out.mono ?_
  rintro e w1 ⟨rfl, hO1⟩
  have HO1 := Lib.hid (HA.out.trans hO1)
  have HZPw1 := Lib.hid (row_still hO1 HZP.out)
  clear hO1 HSAN HZP HA
  go_upto_region 2 with fail
  have p0 : _ = some (Value.slice a0 S.length c0) := cell_of_row _ _ 0 _ _ _ HZPw1.out
  have p1 : _ = some (Value.slice a1 C.length c1) := cell_of_row _ _ 1 _ _ _ HZPw1.out
  have p2 : _ = some (Value.string seed) := cell_of_row _ _ 2 _ _ _ HZPw1.out
  have HKY := Lib.hid (show ∀ w', (w'.cell? ⟨w.heap.size, 0, none⟩ = some (.slice a0 S.length c0) ∧ w'.cell? ⟨w.heap.size, 1, none⟩ = some (.slice a1 C.length c1) ∧ w'.cell? ⟨w.heap.size, 2, none⟩ = some (.string seed) ∧ Only (fun _ => False) w1 w') →
      Calls Tryz.prog 12 #[.agg #[.slice a0 S.length c0, .slice a1 C.length c1, .string seed]] w' (fun e wT => (∃ v, e = .returned v ∧ wT.ownsRow w1.heap.size 3 1 v K.length (irow K)) ∧ (wT.cell? ⟨w.heap.size, 0, none⟩ = some (.slice a0 S.length c0) ∧ wT.cell? ⟨w.heap.size, 1, none⟩ = some (.slice a1 C.length c1) ∧ wT.cell? ⟨w.heap.size, 2, none⟩ = some (.string seed) ∧ Only (fun _ => False) w1 wT)) from by
    rintro w' ⟨s0, s1, s2, hO⟩
    refine (keys_any _ _ S seed w' (HS.out.only (HO1.out.trans hO)) ⟨_, _, _, rfl⟩ hSl).mono ?_
    rintro e wT ⟨v, rfl, hv, hT⟩
    rw [HKE.out] at hv
    exact ⟨⟨v, rfl, own_base hv hO.size⟩, hT.cell s0 (fun h => h), hT.cell s1 (fun h => h), hT.cell s2 (fun h => h), hO.trans hT⟩)
  have HNM := Lib.hid (show ∀ w', (w'.cell? ⟨w.heap.size, 0, none⟩ = some (.slice a0 S.length c0) ∧ w'.cell? ⟨w.heap.size, 1, none⟩ = some (.slice a1 C.length c1) ∧ w'.cell? ⟨w.heap.size, 2, none⟩ = some (.string seed) ∧ Only (fun _ => False) w1 w') →
      Calls Tryz.prog 13 #[.agg #[.slice a0 S.length c0, .slice a1 C.length c1, .string seed]] w' (fun e wT => (∃ v, e = .returned v ∧ wT.ownsRow w'.heap.size 3 1 v F.length (irow F)) ∧ Only (fun _ => False) w' wT ∧ (wT.cell? ⟨w.heap.size, 0, none⟩ = some (.slice a0 S.length c0) ∧ wT.cell? ⟨w.heap.size, 1, none⟩ = some (.slice a1 C.length c1) ∧ wT.cell? ⟨w.heap.size, 2, none⟩ = some (.string seed) ∧ Only (fun _ => False) w1 wT)) from by
    rintro w' ⟨s0, s1, s2, hO⟩
    refine (nums_any _ _ S C seed w' (HC.out.only (HO1.out.trans hO)) ⟨_, _, rfl⟩ hSl hCl).mono ?_
    rintro e wT ⟨v, rfl, hv, hT⟩
    rw [HFE.out] at hv
    exact ⟨⟨v, rfl, hv⟩, hT, hT.cell s0 (fun h => h), hT.cell s1 (fun h => h), hT.cell s2 (fun h => h), hO.trans hT⟩)
  have HKS := Lib.hid (show ∀ W, Only (fun _ => False) w1 W → (W.cell? ⟨w.heap.size, 0, none⟩ = some (.slice a0 S.length c0) ∧ W.cell? ⟨w.heap.size, 1, none⟩ = some (.slice a1 C.length c1) ∧ W.cell? ⟨w.heap.size, 2, none⟩ = some (.string seed) ∧ Only (fun _ => False) w1 W) from fun W h => ⟨h.cell p0 id, h.cell p1 id, h.cell p2 id, h⟩)
  go_cut [4, 5] (fun v6 v7 wx => Duo w1 wx w1.heap.size v6 v7 K F)
  case first =>
    go_region_held3 (fun w' => w'.cell? ⟨w.heap.size, 0, none⟩ = some (.slice a0 S.length c0) ∧ w'.cell? ⟨w.heap.size, 1, none⟩ = some (.slice a1 C.length c1) ∧ w'.cell? ⟨w.heap.size, 2, none⟩ = some (.string seed) ∧ Only (fun _ => False) w1 w')
      (first
        | with_reducible exact HKS.out _ ((Only.refl _ w1).drew)
        | with_reducible exact hSK
        | with_reducible exact hSN)
      (first
        | (go_at_call 12; refine (HKY.out _ (by assumption)).mono ?_; rintro e wK ⟨⟨vK, rfl, hvK⟩, hSK⟩)
        | (go_at_call 13; refine (HNM.out _ (by assumption)).mono ?_; rintro e wN ⟨⟨vN, rfl, hvN⟩, hXN, hSN⟩))
    all_goals (clear HKY HNM HKS)
    all_goals (go_wp2_with fail)
    all_goals (go_meet)
    all_goals (exact ⟨hXN.owns hvK (fun _ _ h => h), own_base hvN hSK.2.2.2.size, fun k hk he => by have := (own_lt hvK hk).1; have := (own_lt hvN he).2; omega, hSN.2.2.2, Nat.le_refl _⟩)
  case rest =>
    have HD := Lib.hid hcut
    generalize wc = w2 at *
    clear hcut HKY HNM HKS p0 p1 p2
    have hO2 := HD.out.only
    have HZPw2 := Lib.hid (row_still hO2 HZPw1.out)
    have HO2 := Lib.hid (HO1.out.trans hO2)
    obtain ⟨a6, c6, rfl⟩ := slice_of_own HD.out.pts
    obtain ⟨a7, c7, rfl⟩ := slice_of_own HD.out.num
    clear hO2
    go_upto_region 3 with fail
    have p0 : _ = some (Value.slice a0 S.length c0) := cell_of_row _ _ 0 _ _ _ HZPw2.out
    have p1 : _ = some (Value.slice a1 C.length c1) := cell_of_row _ _ 1 _ _ _ HZPw2.out
    have p2 : _ = some (Value.string seed) := cell_of_row _ _ 2 _ _ _ HZPw2.out
    have HKY := Lib.hid (show ∀ w', (w'.cell? ⟨w.heap.size, 0, none⟩ = some (.slice a0 S.length c0) ∧ w'.cell? ⟨w.heap.size, 1, none⟩ = some (.slice a1 C.length c1) ∧ w'.cell? ⟨w.heap.size, 2, none⟩ = some (.string seed) ∧ Only (fun _ => False) w2 w') →
        Calls Tryz.prog 12 #[.agg #[.slice a0 S.length c0, .slice a1 C.length c1, .string seed]] w' (fun e wT => (∃ v, e = .returned v ∧ wT.ownsRow w2.heap.size 3 1 v K.length (irow K)) ∧ (wT.cell? ⟨w.heap.size, 0, none⟩ = some (.slice a0 S.length c0) ∧ wT.cell? ⟨w.heap.size, 1, none⟩ = some (.slice a1 C.length c1) ∧ wT.cell? ⟨w.heap.size, 2, none⟩ = some (.string seed) ∧ Only (fun _ => False) w2 wT)) from by
      rintro w' ⟨s0, s1, s2, hO⟩
      refine (keys_any _ _ S seed w' (HS.out.only (HO2.out.trans hO)) ⟨_, _, _, rfl⟩ hSl).mono ?_
      rintro e wT ⟨v, rfl, hv, hT⟩
      rw [HKE.out] at hv
      exact ⟨⟨v, rfl, own_base hv hO.size⟩, hT.cell s0 (fun h => h), hT.cell s1 (fun h => h), hT.cell s2 (fun h => h), hO.trans hT⟩)
    have HNM := Lib.hid (show ∀ w', (w'.cell? ⟨w.heap.size, 0, none⟩ = some (.slice a0 S.length c0) ∧ w'.cell? ⟨w.heap.size, 1, none⟩ = some (.slice a1 C.length c1) ∧ w'.cell? ⟨w.heap.size, 2, none⟩ = some (.string seed) ∧ Only (fun _ => False) w2 w') →
        Calls Tryz.prog 13 #[.agg #[.slice a0 S.length c0, .slice a1 C.length c1, .string seed]] w' (fun e wT => (∃ v, e = .returned v ∧ wT.ownsRow w'.heap.size 3 1 v F.length (irow F)) ∧ Only (fun _ => False) w' wT ∧ (wT.cell? ⟨w.heap.size, 0, none⟩ = some (.slice a0 S.length c0) ∧ wT.cell? ⟨w.heap.size, 1, none⟩ = some (.slice a1 C.length c1) ∧ wT.cell? ⟨w.heap.size, 2, none⟩ = some (.string seed) ∧ Only (fun _ => False) w2 wT)) from by
      rintro w' ⟨s0, s1, s2, hO⟩
      refine (nums_any _ _ S C seed w' (HC.out.only (HO2.out.trans hO)) ⟨_, _, rfl⟩ hSl hCl).mono ?_
      rintro e wT ⟨v, rfl, hv, hT⟩
      rw [HFE.out] at hv
      exact ⟨⟨v, rfl, hv⟩, hT, hT.cell s0 (fun h => h), hT.cell s1 (fun h => h), hT.cell s2 (fun h => h), hO.trans hT⟩)
    have HKS := Lib.hid (show ∀ W, Only (fun _ => False) w2 W → (W.cell? ⟨w.heap.size, 0, none⟩ = some (.slice a0 S.length c0) ∧ W.cell? ⟨w.heap.size, 1, none⟩ = some (.slice a1 C.length c1) ∧ W.cell? ⟨w.heap.size, 2, none⟩ = some (.string seed) ∧ Only (fun _ => False) w2 W) from fun W h => ⟨h.cell p0 id, h.cell p1 id, h.cell p2 id, h⟩)
    go_cut [6, 7] (fun v6 v7 wx => Duo w2 wx w2.heap.size v6 v7 K F)
    case first =>
      go_region_held3 (fun w' => w'.cell? ⟨w.heap.size, 0, none⟩ = some (.slice a0 S.length c0) ∧ w'.cell? ⟨w.heap.size, 1, none⟩ = some (.slice a1 C.length c1) ∧ w'.cell? ⟨w.heap.size, 2, none⟩ = some (.string seed) ∧ Only (fun _ => False) w2 w')
        (first
          | with_reducible exact HKS.out _ ((Only.refl _ w2).drew)
          | with_reducible exact hSK
          | with_reducible exact hSN)
        (first
          | (go_at_call 12; refine (HKY.out _ (by assumption)).mono ?_; rintro e wK ⟨⟨vK, rfl, hvK⟩, hSK⟩)
          | (go_at_call 13; refine (HNM.out _ (by assumption)).mono ?_; rintro e wN ⟨⟨vN, rfl, hvN⟩, hXN, hSN⟩))
      all_goals (clear HKY HNM HKS)
      all_goals (go_wp2_with fail)
      all_goals (go_meet)
      all_goals (exact ⟨hXN.owns hvK (fun _ _ h => h), own_base hvN hSK.2.2.2.size, fun k hk he => by have := (own_lt hvK hk).1; have := (own_lt hvN he).2; omega, hSN.2.2.2, Nat.le_refl _⟩)
    case rest =>
      have HE := Lib.hid hcut
      generalize wc = w3 at *
      clear hcut HKY HNM HKS p0 p1 p2
      have hO3 := HE.out.only
      have HZPw3 := Lib.hid (row_still hO3 HZPw2.out)
      have HO3 := Lib.hid (HO2.out.trans hO3)
      have HD3 := Lib.hid (HD.out.frame hO3)
      obtain ⟨a8, c8, rfl⟩ := slice_of_own HE.out.pts
      obtain ⟨a9, c9, rfl⟩ := slice_of_own HE.out.num
      have hsz23 := hO3.size
      clear hO3 HD
      have p2 : _ = some (Value.string seed) := cell_of_row _ _ 2 _ _ _ HZPw3.out
      have HPD := Lib.hid (pdeal_any _ _ F K seed w3 (pts_of_own HD3.out.num (by omega)) (pts_of_own HD3.out.pts (by omega)) (by omega) (by omega) hsd (HG.out w3 HO3.out).glob)
      have HR1 := Lib.hid (dealD_R F K seed)
      have H16 := Lib.hid (dealD_16 F K seed)
      have HPT := Lib.hid (dealD_pt F K seed)
      have HTS := Lib.hid (text_small F K seed hF12 hK12)
      obtain ⟨hl1, hl2⟩ := dealD_len F K seed
      obtain ⟨ok1, hok1⟩ : ∃ b, dealOk F K = b := ⟨_, rfl⟩
      obtain ⟨d1, hd1⟩ : ∃ d, dealD F K seed = d := ⟨_, rfl⟩
      rw [hok1, hd1] at HPD
      rw [hd1] at HR1 H16 HPT HTS hl1 hl2
      have HOK := Lib.hid hok1
      have HDD := Lib.hid hd1
      clear hok1 hd1
      go_wp2_with fail
      refine HPD.out.mono ?_
      rintro e w4 ⟨hO4, c0d, c2d, rfl, hD4⟩
      obtain ⟨b0, kb0, rfl⟩ := slice_of_own hD4.cm
      obtain ⟨b2, kb2, rfl⟩ := slice_of_own hD4.bx
      have HO4 := Lib.hid hO4
      have HD4 := Lib.hid hD4
      have hsz34 := hO4.size
      have HN5 := Lib.hid (heap_alloc_last w4 (.cells #[.slice b0 d1.cm.length kb0, .int .i64 d1.pt, .slice b2 d1.bx.length kb2] 25))
      have HA5 := Lib.hid ((Only.refl (fun _ => False) w4).alloc (.cells #[.slice b0 d1.cm.length kb0, .int .i64 d1.pt, .slice b2 d1.bx.length kb2] 25))
      have hsz45 : w4.heap.size < (w4.alloc (.cells #[.slice b0 d1.cm.length kb0, .int .i64 d1.pt, .slice b2 d1.bx.length kb2] 25)).heap.size := by rw [World.size_alloc]; exact Nat.lt_succ_self _
      have HDL5 := Lib.hid (fun W (hO : Only (fun _ => False) (w4.alloc (.cells #[.slice b0 d1.cm.length kb0, .int .i64 d1.pt, .slice b2 d1.bx.length kb2] 25)) W) => (hD4.at (by omega) (by omega)).only (((Only.refl (fun _ => False) w4).alloc (.cells #[.slice b0 d1.cm.length kb0, .int .i64 d1.pt, .slice b2 d1.bx.length kb2] 25)).trans hO))
      clear HPD hO4 hD4 p2
      go_wp2_with (first | (refine wpList_store_row rfl 25 _ _ rfl w4.heap.size #[.slice b0 d1.cm.length kb0, .int .i64 d1.pt, .slice b2 d1.bx.length kb2] rfl rfl 25 _ (heap_alloc_last w4 _) Tryz.infoD rfl (dl_one _ _ _ _ _ _ _) ?_; rw [World.setRow_alloc_new]) | (refine wpList_load_row rfl 25 _ rfl w4.heap.size rfl 25 #[.slice b0 d1.cm.length kb0, .int .i64 d1.pt, .slice b2 d1.bx.length kb2] (0, 0) _ HN5.out Tryz.underlying25 rfl Tryz.infoD ?_))
      generalize w4.alloc (.cells #[.slice b0 d1.cm.length kb0, .int .i64 d1.pt, .slice b2 d1.bx.length kb2] 25) = w5 at *
      refine (rcopy_any b0 b2 kb0 kb2 d1 w5 (HDL5.out w5 (Only.refl _ _)) (by omega) (by omega)).mono ?_
      rintro e w6 ⟨⟨c0b, c2b, rfl, hB6⟩, hO6⟩
      obtain ⟨f0, kf0, rfl⟩ := slice_of_own hB6.cm
      obtain ⟨f2, kf2, rfl⟩ := slice_of_own hB6.bx
      have HB6 := Lib.hid hB6
      have hsz56 := hO6.size
      have HN6 := Lib.hid (row_still (hO6.trans ((Only.refl (fun _ => False) w6).alloc (.cells #[.slice f0 d1.cm.length kf0, .int .i64 d1.pt, .slice f2 d1.bx.length kf2] 25))) HN5.out)
      have HM7 := Lib.hid (heap_alloc_last w6 (.cells #[.slice f0 d1.cm.length kf0, .int .i64 d1.pt, .slice f2 d1.bx.length kf2] 25))
      have HA7 := Lib.hid (hO6.trans ((Only.refl (fun _ => False) w6).alloc (.cells #[.slice f0 d1.cm.length kf0, .int .i64 d1.pt, .slice f2 d1.bx.length kf2] 25)))
      have HBL7 := Lib.hid (fun W (hO : Only (fun _ => False) (w6.alloc (.cells #[.slice f0 d1.cm.length kf0, .int .i64 d1.pt, .slice f2 d1.bx.length kf2] 25)) W) => (hB6.at (by omega) (by omega)).only (((Only.refl (fun _ => False) w6).alloc (.cells #[.slice f0 d1.cm.length kf0, .int .i64 d1.pt, .slice f2 d1.bx.length kf2] 25)).trans hO))
      have HA67 := Lib.hid ((Only.refl (fun _ => False) w6).alloc (.cells #[.slice f0 d1.cm.length kf0, .int .i64 d1.pt, .slice f2 d1.bx.length kf2] 25))
      have hsz67 : w6.heap.size < (w6.alloc (.cells #[.slice f0 d1.cm.length kf0, .int .i64 d1.pt, .slice f2 d1.bx.length kf2] 25)).heap.size := by rw [World.size_alloc]; exact Nat.lt_succ_self _
      clear hB6 hO6
      go_wp2_with (first | (refine wpList_store_row rfl 25 _ _ rfl w6.heap.size #[.slice f0 d1.cm.length kf0, .int .i64 d1.pt, .slice f2 d1.bx.length kf2] rfl rfl 25 _ (heap_alloc_last w6 _) Tryz.infoD rfl (dl_one _ _ _ _ _ _ _) ?_; rw [World.setRow_alloc_new]) | (refine wpList_load_row rfl 25 _ rfl w4.heap.size rfl 25 #[.slice b0 d1.cm.length kb0, .int .i64 d1.pt, .slice b2 d1.bx.length kb2] (0, 0) _ HN6.out Tryz.underlying25 rfl Tryz.infoD ?_))
      generalize w6.alloc (.cells #[.slice f0 d1.cm.length kf0, .int .i64 d1.pt, .slice f2 d1.bx.length kf2] 25) = w7 at *
      refine (check_is b0 b2 kb0 kb2 d1 K.length _ w7 (HDL5.out w7 HA7.out) (by omega) (by omega) (by omega) rfl).mono ?_
      rintro e w8 ⟨rfl, hO8⟩
      have HO8 := Lib.hid (HA7.out.trans hO8)
      have HM8 := Lib.hid (row_still hO8 HM7.out)
      have HN8 := Lib.hid (row_still hO8 HN6.out)
      have HBC := Lib.hid hO8
      have HBL8 := Lib.hid (fun W (hO : Only (fun _ => False) w8 W) => HBL7.out W (hO8.trans hO))
      have HO38 := Lib.hid (HO4.out.trans (HA5.out.trans HO8.out))
      have HG8 := Lib.hid (fun W (hO : Only (fun _ => False) w8 W) => HG.out W (HO3.out.trans (HO38.out.trans hO)))
      have hsz78 := hO8.size
      clear hO8 HM7 HN6 HBL7
      generalize chkB d1 K.length = bb at *
      go_upto_region 7 with fail
      have x0 : _ = some (Value.slice b0 d1.cm.length kb0) := cell_of_row _ _ 0 _ _ _ HN8.out
      have x1 : _ = some (Value.int .i64 d1.pt) := cell_of_row _ _ 1 _ _ _ HN8.out
      have x2 : _ = some (Value.slice b2 d1.bx.length kb2) := cell_of_row _ _ 2 _ _ _ HN8.out
      have HKD := Lib.hid (show ∀ W, Only (fun _ => False) w8 W → W.cell? ⟨w4.heap.size, 0, none⟩ = some (.slice b0 d1.cm.length kb0) ∧ W.cell? ⟨w4.heap.size, 1, none⟩ = some (.int .i64 d1.pt) ∧ W.cell? ⟨w4.heap.size, 2, none⟩ = some (.slice b2 d1.bx.length kb2) ∧ Only (fun _ => False) w8 W from fun W h => ⟨h.cell x0 id, h.cell x1 id, h.cell x2 id, h⟩)
      have HCMP := Lib.hid (show ∀ W, W.cell? ⟨w4.heap.size, 0, none⟩ = some (.slice b0 d1.cm.length kb0) ∧ W.cell? ⟨w4.heap.size, 1, none⟩ = some (.int .i64 d1.pt) ∧ W.cell? ⟨w4.heap.size, 2, none⟩ = some (.slice b2 d1.bx.length kb2) ∧ Only (fun _ => False) w8 W → Calls Tryz.prog 18 #[.int .i64 1, .agg #[.slice b0 d1.cm.length kb0, .int .i64 d1.pt, .slice b2 d1.bx.length kb2], .int .i64 0] W (fun e w' => (∃ ci ck cc cz : Int, e = .returned (.agg #[.int .i64 ci, .int .i64 ck, .int .i64 cc, .int .i64 cz])) ∧ w'.cell? ⟨w4.heap.size, 0, none⟩ = some (.slice b0 d1.cm.length kb0) ∧ w'.cell? ⟨w4.heap.size, 1, none⟩ = some (.int .i64 d1.pt) ∧ w'.cell? ⟨w4.heap.size, 2, none⟩ = some (.slice b2 d1.bx.length kb2) ∧ Only (fun _ => False) w8 w') from by
        rintro W ⟨_, _, _, hO⟩
        rcases Nat.eq_zero_or_pos d1.bx.length with hb | hb
        · exact (complain_no b0 b2 kb0 kb2 d1 1 W hb).mono fun e w' h => ⟨⟨_, _, _, _, h.1⟩, HKD.out _ (hO.trans h.2)⟩
        · exact (complain_yes b0 b2 kb0 kb2 d1 1 0 W (by omega) hb (HPT.out hb) (HG8.out W hO).glob).mono fun e w' h => ⟨⟨_, _, _, _, h.1⟩, HKD.out _ (hO.trans h.2)⟩)
      have HJDG := Lib.hid (show ∀ (ci ck cc cz : Int) W, W.cell? ⟨w4.heap.size, 0, none⟩ = some (.slice b0 d1.cm.length kb0) ∧ W.cell? ⟨w4.heap.size, 1, none⟩ = some (.int .i64 d1.pt) ∧ W.cell? ⟨w4.heap.size, 2, none⟩ = some (.slice b2 d1.bx.length kb2) ∧ Only (fun _ => False) w8 W → Calls Tryz.prog 17 #[.slice a6 K.length c6, .agg #[.slice b0 d1.cm.length kb0, .int .i64 d1.pt, .slice b2 d1.bx.length kb2], .agg #[.int .i64 ci, .int .i64 ck, .int .i64 cc, .int .i64 cz]] W (fun e w' => (∃ j : Int, e = .returned (.int .i64 j)) ∧ w'.cell? ⟨w4.heap.size, 0, none⟩ = some (.slice b0 d1.cm.length kb0) ∧ w'.cell? ⟨w4.heap.size, 1, none⟩ = some (.int .i64 d1.pt) ∧ w'.cell? ⟨w4.heap.size, 2, none⟩ = some (.slice b2 d1.bx.length kb2) ∧ Only (fun _ => False) w8 w') from by
        rintro ci ck cc cz W ⟨_, _, _, hO⟩
        exact (judge_any a6 b0 b2 c6 kb0 kb2 K d1 ci ck cc cz W ((pts_of_own HD3.out.pts (by omega)).only (HO38.out.trans hO)) (HDL5.out W (HO8.out.trans hO)) (by omega) (by omega) (by omega) (fun i => Nat.le_trans (H16.out i) (by decide)) (HG8.out W hO).glob).mono fun e w' h => ⟨⟨_, h.1⟩, HKD.out _ (hO.trans h.2)⟩)
      go_region_held3 (fun W => W.cell? ⟨w4.heap.size, 0, none⟩ = some (.slice b0 d1.cm.length kb0) ∧ W.cell? ⟨w4.heap.size, 1, none⟩ = some (.int .i64 d1.pt) ∧ W.cell? ⟨w4.heap.size, 2, none⟩ = some (.slice b2 d1.bx.length kb2) ∧ Only (fun _ => False) w8 W)
        (first
          | with_reducible exact HKD.out _ ((Only.refl _ w8).drew)
          | with_reducible exact hSC
          | with_reducible exact hSJ)
        (first
          | (go_at_call 18; refine (HCMP.out _ (by assumption)).mono ?_; rintro e wC ⟨⟨ci, ck, cc, cz, rfl⟩, hSC⟩)
          | (go_at_call 17; refine (HJDG.out _ _ _ _ _ (by assumption)).mono ?_; rintro e wJ ⟨⟨jj, rfl⟩, hSJ⟩))
      have HOJ := Lib.hid hSJ.2.2.2
      clear hSJ HCMP HJDG HKD hSC x0 x1 x2
      generalize hwj : wJ = w9 at *
      clear hwj
      have HNJ := Lib.hid (row_still HOJ.out HN8.out)
      have HOPN := Lib.hid (show Calls Tryz.prog 19 #[.int .i64 1, .agg #[.slice b0 d1.cm.length kb0, .int .i64 d1.pt, .slice b2 d1.bx.length kb2], .int .i64 0] w9 (fun e w' => (∃ sx sy sb, e = .returned (.tuple #[.agg #[.int .i64 sx, .int .i64 sy], .bool sb])) ∧ Only (fun _ => False) w9 w') from by
        rcases Nat.eq_zero_or_pos d1.bx.length with hb | hb
        · exact (open_no b0 b2 kb0 kb2 d1 1 0 w9 (by omega) (.inr (by omega))).mono fun e w' h => ⟨⟨_, _, _, h.1⟩, h.2⟩
        · exact (open_yes b0 b2 kb0 kb2 d1 1 0 w9 (HDL5.out w9 (HO8.out.trans HOJ.out)) (by omega) (by omega) hb (Nat.le_trans (H16.out 0) (by decide)) (HG8.out w9 HOJ.out).glob).mono fun e w' h => ⟨⟨_, _, _, h.1⟩, h.2⟩)
      go_wp2_with (first | (refine wpList_load_row rfl 25 _ rfl w4.heap.size rfl 25 #[.slice b0 d1.cm.length kb0, .int .i64 d1.pt, .slice b2 d1.bx.length kb2] (0, 0) _ HNJ.out Tryz.underlying25 rfl Tryz.infoD ?_))
      refine HOPN.out.mono ?_
      rintro e w10 ⟨⟨sx, sy, sb, rfl⟩, hO10⟩
      have HOK10 := Lib.hid (HOJ.out.trans hO10)
      have HN10 := Lib.hid (row_still HOK10.out HN8.out)
      have HTX := Lib.hid (textW_any b0 b2 kb0 kb2 d1 w10 (HDL5.out w10 (HO8.out.trans HOK10.out)) (by omega) (by omega) ⟨intsW_R64 HR1.out.1, HR1.out.2.1, HR1.out.2.2⟩ (fun i => Nat.le_trans (H16.out i) (by decide)) (HG8.out w10 HOK10.out).glob)
      clear hO10 HOPN HOJ HNJ
      obtain ⟨s, hs⟩ : ∃ s, textB d1 = s := ⟨_, rfl⟩
      have HRS := Lib.hid (fun (d' : Dl) (b' : Bool) (h : ReadsD s d' b') => show d1 = d' ∧ true = b' from readsD_same (readsD_yes (p := d1) ⟨hs.symm, HR1.out⟩) h)
      rw [hs] at HTX HTS
      clear hs
      go_wp2_with (first | (refine wpList_load_row rfl 25 _ rfl w4.heap.size rfl 25 #[.slice b0 d1.cm.length kb0, .int .i64 d1.pt, .slice b2 d1.bx.length kb2] (0, 0) _ HN10.out Tryz.underlying25 rfl Tryz.infoD ?_))
      refine HTX.out.mono ?_
      rintro e w11 ⟨rfl, hO11⟩
      have HO11 := Lib.hid (HOK10.out.trans hO11)
      have hsz811 := HO11.out.size
      clear hO11 HTX
      go_wp2_with fail
      refine (dread_any s w11 (by have := HTS.out; omega) (HG8.out w11 HO11.out)).mono ?_
      rintro e w12 ⟨g0, g2, d', ok', rfl, hdo, hrd, hO12⟩
      obtain ⟨rfl, rfl⟩ := HRS.out _ _ hrd
      obtain ⟨g0, kg0, rfl⟩ := slice_of_own hdo.cm
      obtain ⟨g2, kg2, rfl⟩ := slice_of_own hdo.bx
      have HDO := Lib.hid hdo
      have HX13 := Lib.hid (heap_alloc_last w12 (.cells #[.slice g0 d1.cm.length kg0, .int .i64 d1.pt, .slice g2 d1.bx.length kg2] 25))
      have HA13 := Lib.hid ((Only.refl (fun _ => False) w12).alloc (.cells #[.slice g0 d1.cm.length kg0, .int .i64 d1.pt, .slice g2 d1.bx.length kg2] 25))
      have HO13 := Lib.hid (HO11.out.trans (hO12.trans HA13.out))
      have HN13 := Lib.hid (row_still HO13.out HN8.out)
      have HM13 := Lib.hid (row_still HO13.out HM8.out)
      have hsz1112 := hO12.size
      clear hO12 hrd hdo HRS
      have x0 : _ = some (Value.slice b0 d1.cm.length kb0) := cell_of_row _ _ 0 _ _ _ HN13.out
      have x1 : _ = some (Value.int .i64 d1.pt) := cell_of_row _ _ 1 _ _ _ HN13.out
      have x2 : _ = some (Value.slice b2 d1.bx.length kb2) := cell_of_row _ _ 2 _ _ _ HN13.out
      have y0 : _ = some (Value.slice f0 d1.cm.length kf0) := cell_of_row _ _ 0 _ _ _ HM13.out
      have y1 : _ = some (Value.int .i64 d1.pt) := cell_of_row _ _ 1 _ _ _ HM13.out
      have y2 : _ = some (Value.slice f2 d1.bx.length kf2) := cell_of_row _ _ 2 _ _ _ HM13.out
      have HSM := Lib.hid (rsame7_eq b0 b2 f0 f2 kb0 kb2 kf0 kf2 d1 _ (HDL5.out _ (HO8.out.trans HO13.out)) (HBL8.out _ HO13.out) (by omega) (by omega))
      go_wp2_with (first | (refine wpList_store_row rfl 25 _ _ rfl w12.heap.size #[.slice g0 d1.cm.length kg0, .int .i64 d1.pt, .slice g2 d1.bx.length kg2] rfl rfl 25 _ (heap_alloc_last w12 _) Tryz.infoD rfl (dl_one _ _ _ _ _ _ _) ?_; rw [World.setRow_alloc_new]))
      refine HSM.out.mono ?_
      rintro e w14 ⟨rfl, hO14⟩
      have HO14 := Lib.hid (HO13.out.trans hO14)
      have HX14 := Lib.hid (row_still hO14 HX13.out)
      have HN14 := Lib.hid (row_still hO14 HN13.out)
      have HM14 := Lib.hid (row_still hO14 HM13.out)
      obtain ⟨TT, hTT⟩ : ∃ TT : Nat → Prop, TT = fun i => (Value.slice g0 d1.cm.length kg0).ownBlock = some i ∨ (Value.slice g2 d1.bx.length kg2).ownBlock = some i ∨ (Value.slice b0 d1.cm.length kb0).ownBlock = some i := ⟨_, rfl⟩
      have HT0 := Lib.hid (show ∀ g, g0 = some ⟨g, 0, none⟩ → TT g from fun g e => by rw [hTT]; exact .inl (by rw [e]; rfl))
      have HT2 := Lib.hid (show ∀ g, g2 = some ⟨g, 0, none⟩ → TT g from fun g e => by rw [hTT]; exact .inr (.inl (by rw [e]; rfl)))
      have HTB := Lib.hid (show ∀ g, b0 = some ⟨g, 0, none⟩ → TT g from fun g e => by rw [hTT]; exact .inr (.inr (by rw [e]; rfl)))
      have HTI := Lib.hid (show ∀ i, TT i → w3.heap.size ≤ i ∧ (i < w4.heap.size ∨ (w11.heap.size ≤ i ∧ i < w12.heap.size)) from fun i hi => by
        rw [hTT] at hi
        have h1 := HD4.out
        rcases hi with hi | hi | hi
        · have := own_lt HDO.out.cm hi; omega
        · have := own_lt HDO.out.bx hi; omega
        · have := own_lt HD4.out.cm hi; omega)
      have HLT := Lib.hid (show w4.heap.size < w5.heap.size ∧ w5.heap.size ≤ w6.heap.size ∧ w6.heap.size < w7.heap.size ∧ w7.heap.size ≤ w8.heap.size ∧ w8.heap.size ≤ w11.heap.size ∧ w11.heap.size ≤ w12.heap.size ∧ w2.heap.size ≤ w3.heap.size from ⟨hsz45, hsz56, hsz67, hsz78, hsz811, hsz1112, hsz23⟩)
      have HK0 := Lib.hid (show KpAt TT w14 w14 g0 g2 b0 d1.cm.length d1.bx.length from by
        have hO := HA13.out.trans hO14
        have hO4 := HA5.out.trans (HO8.out.trans HO14.out)
        refine ⟨Only.refl _ _, fun hn => ?_, fun hn => ?_, fun hn => ?_⟩
        · obtain ⟨g, e, r, _⟩ := RowOk.of_own (hO.owns HDO.out.cm (fun _ _ h => h)) hn
          exact ⟨g, e, r⟩
        · obtain ⟨g, e, r, _⟩ := RowOk.of_own (hO.owns HDO.out.bx (fun _ _ h => h)) hn
          exact ⟨g, e, r⟩
        · obtain ⟨g, e, r, _⟩ := RowOk.of_own (hO4.owns HD4.out.cm (fun _ _ h => h)) hn
          exact ⟨g, e, r⟩)
      have HRX := Lib.hid (fun W (hO : Only TT w14 W) => (hO.block _ (Array.getElem?_eq_some_iff.1 HX14.out).1 (fun h => by have := HTI.out _ h; have := HLT.out; omega)).trans HX14.out)
      have HRN := Lib.hid (fun W (hO : Only TT w14 W) => (hO.block _ (Array.getElem?_eq_some_iff.1 HN14.out).1 (fun h => by have := HTI.out _ h; have := HLT.out; omega)).trans HN14.out)
      have HRM := Lib.hid (fun W (hO : Only TT w14 W) => (hO.block _ (Array.getElem?_eq_some_iff.1 HM14.out).1 (fun h => by have := HTI.out _ h; have := HLT.out; omega)).trans HM14.out)
      have HO314 := Lib.hid (HO38.out.trans HO14.out)
      have HRP := Lib.hid (fun W (hO : Only TT w14 W) => (hO.block _ (Array.getElem?_eq_some_iff.1 (row_still HO314.out HZPw3.out)).1 (fun h => by have := (HTI.out _ h).1; have := (Array.getElem?_eq_some_iff.1 HZPw2.out).1; have := HLT.out; omega)).trans (row_still HO314.out HZPw3.out))
      have HWW := Lib.hid (fun W (hO : Only TT w14 W) => show Only (fun _ => False) w W from (HO3.out.trans HO314.out).trans' hO (fun i hi e => by have := (HTI.out _ e).1; have := HO3.out.size; omega))
      have HBL := Lib.hid (fun W (hO : Only TT w14 W) => by
        have h1 := HA67.out.trans (HBC.out.trans HO14.out)
        have h2 : DlOwn w5.heap.size W (.slice f0 d1.cm.length kf0) (.slice f2 d1.bx.length kf2) d1 := ⟨hO.owns (h1.owns HB6.out.cm (fun _ _ h => h)) (fun i hi e => by have := own_lt HB6.out.cm hi; have := HTI.out _ e; have := HLT.out; omega), hO.owns (h1.owns HB6.out.bx (fun _ _ h => h)) (fun i hi e => by have := own_lt HB6.out.bx hi; have := HTI.out _ e; have := HLT.out; omega)⟩
        exact h2.at (by omega) (by omega))
      have HKY := Lib.hid (fun W (hO : Only TT w14 W) => pts_of_own (hO.owns (HO314.out.owns HD3.out.pts (fun _ _ h => h)) (fun i hi e => by have := own_lt HD3.out.pts hi; have := (HTI.out _ e).1; omega)) (show K.length ≤ _ by omega))
      have HKF := Lib.hid (fun W (hO : Only TT w14 W) => pts_of_own (hO.owns (HO314.out.owns HD3.out.num (fun _ _ h => h)) (fun i hi e => by have := own_lt HD3.out.num hi; have := (HTI.out _ e).1; omega)) (show F.length ≤ _ by omega))
      have HEY := Lib.hid (fun W (hO : Only TT w14 W) => pts_of_own (hO.owns (HO314.out.owns HE.out.pts (fun _ _ h => h)) (fun i hi e => by have := own_lt HE.out.pts hi; have := (HTI.out _ e).1; omega)) (show K.length ≤ _ by omega))
      have HEF := Lib.hid (fun W (hO : Only TT w14 W) => pts_of_own (hO.owns (HO314.out.owns HE.out.num (fun _ _ h => h)) (fun i hi e => by have := own_lt HE.out.num hi; have := (HTI.out _ e).1; omega)) (show F.length ≤ _ by omega))
      clear hO14 x0 x1 x2 y0 y1 y2 hTT HSM
      have y0 := cell_of_row _ _ 0 _ _ _ HX14.out
      go_wp2_with fail
      go_loopw [67] (fun iv wr => ∃ k : Nat, iv = .int .i64 k ∧ k ≤ d1.cm.length ∧ KpAt TT w14 wr g0 g2 b0 d1.cm.length d1.bx.length) (fun iv _ => d1.cm.length - (intOf iv).toNat)
      case atStart => exact ⟨0, rfl, Nat.zero_le _, HK0.out⟩
      case round =>
        clear HK0
        obtain ⟨k, rfl, hk, hKp⟩ := hrel
        have HKp := Lib.hid hKp
        by_cases hlt : k < d1.cm.length
        · obtain ⟨g, hg, hrow⟩ := hKp.r1 (by omega)
          have hTg := HT0.out g hg
          obtain ⟨⟨v, hcv⟩, hfz⟩ := hrow.cell hlt
          have hgl := hrow.lt
          have f0 := cell_of_row _ _ 0 _ _ _ (HRX.out wr hKp.only)
          have i1 : (k : Int) < d1.cm.length := by omega
          have i2 : 0 ≤ (k : Int) := by omega
          have HKN := Lib.hid (hKp.put (j := k) (v := .int .i64 0) hTg)
          have HG := Lib.hid hg
          clear hKp hrow hk
          change _ = some (Value.slice g0 d1.cm.length _) at f0
          rw [hg] at f0
          go_wp2
          go_roundw
          case rel => exact ⟨k + 1, by go_num, by omega, HKN.out⟩
          case measure => simp [intOf]; omega
        · obtain rfl : k = d1.cm.length := by omega
          have i1 : ¬ (d1.cm.length : Int) < d1.cm.length := by omega
          clear hlt hk
          have y2 := cell_of_row _ _ 2 _ _ _ (HRX.out wr HKp.out.only)
          go_wp2_with fail
          clear y2
          go_loopw [78] (fun iv wr => ∃ k : Nat, iv = .int .i64 k ∧ k ≤ d1.bx.length ∧ KpAt TT w14 wr g0 g2 b0 d1.cm.length d1.bx.length) (fun iv _ => d1.bx.length - (intOf iv).toNat)
          case atStart => exact ⟨0, rfl, Nat.zero_le _, HKp.out⟩
          case round =>
            clear HKp
            obtain ⟨k, rfl, hk, hKp⟩ := hrel
            have HKp := Lib.hid hKp
            by_cases hlt : k < d1.bx.length
            · obtain ⟨g, hg, hrow⟩ := hKp.r2 (by omega)
              have hTg := HT2.out g hg
              obtain ⟨⟨v, hcv⟩, hfz⟩ := hrow.cell hlt
              have hgl := hrow.lt
              have f0 := cell_of_row _ _ 2 _ _ _ (HRX.out wr hKp.only)
              have i1 : (k : Int) < d1.bx.length := by omega
              have i2 : 0 ≤ (k : Int) := by omega
              have HKN := Lib.hid (hKp.put (j := k) (v := .string ⟨#[]⟩) hTg)
              have HG := Lib.hid hg
              clear hKp hrow hk
              change _ = some (Value.slice g2 d1.bx.length _) at f0
              rw [hg] at f0
              go_wp2
              go_roundw
              case rel => exact ⟨k + 1, by go_num, by omega, HKN.out⟩
              case measure => simp [intOf]; omega
            · obtain rfl : k = d1.bx.length := by omega
              have i1 : ¬ (d1.bx.length : Int) < d1.bx.length := by omega
              clear hlt hk
              have y3 := cell_of_row _ _ 0 _ _ _ (HRN.out wr HKp.out.only)
              go_wp2_with fail
              clear y3
              go_loopw [89] (fun iv wr => ∃ k : Nat, iv = .int .i64 k ∧ k ≤ d1.cm.length ∧ KpAt TT w14 wr g0 g2 b0 d1.cm.length d1.bx.length) (fun iv _ => d1.cm.length - (intOf iv).toNat)
              case atStart => exact ⟨0, rfl, Nat.zero_le _, HKp.out⟩
              case round =>
                clear HKp
                obtain ⟨k, rfl, hk, hKp⟩ := hrel
                have HKp := Lib.hid hKp
                by_cases hlt : k < d1.cm.length
                · obtain ⟨g, hg, hrow⟩ := hKp.r3 (by omega)
                  have hTg := HTB.out g hg
                  obtain ⟨⟨v, hcv⟩, hfz⟩ := hrow.cell hlt
                  have hgl := hrow.lt
                  have f0 := cell_of_row _ _ 0 _ _ _ (HRN.out wr hKp.only)
                  have i1 : (k : Int) < d1.cm.length := by omega
                  have i2 : 0 ≤ (k : Int) := by omega
                  have HKN := Lib.hid (hKp.put (j := k) (v := .int .i64 5) hTg)
                  have HG := Lib.hid hg
                  clear hKp hrow hk
                  change _ = some (Value.slice b0 d1.cm.length _) at f0
                  rw [hg] at f0
                  go_wp2
                  go_roundw
                  case rel => exact ⟨k + 1, by go_num, by omega, HKN.out⟩
                  case measure => simp [intOf]; omega
                · obtain rfl : k = d1.cm.length := by omega
                  have i1 : ¬ (d1.cm.length : Int) < d1.cm.length := by omega
                  clear hlt hk
                  go_wp2_with fail
                  obtain ⟨wq99, hwq99⟩ : ∃ wq : World, wq = wr := ⟨_, rfl⟩
                  subst hwq99
                  go_loopw [99] (fun iv wr => ∃ k : Nat, iv = .int .i64 k ∧ k ≤ K.length ∧ Only TT w14 wr) (fun iv _ => K.length - (intOf iv).toNat)
                  case atStart => exact ⟨0, rfl, Nat.zero_le _, HKp.out.only⟩
                  case round =>
                    clear HKp
                    obtain ⟨k, rfl, hk, hO⟩ := hrel
                    have HKp := Lib.hid hO
                    by_cases hlt : k < K.length
                    · obtain ⟨bc, oc, rfl, hb, hl0, hcp1, hcp2, hcell⟩ := (HKY.out wr hO).cellAt hlt
                      obtain ⟨be, oe, rfl, he, hle0, hcpe1, hcpe2, hcelle⟩ := (HEY.out wr hO).cellAt hlt
                      generalize ptAt K k = z at *
                      have i1 : (k : Int) < K.length := by omega
                      have i2 : 0 ≤ (k : Int) := by omega
                      clear hl0 hle0 hO hk
                      go_wp2_with fail
                      go_quiet (fail)
                      go_wp2_with fail
                      go_roundw
                      case rel => exact ⟨k + 1, by go_num, by omega, HKp.out.drewN _⟩
                      case measure => simp [intOf]; omega
                    · obtain rfl : k = K.length := by omega
                      have i1 : ¬ (K.length : Int) < K.length := by omega
                      clear hlt hk hO
                      go_wp2_with fail
                      obtain ⟨wq114, hwq114⟩ : ∃ wq : World, wq = wr := ⟨_, rfl⟩
                      subst hwq114
                      go_loopw [114] (fun iv wr => ∃ k : Nat, iv = .int .i64 k ∧ k ≤ F.length ∧ Only TT w14 wr) (fun iv _ => F.length - (intOf iv).toNat)
                      case atStart => exact ⟨0, rfl, Nat.zero_le _, HKp.out⟩
                      case round =>
                        clear HKp
                        obtain ⟨k, rfl, hk, hO⟩ := hrel
                        have HKp := Lib.hid hO
                        by_cases hlt : k < F.length
                        · obtain ⟨bc, oc, rfl, hb, hl0, hcp1, hcp2, hcell⟩ := (HKF.out wr hO).cellAt hlt
                          obtain ⟨be, oe, rfl, he, hle0, hcpe1, hcpe2, hcelle⟩ := (HEF.out wr hO).cellAt hlt
                          generalize ptAt F k = z at *
                          have i1 : (k : Int) < F.length := by omega
                          have i2 : 0 ≤ (k : Int) := by omega
                          clear hl0 hle0 hO hk
                          go_wp2_with fail
                          go_quiet (fail)
                          go_wp2_with fail
                          go_roundw
                          case rel => exact ⟨k + 1, by go_num, by omega, HKp.out.drewN _⟩
                          case measure => simp [intOf]; omega
                        · obtain rfl : k = F.length := by omega
                          have i1 : ¬ (F.length : Int) < F.length := by omega
                          clear hlt hk hO
                          have p2 : _ = some (Value.string seed) := cell_of_row _ _ 2 _ _ _ (HRP.out wr HKp.out)
                          have HPD := pdeal_any _ _ F K seed wr (HKF.out wr HKp.out) (HKY.out wr HKp.out) (by omega) (by omega) hsd (HG.out wr (HWW.out wr HKp.out)).glob
                          rw [HDD.out, HOK.out] at HPD
                          have HPD := Lib.hid HPD
                          go_wp2_with fail
                          refine HPD.out.mono ?_
                          rintro e w15 ⟨hO15, c0z, c2z, rfl, hDz⟩
                          obtain ⟨m0, km0, rfl⟩ := slice_of_own hDz.cm
                          obtain ⟨m2, km2, rfl⟩ := slice_of_own hDz.bx
                          have HY16 := Lib.hid (heap_alloc_last w15 (.cells #[.slice m0 d1.cm.length km0, .int .i64 d1.pt, .slice m2 d1.bx.length km2] 25))
                          have HO16 := Lib.hid ((HKp.out.trans (hO15.mono (fun _ _ h => h.elim))).alloc (.cells #[.slice m0 d1.cm.length km0, .int .i64 d1.pt, .slice m2 d1.bx.length km2] 25))
                          have HSM := Lib.hid (rsame7_eq m0 m2 f0 f2 km0 km2 kf0 kf2 d1 _ ((hDz.at (by omega) (by omega)).only ((Only.refl (fun _ => False) w15).alloc (.cells #[.slice m0 d1.cm.length km0, .int .i64 d1.pt, .slice m2 d1.bx.length km2] 25))) (HBL.out _ HO16.out) (by omega) (by omega))
                          have x0 : _ = some (Value.slice m0 d1.cm.length km0) := cell_of_row _ _ 0 _ _ _ HY16.out
                          have x1 : _ = some (Value.int .i64 d1.pt) := cell_of_row _ _ 1 _ _ _ HY16.out
                          have x2 : _ = some (Value.slice m2 d1.bx.length km2) := cell_of_row _ _ 2 _ _ _ HY16.out
                          have v0 : _ = some (Value.slice f0 d1.cm.length kf0) := cell_of_row _ _ 0 _ _ _ (HRM.out _ HO16.out)
                          have v1 : _ = some (Value.int .i64 d1.pt) := cell_of_row _ _ 1 _ _ _ (HRM.out _ HO16.out)
                          have v2 : _ = some (Value.slice f2 d1.bx.length kf2) := cell_of_row _ _ 2 _ _ _ (HRM.out _ HO16.out)
                          clear hO15 hDz p2
                          go_wp2_with (first | (refine wpList_store_row rfl 25 _ _ rfl w15.heap.size #[.slice m0 d1.cm.length km0, .int .i64 d1.pt, .slice m2 d1.bx.length km2] rfl rfl 25 _ (heap_alloc_last w15 _) Tryz.infoD rfl (dl_one _ _ _ _ _ _ _) ?_; rw [World.setRow_alloc_new]))
                          refine HSM.out.mono ?_
                          rintro e w17 ⟨rfl, hO17⟩
                          have HOE := Lib.hid (HWW.out _ (HO16.out.trans (hO17.mono (fun _ _ h => h.elim))))
                          clear hO17 x0 x1 x2 v0 v1 v2
                          go_wp2
                          go_ret
                          exact ⟨rfl, HOE.out.below (Nat.le_refl _) (fun _ _ h => h)⟩
end Go.Proofs.YtkpfachmakfncaaGreatDoor
