/-
  The program's boxes: pad, seal.
  strings.Builder: copyCheck, WriteString, String (as the kit's shelf walks them; this dump's copyCheck bears a refused branch that no run here comes to).
  The program's boxes: seal.
  The program's boxes: content.
  The program's boxes: what was sealed is read; inside.
  The program's dealings: fits.
  The program's dealings: unseal.
  The program's dealings: Open.
  Plain: what was dealt opens.
-/
import Derived.Test.YtlhfgbkonmgahaaGreatDoorPt09
import Derived.Test.YtlhfgbkonmgahaaGreatDoorPt14
import Derived.Lib.ItoaMem
import Derived.Lib.OthersKept
import Derived.Lib.UnsafeStr
import Derived.Lib.AppendStr
import Derived.Laws.Externs
import Derived.Laws.BitsAllLaws
namespace Go.Proofs.YtlhfgbkonmgahaaGreatDoor
open Go.RowKit

theorem only_grown (w : World) (k : Nat) (os : Array Obj) : Only (fun _ => False) w (Go.Sort.grow (w.drewN k) os) :=
  ⟨rfl, rfl, rfl, by simp [Go.Sort.grow], fun i hi _ => by simp [Go.Sort.grow, Array.getElem?_append, hi]⟩
/-- 'strconv.Itoa' of a number that is not negative. -/
theorem itoa_any (n : Nat) (w : World) (hn : n < 9223372036854775808) (hG : Glob w) :
    Calls Tryz.prog 34 #[.int .i64 n] w fun e w' => e = .returned (.string (decB n)) ∧ Only (fun _ => False) w w' :=
  (Tryz.strconv_Itoa n (by omega) (by omega) w hG.pow).mono fun e w' h => by
    obtain ⟨he, k, os, hw⟩ := h
    rw [Lib.itoa_nonneg] at he
    exact ⟨he, hw ▸ only_grown w k os⟩
end Go.Proofs.YtlhfgbkonmgahaaGreatDoor

namespace Go.Proofs.YtlhfgbkonmgahaaGreatDoor
open Go.RowKit

theorem Tryz.sizeBld : (Tryz.prog.info? 121).map (·.size) = some 2 := by kernel_rfl
theorem Tryz.liesBld : liesAt Tryz.prog Tryz.prog.depth 121 (2 / Tryz.prog.cellsOf 121) 0 121 1 = true := by kernel_rfl
theorem Tryz.infoByte : (Tryz.prog.info? 5).map (fun i => (i.zero, i.size, i.bytes)) = some (some (.int .u8 0), 1, 1) := by kernel_rfl
theorem Tryz.mixedB : Tryz.prog.follows .mixedOrders = true := by kernel_rfl
/-- A builder in block b that holds the bytes l. -/
def BldAt (B b : Nat) (l : List UInt8) (w : World) : Prop := Lib.IsBuilderF 121 5 B b (Lib.byteCells l) w
/-- What a builder's method leaves. -/
structure BldPost (B b : Nat) (l : List UInt8) (w w' : World) : Prop where
  is : BldAt B b l w'
  below : Below B w w'
  others : Lib.OthersKept 5 (some b) w w'

set_option maxHeartbeats 1000000 in
set_option maxRecDepth 100000 in
theorem copyCheck_used (b : Nat) (w : World) (h0 : w.cell? ⟨b, 0, none⟩ = some (.pointer (some ⟨b, 0, none⟩))) :
    Calls Tryz.prog 107 #[.pointer (some ⟨b, 0, none⟩)] w fun e w' => e = .returned (.tuple #[]) ∧ w' = w := by
  obtain ⟨j, hj, _⟩ := Option.map_eq_some_iff.1 Tryz.sizeBld
  go_enter Tryz.func107, Tryz.ntmps107
  go_wp2
  rw [Lib.run_neq_ptr_same w _ Tryz.underlying119 hj]
  go_wp2
  go_end0
  exact ⟨rfl, rfl⟩
set_option maxHeartbeats 1000000 in
set_option maxRecDepth 100000 in
theorem copyCheck_fresh (b : Nat) (w : World) (h0 : w.cell? ⟨b, 0, none⟩ = some (.pointer none)) (hsh : w.shape? b = some (121, 2)) (hfz : w.frozen? ⟨b, 0, none⟩ = false) :
    Calls Tryz.prog 107 #[.pointer (some ⟨b, 0, none⟩)] w fun e w' => e = .returned (.tuple #[]) ∧ w' = w.setCell ⟨b, 0, none⟩ (.pointer (some ⟨b, 0, none⟩)) := by
  obtain ⟨j, hj, hjs⟩ := Option.map_eq_some_iff.1 Tryz.sizeBld
  go_enter Tryz.func107, Tryz.ntmps107
  go_wp2
  rw [Lib.run_to_unsafe w ⟨b, 0, none⟩ Tryz.underlying119 Tryz.underlying163 hj (by rw [hjs]; decide) hsh (Nat.zero_lt_succ 1)]
  simp only [Result.andThen]
  rw [Oper.upon_value]
  go_wp2
  rw [run_callFunc_extern Tryz.func133 (by kernel_rfl) (by kernel_rfl) (by kernel_rfl) (e := Extern.AbiNoEscape.same) (by kernel_rfl)]
  rw [Lib.run_noEscape]
  simp only [Result.andThen]
  rw [Oper.upon_value]
  go_wp2
  rw [Lib.run_from_unsafe w ⟨b, 0, none⟩ Tryz.underlying163 Tryz.underlying119 hj hsh Tryz.liesBld]
  simp only [Result.andThen]
  rw [Oper.upon_value]
  go_wp2
  go_end0
  exact ⟨rfl, rfl⟩
theorem copyCheck_any (B b : Nat) (l : List UInt8) (w : World) (h : BldAt B b l w) :
    Calls Tryz.prog 107 #[.pointer (some ⟨b, 0, none⟩)] w fun e w' => e = .returned (.tuple #[]) ∧ (Lib.BuilderAtF 121 5 B b (.pointer (some ⟨b, 0, none⟩)) (Lib.byteCells l) w' ∧ Below B w w' ∧ Lib.OthersKept 5 (some b) w w') := by
  rcases h with h | h
  · refine (copyCheck_fresh b w h.cell0 h.shape h.frozen0).mono ?_
    rintro e w' ⟨rfl, rfl⟩
    exact ⟨rfl, h.used _, (Below.refl B w).setCell (p := ⟨b, 0, none⟩) h.1 _, (Lib.OthersKept.refl _ _ w).setCell ⟨b, 0, none⟩ rfl _⟩
  · refine (copyCheck_used b w h.cell0).mono ?_
    rintro e w' ⟨rfl, rfl⟩
    exact ⟨rfl, h, Below.refl B _, Lib.OthersKept.refl _ _ _⟩
set_option maxHeartbeats 2000000 in
set_option maxRecDepth 100000 in
theorem bwrite_any (B b : Nat) (l : List UInt8) (s : ByteArray) (w : World) (h : BldAt B b l w) (hlen : l.length + s.size ≤ 140737488355328) (hBw : B ≤ w.heap.size) :
    Calls Tryz.prog 86 #[.pointer (some ⟨b, 0, none⟩), .string s] w fun e w' => e = .returned (.tuple #[.int .i64 s.size, .nilIface]) ∧ BldPost B b (l ++ s.data.toList) w w' := by
  obtain ⟨i0, hi, hz0, hz1, hz2⟩ := info_parts Tryz.infoByte
  have hcl := Lib.byteCells_length l
  have e240 : ∀ args w, (callFunc 107 args).run Tryz.prog w = .ok (.enter 107 args) w := enters_of Tryz.func107 (by kernel_rfl) rfl
  have HCC := Lib.hid (fun w (h : Lib.IsBuilderF 121 5 B b (Lib.byteCells l) w) => copyCheck_any B b l w h)
  have HL := Lib.hid (show Lib.byteCells (l ++ s.data.toList) = Lib.byteCells l ++ Lib.strCells s from Lib.byteCells_append _ _)
  unfold BldAt at h
  have H := Lib.hid h
  clear h
  generalize Lib.byteCells l = bs at *
  rw [← hcl] at hlen
  clear hcl
  go_enter Tryz.func86, Tryz.ntmps86
  go_wp2_with fail
  refine (HCC.out _ H.out).mono ?_
  rintro e w1 ⟨rfl, h1, hb1, hk1⟩
  obtain ⟨hB, v, hbk, hown, hne⟩ := h1
  have c0 : w1.cell? ⟨b, 0, none⟩ = some (.pointer (some ⟨b, 0, none⟩)) := by rw [Lib.cell_of_heap hbk]; rfl
  have c1 : w1.cell? ⟨b, 1, none⟩ = some v := by rw [Lib.cell_of_heap hbk]; rfl
  have HB1 := Lib.hid hb1
  have HK1 := Lib.hid hk1
  have hsz1 := hb1.size
  clear hb1 hk1 HCC H
  go_wp2_with (at_builtin; refine Lib.wpList_append_own_stringF _ rfl _ _ 33 9 rfl B 5 i0 Tryz.underlying33 Tryz.underlying9 hi hz0 hz1 hz2 _ _ _ rfl hown s rfl ?c3 ?c4 ?c5 ?_)
  case c3 => unfold maxLen; omega
  case c4 => omega
  case c5 => omega
  intro v' w2 hown' hgrow _
  have hlt : b < w1.heap.size := by
    rcases Nat.lt_or_ge b w1.heap.size with h' | h'
    · exact h'
    · simp [Array.getElem?_eq_none h'] at hbk
  have hb2 : w2.heap[b]? = some (.cells #[.pointer (some ⟨b, 0, none⟩), v] 121 (0, 0)) := by
    rw [hgrow.block b hlt (fun e => hne e.symm)]
    exact hbk
  have d0 : w2.cell? ⟨b, 0, none⟩ = some (.pointer (some ⟨b, 0, none⟩)) := by rw [Lib.cell_of_heap hb2]; rfl
  have d1 : w2.cell? ⟨b, 1, none⟩ = some v := by rw [Lib.cell_of_heap hb2]; rfl
  have f1 : w2.frozen? ⟨b, 1, none⟩ = false := Lib.frozen_of_heap hb2 1
  obtain ⟨ao, n', cap, rfl⟩ : ∃ ao n' cap, v' = .slice ao n' cap := by
    rcases hown'.2 with ⟨hv, _⟩ | ⟨g, cap, cur, fz, hv, _⟩
    · exact ⟨_, _, _, hv⟩
    · exact ⟨_, _, _, hv⟩
  have HP := Lib.hid (show BldPost B b (l ++ s.data.toList) w (w2.setCell ⟨b, 1, none⟩ (.slice ao n' cap)) from
    ⟨by unfold BldAt; rw [HL.out]; exact .inr (Lib.BuilderAtF.put (T := 121) (e := 5) hB hb2 (bs' := bs ++ Lib.strCells s) (by simpa [Lib.strCells_length] using hown') (by decide)),
      (HB1.out.grown hgrow (by omega) (fun k hk => (hown.lt k hk).1)).setCell (p := ⟨b, 1, none⟩) hB _,
      (HK1.out.grown hgrow (Lib.ownsRowF_kind hown)).setCell ⟨b, 1, none⟩ rfl _⟩)
  clear hown hown' hgrow hbk hb2 hne
  go_wp2
  go_ret2
  exact ⟨rfl, HP.out⟩
/-- A new builder. -/
theorem bld_new (B : Nat) (w : World) (hB : B ≤ w.heap.size) : BldAt B w.heap.size [] (w.alloc (.cells #[.pointer none, .slice none 0 0] 121)) :=
  .inl ⟨hB, .slice none 0 0, heap_alloc_last w _, World.ownsRowF_nil _ _ _ _, by simp [Value.ownBlock]⟩
theorem BldAt.lt {B b : Nat} {l : List UInt8} {w : World} (h : BldAt B b l w) : b < w.heap.size := h.elim (·.lt) (·.lt)
theorem BldAt.base {B b : Nat} {l : List UInt8} {w : World} (h : BldAt B b l w) : B ≤ b := h.elim (·.1) (·.1)
theorem BldAt.only {B b : Nat} {l : List UInt8} {w w' : World} (h : BldAt B b l w) (hO : Only (fun _ => False) w w') : BldAt B b l w' := by
  have aux : ∀ p, Lib.BuilderAtF 121 5 B b p (Lib.byteCells l) w → Lib.BuilderAtF 121 5 B b p (Lib.byteCells l) w' := by
    rintro p ⟨hB, v, hb, hown, hne⟩
    refine ⟨hB, v, (hO.block b (Array.getElem?_eq_some_iff.1 hb).1 (fun h => h)).trans hb, ?_, hne⟩
    exact hown.kept (row := none) ⟨hO.os, hO.tape, hO.output, hO.size, fun k hk _ => hO.block k hk (fun h => h)⟩ (by cases v.ownBlock <;> simp)
  exact h.imp (aux _) (aux _)
theorem bstring_any (B b : Nat) (l : List UInt8) (w : World) (h : BldAt B b l w) (hBw : B ≤ w.heap.size) :
    Calls Tryz.prog 87 #[.pointer (some ⟨b, 0, none⟩)] w fun e w' => e = .returned (.string ⟨l.toArray⟩) ∧ Below B w w' :=
  (Tryz.Builder_String_any_f B b l w h hBw).mono fun _ _ h => ⟨h.1, h.2.2⟩
theorem BldPost.trans {B b : Nat} {l l2 : List UInt8} {w w1 w2 : World} (h : BldPost B b l w w1) (k : BldPost B b l2 w1 w2) : BldPost B b l2 w w2 := ⟨k.is, h.below.trans k.below, h.others.trans k.others⟩
theorem others_only {e : TypeId} {b : Option Nat} {w w' : World} (hO : Only (fun _ => False) w w') : Lib.OthersKept e b w w' := fun k _ hk _ _ => (hO.block k (Array.getElem?_eq_some_iff.1 hk).1 (fun h => h)).trans hk
theorem BldPost.only {B b : Nat} {l : List UInt8} {w w1 w2 : World} (h : BldPost B b l w w1) (hO : Only (fun _ => False) w1 w2) (hB : B ≤ w1.heap.size) : BldPost B b l w w2 :=
  ⟨h.is.only hO, h.below.trans (hO.below hB (fun _ _ h => h)), h.others.trans (others_only hO)⟩
end Go.Proofs.YtlhfgbkonmgahaaGreatDoor

namespace Go.Proofs.YtlhfgbkonmgahaaGreatDoor
open Go.RowKit

def sealAt (y : Int) (h : List Int) (j : Nat) : Int := if j < 8 then xor8 (y / 2 ^ (56 - 8 * j) % 256) (ptAt h j) else ptAt h j
theorem xor8_comm (x y : Int) : xor8 x y = xor8 y x := by
  show IntKind.u8.wrap ((BitVec.ofInt 8 x ^^^ BitVec.ofInt 8 y).toNat : Int) = IntKind.u8.wrap ((BitVec.ofInt 8 y ^^^ BitVec.ofInt 8 x).toNat : Int)
  rw [BitVec.xor_comm]
theorem sbTo_map (y : Int) (h : List Int) : ∀ k, sbTo y h k = (List.range k).map (fun j => xor8 (y / 2 ^ (56 - 8 * j) % 256) (ptAt h j))
  | 0 => rfl
  | k + 1 => by rw [sbTo, sbTo_map y h k, List.range_succ, List.map_append]; rfl
theorem sealL_map (y : Int) (k i : Nat) : sealL y k i = (List.range 16).map (sealAt y (padL k i)) := by
  have hl : (padL k i).length = 32 := (padL_bytes k i).len
  unfold sealL
  generalize padL k i = h at *
  rw [sbTo_map, show 16 = 8 + 8 from rfl, List.range_add, List.map_append]
  have e1 : (List.range 8).map (fun j => xor8 (y / 2 ^ (56 - 8 * j) % 256) (ptAt h j)) = (List.range 8).map (sealAt y h) := by
    apply List.map_congr_left
    intro j hj
    rw [List.mem_range] at hj
    unfold sealAt
    rw [if_pos hj]
  have e2 : (h.drop 8).take 8 = ((List.range 8).map (8 + ·)).map (sealAt y h) := by
    apply List.ext_getElem
    · rw [List.length_take, List.length_drop, hl]; simp
    · intro j h1 h2
      have hj : j < 8 := by rw [List.length_take, List.length_drop, hl] at h1; omega
      simp only [List.getElem_take, List.getElem_drop, List.getElem_map, List.getElem_range]
      unfold sealAt ptAt
      rw [if_neg (by omega)]
      simp [List.getD, show 8 + j < h.length by omega]
  rw [e1, e2]
end Go.Proofs.YtlhfgbkonmgahaaGreatDoor

namespace Go.Proofs.YtlhfgbkonmgahaaGreatDoor
open Go.RowKit

def contB (b : ByteArray) (h : List Int) (j : Nat) : Int := xor8 (byteZ b j) (ptAt h j)
theorem contB_bd (b : ByteArray) (h : List Int) (j : Nat) : 0 ≤ contB b h j ∧ contB b h j ≤ 255 := by
  unfold contB xor8 bits
  show 0 ≤ IntKind.u8.wrap _ ∧ IntKind.u8.wrap _ ≤ 255
  rw [IntKind.wrap_u8']
  omega
def contR (b : ByteArray) (h : List Int) : Nat → Int
  | 0 => 0
  | k + 1 => contR b h k * 256 + contB b h k
theorem contR_bd (b : ByteArray) (h : List Int) : ∀ k, 0 ≤ contR b h k ∧ contR b h k < 256 ^ k
  | 0 => by rw [contR]; omega
  | k + 1 => by
    rw [contR, Int.pow_succ]
    have := contR_bd b h k
    have := contB_bd b h k
    omega
/-- The bytes behind the number are zeros. -/
def tailB (b : ByteArray) (h : List Int) : Bool := (List.range 8).all (fun j => contB b h (8 + j) == 0)
theorem tailB_all {b : ByteArray} {h : List Int} (H : ∀ i, 8 ≤ i → i < 16 → contB b h i = 0) : tailB b h = true := by
  unfold tailB
  rw [List.all_eq_true]
  intro j hj
  rw [List.mem_range] at hj
  rw [H (8 + j) (by omega) (by omega)]
  rfl
theorem tailB_no {b : ByteArray} {h : List Int} {i : Nat} (h1 : 8 ≤ i) (h2 : i < 16) (H : contB b h i ≠ 0) : tailB b h = false := by
  unfold tailB
  rw [List.all_eq_false]
  refine ⟨i - 8, by rw [List.mem_range]; omega, ?_⟩
  rw [show 8 + (i - 8) = i by omega]
  simpa using H
/-- What a box holds, if it is one. -/
def contV (b : ByteArray) (k i : Nat) : Int × Bool := if (b.size == 16 && tailB b (padL k i)) = true then (wrap64 (contR b (padL k i) 8), true) else (0, false)
end Go.Proofs.YtlhfgbkonmgahaaGreatDoor

namespace Go.Proofs.YtlhfgbkonmgahaaGreatDoor
open Go.RowKit

theorem xor8_back (a p : Int) (h0 : 0 ≤ a) (h1 : a ≤ 255) (h2 : 0 ≤ p) (h3 : p ≤ 255) : xor8 (xor8 a p) p = a := by
  obtain ⟨a, rfl⟩ := Int.eq_ofNat_of_zero_le h0
  obtain ⟨p, rfl⟩ := Int.eq_ofNat_of_zero_le h2
  unfold xor8
  have hl : a ^^^ p < 256 := Nat.xor_lt_two_pow (n := 8) (by omega) (by omega)
  rw [u8_xor_nat a p (by omega) (by omega), u8_xor_nat _ p hl (by omega), Nat.xor_assoc, Nat.xor_self, Nat.xor_zero]
theorem xor8_self (p : Int) (h2 : 0 ≤ p) (h3 : p ≤ 255) : xor8 p p = 0 := by
  obtain ⟨p, rfl⟩ := Int.eq_ofNat_of_zero_le h2
  unfold xor8
  rw [u8_xor_nat p p (by omega) (by omega), Nat.xor_self]
  rfl
theorem byteZ_strOf (l : List Int) (j : Nat) (hj : j < l.length) (h0 : 0 ≤ ptAt l j) (h1 : ptAt l j ≤ 255) : byteZ (strOfNums l) j = ptAt l j := by
  have e : (strOfNums l).data.toList.getD j 0 = UInt8.ofNat (ptAt l j).toNat := by
    unfold strOfNums ptAt
    simp [List.getD, hj]
  unfold byteZ
  rw [e, UInt8.toNat_ofNat']
  omega
theorem xor8_bd (x y : Int) : 0 ≤ xor8 x y ∧ xor8 x y ≤ 255 := by
  unfold xor8 bits
  show 0 ≤ IntKind.u8.wrap _ ∧ IntKind.u8.wrap _ ≤ 255
  rw [IntKind.wrap_u8']
  omega
theorem seal_byte (y : Int) (k i j : Nat) (hj : j < 16) : byteZ (strOfNums (sealL y k i)) j = sealAt y (padL k i) j := by
  have e : ptAt (sealL y k i) j = sealAt y (padL k i) j := by
    rw [sealL_map]
    unfold ptAt
    simp [List.getD, hj]
  have hb : 0 ≤ sealAt y (padL k i) j ∧ sealAt y (padL k i) j ≤ 255 := by
    unfold sealAt
    split
    · exact xor8_bd _ _
    · exact (padL_bytes k i).bd j
  rw [byteZ_strOf _ _ (by rw [sealL_len]; exact hj) (by rw [e]; exact hb.1) (by rw [e]; exact hb.2), e]
theorem seal_cont (y : Int) (k i : Nat) (h0 : 0 ≤ y) (h1 : y ≤ 9223372036854775807) : contV (strOfNums (sealL y k i)) k i = (y, true) := by
  have hs : (strOfNums (sealL y k i)).size = 16 := by rw [strOfNums_size, sealL_len]
  have hc : ∀ j, j < 8 → contB (strOfNums (sealL y k i)) (padL k i) j = y / 2 ^ (56 - 8 * j) % 256 := fun j hj => by
    have hb := (padL_bytes k i).bd j
    unfold contB
    rw [seal_byte y k i j (by omega)]
    unfold sealAt
    rw [if_pos hj]
    exact xor8_back _ _ (by omega) (by omega) hb.1 hb.2
  have ht : tailB (strOfNums (sealL y k i)) (padL k i) = true := tailB_all fun j h1 h2 => by
    have hb := (padL_bytes k i).bd j
    unfold contB
    rw [seal_byte y k i j h2]
    unfold sealAt
    rw [if_neg (by omega)]
    exact xor8_self _ hb.1 hb.2
  have hr : contR (strOfNums (sealL y k i)) (padL k i) 8 = y := by
    simp only [contR, hc 0 (by decide), hc 1 (by decide), hc 2 (by decide), hc 3 (by decide), hc 4 (by decide), hc 5 (by decide), hc 6 (by decide), hc 7 (by decide)]
    simp only [Nat.reduceMul, Nat.reduceSub]
    omega
  unfold contV
  rw [hs, ht, hr, show wrap64 y = y by unfold wrap64; omega]
  rfl
def insideB (x : Int) : Bool := decide (0 ≤ x) && decide (x ≤ 1152921504606845788)
end Go.Proofs.YtlhfgbkonmgahaaGreatDoor

namespace Go.Proofs.YtlhfgbkonmgahaaGreatDoor
open Go.RowKit

def fitsB (d : Dl) (x y : Int) : Bool := insideB y && decide (powM 4 y 2305843009213691579 = atZ d.cm x)
end Go.Proofs.YtlhfgbkonmgahaaGreatDoor

namespace Go.Proofs.YtlhfgbkonmgahaaGreatDoor
open Go.RowKit

/-- What a box of a dealing opens to. -/
def unsV (d : Dl) (k i : Nat) : Int × Int × Bool :=
  if ((contV (sAt d.bx i) k i).2 && fitsB d ((i : Int) + 1) (contV (sAt d.bx i) k i).1) = true then ((i : Int) + 1, (contV (sAt d.bx i) k i).1, true) else (0, 0, false)
theorem Tryz.infoShr : (Tryz.prog.info? 23).map (·.size) = some 2 := by kernel_rfl
theorem two_one (x y : Int) : (#[Value.int .i64 x, .int .i64 y] : Array Value).all (·.oneCell') = true := by simp [Value.oneCell']
theorem contV_bd (b : ByteArray) (k i : Nat) : -9223372036854775808 ≤ (contV b k i).1 ∧ (contV b k i).1 ≤ 9223372036854775807 := by
  unfold contV
  split
  · show _ ≤ wrap64 _ ∧ wrap64 _ ≤ _
    unfold wrap64
    omega
  · exact ⟨by show (_ : Int) ≤ 0; decide, by show (0 : Int) ≤ _; decide⟩
theorem strs_cellAt {W : World} {a : Option Addr} {len c k : Nat} {l : List ByteArray} (h : StrsAt W (.slice a len c) l) (hk : k < l.length) :
    ∃ b off, a = some ⟨b, off, none⟩ ∧ b < W.heap.size ∧ l.length ≤ c ∧ c ≤ 9223372036854775807 ∧ W.cell? ⟨b, off + k, none⟩ = some (.string (sAt l k)) := by
  rcases h with ⟨_, _, _, h0⟩ | ⟨b, off, cap, hv, hb, h1, h2, hc⟩
  · rw [h0] at hk; simp at hk
  · simp only [Value.slice.injEq] at hv
    obtain ⟨rfl, _, rfl⟩ := hv
    exact ⟨b, off, rfl, hb, h1, h2, hc k hk⟩
end Go.Proofs.YtlhfgbkonmgahaaGreatDoor

namespace Go.Proofs.YtlhfgbkonmgahaaGreatDoor
open Go.RowKit

/-- The number that a key makes of a dealing's point. -/
def seedN (d : Dl) (key : Int) : Int := powM d.pt (key % 1152921504606845789) 2305843009213691579
end Go.Proofs.YtlhfgbkonmgahaaGreatDoor

namespace Go.Proofs.YtlhfgbkonmgahaaGreatDoor
open Go.RowKit

theorem bxTo_at (cs ks : List Int) (n : Int) : ∀ k j, j < k → sAt (bxTo cs ks n k) j = boxOf cs ks n j
  | k + 1, j, hj => by
    have hl := bxTo_len cs ks n k
    rw [bxTo]
    unfold sAt
    by_cases e : j = k
    · subst e
      rw [List.getD, List.getElem?_append_right (by omega), hl, Nat.sub_self]; rfl
    · rw [List.getD, List.getElem?_append_left (by omega)]
      exact bxTo_at cs ks n k j (by omega)
/-- The holder's power of the point is the dealer's power of the holder's key. -/
theorem powSwap (x y : Int) (hx : 0 ≤ x) (hx2 : x < 1152921504606845789) (hy : 0 ≤ y) (hy2 : y < 1152921504606845789) :
    powM (powM 4 x 2305843009213691579) y 2305843009213691579 = powM (powM 4 y 2305843009213691579) x 2305843009213691579 := by
  have h4 : memB 4 = true := by kernel_rfl
  rw [powPowQ h4 hx hx2 hy hy2, powPowQ h4 hy hy2 hx hx2, Int.mul_comm]
theorem uns_dealt (cs ks : List Int) (seed : ByteArray) (key : Int) (i : Nat) (hi : i < ks.length) (hk0 : 0 ≤ key) (hk1 : key < 1152921504606845789) (hkey : ptAt ks i = powM 4 key 2305843009213691579) (hcs : ∀ j, 0 ≤ ptAt cs j ∧ ptAt cs j < 1152921504606845789) :
    unsV (dealZ cs ks seed) (seedN (dealZ cs ks seed) key).toNat i = ((i : Int) + 1, valZ cs ((i : Int) + 1), true) := by
  have hn := scalarZ_bd (ptS seed)
  have hv := valZ_bd cs ((i : Int) + 1)
  have hv1 : valZ cs ((i : Int) + 1) < 1152921504606845789 := hv.2
  have e1 : sAt (dealZ cs ks seed).bx i = boxOf cs ks (scalarZ (ptS seed)) i := bxTo_at _ _ _ _ _ hi
  have e2 : seedN (dealZ cs ks seed) key = powM (ptAt ks i) (scalarZ (ptS seed)) 2305843009213691579 := by
    unfold seedN
    rw [hkey, Int.emod_eq_of_lt hk0 hk1]
    exact powSwap _ _ hn.1 hn.2 hk0 hk1
  have e3 : contV (sAt (dealZ cs ks seed).bx i) (seedN (dealZ cs ks seed) key).toNat i = (valZ cs ((i : Int) + 1), true) := by
    rw [e1, e2]
    unfold boxOf
    exact seal_cont _ _ _ hv.1 (by omega)
  have e4 : fitsB (dealZ cs ks seed) ((i : Int) + 1) (valZ cs ((i : Int) + 1)) = true := by
    unfold fitsB insideB
    rw [show (dealZ cs ks seed).cm = cmTo cs cs.length from rfl, at_law cs _ hcs]
    simp only [decide_true, Bool.and_true, Bool.and_eq_true, decide_eq_true_eq]
    exact ⟨hv.1, by omega⟩
  unfold unsV
  rw [e3]
  simp only [e4, Bool.and_self, if_true]
end Go.Proofs.YtlhfgbkonmgahaaGreatDoor
