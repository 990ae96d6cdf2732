/-
  The program's boxes: pad, seal.
  strings.Builder: copyCheck, WriteString, String (as the kit's shelf walks them; this dump's copyCheck bears a refused branch that no run here comes to).
  The program's boxes: seal.
  The program's boxes: content.
  The program's boxes: what was sealed is read; inside.
  The program's dealings: fits.
  The program's dealings: unseal.
  The program's dealings: Open.
  Plain: what was dealt opens.
  The program's members (as in WtA, without what WtA leans on).
  The program's dealings: Check (as in WtA, without the reference of weights).
  The program's dealings: Deal, where it refuses (the counts).
  The program's dealings: Deal, where a number is not inside.
  The program's dealings: Deal, where it deals.
  Dealings in general: the reference's Deal where it refuses; both Deals; Same of equal dealings.
  The program's texts of dealings: Text.
  Plain: shares of a dealing give the first coefficient (as the law DealJoins computes it).
-/
import Derived.Test.YtkpfachmakfncaaGreatDoorPk10
import Derived.Test.YtkpfachmakfncaaGreatDoorPk15
import Derived.Lib.ItoaMem
import Derived.Lib.OthersKept
import Derived.Lib.UnsafeStr
import Derived.Lib.AppendStr
import Derived.Laws.Externs
import Derived.Laws.BitsAllLaws
import Derived.Test.YtkpfachmakfncaaGreatDoorPk02
import Derived.Lib.ItoaLen
import Derived.Test.YtkpfachmakfncaaGreatDoorPk12
namespace Go.Proofs.YtkpfachmakfncaaGreatDoor
open Go.RowKit

theorem only_grown (w : World) (k : Nat) (os : Array Obj) : Only (fun _ => False) w (Go.Sort.grow (w.drewN k) os) :=
  ⟨rfl, rfl, rfl, by simp [Go.Sort.grow], fun i hi _ => by simp [Go.Sort.grow, Array.getElem?_append, hi]⟩
/-- 'strconv.Itoa' of a number that is not negative. -/
theorem itoa_any (n : Nat) (w : World) (hn : n < 9223372036854775808) (hG : Glob w) :
    Calls Tryz.prog 25 #[.int .i64 n] w fun e w' => e = .returned (.string (decB n)) ∧ Only (fun _ => False) w w' :=
  (Tryz.strconv_Itoa n (by omega) (by omega) w hG.pow).mono fun e w' h => by
    obtain ⟨he, k, os, hw⟩ := h
    rw [Lib.itoa_nonneg] at he
    exact ⟨he, hw ▸ only_grown w k os⟩
set_option maxHeartbeats 1000000 in
theorem ppad_any (k i : Nat) (w : World) (hk : k < 9223372036854775808) (hi : i < 9223372036854775808) (hG : Glob w) :
    Calls Tryz.prog 61 #[.int .i64 k, .int .i64 i] w fun e w' => e = .returned (.agg (byRow (padL k i))) ∧ Only (fun _ => False) w w' := by
  have HG := Lib.hid hG
  have s1 := decB_size hk
  have s2 := decB_size hi
  have H1 := Lib.hid (fun w => itoa_any k w hk)
  have H2 := Lib.hid (fun w => itoa_any i w hi)
  have hb : (⟨#[98, 111, 120, 47]⟩ : ByteArray).size = 4 := rfl
  have hb2 : (⟨#[47]⟩ : ByteArray).size = 1 := rfl
  have HS := Lib.hid (fun w => psum_any (padS k i) w (by unfold padS; rw [ByteArray.size_append, ByteArray.size_append, ByteArray.size_append, hb, hb2]; omega))
  have HP := Lib.hid (show padL k i = shaL (padS k i) from rfl)
  have HIZ := Lib.hid (show (Tryz.prog.info? 92).map (·.size) = some (byRow (shaL (padS k i))).size by rw [byRow_size, (shaL_bytes _).len]; exact Tryz.infoH)
  have HSZ := Lib.hid (show 32 = (byRow (shaL (padS k i))).size by rw [byRow_size, (shaL_bytes _).len])
  have HON := Lib.hid (byRow_one (shaL (padS k i)))
  obtain ⟨R, hR⟩ : ∃ R, byRow (shaL (padS k i)) = R := ⟨_, rfl⟩
  rw [hR] at HS HIZ HSZ HON
  have HRR := Lib.hid (show byRow (padL k i) = R from hR)
  unfold padS at HS
  clear hb hb2 hR hG
  generalize decB k = d1 at *
  generalize decB i = d2 at *
  go_enter Tryz.func61, Tryz.ntmps61
  go_wp2_with fail
  refine (H1.out _ (HG.out.only ((Only.refl (fun _ => False) w).alloc _))).mono ?_
  rintro e w1 ⟨rfl, hO1⟩
  have HZ1 := Lib.hid (row_kept hO1)
  have HO1 := Lib.hid (((Only.refl (fun _ => False) w).alloc _).trans hO1)
  clear hO1
  go_wp2_with fail
  refine (H2.out _ (HG.out.only HO1.out)).mono ?_
  rintro e w2 ⟨rfl, hO2⟩
  have HZ2 := Lib.hid (row_still hO2 HZ1.out)
  have HO2 := Lib.hid (HO1.out.trans hO2)
  clear hO2 HO1 HZ1
  go_wp2_with fail
  refine (HS.out _ (HG.out.only HO2.out)).mono ?_
  rintro e w3 ⟨rfl, hO3⟩
  have HZ3 := Lib.hid (row_still hO3 HZ2.out)
  have HO3 := Lib.hid (HO2.out.trans hO3)
  clear hO3 HO2 HZ2
  go_wp2_with (first | (refine wpList_store_row rfl 92 _ _ rfl w.heap.size R rfl rfl 92 _ HZ3.out HIZ.out HSZ.out HON.out ?_))
  exact bodyPost_ret (v := .agg R) (results_cell_row rfl _ _ w.heap.size 92 R (0, 0) _ rfl (setRow_heap _ _ _ _ _ _ HZ3.out) Tryz.underlying92 rfl HIZ.out) rfl ⟨by rw [HRR.out], HO3.out.setRow (Nat.le_refl _) _⟩
end Go.Proofs.YtkpfachmakfncaaGreatDoor

namespace Go.Proofs.YtkpfachmakfncaaGreatDoor
open Go.RowKit

theorem Tryz.sizeBld : (Tryz.prog.info? 56).map (·.size) = some 2 := by kernel_rfl
theorem Tryz.liesBld : liesAt Tryz.prog Tryz.prog.depth 56 (2 / Tryz.prog.cellsOf 56) 0 56 1 = true := by kernel_rfl
theorem Tryz.infoByte : (Tryz.prog.info? 5).map (fun i => (i.zero, i.size, i.bytes)) = some (some (.int .u8 0), 1, 1) := by kernel_rfl
theorem Tryz.mixedB : Tryz.prog.follows .mixedOrders = true := by kernel_rfl
/-- A builder in block b that holds the bytes l. -/
def BldAt (B b : Nat) (l : List UInt8) (w : World) : Prop := Lib.IsBuilderF 56 5 B b (Lib.byteCells l) w
/-- What a builder's method leaves. -/
structure BldPost (B b : Nat) (l : List UInt8) (w w' : World) : Prop where
  is : BldAt B b l w'
  below : Below B w w'
  others : Lib.OthersKept 5 (some b) w w'

set_option maxHeartbeats 1000000 in
set_option maxRecDepth 100000 in
theorem copyCheck_used (b : Nat) (w : World) (h0 : w.cell? ⟨b, 0, none⟩ = some (.pointer (some ⟨b, 0, none⟩))) :
    Calls Tryz.prog 49 #[.pointer (some ⟨b, 0, none⟩)] w fun e w' => e = .returned (.tuple #[]) ∧ w' = w := by
  obtain ⟨j, hj, _⟩ := Option.map_eq_some_iff.1 Tryz.sizeBld
  go_enter Tryz.func49, Tryz.ntmps49
  go_wp2
  rw [Lib.run_neq_ptr_same w _ Tryz.underlying54 hj]
  go_wp2
  go_end0
  exact ⟨rfl, rfl⟩
set_option maxHeartbeats 1000000 in
set_option maxRecDepth 100000 in
theorem copyCheck_fresh (b : Nat) (w : World) (h0 : w.cell? ⟨b, 0, none⟩ = some (.pointer none)) (hsh : w.shape? b = some (56, 2)) (hfz : w.frozen? ⟨b, 0, none⟩ = false) :
    Calls Tryz.prog 49 #[.pointer (some ⟨b, 0, none⟩)] w fun e w' => e = .returned (.tuple #[]) ∧ w' = w.setCell ⟨b, 0, none⟩ (.pointer (some ⟨b, 0, none⟩)) := by
  obtain ⟨j, hj, hjs⟩ := Option.map_eq_some_iff.1 Tryz.sizeBld
  go_enter Tryz.func49, Tryz.ntmps49
  go_wp2
  rw [Lib.run_to_unsafe w ⟨b, 0, none⟩ Tryz.underlying54 Tryz.underlying106 hj (by rw [hjs]; decide) hsh (Nat.zero_lt_succ 1)]
  simp only [Result.andThen]
  rw [Oper.upon_value]
  go_wp2
  rw [run_callFunc_extern Tryz.func71 (by kernel_rfl) (by kernel_rfl) (by kernel_rfl) (e := Extern.AbiNoEscape.same) (by kernel_rfl)]
  rw [Lib.run_noEscape]
  simp only [Result.andThen]
  rw [Oper.upon_value]
  go_wp2
  rw [Lib.run_from_unsafe w ⟨b, 0, none⟩ Tryz.underlying106 Tryz.underlying54 hj hsh Tryz.liesBld]
  simp only [Result.andThen]
  rw [Oper.upon_value]
  go_wp2
  go_end0
  exact ⟨rfl, rfl⟩
theorem copyCheck_any (B b : Nat) (l : List UInt8) (w : World) (h : BldAt B b l w) :
    Calls Tryz.prog 49 #[.pointer (some ⟨b, 0, none⟩)] w fun e w' => e = .returned (.tuple #[]) ∧ (Lib.BuilderAtF 56 5 B b (.pointer (some ⟨b, 0, none⟩)) (Lib.byteCells l) w' ∧ Below B w w' ∧ Lib.OthersKept 5 (some b) w w') := by
  rcases h with h | h
  · refine (copyCheck_fresh b w h.cell0 h.shape h.frozen0).mono ?_
    rintro e w' ⟨rfl, rfl⟩
    exact ⟨rfl, h.used _, (Below.refl B w).setCell (p := ⟨b, 0, none⟩) h.1 _, (Lib.OthersKept.refl _ _ w).setCell ⟨b, 0, none⟩ rfl _⟩
  · refine (copyCheck_used b w h.cell0).mono ?_
    rintro e w' ⟨rfl, rfl⟩
    exact ⟨rfl, h, Below.refl B _, Lib.OthersKept.refl _ _ _⟩
set_option maxHeartbeats 2000000 in
set_option maxRecDepth 100000 in
theorem bwrite_any (B b : Nat) (l : List UInt8) (s : ByteArray) (w : World) (h : BldAt B b l w) (hlen : l.length + s.size ≤ 140737488355328) (hBw : B ≤ w.heap.size) :
    Calls Tryz.prog 23 #[.pointer (some ⟨b, 0, none⟩), .string s] w fun e w' => e = .returned (.tuple #[.int .i64 s.size, .nilIface]) ∧ BldPost B b (l ++ s.data.toList) w w' := by
  obtain ⟨i0, hi, hz0, hz1, hz2⟩ := info_parts Tryz.infoByte
  have hcl := Lib.byteCells_length l
  have e240 : ∀ args w, (callFunc 49 args).run Tryz.prog w = .ok (.enter 49 args) w := enters_of Tryz.func49 (by kernel_rfl) rfl
  have HCC := Lib.hid (fun w (h : Lib.IsBuilderF 56 5 B b (Lib.byteCells l) w) => copyCheck_any B b l w h)
  have HL := Lib.hid (show Lib.byteCells (l ++ s.data.toList) = Lib.byteCells l ++ Lib.strCells s from Lib.byteCells_append _ _)
  unfold BldAt at h
  have H := Lib.hid h
  clear h
  generalize Lib.byteCells l = bs at *
  rw [← hcl] at hlen
  clear hcl
  go_enter Tryz.func23, Tryz.ntmps23
  go_wp2_with fail
  refine (HCC.out _ H.out).mono ?_
  rintro e w1 ⟨rfl, h1, hb1, hk1⟩
  obtain ⟨hB, v, hbk, hown, hne⟩ := h1
  have c0 : w1.cell? ⟨b, 0, none⟩ = some (.pointer (some ⟨b, 0, none⟩)) := by rw [Lib.cell_of_heap hbk]; rfl
  have c1 : w1.cell? ⟨b, 1, none⟩ = some v := by rw [Lib.cell_of_heap hbk]; rfl
  have HB1 := Lib.hid hb1
  have HK1 := Lib.hid hk1
  have hsz1 := hb1.size
  clear hb1 hk1 HCC H
  go_wp2_with (at_builtin; refine Lib.wpList_append_own_stringF _ rfl _ _ 33 9 rfl B 5 i0 Tryz.underlying33 Tryz.underlying9 hi hz0 hz1 hz2 _ _ _ rfl hown s rfl ?c3 ?c4 ?c5 ?_)
  case c3 => unfold maxLen; omega
  case c4 => omega
  case c5 => omega
  intro v' w2 hown' hgrow _
  have hlt : b < w1.heap.size := by
    rcases Nat.lt_or_ge b w1.heap.size with h' | h'
    · exact h'
    · simp [Array.getElem?_eq_none h'] at hbk
  have hb2 : w2.heap[b]? = some (.cells #[.pointer (some ⟨b, 0, none⟩), v] 56 (0, 0)) := by
    rw [hgrow.block b hlt (fun e => hne e.symm)]
    exact hbk
  have d0 : w2.cell? ⟨b, 0, none⟩ = some (.pointer (some ⟨b, 0, none⟩)) := by rw [Lib.cell_of_heap hb2]; rfl
  have d1 : w2.cell? ⟨b, 1, none⟩ = some v := by rw [Lib.cell_of_heap hb2]; rfl
  have f1 : w2.frozen? ⟨b, 1, none⟩ = false := Lib.frozen_of_heap hb2 1
  obtain ⟨ao, n', cap, rfl⟩ : ∃ ao n' cap, v' = .slice ao n' cap := by
    rcases hown'.2 with ⟨hv, _⟩ | ⟨g, cap, cur, fz, hv, _⟩
    · exact ⟨_, _, _, hv⟩
    · exact ⟨_, _, _, hv⟩
  have HP := Lib.hid (show BldPost B b (l ++ s.data.toList) w (w2.setCell ⟨b, 1, none⟩ (.slice ao n' cap)) from
    ⟨by unfold BldAt; rw [HL.out]; exact .inr (Lib.BuilderAtF.put (T := 56) (e := 5) hB hb2 (bs' := bs ++ Lib.strCells s) (by simpa [Lib.strCells_length] using hown') (by decide)),
      (HB1.out.grown hgrow (by omega) (fun k hk => (hown.lt k hk).1)).setCell (p := ⟨b, 1, none⟩) hB _,
      (HK1.out.grown hgrow (Lib.ownsRowF_kind hown)).setCell ⟨b, 1, none⟩ rfl _⟩)
  clear hown hown' hgrow hbk hb2 hne
  go_wp2
  go_ret2
  exact ⟨rfl, HP.out⟩
/-- A new builder. -/
theorem bld_new (B : Nat) (w : World) (hB : B ≤ w.heap.size) : BldAt B w.heap.size [] (w.alloc (.cells #[.pointer none, .slice none 0 0] 56)) :=
  .inl ⟨hB, .slice none 0 0, heap_alloc_last w _, World.ownsRowF_nil _ _ _ _, by simp [Value.ownBlock]⟩
theorem BldAt.lt {B b : Nat} {l : List UInt8} {w : World} (h : BldAt B b l w) : b < w.heap.size := h.elim (·.lt) (·.lt)
theorem BldAt.base {B b : Nat} {l : List UInt8} {w : World} (h : BldAt B b l w) : B ≤ b := h.elim (·.1) (·.1)
theorem BldAt.only {B b : Nat} {l : List UInt8} {w w' : World} (h : BldAt B b l w) (hO : Only (fun _ => False) w w') : BldAt B b l w' := by
  have aux : ∀ p, Lib.BuilderAtF 56 5 B b p (Lib.byteCells l) w → Lib.BuilderAtF 56 5 B b p (Lib.byteCells l) w' := by
    rintro p ⟨hB, v, hb, hown, hne⟩
    refine ⟨hB, v, (hO.block b (Array.getElem?_eq_some_iff.1 hb).1 (fun h => h)).trans hb, ?_, hne⟩
    exact hown.kept (row := none) ⟨hO.os, hO.tape, hO.output, hO.size, fun k hk _ => hO.block k hk (fun h => h)⟩ (by cases v.ownBlock <;> simp)
  exact h.imp (aux _) (aux _)
theorem bstring_any (B b : Nat) (l : List UInt8) (w : World) (h : BldAt B b l w) (hBw : B ≤ w.heap.size) :
    Calls Tryz.prog 26 #[.pointer (some ⟨b, 0, none⟩)] w fun e w' => e = .returned (.string ⟨l.toArray⟩) ∧ Below B w w' :=
  (Tryz.Builder_String_any_f B b l w h hBw).mono fun _ _ h => ⟨h.1, h.2.2⟩
theorem BldPost.trans {B b : Nat} {l l2 : List UInt8} {w w1 w2 : World} (h : BldPost B b l w w1) (k : BldPost B b l2 w1 w2) : BldPost B b l2 w w2 := ⟨k.is, h.below.trans k.below, h.others.trans k.others⟩
theorem others_only {e : TypeId} {b : Option Nat} {w w' : World} (hO : Only (fun _ => False) w w') : Lib.OthersKept e b w w' := fun k _ hk _ _ => (hO.block k (Array.getElem?_eq_some_iff.1 hk).1 (fun h => h)).trans hk
theorem BldPost.only {B b : Nat} {l : List UInt8} {w w1 w2 : World} (h : BldPost B b l w w1) (hO : Only (fun _ => False) w1 w2) (hB : B ≤ w1.heap.size) : BldPost B b l w w2 :=
  ⟨h.is.only hO, h.below.trans (hO.below hB (fun _ _ h => h)), h.others.trans (others_only hO)⟩
end Go.Proofs.YtkpfachmakfncaaGreatDoor

namespace Go.Proofs.YtkpfachmakfncaaGreatDoor
open Go.RowKit

def sealAt (y : Int) (h : List Int) (j : Nat) : Int := if j < 8 then xor8 (y / 2 ^ (56 - 8 * j) % 256) (ptAt h j) else ptAt h j
theorem xor8_comm (x y : Int) : xor8 x y = xor8 y x := by
  show IntKind.u8.wrap ((BitVec.ofInt 8 x ^^^ BitVec.ofInt 8 y).toNat : Int) = IntKind.u8.wrap ((BitVec.ofInt 8 y ^^^ BitVec.ofInt 8 x).toNat : Int)
  rw [BitVec.xor_comm]
theorem sbTo_map (y : Int) (h : List Int) : ∀ k, sbTo y h k = (List.range k).map (fun j => xor8 (y / 2 ^ (56 - 8 * j) % 256) (ptAt h j))
  | 0 => rfl
  | k + 1 => by rw [sbTo, sbTo_map y h k, List.range_succ, List.map_append]; rfl
theorem sealL_map (y : Int) (k i : Nat) : sealL y k i = (List.range 16).map (sealAt y (padL k i)) := by
  have hl : (padL k i).length = 32 := (padL_bytes k i).len
  unfold sealL
  generalize padL k i = h at *
  rw [sbTo_map, show 16 = 8 + 8 from rfl, List.range_add, List.map_append]
  have e1 : (List.range 8).map (fun j => xor8 (y / 2 ^ (56 - 8 * j) % 256) (ptAt h j)) = (List.range 8).map (sealAt y h) := by
    apply List.map_congr_left
    intro j hj
    rw [List.mem_range] at hj
    unfold sealAt
    rw [if_pos hj]
  have e2 : (h.drop 8).take 8 = ((List.range 8).map (8 + ·)).map (sealAt y h) := by
    apply List.ext_getElem
    · rw [List.length_take, List.length_drop, hl]; simp
    · intro j h1 h2
      have hj : j < 8 := by rw [List.length_take, List.length_drop, hl] at h1; omega
      simp only [List.getElem_take, List.getElem_drop, List.getElem_map, List.getElem_range]
      unfold sealAt ptAt
      rw [if_neg (by omega)]
      simp [List.getD, show 8 + j < h.length by omega]
  rw [e1, e2]
structure SeAt (w wr : World) (g : Nat) (h : List Int) (f : Nat → Int) : Prop where
  row : wr.rowIs (g + 1) 95 16 (fun i => .int .u8 (f i))
  pad : ∀ i, i < 32 → wr.cell? ⟨g, i, none⟩ = some (.int .u8 (ptAt h i))
  lo : w.heap.size ≤ g
  only : Only (fun _ => False) w wr
theorem SeAt.congr {w wr : World} {g : Nat} {h : List Int} {f f' : Nat → Int} (H : SeAt w wr g h f) (e : ∀ i, i < 16 → f i = f' i) : SeAt w wr g h f' :=
  ⟨H.row.congr (fun i hi => by rw [e i hi]), H.pad, H.lo, H.only⟩
theorem SeAt.drewN {w wr : World} {g : Nat} {h : List Int} {f : Nat → Int} (H : SeAt w wr g h f) (q : Nat) : SeAt w (wr.drewN q) g h f := ⟨H.row, H.pad, H.lo, H.only.drewN q⟩
theorem SeAt.put {w wr : World} {g : Nat} {h : List Int} {f : Nat → Int} (H : SeAt w wr g h f) (k : Nat) (x : Int) : SeAt w (wr.setCell ⟨g + 1, k, none⟩ (.int .u8 x)) g h (fun j => if j = k then x else f j) := by
  refine ⟨(H.row.set k _).congr (fun i _ => ?_), fun i hi => (World.cell?_setCell_far _ _ _ _ (by show g + 1 ≠ g; omega)).trans (H.pad i hi), H.lo, H.only.setCell (.inr (by show w.heap.size ≤ g + 1; have := H.lo; omega)) _⟩
  split <;> rfl
set_option maxRecDepth 100000 in
set_option maxHeartbeats 1000000 in
theorem pseal_any (y : Int) (k i : Nat) (w : World) (_hy0 : 0 ≤ y) (_hy1 : y ≤ 9223372036854775807) (hk : k < 9223372036854775808) (hi : i < 9223372036854775808) (hG : Glob w) :
    Calls Tryz.prog 40 #[.int .i64 k, .int .i64 i, .int .i64 y] w fun e w' => e = .returned (.string (strOfNums (sealL y k i))) ∧ Only (fun _ => False) w w' := by
  have HP := Lib.hid (ppad_any k i w hk hi hG)
  have HB := Lib.hid (padL_bytes k i)
  have HSE := Lib.hid (sealL_map y k i)
  have HIZ := Lib.hid (show (Tryz.prog.info? 92).map (·.size) = some (byRow (padL k i)).size by rw [byRow_size, (padL_bytes k i).len]; exact Tryz.infoH)
  have HSZ := Lib.hid (show 32 = (byRow (padL k i)).size by rw [byRow_size, (padL_bytes k i).len])
  have HON := Lib.hid (byRow_one (padL k i))
  generalize padL k i = h at *
  clear hk hi hG
  go_enter Tryz.func40, Tryz.ntmps40
  go_wp2_with fail
  refine HP.out.mono ?_
  rintro e w1 ⟨rfl, hO1⟩
  clear HP
  have HS0 := Lib.hid (show SeAt w ((w1.alloc (.cells (byRow h) 92)).alloc (.cells (Array.replicate 16 (.int .u8 0)) 95)) w1.heap.size h (fun _ => 0) by
    refine ⟨?_, fun j hj => ?_, hO1.size, (hO1.alloc _).alloc _⟩
    · have := World.rowIs_alloc (w1.alloc (.cells (byRow h) 92)) (Array.replicate 16 (.int .u8 0)) 95 (fun _ => .int .u8 0) (fun i hi => by simp at hi; simp [hi])
      rw [Array.size_replicate, World.size_alloc] at this
      exact this
    · rw [World.cell?_alloc_old _ _ _ (by simp), World.cell?_alloc_new]
      exact byRow_at h j (by rw [HB.out.len]; exact hj))
  go_wp2_with (first | (refine wpList_store_row rfl 92 _ _ rfl w1.heap.size (byRow h) rfl rfl 92 _ (heap_alloc_last w1 _) HIZ.out HSZ.out HON.out ?_; rw [World.setRow_alloc_new]))
  generalize hW : World.alloc _ _ = W
  change (w1.alloc (.cells (byRow h) 92)).alloc (.cells (Array.replicate 16 (.int .u8 0)) 95) = W at hW
  rw [hW] at HS0
  clear hW HIZ HSZ HON hO1
  try rw [World.size_alloc]
  generalize w1.heap.size = g at *
  go_loopw [13] (fun vi wr => ∃ j : Nat, j ≤ 16 ∧ vi = .int .i64 j ∧ SeAt w wr g h (fun i => if i < j then sealAt y h i else 0)) (fun vi _ => 16 - (intOf vi).toNat)
  case atStart => exact ⟨0, by omega, rfl, HS0.out.congr (fun i _ => by rw [if_neg (by omega)])⟩
  case round =>
    clear HS0
    obtain ⟨j, hj, rfl, hS⟩ := hrel
    by_cases hlt : j < 16
    · have hc := hS.pad j (by omega)
      have hn1 := hS.row.lt
      have hc2 := hS.row.cell (i := j) hlt
      have hfz := hS.row.frozen j
      obtain ⟨b0, b1⟩ := HB.out.bd j
      have HS := Lib.hid hS
      have i1 : (j : Int) < 16 := by omega
      have i2 : (j : Int) < 32 := by omega
      have i3 : j < 32 := by omega
      have HAT := Lib.hid (show sealAt y h j = if j < 8 then xor8 (y / 2 ^ (56 - 8 * j) % 256) (ptAt h j) else ptAt h j from rfl)
      by_cases h8 : j < 8
      · rw [if_pos h8] at HAT
        generalize ptAt h j = x at *
        have HS1 := Lib.hid (hS.put j x)
        have c2 := HS1.out.row.cell (i := j) hlt
        have fz2 := HS1.out.row.frozen j
        have l2 := HS1.out.row.lt
        simp only [if_true] at c2
        have i4 : (j : Int) < 8 := by omega
        have i5 : 0 ≤ 56 - 8 * (j : Int) := by omega
        have i6 : (56 - 8 * (j : Int)).toNat = 56 - 8 * j := by omega
        clear hS hj
        go_wp2_with fail
        generalize wr.setCell ⟨g + 1, j, none⟩ (.int .u8 x) = wq at *
        refine wp_region_quiet_split 11 (by kernel_rfl) (by kernel_rfl) (by kernel_rfl) ?_
        simp only [List.take_succ_cons, List.take_zero, List.drop_succ_cons, List.drop_zero]
        repeat (go_big_quiet_step (fail))
        refine wpQuiet_nil ?_
        intro _ hw'
        obtain ⟨nq, hw''⟩ := hw'
        subst hw''
        go_wp2
        go_roundw
        case rel => exact ⟨j + 1, by omega, by go_num, ((HS1.out.drewN nq).put j (bits BinOp.xor IntKind.u8 x (y / 2 ^ (56 - 8 * j) % 256))).congr (fun i _ => by
          by_cases e : i = j
          · subst e; rw [if_pos rfl, if_pos (by omega), HAT.out]; exact xor8_comm _ _
          · rw [if_neg e, if_neg e]
            by_cases e2 : i < j
            · rw [if_pos e2, if_pos (by omega)]
            · rw [if_neg e2, if_neg (by omega)])⟩
        case measure => simp [intOf]; omega
      · rw [if_neg h8] at HAT
        generalize ptAt h j = x at *
        have i4 : ¬ (j : Int) < 8 := by omega
        clear hS hj
        go_wp2
        go_roundw
        case rel => exact ⟨j + 1, by omega, by go_num, (HS.out.put j x).congr (fun i _ => by
          by_cases e : i = j
          · subst e; rw [if_pos rfl, if_pos (by omega), HAT.out]
          · rw [if_neg e]
            by_cases e2 : i < j
            · rw [if_pos e2, if_pos (by omega)]
            · rw [if_neg e2, if_neg (by omega)])⟩
        case measure => simp [intOf]; omega
    · obtain rfl : j = 16 := by omega
      have hcv := run_convert_bytes_arg (P := Tryz.prog) wr 33 5 Tryz.underlying33 Tryz.underlying5 (g + 1) 0 16 16 (sealL y k i) (by rw [HSE.out]; rfl) (fun i hi => by
        rw [Nat.zero_add, hS.row.cell hi, if_pos hi, HSE.out]
        simp [List.getD, hi]) 9 Tryz.underlying9
      have hl := hS.row.lt
      have HO := Lib.hid hS.only
      clear hS hlt hj
      go_wp2
      go_ret
      exact ⟨rfl, HO.out⟩
end Go.Proofs.YtkpfachmakfncaaGreatDoor

namespace Go.Proofs.YtkpfachmakfncaaGreatDoor
open Go.RowKit

def contB (b : ByteArray) (h : List Int) (j : Nat) : Int := xor8 (byteZ b j) (ptAt h j)
theorem contB_bd (b : ByteArray) (h : List Int) (j : Nat) : 0 ≤ contB b h j ∧ contB b h j ≤ 255 := by
  unfold contB xor8 bits
  show 0 ≤ IntKind.u8.wrap _ ∧ IntKind.u8.wrap _ ≤ 255
  rw [IntKind.wrap_u8']
  omega
def contR (b : ByteArray) (h : List Int) : Nat → Int
  | 0 => 0
  | k + 1 => contR b h k * 256 + contB b h k
theorem contR_bd (b : ByteArray) (h : List Int) : ∀ k, 0 ≤ contR b h k ∧ contR b h k < 256 ^ k
  | 0 => by rw [contR]; omega
  | k + 1 => by
    rw [contR, Int.pow_succ]
    have := contR_bd b h k
    have := contB_bd b h k
    omega
/-- The bytes behind the number are zeros. -/
def tailB (b : ByteArray) (h : List Int) : Bool := (List.range 8).all (fun j => contB b h (8 + j) == 0)
theorem tailB_all {b : ByteArray} {h : List Int} (H : ∀ i, 8 ≤ i → i < 16 → contB b h i = 0) : tailB b h = true := by
  unfold tailB
  rw [List.all_eq_true]
  intro j hj
  rw [List.mem_range] at hj
  rw [H (8 + j) (by omega) (by omega)]
  rfl
theorem tailB_no {b : ByteArray} {h : List Int} {i : Nat} (h1 : 8 ≤ i) (h2 : i < 16) (H : contB b h i ≠ 0) : tailB b h = false := by
  unfold tailB
  rw [List.all_eq_false]
  refine ⟨i - 8, by rw [List.mem_range]; omega, ?_⟩
  rw [show 8 + (i - 8) = i by omega]
  simpa using H
/-- What a box holds, if it is one. -/
def contV (b : ByteArray) (k i : Nat) : Int × Bool := if (b.size == 16 && tailB b (padL k i)) = true then (wrap64 (contR b (padL k i) 8), true) else (0, false)
structure CoAt (w wr : World) (c g : Nat) (h : List Int) (f : Nat → Int) : Prop where
  row : wr.rowIs c 95 16 (fun i => .int .u8 (f i))
  pad : ∀ i, i < 32 → wr.cell? ⟨g, i, none⟩ = some (.int .u8 (ptAt h i))
  lo : w.heap.size ≤ c
  far : c ≠ g
  lt : g < wr.heap.size
  only : Only (fun _ => False) w wr
theorem CoAt.congr {w wr : World} {c g : Nat} {h : List Int} {f f' : Nat → Int} (H : CoAt w wr c g h f) (e : ∀ i, i < 16 → f i = f' i) : CoAt w wr c g h f' :=
  ⟨H.row.congr (fun i hi => by rw [e i hi]), H.pad, H.lo, H.far, H.lt, H.only⟩
theorem CoAt.drewN {w wr : World} {c g : Nat} {h : List Int} {f : Nat → Int} (H : CoAt w wr c g h f) (q : Nat) : CoAt w (wr.drewN q) c g h f := ⟨H.row, H.pad, H.lo, H.far, H.lt, H.only.drewN q⟩
theorem CoAt.put {w wr : World} {c g : Nat} {h : List Int} {f : Nat → Int} (H : CoAt w wr c g h f) (k : Nat) (x : Int) : CoAt w (wr.setCell ⟨c, k, none⟩ (.int .u8 x)) c g h (fun j => if j = k then x else f j) := by
  refine ⟨(H.row.set k _).congr (fun i _ => ?_), fun i hi => (World.cell?_setCell_far _ _ _ _ H.far).trans (H.pad i hi), H.lo, H.far, by have := H.lt; simpa [World.setCell] using this, H.only.setCell (.inr H.lo) _⟩
  split <;> rfl
set_option maxRecDepth 100000 in
set_option maxHeartbeats 1000000 in
theorem pcontent_any (b : ByteArray) (k i : Nat) (w : World) (_hbs : b.size ≤ 9223372036854775807) (hk : k < 9223372036854775808) (hi : i < 9223372036854775808) (hG : Glob w) :
    Calls Tryz.prog 64 #[.int .i64 k, .int .i64 i, .string b] w fun e w' => e = .returned (.tuple #[.int .i64 (contV b k i).1, .bool (contV b k i).2]) ∧ Only (fun _ => False) w w' := by
  have HP := Lib.hid (fun w hG => ppad_any k i w hk hi hG)
  have HG := Lib.hid hG
  have HB := Lib.hid (padL_bytes k i)
  have HV := Lib.hid (show contV b k i = if (b.size == 16 && tailB b (padL k i)) = true then (wrap64 (contR b (padL k i) 8), true) else (0, false) from rfl)
  have HIZ := Lib.hid (show (Tryz.prog.info? 92).map (·.size) = some (byRow (padL k i)).size by rw [byRow_size, (padL_bytes k i).len]; exact Tryz.infoH)
  have HSZ := Lib.hid (show 32 = (byRow (padL k i)).size by rw [byRow_size, (padL_bytes k i).len])
  have HON := Lib.hid (byRow_one (padL k i))
  generalize padL k i = h at *
  clear hk hi hG
  go_enter Tryz.func64, Tryz.ntmps64
  by_cases hb : b.size = 16
  · have hb' : ((b.size : Int) != 16) = false := by rw [hb]; rfl
    have HBS := Lib.hid hb
    clear hb
    go_wp2_with fail
    refine (HP.out _ (HG.out.only ((Only.refl (fun _ => False) w).alloc _))).mono ?_
    rintro e w1 ⟨rfl, hO1⟩
    have HS0 := Lib.hid (show CoAt w (w1.alloc (.cells (byRow h) 92)) w.heap.size w1.heap.size h (fun _ => 0) by
      have hz := row_kept hO1
      have hlt := (Array.getElem?_eq_some_iff.1 hz).1
      refine ⟨⟨Array.replicate 16 (.int .u8 0), ?_, by simp, fun i hi => by simp [hi]⟩, fun j hj => ?_, Nat.le_refl _, by omega, by simp, (((Only.refl _ w).alloc _).trans hO1).alloc _⟩
      · rw [Below.heap_alloc _ _ _ hlt]; exact hz
      · rw [World.cell?_alloc_new]; exact byRow_at h j (by rw [HB.out.len]; exact hj))
    clear hO1
    go_wp2_with (first | (refine wpList_store_row rfl 92 _ _ rfl w1.heap.size (byRow h) rfl rfl 92 _ (heap_alloc_last w1 _) HIZ.out HSZ.out HON.out ?_; rw [World.setRow_alloc_new]))
    generalize w1.alloc (.cells (byRow h) 92) = W at *
    clear HIZ HSZ HON HP
    generalize w1.heap.size = g at *
    obtain ⟨c, hc⟩ : ∃ c, w.heap.size = c := ⟨_, rfl⟩
    rw [hc] at HS0
    simp only [hc]
    clear hc
    go_loopw [18, 10] (fun vi vn wr => ∃ j : Nat, j ≤ 16 ∧ vi = .int .i64 j ∧ vn = .int .u64 (contR b h (min j 8)) ∧ (∀ i, 8 ≤ i → i < j → contB b h i = 0) ∧ ∃ f, CoAt w wr c g h f) (fun vi _ _ => 16 - (intOf vi).toNat)
    case atStart => exact ⟨0, by omega, rfl, rfl, fun i h1 h2 => by omega, _, HS0.out⟩
    case round =>
      clear HS0
      obtain ⟨j, hj, rfl, rfl, hall, f, hS⟩ := hrel
      have HALL := Lib.hid hall
      have HS := Lib.hid hS
      clear hall
      by_cases hlt : j < 16
      · have hc := hS.pad j (by omega)
        have hl1 := hS.lt
        have hl2 := hS.row.lt
        have hc2 := hS.row.cell (i := j) hlt
        have hfz := hS.row.frozen j
        obtain ⟨b0, b1⟩ := HB.out.bd j
        have HCB := Lib.hid (show contB b h j = xor8 (byteZ b j) (ptAt h j) from rfl)
        have HCBD := Lib.hid (contB_bd b h j)
        have i1 : (j : Int) < 16 := by omega
        have i2 : (j : Int) < 32 := by omega
        have i3 : j < 32 := by omega
        have i4 : (j : Int) < b.size := by rw [HBS.out]; omega
        have i5 : 0 ≤ (j : Int) := by omega
        have i6 : j < b.size := by rw [HBS.out]; omega
        have HBZ := Lib.hid (byteZ_eq b j i6)
        clear hS hj
        generalize ptAt h j = x at *
        go_wp2_with fail
        refine wp_region_quiet_split 9 (by kernel_rfl) (by kernel_rfl) (by kernel_rfl) ?_
        simp only [List.take_succ_cons, List.take_zero, List.drop_succ_cons, List.drop_zero]
        repeat (go_big_quiet_step (fail))
        refine wpQuiet_nil ?_
        intro _ hw'
        obtain ⟨nq, hw''⟩ := hw'
        subst hw''
        have HSQ := Lib.hid (HS.out.drewN nq)
        have q2 := HSQ.out.row.cell (i := j) hlt
        have qf := HSQ.out.row.frozen j
        have ql := HSQ.out.row.lt
        clear hc hc2 hfz hl1 hl2 HS
        generalize wr.drewN nq = wq at *
        obtain ⟨r, hr⟩ : ∃ r, bits BinOp.xor IntKind.u8 (byteZ b j) x = r := ⟨_, rfl⟩
        rw [show xor8 (byteZ b j) x = r from hr] at HCB
        rw [HBZ.out, hr]
        clear hr
        have HPT := Lib.hid (HSQ.out.put j r)
        rw [HCB.out] at HCBD
        obtain ⟨r0, r1⟩ := HCBD.out
        by_cases h8 : j < 8
        · have i7 : (j : Int) < 8 := by omega
          have hn := contR_bd b h j
          have hp : (256 : Int) ^ j ≤ 256 ^ 7 := by
            have : (256 : Nat) ^ j ≤ 256 ^ 7 := Nat.pow_le_pow_right (by decide) (by omega)
            have h2 : ((256 ^ j : Nat) : Int) ≤ ((256 ^ 7 : Nat) : Int) := Int.ofNat_le.2 this
            simpa using h2
          have n0 := hn.1
          have n1 : contR b h j ≤ 72057594037927935 := by omega
          have HNX := Lib.hid (show contR b h (min (j + 1) 8) = contR b h j * 256 + r by rw [show min (j + 1) 8 = j + 1 by omega, contR, HCB.out])
          have HOR := Lib.hid (or64_low (contR b h j) r n0 n1 r0 r1)
          rw [show min j 8 = j by omega]
          clear hn hp
          generalize contR b h j = n at *
          go_wp2
          refine ⟨?rel, ?measure⟩
          case rel => exact ⟨j + 1, by omega, by go_num, by rw [HOR.out, HNX.out], fun i h1 h2 => by omega, _, HPT.out⟩
          case measure => simp [intOf]; omega
        · have i7 : ¬ (j : Int) < 8 := by omega
          have HNX := Lib.hid (show contR b h (min (j + 1) 8) = contR b h (min j 8) by rw [show min (j + 1) 8 = 8 by omega, show min j 8 = 8 by omega])
          generalize contR b h (min j 8) = n at *
          by_cases hr0 : r = 0
          · have hr0' : (r != 0) = false := by rw [hr0]; rfl
            have HALL2 := Lib.hid (show ∀ i, 8 ≤ i → i < j + 1 → contB b h i = 0 from fun i h1 h2 => by
              by_cases e : i = j
              · rw [e, HCB.out, hr0]
              · exact HALL.out i h1 (by omega))
            clear hr0
            go_wp2
            refine ⟨?rel, ?measure⟩
            case rel => exact ⟨j + 1, by omega, by go_num, by rw [HNX.out], HALL2.out, _, HPT.out⟩
            case measure => simp [intOf]; omega
          · have hr0' : (r != 0) = true := by simpa using hr0
            have HF := Lib.hid (show contV b k i = (0, false) by rw [HV.out, tailB_no (by omega) hlt (by rw [HCB.out]; exact hr0), Bool.and_false]; rfl)
            have HO := Lib.hid HPT.out.only
            clear hr0
            go_wp2
            go_ret2
            exact ⟨by rw [HF.out]; rfl, HO.out⟩
      · obtain rfl : j = 16 := by omega
        have HT := Lib.hid (show contV b k i = (wrap64 (contR b h 8), true) by rw [HV.out, HBS.out, tailB_all (fun i h1 h2 => HALL.out i h1 h2)]; rfl)
        have HO := Lib.hid hS.only
        have hn := contR_bd b h 8
        have n0 := hn.1
        have n1 : contR b h 8 ≤ 18446744073709551615 := by omega
        rw [show min 16 8 = 8 from rfl]
        clear hS hlt hj hn
        generalize contR b h 8 = n at *
        go_wp2
        go_ret2
        exact ⟨by rw [HT.out]; rfl, HO.out⟩
  · have hb' : ((b.size : Int) != 16) = true := by simp; omega
    have HF := Lib.hid (show contV b k i = (0, false) by rw [HV.out, show (b.size == 16) = false by simp; omega]; rfl)
    go_wp2_with fail
    go_ret2
    exact ⟨by rw [HF.out]; rfl, (Only.refl _ w).alloc _⟩
end Go.Proofs.YtkpfachmakfncaaGreatDoor

namespace Go.Proofs.YtkpfachmakfncaaGreatDoor
open Go.RowKit

theorem xor8_back (a p : Int) (h0 : 0 ≤ a) (h1 : a ≤ 255) (h2 : 0 ≤ p) (h3 : p ≤ 255) : xor8 (xor8 a p) p = a := by
  obtain ⟨a, rfl⟩ := Int.eq_ofNat_of_zero_le h0
  obtain ⟨p, rfl⟩ := Int.eq_ofNat_of_zero_le h2
  unfold xor8
  have hl : a ^^^ p < 256 := Nat.xor_lt_two_pow (n := 8) (by omega) (by omega)
  rw [u8_xor_nat a p (by omega) (by omega), u8_xor_nat _ p hl (by omega), Nat.xor_assoc, Nat.xor_self, Nat.xor_zero]
theorem xor8_self (p : Int) (h2 : 0 ≤ p) (h3 : p ≤ 255) : xor8 p p = 0 := by
  obtain ⟨p, rfl⟩ := Int.eq_ofNat_of_zero_le h2
  unfold xor8
  rw [u8_xor_nat p p (by omega) (by omega), Nat.xor_self]
  rfl
theorem byteZ_strOf (l : List Int) (j : Nat) (hj : j < l.length) (h0 : 0 ≤ ptAt l j) (h1 : ptAt l j ≤ 255) : byteZ (strOfNums l) j = ptAt l j := by
  have e : (strOfNums l).data.toList.getD j 0 = UInt8.ofNat (ptAt l j).toNat := by
    unfold strOfNums ptAt
    simp [List.getD, hj]
  unfold byteZ
  rw [e, UInt8.toNat_ofNat']
  omega
theorem xor8_bd (x y : Int) : 0 ≤ xor8 x y ∧ xor8 x y ≤ 255 := by
  unfold xor8 bits
  show 0 ≤ IntKind.u8.wrap _ ∧ IntKind.u8.wrap _ ≤ 255
  rw [IntKind.wrap_u8']
  omega
theorem seal_byte (y : Int) (k i j : Nat) (hj : j < 16) : byteZ (strOfNums (sealL y k i)) j = sealAt y (padL k i) j := by
  have e : ptAt (sealL y k i) j = sealAt y (padL k i) j := by
    rw [sealL_map]
    unfold ptAt
    simp [List.getD, hj]
  have hb : 0 ≤ sealAt y (padL k i) j ∧ sealAt y (padL k i) j ≤ 255 := by
    unfold sealAt
    split
    · exact xor8_bd _ _
    · exact (padL_bytes k i).bd j
  rw [byteZ_strOf _ _ (by rw [sealL_len]; exact hj) (by rw [e]; exact hb.1) (by rw [e]; exact hb.2), e]
theorem seal_cont (y : Int) (k i : Nat) (h0 : 0 ≤ y) (h1 : y ≤ 9223372036854775807) : contV (strOfNums (sealL y k i)) k i = (y, true) := by
  have hs : (strOfNums (sealL y k i)).size = 16 := by rw [strOfNums_size, sealL_len]
  have hc : ∀ j, j < 8 → contB (strOfNums (sealL y k i)) (padL k i) j = y / 2 ^ (56 - 8 * j) % 256 := fun j hj => by
    have hb := (padL_bytes k i).bd j
    unfold contB
    rw [seal_byte y k i j (by omega)]
    unfold sealAt
    rw [if_pos hj]
    exact xor8_back _ _ (by omega) (by omega) hb.1 hb.2
  have ht : tailB (strOfNums (sealL y k i)) (padL k i) = true := tailB_all fun j h1 h2 => by
    have hb := (padL_bytes k i).bd j
    unfold contB
    rw [seal_byte y k i j h2]
    unfold sealAt
    rw [if_neg (by omega)]
    exact xor8_self _ hb.1 hb.2
  have hr : contR (strOfNums (sealL y k i)) (padL k i) 8 = y := by
    simp only [contR, hc 0 (by decide), hc 1 (by decide), hc 2 (by decide), hc 3 (by decide), hc 4 (by decide), hc 5 (by decide), hc 6 (by decide), hc 7 (by decide)]
    simp only [Nat.reduceMul, Nat.reduceSub]
    omega
  unfold contV
  rw [hs, ht, hr, show wrap64 y = y by unfold wrap64; omega]
  rfl
def insideB (x : Int) : Bool := decide (0 ≤ x) && decide (x ≤ 1152921504606845788)
theorem inside_any (x : Int) (w : World) : Calls Tryz.prog 37 #[.int .i64 x] w fun e w' => e = .returned (.bool (insideB x)) ∧ w = w' := by
  go_enter Tryz.func37, Tryz.ntmps37
  by_cases h1 : 0 ≤ x
  · by_cases h2 : x ≤ 1152921504606845788
    · have HV := Lib.hid (show insideB x = true by unfold insideB; simp [h1, h2])
      go_wp2
      go_ret
      exact ⟨by rw [HV.out]; rfl, rfl⟩
    · have HV := Lib.hid (show insideB x = false by unfold insideB; simp [h2])
      go_wp2
      go_ret
      exact ⟨by rw [HV.out]; rfl, rfl⟩
  · have HV := Lib.hid (show insideB x = false by unfold insideB; simp [h1])
    go_wp2
    go_ret
    exact ⟨by rw [HV.out]; rfl, rfl⟩
end Go.Proofs.YtkpfachmakfncaaGreatDoor

namespace Go.Proofs.YtkpfachmakfncaaGreatDoor
open Go.RowKit

def fitsB (d : Dl) (x y : Int) : Bool := insideB y && decide (powM 4 y 2305843009213691579 = atZ d.cm x)
set_option maxRecDepth 100000 in
set_option maxHeartbeats 1000000 in
theorem fits_any (a0 a2 : Option Addr) (k0 k2 : Nat) (d : Dl) (x y : Int) (w : World) (hD : DlAt w (.slice a0 d.cm.length k0) (.int .i64 d.pt) (.slice a2 d.bx.length k2) d) (hcm : d.cm.length ≤ 1000000) :
    Calls Tryz.prog 65 #[.agg #[.slice a0 d.cm.length k0, .int .i64 d.pt, .slice a2 d.bx.length k2], .agg #[.int .i64 x, .int .i64 y]] w fun e w' => e = .returned (.bool (fitsB d x y)) ∧ Only (fun _ => False) w w' := by
  have hA := ((Only.refl (fun _ => False) w).alloc (.cells #[.slice a0 d.cm.length k0, .int .i64 d.pt, .slice a2 d.bx.length k2] 25)).alloc (.cells #[.int .i64 x, .int .i64 y] 48)
  have hz1 := heap_alloc_last (w.alloc (.cells #[.slice a0 d.cm.length k0, .int .i64 d.pt, .slice a2 d.bx.length k2] 25)) (.cells #[.int .i64 x, .int .i64 y] 48)
  have hz0 := (Below.heap_alloc (w.alloc (.cells #[.slice a0 d.cm.length k0, .int .i64 d.pt, .slice a2 d.bx.length k2] 25)) (.cells #[.int .i64 x, .int .i64 y] 48) w.heap.size (by simp)).trans (heap_alloc_last w _)
  rw [World.size_alloc] at hz1
  have HA := Lib.hid hA
  have HCM := Lib.hid (hD.cm.only hA)
  have e0 : _ = some (Value.slice a0 d.cm.length k0) := cell_of_row _ _ 0 _ _ _ hz0
  have e1 : _ = some (Value.int .i64 x) := cell_of_row _ _ 0 _ _ _ hz1
  have e2 : _ = some (Value.int .i64 y) := cell_of_row _ _ 1 _ _ _ hz1
  have HV := Lib.hid (show fitsB d x y = (insideB y && decide (powM 4 y 2305843009213691579 = atZ d.cm x)) from rfl)
  clear hA hz0 hz1 hD
  go_enter Tryz.func65, Tryz.ntmps65
  go_wp2_with fail
  generalize (w.alloc (.cells #[.slice a0 d.cm.length k0, .int .i64 d.pt, .slice a2 d.bx.length k2] 25)).alloc (.cells #[.int .i64 x, .int .i64 y] 48) = w1 at *
  have y0 := fun (d : Nat) (os : Array Obj) => cell_regrown e0 d os
  have y1 := fun (d : Nat) (os : Array Obj) => cell_regrown e1 d os
  have y2 := fun (d : Nat) (os : Array Obj) => cell_regrown e2 d os
  clear e0 e1 e2
  have HI := Lib.hid (fun w => inside_any y w)
  cases hi : insideB y
  · have HF := Lib.hid (show fitsB d x y = false by rw [HV.out, hi]; rfl)
    rw [hi] at HI
    clear hi
    refine wp_region_quiet_below (by kernel_rfl) (by kernel_rfl) ?_
    repeat (go_big_quiet_step ((first | (go_at_call 37; exact Calls.regrown_of ((HI.out _).mono fun _ _ h => ⟨h.1, by rw [← h.2]; exact Below.refl _ _⟩)))))
    refine wpQuiet_nil ?_
    intro w2 hw'
    obtain ⟨pq, hw''⟩ := hw'
    have HO := Lib.hid (HA.out.trans (Only.ofBelow (below_regrown w1 pq.d pq.os) (fun _ => False)))
    rw [← hw''] at HO
    clear hw'' y0 y1 y2
    go_wp2
    go_ret
    exact ⟨by rw [HF.out]; rfl, HO.out⟩
  · have HF := Lib.hid (show fitsB d x y = decide (powM 4 y 2305843009213691579 = atZ d.cm x) by rw [HV.out, hi]; rfl)
    rw [hi] at HI
    have hb : 0 ≤ y ∧ y ≤ 1152921504606845788 := by unfold insideB at hi; simpa using hi
    have HP := Lib.hid (fun w => pow_any 4 y 2305843009213691579 w (by decide) (by decide) hb.1 (by omega))
    have HAT := Lib.hid (fun (w' : World) (h : PtsAt w'.heap.size w' (.slice a0 d.cm.length k0) d.cm) => at_any (.slice a0 d.cm.length k0) d.cm x w' h (by omega))
    clear hi hb
    generalize powM 4 y 2305843009213691579 = p at *
    generalize atZ d.cm x = q at *
    refine wp_region_quiet_below (by kernel_rfl) (by kernel_rfl) ?_
    repeat (go_big_quiet_step ((first | (go_at_call 37; exact Calls.regrown_of ((HI.out _).mono fun _ _ h => ⟨h.1, by rw [← h.2]; exact Below.refl _ _⟩)) | (go_at_call 39; exact Calls.regrown_of ((HP.out _).mono fun _ _ h => ⟨h.1, by rw [h.2]; exact (Below.refl _ _).alloc (Nat.le_refl _) _⟩)) | (go_at_call 22; exact Calls.regrown_of (HAT.out _ (HCM.out.only (Only.ofBelow (below_regrown _ _ _) _)))))))
    refine wpQuiet_nil ?_
    intro w2 hw'
    obtain ⟨pq, hw''⟩ := hw'
    have HO := Lib.hid (HA.out.trans (Only.ofBelow (below_regrown w1 pq.d pq.os) (fun _ => False)))
    rw [← hw''] at HO
    clear hw'' y0 y1 y2
    go_wp2
    go_ret
    exact ⟨by rw [HF.out]; first | rfl | (simp; rfl) | (show _ = Ending.returned _; simp), HO.out⟩
end Go.Proofs.YtkpfachmakfncaaGreatDoor

namespace Go.Proofs.YtkpfachmakfncaaGreatDoor
open Go.RowKit

/-- What a box of a dealing opens to. -/
def unsV (d : Dl) (k i : Nat) : Int × Int × Bool :=
  if ((contV (sAt d.bx i) k i).2 && fitsB d ((i : Int) + 1) (contV (sAt d.bx i) k i).1) = true then ((i : Int) + 1, (contV (sAt d.bx i) k i).1, true) else (0, 0, false)
theorem Tryz.infoShr : (Tryz.prog.info? 48).map (·.size) = some 2 := by kernel_rfl
theorem two_one (x y : Int) : (#[Value.int .i64 x, .int .i64 y] : Array Value).all (·.oneCell') = true := by simp [Value.oneCell']
theorem contV_bd (b : ByteArray) (k i : Nat) : -9223372036854775808 ≤ (contV b k i).1 ∧ (contV b k i).1 ≤ 9223372036854775807 := by
  unfold contV
  split
  · show _ ≤ wrap64 _ ∧ wrap64 _ ≤ _
    unfold wrap64
    omega
  · exact ⟨by show (_ : Int) ≤ 0; decide, by show (0 : Int) ≤ _; decide⟩
theorem strs_cellAt {W : World} {a : Option Addr} {len c k : Nat} {l : List ByteArray} (h : StrsAt W (.slice a len c) l) (hk : k < l.length) :
    ∃ b off, a = some ⟨b, off, none⟩ ∧ b < W.heap.size ∧ l.length ≤ c ∧ c ≤ 9223372036854775807 ∧ W.cell? ⟨b, off + k, none⟩ = some (.string (sAt l k)) := by
  rcases h with ⟨_, _, _, h0⟩ | ⟨b, off, cap, hv, hb, h1, h2, hc⟩
  · rw [h0] at hk; simp at hk
  · simp only [Value.slice.injEq] at hv
    obtain ⟨rfl, _, rfl⟩ := hv
    exact ⟨b, off, rfl, hb, h1, h2, hc k hk⟩
set_option maxRecDepth 100000 in
set_option maxHeartbeats 1000000 in
theorem unseal_any (a0 a2 : Option Addr) (k0 k2 : Nat) (d : Dl) (k i : Nat) (w : World) (hD : DlAt w (.slice a0 d.cm.length k0) (.int .i64 d.pt) (.slice a2 d.bx.length k2) d) (hcm : d.cm.length ≤ 1000000) (hbx : d.bx.length ≤ 1000000) (hi : i < d.bx.length) (hk : k < 9223372036854775808) (hs : (sAt d.bx i).size ≤ 9223372036854775807) (hG : Glob w) :
    Calls Tryz.prog 43 #[.int .i64 k, .agg #[.slice a0 d.cm.length k0, .int .i64 d.pt, .slice a2 d.bx.length k2], .int .i64 i] w fun e w' => e = .returned (.tuple #[.agg #[.int .i64 (unsV d k i).1, .int .i64 (unsV d k i).2.1], .bool (unsV d k i).2.2]) ∧ Only (fun _ => False) w w' := by
  have hA := ((Only.refl (fun _ => False) w).alloc (.cells #[.slice a0 d.cm.length k0, .int .i64 d.pt, .slice a2 d.bx.length k2] 25)).alloc (.cells #[.int .i64 0, .int .i64 0] 48)
  have hz1 := heap_alloc_last (w.alloc (.cells #[.slice a0 d.cm.length k0, .int .i64 d.pt, .slice a2 d.bx.length k2] 25)) (.cells #[.int .i64 0, .int .i64 0] 48)
  have hz0 := (Below.heap_alloc (w.alloc (.cells #[.slice a0 d.cm.length k0, .int .i64 d.pt, .slice a2 d.bx.length k2] 25)) (.cells #[.int .i64 0, .int .i64 0] 48) w.heap.size (by simp)).trans (heap_alloc_last w _)
  rw [World.size_alloc] at hz1
  have HA := Lib.hid hA
  have HZ0 := Lib.hid hz0
  have HZ1 := Lib.hid hz1
  have HDA := Lib.hid (hD.only hA)
  have HG := Lib.hid (hG.only hA)
  have e2 : _ = some (Value.slice a2 d.bx.length k2) := cell_of_row _ _ 2 _ _ _ hz0
  have HV := Lib.hid (show unsV d k i = if ((contV (sAt d.bx i) k i).2 && fitsB d ((i : Int) + 1) (contV (sAt d.bx i) k i).1) = true then ((i : Int) + 1, (contV (sAt d.bx i) k i).1, true) else (0, 0, false) from rfl)
  have HC := Lib.hid (fun w hG => pcontent_any (sAt d.bx i) k i w hs hk (by omega) hG)
  have HF := Lib.hid (fun w h => fits_any a0 a2 k0 k2 d ((i : Int) + 1) (contV (sAt d.bx i) k i).1 w h hcm)
  have hvb := contV_bd (sAt d.bx i) k i
  obtain ⟨b, off, hsl, hb, hc1, hc2, hcell⟩ := strs_cellAt HDA.out.bx hi
  cases hsl
  have i1 : (i : Int) < d.bx.length := by omega
  have i2 : 0 ≤ (i : Int) := by omega
  clear hA hz0 hz1 hD hG hs
  go_enter Tryz.func43, Tryz.ntmps43
  go_wp2_with fail
  refine (HC.out _ HG.out).mono ?_
  rintro e w3 ⟨rfl, hO⟩
  have HO3 := Lib.hid (HA.out.trans hO)
  have HZ03 := Lib.hid (row_still hO HZ0.out)
  have HZ13 := Lib.hid (row_still hO HZ1.out)
  have HD3 := Lib.hid (HDA.out.only hO)
  clear hO HC HZ0 HZ1 HDA HG HA hcell hc1 hc2 hb
  obtain ⟨hv0, hv1⟩ := hvb
  obtain ⟨v, hv⟩ : ∃ v, (contV (sAt d.bx i) k i).1 = v := ⟨_, rfl⟩
  obtain ⟨ok, hok⟩ : ∃ ok, (contV (sAt d.bx i) k i).2 = ok := ⟨_, rfl⟩
  rw [hv, hok] at HV
  rw [hv] at HF hv0 hv1
  simp only [hv, hok]
  clear hv hok
  have hA4 := (Only.refl (fun _ => False) w3).alloc (.cells #[.int .i64 ((i : Int) + 1), .int .i64 v] 48)
  have HA4 := Lib.hid (HO3.out.trans hA4)
  have HZ04 := Lib.hid (row_still hA4 HZ03.out)
  have HZ14 := Lib.hid (row_still hA4 HZ13.out)
  have HZ24 := Lib.hid (heap_alloc_last w3 (.cells #[.int .i64 ((i : Int) + 1), .int .i64 v] 48))
  have HD4 := Lib.hid (HD3.out.only hA4)
  clear hA4 HD3 HZ03 HZ13
  cases ok
  · have HE := Lib.hid (show unsV d k i = (0, 0, false) by rw [HV.out]; rfl)
    go_wp2_with (first | (refine wpList_store_row rfl 48 _ _ rfl w3.heap.size #[.int .i64 ((i : Int) + 1), .int .i64 v] rfl rfl 48 _ (heap_alloc_last w3 _) Tryz.infoShr rfl (two_one _ _) ?_; rw [World.setRow_alloc_new]) | (refine wpList_store_row rfl 48 _ _ rfl (w.heap.size + 1) #[.int .i64 0, .int .i64 0] rfl rfl 48 _ HZ14.out Tryz.infoShr rfl (two_one _ _) ?_))
    exact bodyPost_ret (v := .tuple #[.agg #[.int .i64 0, .int .i64 0], .bool false]) (results_cell_tmp (p := 6) (q := 7) rfl _ _ (w.heap.size + 1) 48 #[.int .i64 0, .int .i64 0] (0, 0) _ rfl (setRow_heap _ _ _ _ _ _ HZ14.out) Tryz.underlying48 rfl Tryz.infoShr _ rfl) rfl ⟨by rw [HE.out], HA4.out.setRow (by omega) _⟩
  · have f0 : _ = some (Value.slice a0 d.cm.length k0) := cell_of_row _ _ 0 _ _ _ HZ04.out
    have f1 : _ = some (Value.int .i64 d.pt) := cell_of_row _ _ 1 _ _ _ HZ04.out
    have f2 : _ = some (Value.slice (some ⟨b, off, none⟩) d.bx.length k2) := cell_of_row _ _ 2 _ _ _ HZ04.out
    have g0 : _ = some (Value.int .i64 ((i : Int) + 1)) := cell_of_row _ _ 0 _ _ _ HZ24.out
    have g1 : _ = some (Value.int .i64 v) := cell_of_row _ _ 1 _ _ _ HZ24.out
    go_wp2_with (first | (refine wpList_store_row rfl 48 _ _ rfl w3.heap.size #[.int .i64 ((i : Int) + 1), .int .i64 v] rfl rfl 48 _ (heap_alloc_last w3 _) Tryz.infoShr rfl (two_one _ _) ?_; rw [World.setRow_alloc_new]))
    refine (HF.out _ HD4.out).mono ?_
    rintro e w5 ⟨rfl, hO5⟩
    have HO5 := Lib.hid (HA4.out.trans hO5)
    have HZ15 := Lib.hid (row_still hO5 HZ14.out)
    have HZ25 := Lib.hid (row_still hO5 HZ24.out)
    have g2 : _ = some (Value.int .i64 ((i : Int) + 1)) := cell_of_row _ _ 0 _ _ _ HZ25.out
    have g3 : _ = some (Value.int .i64 v) := cell_of_row _ _ 1 _ _ _ HZ25.out
    clear hO5 HZ14 HZ24 HZ04 HD4 HA4 f0 f1 f2 g0 g1
    cases hfit : fitsB d ((i : Int) + 1) v
    · have HE := Lib.hid (show unsV d k i = (0, 0, false) by rw [HV.out, hfit]; rfl)
      clear hfit
      go_wp2_with (first | (refine wpList_store_row rfl 48 _ _ rfl (w.heap.size + 1) #[.int .i64 0, .int .i64 0] rfl rfl 48 _ HZ15.out Tryz.infoShr rfl (two_one _ _) ?_))
      exact bodyPost_ret (v := .tuple #[.agg #[.int .i64 0, .int .i64 0], .bool false]) (results_cell_tmp (p := 6) (q := 7) rfl _ _ (w.heap.size + 1) 48 #[.int .i64 0, .int .i64 0] (0, 0) _ rfl (setRow_heap _ _ _ _ _ _ HZ15.out) Tryz.underlying48 rfl Tryz.infoShr _ rfl) rfl ⟨by rw [HE.out], HO5.out.setRow (by omega) _⟩
    · have HE := Lib.hid (show unsV d k i = ((i : Int) + 1, v, true) by rw [HV.out, hfit]; rfl)
      clear hfit
      go_wp2_with (first | (refine wpList_store_row rfl 48 _ _ rfl (w.heap.size + 1) #[.int .i64 ((i : Int) + 1), .int .i64 v] rfl rfl 48 _ HZ15.out Tryz.infoShr rfl (two_one _ _) ?_))
      exact bodyPost_ret (v := .tuple #[.agg #[.int .i64 ((i : Int) + 1), .int .i64 v], .bool true]) (results_cell_tmp (p := 6) (q := 7) rfl _ _ (w.heap.size + 1) 48 #[.int .i64 ((i : Int) + 1), .int .i64 v] (0, 0) _ rfl (setRow_heap _ _ _ _ _ _ HZ15.out) Tryz.underlying48 rfl Tryz.infoShr _ rfl) rfl ⟨by rw [HE.out], HO5.out.setRow (by omega) _⟩
end Go.Proofs.YtkpfachmakfncaaGreatDoor

namespace Go.Proofs.YtkpfachmakfncaaGreatDoor
open Go.RowKit

/-- The number that a key makes of a dealing's point. -/
def seedN (d : Dl) (key : Int) : Int := powM d.pt (key % 1152921504606845789) 2305843009213691579
set_option maxRecDepth 100000 in
set_option maxHeartbeats 1000000 in
theorem open_yes (a0 a2 : Option Addr) (k0 k2 : Nat) (d : Dl) (key : Int) (i : Nat) (w : World) (hD : DlAt w (.slice a0 d.cm.length k0) (.int .i64 d.pt) (.slice a2 d.bx.length k2) d) (hcm : d.cm.length ≤ 1000000) (hbx : d.bx.length ≤ 1000000) (hi : i < d.bx.length) (hs : (sAt d.bx i).size ≤ 9223372036854775807) (hG : Glob w) :
    Calls Tryz.prog 19 #[.int .i64 key, .agg #[.slice a0 d.cm.length k0, .int .i64 d.pt, .slice a2 d.bx.length k2], .int .i64 i] w fun e w' => e = .returned (.tuple #[.agg #[.int .i64 (unsV d (seedN d key).toNat i).1, .int .i64 (unsV d (seedN d key).toNat i).2.1], .bool (unsV d (seedN d key).toNat i).2.2]) ∧ Only (fun _ => False) w w' := by
  have hA := ((Only.refl (fun _ => False) w).alloc (.cells #[.slice a0 d.cm.length k0, .int .i64 d.pt, .slice a2 d.bx.length k2] 25)).alloc (.cells #[.int .i64 0, .int .i64 0] 48)
  have hz1 := heap_alloc_last (w.alloc (.cells #[.slice a0 d.cm.length k0, .int .i64 d.pt, .slice a2 d.bx.length k2] 25)) (.cells #[.int .i64 0, .int .i64 0] 48)
  have hz0 := (Below.heap_alloc (w.alloc (.cells #[.slice a0 d.cm.length k0, .int .i64 d.pt, .slice a2 d.bx.length k2] 25)) (.cells #[.int .i64 0, .int .i64 0] 48) w.heap.size (by simp)).trans (heap_alloc_last w _)
  rw [World.size_alloc] at hz1
  have HA := Lib.hid hA
  have HZ1 := Lib.hid hz1
  have HDA := Lib.hid (hD.only hA)
  have HG := Lib.hid (hG.only hA)
  have f0 : _ = some (Value.slice a0 d.cm.length k0) := cell_of_row _ _ 0 _ _ _ hz0
  have f1 : _ = some (Value.int .i64 d.pt) := cell_of_row _ _ 1 _ _ _ hz0
  have f2 : _ = some (Value.slice a2 d.bx.length k2) := cell_of_row _ _ 2 _ _ _ hz0
  have hkb := emod_self_lt key 1152921504606845789 (by decide)
  have hsb := powM_bd d.pt (key % 1152921504606845789) 2305843009213691579 (by decide)
  obtain ⟨n, hn⟩ := Int.eq_ofNat_of_zero_le hsb.1
  have HADD := Lib.hid (fun w => add_any key 0 1152921504606845789 w (by decide) (by decide))
  rw [Int.add_zero] at HADD
  have HPW := Lib.hid (fun w => pow_any d.pt (key % 1152921504606845789) 2305843009213691579 w (by decide) (by decide) hkb.1 (by omega))
  rw [hn] at HPW hsb
  have HSN := Lib.hid (show (seedN d key).toNat = n by unfold seedN; rw [hn]; rfl)
  have HU := Lib.hid (fun w hD hG => unseal_any a0 a2 k0 k2 d n i w hD hcm hbx hi (by omega) hs hG)
  have i1 : ¬ (i : Int) < 0 := by omega
  have i2 : ¬ (d.bx.length : Int) ≤ i := by omega
  clear hA hz0 hz1 hD hG hs hn hsb hkb
  rw [HSN.out]
  go_enter Tryz.func19, Tryz.ntmps19
  generalize key % 1152921504606845789 = kk at *
  obtain ⟨R, hR⟩ : ∃ R, unsV d n i = R := ⟨_, rfl⟩
  rw [hR] at HU
  simp only [hR]
  clear hR
  go_wp2_with fail
  generalize (w.alloc (.cells #[.slice a0 d.cm.length k0, .int .i64 d.pt, .slice a2 d.bx.length k2] 25)).alloc (.cells #[.int .i64 0, .int .i64 0] 48) = w1 at *
  have y0 := fun (d : Nat) (os : Array Obj) => cell_regrown f0 d os
  have y1 := fun (d : Nat) (os : Array Obj) => cell_regrown f1 d os
  have y2 := fun (d : Nat) (os : Array Obj) => cell_regrown f2 d os
  clear f0 f1 f2
  refine wp_region_below_split 10 (by kernel_rfl) (by kernel_rfl) (by kernel_rfl) ?_
  simp only [List.take_succ_cons, List.take_zero, List.drop_succ_cons, List.drop_zero]
  repeat (go_big_quiet_step ((first | (go_at_call 44; exact Calls.regrown_of ((HADD.out _).mono fun _ _ h => ⟨h.1, by rw [← h.2]; exact Below.refl _ _⟩)) | (go_at_call 39; exact Calls.regrown_of ((HPW.out _).mono fun _ _ h => ⟨h.1, by rw [h.2]; exact (Below.refl _ _).alloc (Nat.le_refl _) _⟩)) | (go_at_call 43; exact Calls.regrown_of ((HU.out _ (HDA.out.only (Only.ofBelow (below_regrown _ _ _) _)) (Glob.grown HG.out _ _)).mono fun _ _ h => ⟨h.1, h.2.below (Nat.le_refl _) (fun _ _ h => h)⟩)))))
  refine wpQuiet_nil ?_
  intro w2 hw'
  obtain ⟨pq, hw''⟩ := hw'
  have HO12 := Lib.hid (Only.ofBelow (below_regrown w1 pq.d pq.os) (fun _ => False))
  rw [← hw''] at HO12
  have HO := Lib.hid (HA.out.trans HO12.out)
  have HZ2 := Lib.hid (row_still HO12.out HZ1.out)
  clear hw'' y0 y1 y2
  go_wp2_with (first | (refine wpList_store_row rfl 48 _ _ rfl (w.heap.size + 1) #[.int .i64 R.1, .int .i64 R.2.1] rfl rfl 48 _ HZ2.out Tryz.infoShr rfl (two_one _ _) ?_))
  exact bodyPost_ret (v := .tuple #[.agg #[.int .i64 R.1, .int .i64 R.2.1], .bool R.2.2]) (results_cell_tmp (p := 6) (q := 7) rfl _ _ (w.heap.size + 1) 48 #[.int .i64 R.1, .int .i64 R.2.1] (0, 0) _ rfl (setRow_heap _ _ _ _ _ _ HZ2.out) Tryz.underlying48 rfl Tryz.infoShr _ rfl) rfl ⟨rfl, HO.out.setRow (by omega) _⟩
set_option maxHeartbeats 1000000 in
theorem open_no (a0 a2 : Option Addr) (k0 k2 : Nat) (d : Dl) (key i : Int) (w : World) (_hbx : d.bx.length ≤ 1000000) (hi : i < 0 ∨ (d.bx.length : Int) ≤ i) :
    Calls Tryz.prog 19 #[.int .i64 key, .agg #[.slice a0 d.cm.length k0, .int .i64 d.pt, .slice a2 d.bx.length k2], .int .i64 i] w fun e w' => e = .returned (.tuple #[.agg #[.int .i64 0, .int .i64 0], .bool false]) ∧ Only (fun _ => False) w w' := by
  have hA := ((Only.refl (fun _ => False) w).alloc (.cells #[.slice a0 d.cm.length k0, .int .i64 d.pt, .slice a2 d.bx.length k2] 25)).alloc (.cells #[.int .i64 0, .int .i64 0] 48)
  have hz1 := heap_alloc_last (w.alloc (.cells #[.slice a0 d.cm.length k0, .int .i64 d.pt, .slice a2 d.bx.length k2] 25)) (.cells #[.int .i64 0, .int .i64 0] 48)
  have hz0 := (Below.heap_alloc (w.alloc (.cells #[.slice a0 d.cm.length k0, .int .i64 d.pt, .slice a2 d.bx.length k2] 25)) (.cells #[.int .i64 0, .int .i64 0] 48) w.heap.size (by simp)).trans (heap_alloc_last w _)
  rw [World.size_alloc] at hz1
  have HA := Lib.hid hA
  have HZ1 := Lib.hid hz1
  have f2 : _ = some (Value.slice a2 d.bx.length k2) := cell_of_row _ _ 2 _ _ _ hz0
  clear hA hz0 hz1
  by_cases h0 : i < 0
  · clear hi
    go_enter Tryz.func19, Tryz.ntmps19
    go_wp2_with (first | (refine wpList_store_row rfl 48 _ _ rfl (w.heap.size + 1) #[.int .i64 0, .int .i64 0] rfl rfl 48 _ HZ1.out Tryz.infoShr rfl (two_one _ _) ?_))
    exact bodyPost_ret (v := .tuple #[.agg #[.int .i64 0, .int .i64 0], .bool false]) (results_cell_tmp (p := 6) (q := 7) rfl _ _ (w.heap.size + 1) 48 #[.int .i64 0, .int .i64 0] (0, 0) _ rfl (setRow_heap _ _ _ _ _ _ HZ1.out) Tryz.underlying48 rfl Tryz.infoShr _ rfl) rfl ⟨rfl, HA.out.setRow (by omega) _⟩
  · have h1 : (d.bx.length : Int) ≤ i := by omega
    clear hi
    go_enter Tryz.func19, Tryz.ntmps19
    go_wp2_with (first | (refine wpList_store_row rfl 48 _ _ rfl (w.heap.size + 1) #[.int .i64 0, .int .i64 0] rfl rfl 48 _ HZ1.out Tryz.infoShr rfl (two_one _ _) ?_))
    exact bodyPost_ret (v := .tuple #[.agg #[.int .i64 0, .int .i64 0], .bool false]) (results_cell_tmp (p := 6) (q := 7) rfl _ _ (w.heap.size + 1) 48 #[.int .i64 0, .int .i64 0] (0, 0) _ rfl (setRow_heap _ _ _ _ _ _ HZ1.out) Tryz.underlying48 rfl Tryz.infoShr _ rfl) rfl ⟨rfl, HA.out.setRow (by omega) _⟩
end Go.Proofs.YtkpfachmakfncaaGreatDoor

namespace Go.Proofs.YtkpfachmakfncaaGreatDoor
open Go.RowKit

theorem bxTo_at (cs ks : List Int) (n : Int) : ∀ k j, j < k → sAt (bxTo cs ks n k) j = boxOf cs ks n j
  | k + 1, j, hj => by
    have hl := bxTo_len cs ks n k
    rw [bxTo]
    unfold sAt
    by_cases e : j = k
    · subst e
      rw [List.getD, List.getElem?_append_right (by omega), hl, Nat.sub_self]; rfl
    · rw [List.getD, List.getElem?_append_left (by omega)]
      exact bxTo_at cs ks n k j (by omega)
/-- The holder's power of the point is the dealer's power of the holder's key. -/
theorem powSwap (x y : Int) (hx : 0 ≤ x) (hx2 : x < 1152921504606845789) (hy : 0 ≤ y) (hy2 : y < 1152921504606845789) :
    powM (powM 4 x 2305843009213691579) y 2305843009213691579 = powM (powM 4 y 2305843009213691579) x 2305843009213691579 := by
  have h4 : memB 4 = true := by kernel_rfl
  rw [powPowQ h4 hx hx2 hy hy2, powPowQ h4 hy hy2 hx hx2, Int.mul_comm]
theorem uns_dealt (cs ks : List Int) (seed : ByteArray) (key : Int) (i : Nat) (hi : i < ks.length) (hk0 : 0 ≤ key) (hk1 : key < 1152921504606845789) (hkey : ptAt ks i = powM 4 key 2305843009213691579) (hcs : ∀ j, 0 ≤ ptAt cs j ∧ ptAt cs j < 1152921504606845789) :
    unsV (dealZ cs ks seed) (seedN (dealZ cs ks seed) key).toNat i = ((i : Int) + 1, valZ cs ((i : Int) + 1), true) := by
  have hn := scalarZ_bd (ptS seed)
  have hv := valZ_bd cs ((i : Int) + 1)
  have hv1 : valZ cs ((i : Int) + 1) < 1152921504606845789 := hv.2
  have e1 : sAt (dealZ cs ks seed).bx i = boxOf cs ks (scalarZ (ptS seed)) i := bxTo_at _ _ _ _ _ hi
  have e2 : seedN (dealZ cs ks seed) key = powM (ptAt ks i) (scalarZ (ptS seed)) 2305843009213691579 := by
    unfold seedN
    rw [hkey, Int.emod_eq_of_lt hk0 hk1]
    exact powSwap _ _ hn.1 hn.2 hk0 hk1
  have e3 : contV (sAt (dealZ cs ks seed).bx i) (seedN (dealZ cs ks seed) key).toNat i = (valZ cs ((i : Int) + 1), true) := by
    rw [e1, e2]
    unfold boxOf
    exact seal_cont _ _ _ hv.1 (by omega)
  have e4 : fitsB (dealZ cs ks seed) ((i : Int) + 1) (valZ cs ((i : Int) + 1)) = true := by
    unfold fitsB insideB
    rw [show (dealZ cs ks seed).cm = cmTo cs cs.length from rfl, at_law cs _ hcs]
    simp only [decide_true, Bool.and_true, Bool.and_eq_true, decide_eq_true_eq]
    exact ⟨hv.1, by omega⟩
  unfold unsV
  rw [e3]
  simp only [e4, Bool.and_self, if_true]
end Go.Proofs.YtkpfachmakfncaaGreatDoor

namespace Go.Proofs.YtkpfachmakfncaaGreatDoor
open Go.RowKit

set_option maxHeartbeats 1000000 in
theorem pmembers_is (sv : Value) (zs : List Int) (bb : Bool) (w : World) (hI : PtsAt w.heap.size w sv zs) (_hlen : zs.length ≤ 1000000) (hb : membersB zs = bb) :
    Calls Tryz.prog 36 #[sv] w fun e w' => e = .returned (.bool bb) ∧ Only (fun _ => False) w w' := by
  obtain ⟨a1, c1, rfl⟩ := hI.slice
  have HI := Lib.hid hI
  have HB := Lib.hid hb
  clear hI hb
  go_enter Tryz.func36, Tryz.ntmps36
  go_wp2_with fail
  go_loopw [7] (fun vi wr => ∃ (k : Nat), k ≤ zs.length ∧ vi = .int .i64 k ∧ (∀ j, j < k → memB (ptAt zs j) = true) ∧ Only (fun _ => False) w wr) (fun vi _ => zs.length - (intOf vi).toNat)
  case atStart => exact ⟨0, Nat.zero_le _, rfl, fun j h => by omega, Only.refl _ _⟩
  case round =>
    obtain ⟨k, hk, rfl, hall, hO⟩ := hrel
    have HA := Lib.hid hall
    have HO := Lib.hid hO
    clear hall hO
    by_cases hlt : k < zs.length
    · obtain ⟨b, off, rfl, hb, hl0, hc1, hc2, hcell⟩ := (HI.out.only HO.out).cellAt hlt
      have i1 : (k : Int) < zs.length := by omega
      clear hl0
      cases hm : memB (ptAt zs k)
      · have HF := Lib.hid (show bb = false by rw [← HB.out]; exact membersB_take zs k hlt hm)
        have HM := Lib.hid (member_is (ptAt zs k) false wr hm)
        generalize ptAt zs k = z at *
        go_wp2_with fail
        refine HM.out.mono ?_
        rintro e w1 ⟨rfl, hO1⟩
        have HO1 := Lib.hid (HO.out.trans hO1)
        clear hO1
        go_wp2
        go_ret
        exact ⟨by rw [HF.out]; rfl, HO1.out⟩
      · have HN := Lib.hid (show ∀ j, j < k + 1 → memB (ptAt zs j) = true from fun j hj => by
          by_cases e : j = k
          · rw [e]; exact hm
          · exact HA.out j (by omega))
        have HM := Lib.hid (member_is (ptAt zs k) true wr hm)
        generalize ptAt zs k = z at *
        go_wp2_with fail
        refine HM.out.mono ?_
        rintro e w1 ⟨rfl, hO1⟩
        have HO1 := Lib.hid (HO.out.trans hO1)
        clear hO1
        go_wp2
        go_roundw
        case rel => exact ⟨k + 1, by omega, by go_num, HN.out, HO1.out⟩
        case measure => simp [intOf]; omega
    · have HT := Lib.hid (show bb = true by rw [← HB.out]; exact membersB_all zs (fun j hj => HA.out j (by omega)))
      have i1 : ¬ (k : Int) < zs.length := by omega
      go_wp2
      go_ret
      exact ⟨by rw [HT.out]; rfl, HO.out⟩
end Go.Proofs.YtkpfachmakfncaaGreatDoor

namespace Go.Proofs.YtkpfachmakfncaaGreatDoor
open Go.RowKit

/-- Boxes of 16 bytes. -/
def b16B (l : List ByteArray) : Bool := l.all (fun s => s.size == 16)
theorem b16_no (l : List ByteArray) (k : Nat) (h : k < l.length) (hb : (sAt l k).size ≠ 16) : b16B l = false := by
  unfold b16B
  rw [List.all_eq_false]
  refine ⟨l[k], List.getElem_mem h, ?_⟩
  have : sAt l k = l[k] := by simp [sAt, List.getD, h]
  rw [← this]; simpa using hb
theorem b16_yes (l : List ByteArray) (h : ∀ j, j < l.length → (sAt l j).size = 16) : b16B l = true := by
  unfold b16B
  rw [List.all_eq_true]
  intro x hx
  obtain ⟨j, hj, rfl⟩ := List.mem_iff_getElem.1 hx
  have := h j hj
  simpa [sAt, List.getD, hj] using this
/-- Is a dealing in form for n keys? -/
def chkB (d : Dl) (n : Nat) : Bool := (decide (d.bx.length = n) && decide (1 ≤ d.cm.length) && decide (d.cm.length ≤ n)) && (b16B d.bx && (membersB d.cm && memB d.pt))

set_option maxRecDepth 100000 in
set_option maxHeartbeats 1000000 in
theorem check_is (a0 a2 : Option Addr) (k0 k2 : Nat) (d : Dl) (n : Nat) (bb : Bool) (w : World) (hD : DlAt w (.slice a0 d.cm.length k0) (.int .i64 d.pt) (.slice a2 d.bx.length k2) d) (_hn : n ≤ 1000) (hbx : d.bx.length ≤ 1000000) (hcm : d.cm.length ≤ 1000000) (hb : chkB d n = bb) :
    Calls Tryz.prog 16 #[.agg #[.slice a0 d.cm.length k0, .int .i64 d.pt, .slice a2 d.bx.length k2], .int .i64 n] w fun e w' => e = .returned (.bool bb) ∧ Only (fun _ => False) w w' := by
  have HB := Lib.hid hb
  have hA := (Only.refl (fun _ => False) w).alloc (.cells #[.slice a0 d.cm.length k0, .int .i64 d.pt, .slice a2 d.bx.length k2] 25)
  have hz := heap_alloc_last w (.cells #[.slice a0 d.cm.length k0, .int .i64 d.pt, .slice a2 d.bx.length k2] 25)
  have HZ := Lib.hid hz
  have HA := Lib.hid hA
  have HCM := Lib.hid (hD.cm.only hA)
  have HBX := Lib.hid (hD.bx.only hA)
  have e0 := cell_of_row _ _ 0 _ _ _ hz
  have e1 := cell_of_row _ _ 1 _ _ _ hz
  have e2 := cell_of_row _ _ 2 _ _ _ hz
  have l0 := (Array.getElem?_eq_some_iff.1 hz).1
  clear hD hA hz hb
  by_cases h1 : d.bx.length = n
  · by_cases h2 : 1 ≤ d.cm.length
    · by_cases h3 : d.cm.length ≤ n
      · have HB1 := Lib.hid (show chkB d n = (b16B d.bx && (membersB d.cm && memB d.pt)) by unfold chkB; rw [decide_eq_true h1, decide_eq_true h2, decide_eq_true h3]; rfl)
        have q1 : ((d.bx.length : Int) != n) = false := by rw [h1]; simp
        have q2 : ¬ (d.cm.length : Int) < 1 := by omega
        have q3 : ¬ (n : Int) < d.cm.length := by omega
        have H1 := Lib.hid h1
        clear h1
        go_enter Tryz.func16, Tryz.ntmps16
        go_wp2_with fail
        generalize w.alloc (.cells #[.slice a0 d.cm.length k0, .int .i64 d.pt, .slice a2 d.bx.length k2] 25) = w1 at *
        go_loop [28] (fun vi => ∃ k : Nat, k ≤ d.bx.length ∧ vi = .int .i64 k ∧ ∀ j, j < k → (sAt d.bx j).size = 16) (fun vi => d.bx.length - (intOf vi).toNat)
        case atStart => exact ⟨0, Nat.zero_le _, rfl, fun j h => by omega⟩
        case round =>
          obtain ⟨k, hk, rfl, hall⟩ := hrel
          have HALL := Lib.hid hall
          clear hall
          by_cases hlt : k < d.bx.length
          · obtain ⟨b, off, rfl, hb, hc1, hc2, hcell⟩ := strs_cellAt HBX.out (k := k) hlt
            have i1 : (k : Int) < d.bx.length := by omega
            by_cases h16 : (sAt d.bx k).size = 16
            · have q4 : (((sAt d.bx k).size : Int) != 16) = false := by rw [h16]; rfl
              have HN := Lib.hid (show ∀ j, j < k + 1 → (sAt d.bx j).size = 16 from fun j hj => by
                by_cases e : j = k
                · rw [e]; exact h16
                · exact HALL.out j (by omega))
              clear h16
              generalize sAt d.bx k = s at *
              go_wp2
              go_round
              case rel => exact ⟨k + 1, by omega, by go_num, HN.out⟩
              case measure => simp [intOf]; omega
            · have HF := Lib.hid (show bb = false by rw [← HB.out, HB1.out, b16_no d.bx k hlt h16]; rfl)
              have q4 : (((sAt d.bx k).size : Int) != 16) = true := by rw [bne_iff_ne]; omega
              clear h16
              generalize sAt d.bx k = s at *
              go_wp2
              go_ret
              exact ⟨by rw [HF.out]; rfl, HA.out⟩
          · have i1 : ¬ (k : Int) < d.bx.length := by omega
            have HB2 := Lib.hid (show bb = (membersB d.cm && memB d.pt) by rw [← HB.out, HB1.out, b16_yes d.bx (fun j hj => HALL.out j (by omega))]; rfl)
            cases hm : membersB d.cm
            · have HF := Lib.hid (show bb = false by rw [HB2.out, hm]; rfl)
              have HMM := Lib.hid (pmembers_is _ d.cm false w1 HCM.out hcm hm)
              clear hm
              go_wp2_with fail
              refine HMM.out.mono ?_
              rintro e w2 ⟨rfl, hO2⟩
              have HO2 := Lib.hid (HA.out.trans hO2)
              clear hO2
              go_wp2
              go_ret
              exact ⟨by rw [HF.out]; rfl, HO2.out⟩
            · have HF := Lib.hid (show bb = memB d.pt by rw [HB2.out, hm]; rfl)
              have HMM := Lib.hid (pmembers_is _ d.cm true w1 HCM.out hcm hm)
              clear hm
              go_wp2_with fail
              refine HMM.out.mono ?_
              rintro e w2 ⟨rfl, hO2⟩
              have HO2 := Lib.hid (HA.out.trans hO2)
              have c1 := hO2.cell e1 id
              have l2 := Nat.lt_of_lt_of_le l0 hO2.size
              clear hO2
              go_wp2_with fail
              refine (member_is d.pt (memB d.pt) w2 rfl).mono ?_
              rintro e w3 ⟨rfl, hO3⟩
              have HO3 := Lib.hid (HO2.out.trans hO3)
              generalize memB d.pt = mb at *
              clear hO3
              go_wp2
              go_ret
              exact ⟨by rw [HF.out]; rfl, HO3.out⟩
      · have HF := Lib.hid (show bb = false by rw [← HB.out]; unfold chkB; rw [decide_eq_false h3]; simp)
        have q1 : ((d.bx.length : Int) != n) = false := by rw [h1]; simp
        have q2 : ¬ (d.cm.length : Int) < 1 := by omega
        have q3 : (n : Int) < d.cm.length := by omega
        clear h1
        go_enter Tryz.func16, Tryz.ntmps16
        go_wp2
        go_ret
        exact ⟨by rw [HF.out]; rfl, HA.out⟩
    · have HF := Lib.hid (show bb = false by rw [← HB.out]; unfold chkB; rw [decide_eq_false h2]; simp)
      have q1 : ((d.bx.length : Int) != n) = false := by rw [h1]; simp
      have q2 : (d.cm.length : Int) < 1 := by omega
      clear h1
      go_enter Tryz.func16, Tryz.ntmps16
      go_wp2
      go_ret
      exact ⟨by rw [HF.out]; rfl, HA.out⟩
  · have HF := Lib.hid (show bb = false by rw [← HB.out]; unfold chkB; rw [decide_eq_false h1]; rfl)
    have q1 : ((d.bx.length : Int) != n) = true := by rw [bne_iff_ne]; omega
    clear h1
    go_enter Tryz.func16, Tryz.ntmps16
    go_wp2
    go_ret
    exact ⟨by rw [HF.out]; rfl, HA.out⟩
end Go.Proofs.YtkpfachmakfncaaGreatDoor

namespace Go.Proofs.YtkpfachmakfncaaGreatDoor
open Go.RowKit

theorem Tryz.infoDl : (Tryz.prog.info? 25).map (·.size) = some 3 := by kernel_rfl
theorem dl_one (a b : Option Addr) (m k n l : Nat) (x : Int) : (#[Value.slice a m k, .int .i64 x, .slice b n l] : Array Value).all (·.oneCell') = true := by simp [Value.oneCell']
def zeroDl : Array Value := #[.slice none 0 0, .int .i64 0, .slice none 0 0]
set_option maxHeartbeats 1000000 in
/-- Too few keys, or too many. -/
theorem deal_keys (sv kv : Value) (cs ks : List Int) (seed : ByteArray) (w : World) (hC : PtsAt w.heap.size w sv cs) (hK : PtsAt w.heap.size w kv ks) (hkl : ks.length ≤ 1000000) (hno : ks.length < 1 ∨ 60 < ks.length) :
    Calls Tryz.prog 14 #[sv, kv, .string seed] w fun e w' => e = .returned (.tuple #[.agg zeroDl, .bool false]) ∧ Only (fun _ => False) w w' := by
  obtain ⟨a0, c0, rfl⟩ := hC.slice
  obtain ⟨a1, c1, rfl⟩ := hK.slice
  have HA := Lib.hid ((Only.refl (fun _ => False) w).alloc (.cells zeroDl 25))
  have HZ := Lib.hid (heap_alloc_last w (.cells zeroDl 25))
  clear hC hK
  rcases hno with h | h
  · have i1 : (ks.length : Int) < 1 := by omega
    clear h
    go_enter Tryz.func14, Tryz.ntmps14
    go_wp2_with (first | (refine wpList_store_row rfl 25 _ _ rfl w.heap.size zeroDl rfl rfl 25 _ HZ.out Tryz.infoDl rfl (dl_one _ _ _ _ _ _ _) ?_))
    exact bodyPost_ret (v := .tuple #[.agg zeroDl, .bool false]) (results_cell_tmp (p := 6) (q := 7) rfl _ _ w.heap.size 25 zeroDl (0, 0) _ rfl (setRow_heap _ _ _ _ _ _ HZ.out) Tryz.underlying25 rfl Tryz.infoDl _ rfl) rfl ⟨rfl, HA.out.setRow (by omega) _⟩
  · have i1 : ¬ (ks.length : Int) < 1 := by omega
    have i2 : (60 : Int) < ks.length := by omega
    clear h
    go_enter Tryz.func14, Tryz.ntmps14
    go_wp2_with (first | (refine wpList_store_row rfl 25 _ _ rfl w.heap.size zeroDl rfl rfl 25 _ HZ.out Tryz.infoDl rfl (dl_one _ _ _ _ _ _ _) ?_))
    exact bodyPost_ret (v := .tuple #[.agg zeroDl, .bool false]) (results_cell_tmp (p := 6) (q := 7) rfl _ _ w.heap.size 25 zeroDl (0, 0) _ rfl (setRow_heap _ _ _ _ _ _ HZ.out) Tryz.underlying25 rfl Tryz.infoDl _ rfl) rfl ⟨rfl, HA.out.setRow (by omega) _⟩
set_option maxHeartbeats 1000000 in
/-- A key that is no member, or too few numbers, or too many. -/
theorem deal_counts (sv kv : Value) (cs ks : List Int) (seed : ByteArray) (w : World) (hC : PtsAt w.heap.size w sv cs) (hK : PtsAt w.heap.size w kv ks) (hk1 : 1 ≤ ks.length) (hk2 : ks.length ≤ 60) (hcl : cs.length ≤ 1000000) (hno : membersB ks = false ∨ cs.length < 1 ∨ ks.length < cs.length) :
    Calls Tryz.prog 14 #[sv, kv, .string seed] w fun e w' => e = .returned (.tuple #[.agg zeroDl, .bool false]) ∧ Only (fun _ => False) w w' := by
  obtain ⟨a0, c0, rfl⟩ := hC.slice
  obtain ⟨a1, c1, rfl⟩ := hK.slice
  have hA := (Only.refl (fun _ => False) w).alloc (.cells zeroDl 25)
  have HA := Lib.hid hA
  have HZ := Lib.hid (heap_alloc_last w (.cells zeroDl 25))
  have HK := Lib.hid (hK.only hA)
  have i1 : ¬ (ks.length : Int) < 1 := by omega
  have i2 : ¬ (60 : Int) < ks.length := by omega
  clear hC hK hA
  go_enter Tryz.func14, Tryz.ntmps14
  go_wp2_with fail
  cases hm : membersB ks
  · refine (pmembers_is _ ks false _ HK.out (by omega) hm).mono ?_
    rintro e w2 ⟨rfl, hO2⟩
    have HO := Lib.hid (HA.out.trans hO2)
    have HZ2 := Lib.hid (row_still hO2 HZ.out)
    clear hO2 hm hno
    go_wp2_with (first | (refine wpList_store_row rfl 25 _ _ rfl w.heap.size zeroDl rfl rfl 25 _ HZ2.out Tryz.infoDl rfl (dl_one _ _ _ _ _ _ _) ?_))
    exact bodyPost_ret (v := .tuple #[.agg zeroDl, .bool false]) (results_cell_tmp (p := 6) (q := 7) rfl _ _ w.heap.size 25 zeroDl (0, 0) _ rfl (setRow_heap _ _ _ _ _ _ HZ2.out) Tryz.underlying25 rfl Tryz.infoDl _ rfl) rfl ⟨rfl, HO.out.setRow (by omega) _⟩
  · rw [hm] at hno
    refine (pmembers_is _ ks true _ HK.out (by omega) hm).mono ?_
    rintro e w2 ⟨rfl, hO2⟩
    have HO := Lib.hid (HA.out.trans hO2)
    have HZ2 := Lib.hid (row_still hO2 HZ.out)
    clear hO2 hm
    by_cases h1 : cs.length < 1
    · have i3 : (cs.length : Int) < 1 := by omega
      clear h1 hno
      go_wp2_with (first | (refine wpList_store_row rfl 25 _ _ rfl w.heap.size zeroDl rfl rfl 25 _ HZ2.out Tryz.infoDl rfl (dl_one _ _ _ _ _ _ _) ?_))
      exact bodyPost_ret (v := .tuple #[.agg zeroDl, .bool false]) (results_cell_tmp (p := 6) (q := 7) rfl _ _ w.heap.size 25 zeroDl (0, 0) _ rfl (setRow_heap _ _ _ _ _ _ HZ2.out) Tryz.underlying25 rfl Tryz.infoDl _ rfl) rfl ⟨rfl, HO.out.setRow (by omega) _⟩
    · have i3 : ¬ (cs.length : Int) < 1 := by omega
      have i4 : (ks.length : Int) < cs.length := by rcases hno with h | h | h <;> first | cases h | omega
      clear h1 hno
      go_wp2_with (first | (refine wpList_store_row rfl 25 _ _ rfl w.heap.size zeroDl rfl rfl 25 _ HZ2.out Tryz.infoDl rfl (dl_one _ _ _ _ _ _ _) ?_))
      exact bodyPost_ret (v := .tuple #[.agg zeroDl, .bool false]) (results_cell_tmp (p := 6) (q := 7) rfl _ _ w.heap.size 25 zeroDl (0, 0) _ rfl (setRow_heap _ _ _ _ _ _ HZ2.out) Tryz.underlying25 rfl Tryz.infoDl _ rfl) rfl ⟨rfl, HO.out.setRow (by omega) _⟩
end Go.Proofs.YtkpfachmakfncaaGreatDoor

namespace Go.Proofs.YtkpfachmakfncaaGreatDoor
open Go.RowKit

set_option maxHeartbeats 1000000 in
theorem deal_outside (sv kv : Value) (cs ks : List Int) (seed : ByteArray) (w : World) (hC : PtsAt w.heap.size w sv cs) (hK : PtsAt w.heap.size w kv ks) (hk1 : 1 ≤ ks.length) (hk2 : ks.length ≤ 60) (hm : membersB ks = true) (hc1 : 1 ≤ cs.length) (hc2 : cs.length ≤ ks.length) (hno : ∃ j, j < cs.length ∧ insideB (ptAt cs j) = false) :
    Calls Tryz.prog 14 #[sv, kv, .string seed] w fun e w' => e = .returned (.tuple #[.agg zeroDl, .bool false]) ∧ Only (fun _ => False) w w' := by
  obtain ⟨a0, c0, rfl⟩ := hC.slice
  obtain ⟨a1, c1, rfl⟩ := hK.slice
  have hA := (Only.refl (fun _ => False) w).alloc (.cells zeroDl 25)
  have HA := Lib.hid hA
  have HZ := Lib.hid (heap_alloc_last w (.cells zeroDl 25))
  have HK := Lib.hid (hK.only hA)
  have HCS := Lib.hid hC
  have HNO := Lib.hid hno
  have i1 : ¬ (ks.length : Int) < 1 := by omega
  have i2 : ¬ (60 : Int) < ks.length := by omega
  have i3 : ¬ (cs.length : Int) < 1 := by omega
  have i4 : ¬ (ks.length : Int) < cs.length := by omega
  have d3 : decide ((cs.length : Int) < 1) = false := decide_eq_false i3
  have d4 : decide (ks.length < cs.length) = false := decide_eq_false (by omega)
  have d5 : decide ((ks.length : Int) < cs.length) = false := decide_eq_false i4
  clear hC hK hA hno
  go_enter Tryz.func14, Tryz.ntmps14
  go_wp2_with fail
  refine (pmembers_is _ ks true _ HK.out (by omega) hm).mono ?_
  rintro e w2 ⟨rfl, hO2⟩
  have HO := Lib.hid (HA.out.trans hO2)
  have HZ2 := Lib.hid (row_still hO2 HZ.out)
  have HC2 := Lib.hid (HCS.out.only HO.out)
  clear hO2 hm
  go_wp2_with fail
  go_loop [43] (fun vi => ∃ k : Nat, k ≤ cs.length ∧ vi = .int .i64 k ∧ ∀ j, j < k → insideB (ptAt cs j) = true) (fun vi => cs.length - (intOf vi).toNat)
  case atStart => exact ⟨0, Nat.zero_le _, rfl, fun j h => by omega⟩
  case round =>
    obtain ⟨k, hk, rfl, hall⟩ := hrel
    have HA2 := Lib.hid hall
    clear hall
    by_cases hlt : k < cs.length
    · obtain ⟨b, off, rfl, hb, hl0, hc1', hc2', hcell⟩ := HC2.out.cellAt hlt
      have i5 : (k : Int) < cs.length := by omega
      clear hl0
      cases hin : insideB (ptAt cs k)
      · have HI := Lib.hid (inside_any (ptAt cs k) w2)
        rw [hin] at HI
        clear hin
        generalize ptAt cs k = z at *
        go_wp2_with fail
        refine HI.out.mono ?_
        rintro e w3 ⟨rfl, rfl⟩
        go_wp2_with (first | (refine wpList_store_row rfl 25 _ _ rfl w.heap.size zeroDl rfl rfl 25 _ HZ2.out Tryz.infoDl rfl (dl_one _ _ _ _ _ _ _) ?_))
        exact bodyPost_ret (v := .tuple #[.agg zeroDl, .bool false]) (results_cell_tmp (p := 6) (q := 7) rfl _ _ w.heap.size 25 zeroDl (0, 0) _ rfl (setRow_heap _ _ _ _ _ _ HZ2.out) Tryz.underlying25 rfl Tryz.infoDl _ rfl) rfl ⟨rfl, HO.out.setRow (by omega) _⟩
      · have HI := Lib.hid (inside_any (ptAt cs k) w2)
        rw [hin] at HI
        have HN := Lib.hid (show ∀ j, j < k + 1 → insideB (ptAt cs j) = true from fun j hj => by
          by_cases e : j = k
          · rw [e]; exact hin
          · exact HA2.out j (by omega))
        clear hin
        generalize ptAt cs k = z at *
        go_wp2_with fail
        refine HI.out.mono ?_
        rintro e w3 ⟨rfl, rfl⟩
        go_wp2
        refine ⟨?rel, ?measure⟩
        case rel => exact ⟨k + 1, by omega, by go_num, HN.out⟩
        case measure => simp [intOf]; omega
    · obtain ⟨j, hj, hjn⟩ := HNO.out
      have := HA2.out j (by omega)
      rw [hjn] at this
      cases this
end Go.Proofs.YtkpfachmakfncaaGreatDoor

namespace Go.Proofs.YtkpfachmakfncaaGreatDoor
open Go.RowKit

/-- One commitment more (over any world with blocks that were made since). -/
theorem DealC.commit' {w wr wz w1 : World} {Bd k : Nat} {vc vb : Value} {L : List Int} {p z : Int} {X : List ByteArray} (h : DealC w wr Bd vc vb L p X) (hk : L.length = k) {g cap : Nat} (hO0 : Only (fun _ => False) wr wz)
    (hown : w1.ownsRow (Bd + 1) 3 1 (.slice (some ⟨g, 0, none⟩) (k + 1) cap) (k + 1) (irow L ++ [.int .i64 z])) (hg : wz.grownBy w1 vc.ownBlock) (hat : vc.ownBlock = some g ∨ g = wz.heap.size) :
    w1.heap[Bd]? = some (.cells #[vc, .int .i64 p, vb] 25 (0, 0)) ∧ DealC w (w1.setCell ⟨Bd, 0, none⟩ (.slice (some ⟨g, 0, none⟩) (k + 1) cap)) Bd (.slice (some ⟨g, 0, none⟩) (k + 1) cap) vb (L ++ [z]) p X := by
  subst hk
  have hlt := (Array.getElem?_eq_some_iff.1 h.blk).1
  have hO : Only (fun i => vc.ownBlock = some i) wz w1 := (Only.refl _ _).grown hg (fun i e _ => e)
  have hne : vc.ownBlock ≠ some Bd := fun e => by have := own_low' h.own e; omega
  have hblk : w1.heap[Bd]? = some (.cells #[vc, .int .i64 p, vb] 25 (0, 0)) := (hO.block Bd (by have := hO0.size; omega) hne).trans ((hO0.block Bd hlt (fun h => h)).trans h.blk)
  have hgb : (Value.slice (some ⟨g, 0, none⟩) (L.length + 1) cap).ownBlock = some g := rfl
  have hgl : Bd + 1 ≤ g := own_low' hown hgb
  refine ⟨hblk, (heap_set3 hblk _).1, ?_, ?_, ?_, h.low, ?_⟩
  · rw [List.length_append, List.length_singleton, irow_append]
    exact ownsRow_setCell_other hown (by rw [hgb]; simp; omega) _
  · refine ownsRow_setCell_other (hO.owns (hO0.owns h.ownS (fun _ _ h => h)) (fun i hi e => h.apart i e hi)) (fun e => ?_) _
    have := own_low' h.ownS (show vb.ownBlock = some Bd from e); omega
  · intro i hi he
    rw [hgb] at hi
    obtain rfl : g = i := by simpa using hi
    rcases hat with hat | hat
    · exact h.apart g hat he
    · have := (own_lt h.ownS he).1; have := hO0.size; omega
  · refine ((h.only.trans hO0).trans' hO (fun i hi e => ?_)).setCell (.inr (by show w.heap.size ≤ Bd; exact h.low)) _
    have := own_low' h.own e; have := h.low; omega
theorem Glob.later {w w' : World} (h : Glob w) (hO : Only (fun _ => False) w w') : Glob w' := h.only hO

set_option maxRecDepth 100000 in
set_option maxHeartbeats 4000000 in
theorem pdeal_yes (sv kv : Value) (cs ks : List Int) (seed : ByteArray) (w : World) (hC : PtsAt w.heap.size w sv cs) (hK : PtsAt w.heap.size w kv ks) (hc1 : 1 ≤ cs.length) (hc2 : cs.length ≤ ks.length) (hk60 : ks.length ≤ 60) (hm : membersB ks = true)
    (hr : ∀ j, j < cs.length → 0 ≤ ptAt cs j ∧ ptAt cs j < 1152921504606845789) (hs : seed.size ≤ 148000000000000) (hG : Glob w) :
    Calls Tryz.prog 14 #[sv, kv, .string seed] w (DealPost w (dealZ cs ks seed)) := by
  obtain ⟨i0, hi0, hz0, hz1, hz2⟩ := info_parts Tryz.infoI
  obtain ⟨j0, hj0, hy0, hy1, hy2⟩ := info_parts Tryz.infoS1
  obtain ⟨a1, c1, rfl⟩ := hC.slice
  obtain ⟨a2, c2, rfl⟩ := hK.slice
  have hA := (Only.refl (fun _ => False) w).alloc (.cells zeroDl 25)
  have HA := Lib.hid hA
  have HZ := Lib.hid (heap_alloc_last w (.cells zeroDl 25))
  have HKA := Lib.hid (hK.only hA)
  have HC := Lib.hid hC
  have HK := Lib.hid hK
  have HG := Lib.hid hG
  have HR := Lib.hid hr
  have HSC := Lib.hid (fun w hG => pscalar_any (ptS seed) w (by unfold ptS; rw [ByteArray.size_append]; show 6 + _ ≤ _; omega) hG)
  obtain ⟨n0', n1'⟩ := scalarZ_bd (ptS seed)
  obtain ⟨n, hn⟩ : ∃ n, scalarZ (ptS seed) = n := ⟨_, rfl⟩
  rw [hn] at HSC n0' n1'
  have hn0 : 0 ≤ n := n0'
  have HDZ := Lib.hid (show dealZ cs ks seed = ⟨cmTo cs cs.length, powM 4 n 2305843009213691579, bxTo cs ks n ks.length⟩ by rw [← hn]; rfl)
  unfold ptS at HSC
  have i1 : ¬ (ks.length : Int) < 1 := by omega
  have i2 : ¬ (60 : Int) < ks.length := by omega
  have i3 : ¬ (cs.length : Int) < 1 := by omega
  have i4 : ¬ (ks.length : Int) < cs.length := by omega
  have d3 : decide ((cs.length : Int) < 1) = false := decide_eq_false i3
  have d4 : decide (ks.length < cs.length) = false := decide_eq_false (by omega)
  have d5 : decide ((ks.length : Int) < cs.length) = false := decide_eq_false i4
  clear hC hK hA hG hr hn
  go_enter Tryz.func14, Tryz.ntmps14
  go_wp2_with fail
  refine (pmembers_is _ ks true _ HKA.out (by omega) hm).mono ?_
  rintro e w2 ⟨rfl, hO2⟩
  have HO2 := Lib.hid (HA.out.trans hO2)
  have HZ2 := Lib.hid (row_still hO2 HZ.out)
  have hsz2 : w.heap.size < w2.heap.size := by have := hO2.size; simp at this; omega
  clear hO2 hm HKA HZ HA
  go_wp2_with fail
  go_loop [43] (fun vi => ∃ k : Nat, k ≤ cs.length ∧ vi = .int .i64 k) (fun vi => cs.length - (intOf vi).toNat)
  case atStart => exact ⟨0, Nat.zero_le _, rfl⟩
  case round =>
    obtain ⟨k, hk, rfl⟩ := hrel
    by_cases hlt : k < cs.length
    · obtain ⟨bc, oc, rfl, hb, hl0, hcp1, hcp2, hcell⟩ := HC.out.cellAt hlt
      have e1 := HO2.out.cell hcell (fun h => h)
      obtain ⟨r0, r1⟩ := HR.out k hlt
      have HI := Lib.hid (inside_any (ptAt cs k) w2)
      have HIB := Lib.hid (show insideB (ptAt cs k) = true by unfold insideB; simp only [Bool.and_eq_true, decide_eq_true_eq]; omega)
      rw [HIB.out] at HI
      generalize ptAt cs k = c at *
      have i5 : (k : Int) < cs.length := by omega
      have hbw : bc < w2.heap.size := by omega
      clear hl0 hcell hk
      go_wp2_with fail
      refine HI.out.mono ?_
      rintro e w3 ⟨rfl, rfl⟩
      go_wp2
      refine ⟨?rel, ?measure⟩
      case rel => exact ⟨k + 1, by omega, by go_num⟩
      case measure => simp [intOf]; omega
    · obtain rfl : k = cs.length := by omega
      clear hlt hk
      go_wp2_with fail
      refine (HSC.out _ (HG.out.later HO2.out)).mono ?_
      rintro e w3 ⟨rfl, hO3⟩
      have HZ3 := Lib.hid (row_still hO3 HZ2.out)
      have HO3 := Lib.hid (HO2.out.trans hO3)
      have hsz3 := hO3.size
      clear hO3
      go_wp2_with fail
      refine (pow_any 4 n 2305843009213691579 _ (by decide) (by decide) hn0 (by omega)).mono ?_
      rintro e w' ⟨rfl, rfl⟩
      obtain ⟨p, hp⟩ : ∃ p, powM 4 n 2305843009213691579 = p := ⟨_, rfl⟩
      rw [hp] at HDZ ⊢
      clear hp
      have hO4 : Only (fun _ => False) w3 (w3.alloc (.cells #[.int .i64 2305843009213691579] 3)) := (Only.refl _ w3).alloc _
      have HO4 := Lib.hid (HO3.out.trans hO4)
      have HZ4 := Lib.hid (row_still hO4 HZ3.out)
      have hsz4 := hO4.size
      clear hO4
      generalize w3.alloc (.cells #[.int .i64 2305843009213691579] 3) = w4 at *
      go_wp2_with fail
      have HD0 := Lib.hid (deal_start w w4 p HO4.out)
      have HZ5 := Lib.hid (row_still ((Only.refl (fun _ => False) w4).alloc (.cells #[.slice none 0 0, .int .i64 p, .slice none 0 0] 25)) HZ4.out)
      have hBd : w4.heap.size < (w4.alloc (.cells #[.slice none 0 0, .int .i64 p, .slice none 0 0] 25)).heap.size := by simp
      have hrd : w.heap.size < w4.heap.size := by omega
      generalize w4.alloc (.cells #[.slice none 0 0, .int .i64 p, .slice none 0 0] 25) = w5 at *
      generalize w4.heap.size = Bd at *
      clear HZ2 HZ3 HSC HZ4
      go_loopw [60] (fun vi wr => ∃ (k : Nat) (vc : Value), k ≤ cs.length ∧ vi = .int .i64 k ∧ DealC w wr Bd vc (.slice none 0 0) (cmTo cs k) p [] ∧ wr.heap[w.heap.size]? = some (.cells #[.slice none 0 0, .int .i64 0, .slice none 0 0] 25 (0, 0))) (fun vi _ => cs.length - (intOf vi).toNat)
      case atStart => exact ⟨0, .slice none 0 0, Nat.zero_le _, rfl, HD0.out, HZ5.out⟩
      case round =>
        clear HD0 HZ5
        obtain ⟨k, vc, hk, rfl, hD, hZ⟩ := hrel
        have HD := Lib.hid hD
        have HZ := Lib.hid hZ
        by_cases hlt : k < cs.length
        · obtain ⟨bc, oc, rfl, hb, hl0, hcp1, hcp2, hcell⟩ := HC.out.cellAt hlt
          have e1 := hD.only.cell hcell (fun h => h)
          have e0 : wr.cell? ⟨Bd, 0, none⟩ = some vc := cell_of_row _ _ 0 _ _ _ hD.blk
          have hBl := (Array.getElem?_eq_some_iff.1 hD.blk).1
          have hlow := hD.low
          obtain ⟨hc0, hc1'⟩ := HR.out k hlt
          have HCM := Lib.hid (show cmTo cs (k + 1) = cmTo cs k ++ [powM 4 (ptAt cs k) 2305843009213691579] from rfl)
          have HLE := Lib.hid (cmTo_len cs k)
          have HOW := Lib.hid (show wr.ownsRow (Bd + 1) 3 1 vc k (irow (cmTo cs k)) by have := hD.own; rw [cmTo_len] at this; exact this)
          generalize ptAt cs k = c at *
          have HN0 := Lib.hid (show some Bd ≠ vc.ownBlock from fun e => by have := own_low' hD.own e.symm; omega)
          have HGO := Lib.hid (fun (w1 wz : World) (z : Int) (g cap : Nat) (h0 : Only (fun _ => False) wr wz) (h1 : w1.ownsRow (Bd + 1) 3 1 (.slice (some ⟨g, 0, none⟩) (k + 1) cap) (k + 1) (irow (cmTo cs k) ++ [.int .i64 z])) (h2 : wz.grownBy w1 vc.ownBlock) (h3 : vc.ownBlock = some g ∨ g = wz.heap.size) => hD.commit' (cmTo_len cs k) h0 h1 h2 h3)
          have hbw : bc < wr.heap.size := by omega
          have i5 : (k : Int) < cs.length := by omega
          have i6 : 0 ≤ (k : Int) := by omega
          obtain ⟨ac, cc, hvc⟩ := slice_of_own HOW.out
          generalize cmTo cs k = L at *
          clear hl0 hcell hk hD hZ
          subst hvc
          generalize hvc : Value.slice ac k cc = vc at *
          have HVC := Lib.hid hvc
          clear hvc
          go_wp2_with fail
          refine wp_region_split 6 (by kernel_rfl) (by kernel_rfl) (wpAny_of_held (S := fun w' => w'.cell? ⟨Bd, 0, none⟩ = some vc) _ _ _ _ ?_)
          simp only [List.take_succ_cons, List.take_zero]
          change wpAnyH _ _ _ _ _ _ _ _ wr.drew
          have hHeld : wr.drew.cell? ⟨Bd, 0, none⟩ = some vc := e0
          refine' wpAnyH_take (i := 0) (v := _) rfl (by kernel_rfl) (by kernel_rfl) (by kernel_rfl) (fun _ _ _ h => h) (Or.inl ⟨by rfl, ?hya0⟩) hHeld ?ra0
          case hya0 => (intro w hSw; have s0 := hSw; go_simp; with_reducible rfl)
          simp only [Act.put, List.getElem_toArray, List.getElem_cons_zero, List.setIfInBounds_toArray, List.set_cons_zero, List.set_cons_succ]
          refine' wpAnyH_take (i := 1) (v := _) rfl (by kernel_rfl) (by kernel_rfl) (by kernel_rfl) (fun _ _ _ h => h) (Or.inl ⟨by rfl, ?hya1⟩) hHeld ?ra1
          case hya1 => (intro w hSw; have s0 := hSw; go_simp; with_reducible rfl)
          simp only [Act.put, List.getElem_toArray, List.getElem_cons_zero, List.getElem_cons_succ, List.setIfInBounds_toArray, List.set_cons_zero, List.set_cons_succ]
          refine' wpAnyH_take (i := 2) (v := _) rfl (by kernel_rfl) (by kernel_rfl) (by kernel_rfl) (fun _ _ _ h => h) (Or.inl ⟨by rfl, ?hya2⟩) hHeld ?ra2
          case hya2 => (intro w hSw; have s0 := hSw; go_simp; with_reducible rfl)
          simp only [Act.put, List.getElem_toArray, List.getElem_cons_zero, List.getElem_cons_succ, List.setIfInBounds_toArray, List.set_cons_zero, List.set_cons_succ]
          refine wpAnyH_ready (rs := [3]) (by kernel_rfl) (by simp) ?_
          refine AllReadyH.cons rfl (fun K hK => ?_) AllReadyH.nil
          go_simp
          refine (pow_any 4 c 2305843009213691579 _ (by decide) (by decide) hc0 (by omega)).mono ?_
          rintro e w' ⟨rfl, rfl⟩
          have HO7 := Lib.hid (show Only (fun _ => False) wr (wr.drew.alloc (.cells #[.int .i64 2305843009213691579] 3)) from ((Only.refl _ wr).drew).alloc _)
          generalize wr.drew.alloc (.cells #[.int .i64 2305843009213691579] 3) = w7 at *
          have e07 := HO7.out.cell e0 (fun h => h)
          refine hK.out _ _ e07 (fun hHeld => ?_)
          clear hK K
          try simp only [Act.put, List.getElem_toArray, List.getElem_cons_zero, List.getElem_cons_succ, List.setIfInBounds_toArray, List.set_cons_zero, List.set_cons_succ]
          generalize powM 4 c 2305843009213691579 = pz at *
          have hsz7 := HO7.out.size
          refine wpAnyH_ready (rs := [4]) (by kernel_rfl) (by simp) ?_
          refine AllReadyH.cons rfl (fun K hK => ?_) AllReadyH.nil
          go_simp
          have HOA := Lib.hid ((Only.refl (fun _ => False) w7).alloc (.cells #[.int .i64 pz] 3))
          refine hK.out _ _ (HOA.out.cell e07 (fun h => h)) (fun hHeld => ?_)
          clear hK K
          refine wpAnyH_ready (rs := [5]) (by kernel_rfl) (by simp) ?_
          refine AllReadyH.cons rfl (fun K hK => ?_) AllReadyH.nil
          refine step_append_lies _ rfl _ _ 22 rfl (Bd + 1) 3 i0 _ 1 8 Tryz.underlying22 hi0 hz0 hz1 hz2 rfl (by decide) vc k (irow L) rfl (HOA.out.owns (HO7.out.owns HOW.out (fun _ _ h => h)) (fun _ _ h => h)) ⟨w7.heap.size, 0, none⟩ 1 1 [.int .i64 pz] rfl rfl (World.news_of_block (cs := #[.int .i64 pz]) (t := 3) (fr := (0, 0)) (heap_alloc_new w7 _)) (one_int _) (by decide) (by unfold maxLen; omega) (by omega) (by simp; omega) _ rfl ?_
          intro g cap w1 hown1 hgrow hat hlt1
          refine hK.out _ _ (hgrow.cell (HOA.out.cell e07 (fun h => h)) HN0.out) (fun hHeld => ?_)
          clear hK K
          refine wpAnyH_done (by kernel_rfl) ?_ _
          simp only [headPost, Act.put, List.getElem_toArray, List.getElem_cons_zero, List.getElem_cons_succ, List.setIfInBounds_toArray, List.set_cons_zero, List.set_cons_succ, List.drop_succ_cons, List.drop_zero]
          obtain ⟨hbl1, hdn⟩ := HGO.out _ _ _ _ _ (HO7.out.trans HOA.out) hown1 hgrow (by simpa using hat)
          have HDN := Lib.hid hdn
          have HZN := Lib.hid (show (w1.setCell ⟨Bd, 0, none⟩ (.slice (some ⟨g, 0, none⟩) (k + 1) cap)).heap[w.heap.size]? = some (.cells #[.slice none 0 0, .int .i64 0, .slice none 0 0] 25 (0, 0)) by
            rw [heap_setCell_other _ _ _ _ (by show w.heap.size ≠ Bd; omega)]
            have hO := (Only.refl (fun i => vc.ownBlock = some i) _).grown hgrow (fun i e _ => e)
            have hw := (Array.getElem?_eq_some_iff.1 HZ.out).1
            rw [hO.block w.heap.size (by have := HOA.out.size; omega) (fun e => by have := own_low' HOW.out e; omega)]
            exact row_still (HO7.out.trans HOA.out) HZ.out)
          have c1 := cell_of_row _ _ 0 _ _ _ hbl1
          have f1 := frozen_of_row _ _ 0 _ _ hbl1
          have l1 := (Array.getElem?_eq_some_iff.1 hbl1).1
          clear hown1 hgrow hat hdn hbl1 e0 e1 hHeld e07
          go_wp2
          go_roundw
          case rel => exact ⟨k + 1, .slice (some ⟨g, 0, none⟩) (k + 1) cap, by omega, by go_num, by rw [HCM.out]; exact HDN.out, HZN.out⟩
          case measure => simp [intOf]; omega
        · obtain rfl : k = cs.length := by omega
          have i5 : ¬ (cs.length : Int) < cs.length := by omega
          clear hlt hk hZ hD
          go_wp2_with fail
          obtain ⟨wm, hwm⟩ : ∃ wm : World, wm = wr := ⟨_, rfl⟩
          subst hwm
          go_loopw [74] (fun vi wr => ∃ (k : Nat) (vb : Value), k ≤ ks.length ∧ vi = .int .i64 k ∧ DealC w wr Bd vc vb (cmTo cs cs.length) p (bxTo cs ks n k) ∧ wr.heap[w.heap.size]? = some (.cells #[.slice none 0 0, .int .i64 0, .slice none 0 0] 25 (0, 0))) (fun vi _ => ks.length - (intOf vi).toNat)
          case atStart => exact ⟨0, .slice none 0 0, Nat.zero_le _, rfl, HD.out, HZ.out⟩
          case round =>
            clear HD HZ
            obtain ⟨k, vb, hk, rfl, hD, hZ⟩ := hrel
            have HD := Lib.hid hD
            have HZ := Lib.hid hZ
            by_cases hlt : k < ks.length
            · obtain ⟨bk, ok, rfl, hb, hl0, hcp1, hcp2, hcell⟩ := HK.out.cellAt hlt
              have e1 := hD.only.cell hcell (fun h => h)
              have e0 : wr.cell? ⟨Bd, 2, none⟩ = some vb := cell_of_row _ _ 2 _ _ _ hD.blk
              have hBl := (Array.getElem?_eq_some_iff.1 hD.blk).1
              have hlow := hD.low
              have HCS := Lib.hid (fun w' (hO : Only (fun _ => False) wr w') => HC.out.only (hD.only.trans hO))
              have HGS := Lib.hid (fun w' (hO : Only (fun _ => False) wr w') => HG.out.later (hD.only.trans hO))
              have HLE := Lib.hid (bxTo_len cs ks n k)
              have HOW := Lib.hid (show wr.ownsRow (Bd + 1) 9 1 vb k (srowS (bxTo cs ks n k)) by have := hD.ownS; rw [bxTo_len] at this; exact this)
              have HBX := Lib.hid (show bxTo cs ks n (k + 1) = bxTo cs ks n k ++ [boxOf cs ks n k] from rfl)
              obtain ⟨pn, hpn⟩ : ∃ pn : Nat, powM (ptAt ks k) n 2305843009213691579 = pn := Int.eq_ofNat_of_zero_le (powM_bd _ _ _ (by decide)).1
              have HPZ := Lib.hid hpn
              have HPN := Lib.hid (show pn < 9223372036854775808 by have := (powM_bd (ptAt ks k) n 2305843009213691579 (by decide)).2; omega)
              have HVZ := Lib.hid (show 0 ≤ valZ cs ((k : Int) + 1) ∧ valZ cs ((k : Int) + 1) ≤ 9223372036854775807 by have := valZ_bd cs ((k : Int) + 1); rw [show gQ = 1152921504606845789 from rfl] at this; omega)
              obtain ⟨bo, hbo⟩ : ∃ bo, boxOf cs ks n k = bo := ⟨_, rfl⟩
              have HBO := Lib.hid (show strOfNums (sealL (valZ cs ((k : Int) + 1)) pn k) = bo by rw [← hbo]; unfold boxOf; rw [hpn, Int.toNat_natCast])
              rw [hbo] at HBX
              have HN0 := Lib.hid (show some Bd ≠ vb.ownBlock from fun e => by have := own_low' hD.ownS e.symm; omega)
              have HGO := Lib.hid (fun (w1 wz : World) (s : ByteArray) (g cap : Nat) (h0 : Only (fun _ => False) wr wz) (h1 : w1.ownsRow (Bd + 1) 9 1 (.slice (some ⟨g, 0, none⟩) (k + 1) cap) (k + 1) (srowS (bxTo cs ks n k) ++ [.string s])) (h2 : wz.grownBy w1 vb.ownBlock) (h3 : vb.ownBlock = some g ∨ g = wz.heap.size) => hD.box (bxTo_len cs ks n k) h0 h1 h2 h3)
              generalize ptAt ks k = c at *
              have hbw : bk < wr.heap.size := by have := HD.out.only.size; omega
              have i6 : (k : Int) < ks.length := by omega
              have i7 : 0 ≤ (k : Int) := by omega
              have k1 : IntKind.i64.wrap ((k : Int) + 1) = k + 1 := IntWalk.i64_in _ (by omega)
              obtain ⟨ac, cc, hvb⟩ := slice_of_own HOW.out
              generalize bxTo cs ks n k = X at *
              clear hl0 hcell hk hD hZ hpn hbo
              subst hvb
              generalize hvb : Value.slice ac k cc = vb at *
              have HVB := Lib.hid hvb
              clear hvb
              go_wp2_with fail
              refine wp_region_split 13 (by kernel_rfl) (by kernel_rfl) (wpAny_of_held (S := fun w' => w'.cell? ⟨Bd, 2, none⟩ = some vb) _ _ _ _ ?_)
              simp only [List.take_succ_cons, List.take_zero]
              change wpAnyH _ _ _ _ _ _ _ _ wr.drew
              have hHeld : wr.drew.cell? ⟨Bd, 2, none⟩ = some vb := e0
              refine' wpAnyH_take (i := 0) (v := _) rfl (by kernel_rfl) (by kernel_rfl) (by kernel_rfl) (fun _ _ _ h => h) (Or.inl ⟨by rfl, ?hyb0⟩) hHeld ?rb0
              case hyb0 => (intro w hSw; have s0 := hSw; go_simp; with_reducible rfl)
              simp only [Act.put, List.getElem_toArray, List.getElem_cons_zero, List.setIfInBounds_toArray, List.set_cons_zero, List.set_cons_succ]
              refine' wpAnyH_take (i := 1) (v := _) rfl (by kernel_rfl) (by kernel_rfl) (by kernel_rfl) (fun _ _ _ h => h) (Or.inl ⟨by rfl, ?hyb1⟩) hHeld ?rb1
              case hyb1 => (intro w hSw; have s0 := hSw; go_simp; with_reducible rfl)
              simp only [Act.put, List.getElem_toArray, List.getElem_cons_zero, List.getElem_cons_succ, List.setIfInBounds_toArray, List.set_cons_zero, List.set_cons_succ]
              refine' wpAnyH_take (i := 2) (v := _) rfl (by kernel_rfl) (by kernel_rfl) (by kernel_rfl) (fun _ _ _ h => h) (Or.inl ⟨by rfl, ?hyb2⟩) hHeld ?rb2
              case hyb2 => (intro w hSw; have s0 := hSw; go_simp; with_reducible rfl)
              simp only [Act.put, List.getElem_toArray, List.getElem_cons_zero, List.getElem_cons_succ, List.setIfInBounds_toArray, List.set_cons_zero, List.set_cons_succ]
              refine' wpAnyH_take (i := 3) (v := _) rfl (by kernel_rfl) (by kernel_rfl) (by kernel_rfl) (fun _ _ _ h => h) (Or.inl ⟨by rfl, ?hyb3⟩) hHeld ?rb3
              case hyb3 => (intro w hSw; have s0 := hSw; go_simp; with_reducible rfl)
              simp only [Act.put, List.getElem_toArray, List.getElem_cons_zero, List.getElem_cons_succ, List.setIfInBounds_toArray, List.set_cons_zero, List.set_cons_succ]
              refine' wpAnyH_take (i := 5) (v := _) rfl (by kernel_rfl) (by kernel_rfl) (by kernel_rfl) (fun _ _ _ h => h) (Or.inl ⟨by rfl, ?hyb5⟩) hHeld ?rb5
              case hyb5 => (intro w hSw; have s0 := hSw; go_simp; with_reducible rfl)
              simp only [Act.put, List.getElem_toArray, List.getElem_cons_zero, List.getElem_cons_succ, List.setIfInBounds_toArray, List.set_cons_zero, List.set_cons_succ]
              refine' wpAnyH_take (i := 6) (v := _) rfl (by kernel_rfl) (by kernel_rfl) (by kernel_rfl) (fun _ _ _ h => h) (Or.inl ⟨by rfl, ?hyb6⟩) hHeld ?rb6
              case hyb6 => (intro w hSw; have s0 := hSw; go_simp; with_reducible rfl)
              simp only [Act.put, List.getElem_toArray, List.getElem_cons_zero, List.getElem_cons_succ, List.setIfInBounds_toArray, List.set_cons_zero, List.set_cons_succ]
              refine' wpAnyH_take (i := 7) (v := _) rfl (by kernel_rfl) (by kernel_rfl) (by kernel_rfl) (fun _ _ _ h => h) (Or.inl ⟨by rfl, ?hyb7⟩) hHeld ?rb7
              case hyb7 => (intro w hSw; have s0 := hSw; go_simp; with_reducible rfl)
              simp only [Act.put, List.getElem_toArray, List.getElem_cons_zero, List.getElem_cons_succ, List.setIfInBounds_toArray, List.set_cons_zero, List.set_cons_succ]
              refine' wpAnyH_take (i := 8) (v := _) rfl (by kernel_rfl) (by kernel_rfl) (by kernel_rfl) (fun _ _ _ h => h) (Or.inl ⟨by rfl, ?hyb8⟩) hHeld ?rb8
              case hyb8 => (intro w hSw; have s0 := hSw; go_simp; with_reducible rfl)
              simp only [Act.put, List.getElem_toArray, List.getElem_cons_zero, List.getElem_cons_succ, List.setIfInBounds_toArray, List.set_cons_zero, List.set_cons_succ]
              refine wpAnyH_ready (rs := [4]) (by kernel_rfl) (by simp) ?_
              refine AllReadyH.cons rfl (fun K hK => ?_) AllReadyH.nil
              go_simp
              refine (pow_any c n 2305843009213691579 _ (by decide) (by decide) hn0 (by omega)).mono ?_
              rintro e w' ⟨rfl, rfl⟩
              have HO7 := Lib.hid (show Only (fun _ => False) wr (wr.drew.alloc (.cells #[.int .i64 2305843009213691579] 3)) from ((Only.refl _ wr).drew).alloc _)
              generalize wr.drew.alloc (.cells #[.int .i64 2305843009213691579] 3) = w7 at *
              have e07 := HO7.out.cell e0 (fun h => h)
              refine hK.out _ _ e07 (fun hHeld => ?_)
              clear hK K
              try simp only [Act.put, List.getElem_toArray, List.getElem_cons_zero, List.getElem_cons_succ, List.setIfInBounds_toArray, List.set_cons_zero, List.set_cons_succ]
              rw [HPZ.out]
              refine wpAnyH_ready (rs := [9]) (by kernel_rfl) (by simp) ?_
              refine AllReadyH.cons rfl (fun K hK => ?_) AllReadyH.nil
              go_simp
              refine (pvalue_any _ cs ((k : Int) + 1) w7 (HCS.out w7 HO7.out) (by omega)).mono ?_
              rintro e w8 ⟨rfl, hB8⟩
              have HO8 := Lib.hid (HO7.out.trans hB8)
              clear hB8
              have e08 := HO8.out.cell e0 (fun h => h)
              refine hK.out _ _ e08 (fun hHeld => ?_)
              clear hK K
              try simp only [Act.put, List.getElem_toArray, List.getElem_cons_zero, List.getElem_cons_succ, List.setIfInBounds_toArray, List.set_cons_zero, List.set_cons_succ]
              generalize valZ cs ((k : Int) + 1) = vz at *
              refine wpAnyH_ready (rs := [10]) (by kernel_rfl) (by simp) ?_
              refine AllReadyH.cons rfl (fun K hK => ?_) AllReadyH.nil
              go_simp
              refine (pseal_any vz pn k _ HVZ.out.1 HVZ.out.2 HPN.out (by omega) (HGS.out _ HO8.out)).mono ?_
              rintro e w9 ⟨rfl, hO9⟩
              have HO9 := Lib.hid (HO8.out.trans hO9)
              have e09 := HO9.out.cell e0 (fun h => h)
              clear hO9
              refine hK.out _ _ e09 (fun hHeld => ?_)
              clear hK K
              try simp only [Act.put, List.getElem_toArray, List.getElem_cons_zero, List.getElem_cons_succ, List.setIfInBounds_toArray, List.set_cons_zero, List.set_cons_succ]
              rw [HBO.out]
              have hsz9 := HO9.out.size
              refine wpAnyH_ready (rs := [11]) (by kernel_rfl) (by simp) ?_
              refine AllReadyH.cons rfl (fun K hK => ?_) AllReadyH.nil
              go_simp
              have HOA := Lib.hid ((Only.refl (fun _ => False) w9).alloc (.cells #[.string bo] 9))
              refine hK.out _ _ (HOA.out.cell e09 (fun h => h)) (fun hHeld => ?_)
              clear hK K
              refine wpAnyH_ready (rs := [12]) (by kernel_rfl) (by simp) ?_
              refine AllReadyH.cons rfl (fun K hK => ?_) AllReadyH.nil
              refine step_append_lies _ rfl _ _ 23 rfl (Bd + 1) 9 j0 _ 1 16 Tryz.underlying23 hj0 hy0 hy1 hy2 rfl (by decide) vb k (srowS X) rfl (HOA.out.owns (HO9.out.owns HOW.out (fun _ _ h => h)) (fun _ _ h => h)) ⟨w9.heap.size, 0, none⟩ 1 1 [.string bo] rfl rfl (World.news_of_block (cs := #[.string bo]) (t := 9) (fr := (0, 0)) (heap_alloc_new w9 _)) (one_str _) (by decide) (by unfold maxLen; omega) (by omega) (by simp; omega) _ rfl ?_
              intro g cap w1 hown1 hgrow hat hlt1
              refine hK.out _ _ (hgrow.cell (HOA.out.cell e09 (fun h => h)) HN0.out) (fun hHeld => ?_)
              clear hK K
              refine wpAnyH_done (by kernel_rfl) ?_ _
              simp only [headPost, Act.put, List.getElem_toArray, List.getElem_cons_zero, List.getElem_cons_succ, List.setIfInBounds_toArray, List.set_cons_zero, List.set_cons_succ, List.drop_succ_cons, List.drop_zero]
              obtain ⟨hbl1, hdn⟩ := HGO.out _ _ _ _ _ (HO9.out.trans HOA.out) hown1 hgrow (by simpa using hat)
              have HDN := Lib.hid hdn
              have HZN := Lib.hid (show (w1.setCell ⟨Bd, 2, none⟩ (.slice (some ⟨g, 0, none⟩) (k + 1) cap)).heap[w.heap.size]? = some (.cells #[.slice none 0 0, .int .i64 0, .slice none 0 0] 25 (0, 0)) by
                rw [heap_setCell_other _ _ _ _ (by show w.heap.size ≠ Bd; omega)]
                have hO := (Only.refl (fun i => vb.ownBlock = some i) _).grown hgrow (fun i e _ => e)
                have hw := (Array.getElem?_eq_some_iff.1 HZ.out).1
                rw [hO.block w.heap.size (by have := HOA.out.size; omega) (fun e => by have := own_low' HOW.out e; omega)]
                exact row_still (HO9.out.trans HOA.out) HZ.out)
              have c1 := cell_of_row _ _ 2 _ _ _ hbl1
              have f1 := frozen_of_row _ _ 2 _ _ hbl1
              have l1 := (Array.getElem?_eq_some_iff.1 hbl1).1
              clear hown1 hgrow hat hdn hbl1 e0 e1 hHeld e07 e08 e09
              go_wp2
              go_roundw
              case rel => exact ⟨k + 1, .slice (some ⟨g, 0, none⟩) (k + 1) cap, by omega, by go_num, by rw [HBX.out]; exact HDN.out, HZN.out⟩
              case measure => simp [intOf]; omega
            · obtain rfl : k = ks.length := by omega
              have i6 : ¬ (ks.length : Int) < ks.length := by omega
              have HBK := Lib.hid hD.blk
              have HPOST := Lib.hid (show ∀ w3, Only (fun k => k = w.heap.size) wr w3 → DealPost w (dealZ cs ks seed) (.returned (.tuple #[.agg #[vc, .int .i64 p, vb], .bool true])) w3 from fun w3 hO3 => ⟨hD.only.trans' hO3 (fun i hi e => by omega), vc, vb, by rw [HDZ.out], by
                rw [HDZ.out]
                exact ⟨own_base (hO3.owns hD.own (fun g hg e => by have := own_low' hD.own hg; omega)) (by omega), own_base (hO3.owns hD.ownS (fun g hg e => by have := own_low' hD.ownS hg; omega)) (by omega)⟩⟩)
              have HO13 := Lib.hid (slice_one hD.own hD.ownS p)
              clear hlt hk hD hZ
              go_wp2_with (first | (refine wpList_load_row rfl 25 _ rfl Bd rfl 25 #[vc, .int .i64 p, vb] (0, 0) _ HBK.out Tryz.underlying25 rfl Tryz.infoD ?_) | (refine wpList_store_row rfl 25 _ _ rfl w.heap.size #[vc, .int .i64 p, vb] rfl rfl 25 _ HZ.out Tryz.infoD rfl HO13.out ?_))
              refine bodyPost_ret (v := .tuple #[.agg #[vc, .int .i64 p, vb], .bool true]) (results_cell_tmp (p := 6) (q := 7) rfl _ _ w.heap.size 25 #[vc, .int .i64 p, vb] (0, 0) _ rfl (setRow_heap _ _ _ _ _ _ HZ.out) Tryz.underlying25 rfl Tryz.infoD _ rfl) rfl (HPOST.out _ ?_)
              exact (Only.refl (fun k => k = w.heap.size) wr).trans' (T := fun k => k = w.heap.size) ⟨rfl, rfl, rfl, by simp, fun k _ hk => heap_setRow_other _ _ _ _ hk⟩ (fun _ _ e => e)
end Go.Proofs.YtkpfachmakfncaaGreatDoor

namespace Go.Proofs.YtkpfachmakfncaaGreatDoor
open Go.RowKit

/-- May it be dealt? -/
def dealOk (cs ks : List Int) : Bool := decide (1 ≤ ks.length) && decide (ks.length ≤ 60) && membersB ks && decide (1 ≤ cs.length) && decide (cs.length ≤ ks.length) && cs.all insideB
def dealD (cs ks : List Int) (seed : ByteArray) : Dl := if dealOk cs ks then dealZ cs ks seed else ⟨[], 0, []⟩
def DealPostG (w : World) (d : Dl) (ok : Bool) (e : Ending) (w' : World) : Prop := Only (fun _ => False) w w' ∧ ∃ c0 c2, e = .returned (.tuple #[.agg #[c0, .int .i64 d.pt, c2], .bool ok]) ∧ DlOwn w.heap.size w' c0 c2 d
theorem inside_all {cs : List Int} (h : cs.all insideB = true) (j : Nat) (hj : j < cs.length) : insideB (ptAt cs j) = true := by
  have := List.all_eq_true.1 h cs[j] (List.getElem_mem hj)
  simpa [ptAt, List.getD, hj] using this
theorem inside_bd {x : Int} (h : insideB x = true) : 0 ≤ x ∧ x < 1152921504606845789 := by
  unfold insideB at h
  simp only [Bool.and_eq_true, decide_eq_true_eq] at h
  omega
theorem inside_not {cs : List Int} (h : cs.all insideB = false) : ∃ j, j < cs.length ∧ insideB (ptAt cs j) = false := by
  rw [List.all_eq_false] at h
  obtain ⟨x, hx, hn⟩ := h
  obtain ⟨j, hj, rfl⟩ := List.mem_iff_getElem.1 hx
  exact ⟨j, hj, by simpa [ptAt, List.getD, hj] using hn⟩
theorem zero_own (w w' : World) : DlOwn w.heap.size w' (.slice none 0 0) (.slice none 0 0) ⟨[], 0, []⟩ := ⟨World.ownsRow_nil _ _ _ _, World.ownsRow_nil _ _ _ _⟩
theorem pdeal_any (sv kv : Value) (cs ks : List Int) (seed : ByteArray) (w : World) (hC : PtsAt w.heap.size w sv cs) (hK : PtsAt w.heap.size w kv ks) (hkl : ks.length ≤ 1000000) (hcl : cs.length ≤ 1000000) (hs : seed.size ≤ 148000000000000) (hG : Glob w) :
    Calls Tryz.prog 14 #[sv, kv, .string seed] w (DealPostG w (dealD cs ks seed) (dealOk cs ks)) := by
  cases hok : dealOk cs ks
  · have aux : Calls Tryz.prog 14 #[sv, kv, .string seed] w fun e w' => e = .returned (.tuple #[.agg zeroDl, .bool false]) ∧ Only (fun _ => False) w w' := by
      by_cases h1 : ks.length < 1 ∨ 60 < ks.length
      · exact deal_keys sv kv cs ks seed w hC hK hkl h1
      · by_cases h2 : membersB ks = false ∨ cs.length < 1 ∨ ks.length < cs.length
        · exact deal_counts sv kv cs ks seed w hC hK (by omega) (by omega) hcl h2
        · have hm : membersB ks = true := by
            cases hm : membersB ks
            · exact absurd (.inl hm) h2
            · rfl
          refine deal_outside sv kv cs ks seed w hC hK (by omega) (by omega) hm (by omega) (by omega) (inside_not ?_)
          unfold dealOk at hok
          simp only [hm, Bool.and_true, Bool.and_eq_false_iff, decide_eq_false_iff_not] at hok
          rcases hok with (((h | h) | h) | h) | h <;> first | exact h | omega
    refine aux.mono ?_
    rintro e w' ⟨rfl, hO⟩
    unfold dealD
    rw [hok]
    exact ⟨hO, .slice none 0 0, .slice none 0 0, rfl, zero_own w w'⟩
  · have h := hok
    unfold dealOk at h
    simp only [Bool.and_eq_true, decide_eq_true_eq] at h
    obtain ⟨⟨⟨⟨⟨h1, h2⟩, h3⟩, h4⟩, h5⟩, h6⟩ := h
    refine (pdeal_yes sv kv cs ks seed w hC hK h4 h5 h2 h3 (fun j hj => inside_bd (inside_all h6 j hj)) hs hG).mono ?_
    rintro e w' ⟨hO, c0, c2, rfl, hD⟩
    unfold dealD
    rw [hok]
    exact ⟨hO, c0, c2, rfl, hD⟩
theorem dealD_cm (cs ks : List Int) (seed : ByteArray) (h : cs.length ≤ 1000000) : (dealD cs ks seed).cm.length ≤ 1000000 := by
  unfold dealD
  split
  · rw [show (dealZ cs ks seed).cm.length = cs.length from cmTo_len _ _]; exact h
  · exact Nat.zero_le _
theorem dealD_bx (cs ks : List Int) (seed : ByteArray) (h : ks.length ≤ 1000000) : (dealD cs ks seed).bx.length ≤ 1000000 := by
  unfold dealD
  split
  · rw [show (dealZ cs ks seed).bx.length = ks.length from bxTo_len _ _ _ _]; exact h
  · exact Nat.zero_le _
set_option maxRecDepth 100000 in
set_option maxHeartbeats 2000000 in
theorem rsame7_eq (a0 a2 b0 b2 : Option Addr) (k0 k2 l0 l2 : Nat) (d : Dl) (w : World) (hA : DlAt w (.slice a0 d.cm.length k0) (.int .i64 d.pt) (.slice a2 d.bx.length k2) d) (hB : DlAt w (.slice b0 d.cm.length l0) (.int .i64 d.pt) (.slice b2 d.bx.length l2) d) (_hcm : d.cm.length ≤ 2000000) (_hbx : d.bx.length ≤ 2000000) :
    Calls Tryz.prog 9 #[.agg #[.slice a0 d.cm.length k0, .int .i64 d.pt, .slice a2 d.bx.length k2], .agg #[.slice b0 d.cm.length l0, .int .i64 d.pt, .slice b2 d.bx.length l2]] w fun e w' => e = .returned (.bool true) ∧ Only (fun _ => False) w w' := by
  have hO := ((Only.refl (fun _ => False) w).alloc (.cells #[.slice a0 d.cm.length k0, .int .i64 d.pt, .slice a2 d.bx.length k2] 25)).alloc (.cells #[.slice b0 d.cm.length l0, .int .i64 d.pt, .slice b2 d.bx.length l2] 25)
  have hz1 := heap_alloc_last (w.alloc (.cells #[.slice a0 d.cm.length k0, .int .i64 d.pt, .slice a2 d.bx.length k2] 25)) (.cells #[.slice b0 d.cm.length l0, .int .i64 d.pt, .slice b2 d.bx.length l2] 25)
  have hz0 := (Below.heap_alloc (w.alloc (.cells #[.slice a0 d.cm.length k0, .int .i64 d.pt, .slice a2 d.bx.length k2] 25)) (.cells #[.slice b0 d.cm.length l0, .int .i64 d.pt, .slice b2 d.bx.length l2] 25) w.heap.size (by simp)).trans (heap_alloc_last w _)
  rw [World.size_alloc] at hz1
  have HA := Lib.hid (hA.only hO)
  have HB := Lib.hid (hB.only hO)
  have HO := Lib.hid hO
  have HZ0 := Lib.hid hz0
  have HZ1 := Lib.hid hz1
  clear hA hB hO hz0 hz1
  go_enter Tryz.func9, Tryz.ntmps9
  go_wp2_with fail
  generalize hW : World.alloc _ _ = w1
  change (w.alloc (.cells #[.slice a0 d.cm.length k0, .int .i64 d.pt, .slice a2 d.bx.length k2] 25)).alloc (.cells #[.slice b0 d.cm.length l0, .int .i64 d.pt, .slice b2 d.bx.length l2] 25) = w1 at hW
  rw [hW] at HA HB HO HZ0 HZ1
  clear hW
  go_loopw [5] (fun vi wr => ∃ (k n : Nat), k ≤ d.cm.length ∧ vi = .int .i64 k ∧ wr = w1.drewN n) (fun vi _ => d.cm.length - (intOf vi).toNat)
  case atStart => exact ⟨0, 0, Nat.zero_le _, rfl, rfl⟩
  case round =>
    obtain ⟨k, n, hk, rfl, rfl⟩ := hrel
    have f0 : _ = some (Value.slice a0 d.cm.length k0) := cell_of_row _ _ 0 _ _ _ HZ0.out
    have g0 : _ = some (Value.slice b0 d.cm.length l0) := cell_of_row _ _ 0 _ _ _ HZ1.out
    have f2 : _ = some (Value.slice a2 d.bx.length k2) := cell_of_row _ _ 2 _ _ _ HZ0.out
    by_cases hlt : k < d.cm.length
    · obtain ⟨p, po, rfl, hp, hp0, _, _, hpc⟩ := HA.out.cm.cellAt hlt
      obtain ⟨q, qo, rfl, hq, hq0, _, _, hqc⟩ := HB.out.cm.cellAt hlt
      have i1 : (k : Int) < d.cm.length := by omega
      have i2 : 0 ≤ (k : Int) := by omega
      generalize ptAt d.cm k = z at *
      clear hp0 hq0 f2
      go_wp2_with fail
      go_quiet (fail)
      go_wp2
      go_roundw
      case rel => exact ⟨k + 1, n + nq, by omega, by go_num, by first | rfl | trivial⟩
      case measure => simp [intOf]; omega
    · obtain rfl : k = d.cm.length := by omega
      have i1 : ¬ (d.cm.length : Int) < d.cm.length := by omega
      clear hlt hk g0
      go_wp2_with fail
      go_loopw [6] (fun vi wr => ∃ (k n : Nat), k ≤ d.bx.length ∧ vi = .int .i64 k ∧ wr = w1.drewN n) (fun vi _ => d.bx.length - (intOf vi).toNat)
      case atStart => exact ⟨0, n, Nat.zero_le _, rfl, rfl⟩
      case round =>
        clear f0 f2
        obtain ⟨k, m, hk, rfl, rfl⟩ := hrel
        have f2 : _ = some (Value.slice a2 d.bx.length k2) := cell_of_row _ _ 2 _ _ _ HZ0.out
        have g2 : _ = some (Value.slice b2 d.bx.length l2) := cell_of_row _ _ 2 _ _ _ HZ1.out
        by_cases hlt : k < d.bx.length
        · obtain ⟨p, po, rfl, hp, _, _, hpc⟩ := strs_cellAt HA.out.bx hlt
          obtain ⟨q, qo, rfl, hq, _, _, hqc⟩ := strs_cellAt HB.out.bx hlt
          have i1 : (k : Int) < d.bx.length := by omega
          have i2 : 0 ≤ (k : Int) := by omega
          generalize sAt d.bx k = z at *
          go_wp2_with fail
          go_quiet (fail)
          go_wp2
          go_roundw
          case rel => exact ⟨k + 1, m + nq, by omega, by go_num, by first | rfl | trivial⟩
          case measure => simp [intOf]; omega
        · obtain rfl : k = d.bx.length := by omega
          have i1 : ¬ (d.bx.length : Int) < d.bx.length := by omega
          clear hlt hk
          go_wp2
          go_ret
          exact ⟨rfl, HO.out.drewN m⟩
end Go.Proofs.YtkpfachmakfncaaGreatDoor

namespace Go.Proofs.YtkpfachmakfncaaGreatDoor
open Go.RowKit

def numB (n : Int) : List UInt8 := 32 :: Lib.itoa n
def numsB (l : List Int) : List UInt8 := l.flatMap numB
def hexDig (n : Nat) : UInt8 := UInt8.ofNat (if n < 10 then 48 + n else 87 + n)
def hexTo (s : ByteArray) : Nat → List UInt8
  | 0 => []
  | k + 1 => hexTo s k ++ [hexDig ((byteZ s k).toNat / 16), hexDig ((byteZ s k).toNat % 16)]
def hexB (s : ByteArray) : List UInt8 := hexTo s s.size
def boxTB (s : ByteArray) : List UInt8 := 32 :: hexB s
def boxesB (l : List ByteArray) : List UInt8 := l.flatMap boxTB
/-- A dealing's text. -/
def textL (d : Dl) : List UInt8 := [100, 101, 97, 108] ++ numB d.cm.length ++ numsB d.cm ++ numB d.pt ++ boxesB d.bx
def textB (d : Dl) : ByteArray := ⟨(textL d).toArray⟩
theorem flat_step {α : Type} (f : α → List UInt8) (d : α) (l : List α) (k : Nat) (h : k < l.length) : (l.take (k + 1)).flatMap f = (l.take k).flatMap f ++ f (l.getD k d) := by
  rw [List.take_add_one, List.flatMap_append]
  simp [List.getD, h]
/-- The builder and the cell that holds its method. -/
structure TxAt (w : World) (b : Nat) (l : List UInt8) (wr : World) : Prop where
  is : BldAt b b l wr
  cell : wr.heap[b + 1]? = some (.cells #[.func (.func 23) #[.pointer (some ⟨b, 0, none⟩)] #[]] 57 (0, 0))
  below : Below b w wr
theorem TxAt.post {w wr w2 : World} {b : Nat} {l l2 : List UInt8} (h : TxAt w b l wr) (hp : BldPost b b l2 wr w2) : TxAt w b l2 w2 :=
  ⟨hp.is, hp.others _ _ h.cell (by simp) (fun c fz e => by simp at e), h.below.trans hp.below⟩
theorem TxAt.only {w wr w2 : World} {b : Nat} {l : List UInt8} (h : TxAt w b l wr) (hO : Only (fun _ => False) wr w2) : TxAt w b l w2 :=
  ⟨h.is.only hO, (hO.block _ (Array.getElem?_eq_some_iff.1 h.cell).1 (fun h => h)).trans h.cell, h.below.trans (hO.below (Nat.le_of_lt h.is.lt) (fun _ _ h => h))⟩
theorem Only.redrawn_grow (w : World) (d : Nat) (os : Array Obj) : Only (fun _ => False) w (Go.Sort.grow (redrawn w d) os) := Only.ofBelow (below_regrown w d os) _
theorem itoaZ_any (n : Int) (w : World) (h0 : -9223372036854775808 ≤ n) (h1 : n ≤ 9223372036854775807) (hG : Glob w) :
    Calls Tryz.prog 25 #[.int .i64 n] w fun e w' => e = .returned (.string ⟨(Lib.itoa n).toArray⟩) ∧ Only (fun _ => False) w w' :=
  (Tryz.strconv_Itoa n h0 h1 w hG.pow).mono fun e w' h => by
    obtain ⟨he, k, os, hw⟩ := h
    exact ⟨he, hw ▸ only_grown w k os⟩
/-- The closure that writes a number. -/
theorem number1_any (b : Nat) (l : List UInt8) (n : Int) (w0 w : World) (h0 : -9223372036854775808 ≤ n) (h1 : n ≤ 9223372036854775807) (hT : TxAt w0 b l w) (hl : l.length ≤ 1000000000) (hG : Glob w) (hGk : ∀ w', Below b w w' → Glob w') :
    Calls Tryz.prog 24 #[.int .i64 n, .pointer (some ⟨b + 1, 0, none⟩)] w fun e w' => e = .returned (.tuple #[]) ∧ TxAt w0 b (l ++ numB n) w' := by
  have HG := Lib.hid hG
  have HT := Lib.hid hT
  have HGK := Lib.hid hGk
  have c0 : _ = some (Value.func (.func 23) #[.pointer (some ⟨b, 0, none⟩)] #[]) := cell_of_row _ _ 0 _ _ _ hT.cell
  have HIT := Lib.hid (fun w hG => itoaZ_any n w h0 h1 hG)
  have HN := Lib.hid (show l ++ numB n = (l ++ (⟨#[32]⟩ : ByteArray).data.toList) ++ (⟨(Lib.itoa n).toArray⟩ : ByteArray).data.toList by simp [numB])
  have HW1 := Lib.hid (bwrite_any b b l ⟨#[32]⟩ w hT.is (by show _ + 1 ≤ _; omega) (Nat.le_of_lt hT.is.lt))
  have HL2 := Lib.hid (show (l ++ (⟨#[32]⟩ : ByteArray).data.toList).length + (⟨(Lib.itoa n).toArray⟩ : ByteArray).size ≤ 140737488355328 by
    rw [List.length_append]
    have : (⟨(Lib.itoa n).toArray⟩ : ByteArray).size ≤ 21 := Lib.itoa_length_le n h0 h1
    have : (⟨#[32]⟩ : ByteArray).data.toList.length = 1 := rfl
    omega)
  clear hT hG hGk
  generalize (⟨(Lib.itoa n).toArray⟩ : ByteArray) = s at *
  go_enter Tryz.func24, Tryz.ntmps24
  go_wp2_with fail
  refine HW1.out.mono ?_
  rintro e w1 ⟨rfl, hp1⟩
  have HT1 := Lib.hid (HT.out.post hp1)
  have HG1 := Lib.hid (HGK.out _ hp1.below)
  have d0 : _ = some (Value.func (.func 23) #[.pointer (some ⟨b, 0, none⟩)] #[]) := cell_of_row _ _ 0 _ _ _ HT1.out.cell
  clear hp1 c0
  have y0 := fun (d : Nat) (os : Array Obj) => cell_regrown d0 d os
  go_wp2_with fail
  refine wp_region_below_split2 3 (by kernel_rfl) (by kernel_rfl) (by kernel_rfl) ?_
  simp only [List.take_succ_cons, List.take_zero, List.drop_succ_cons, List.drop_zero]
  repeat (go_big_quiet_step ((go_at_call 25; exact Calls.regrown_of ((HIT.out _ (Glob.grown HG1.out _ _)).mono fun _ _ h => ⟨h.1, h.2.below (Nat.le_refl _) (fun _ _ h => h)⟩))))
  refine wpQuiet_nil ?_
  intro w2 hw'
  obtain ⟨pq, hw''⟩ := hw'
  have HO12 := Lib.hid (Only.ofBelow (below_regrown w1 pq.d pq.os) (fun _ => False))
  rw [← hw''] at HO12
  clear hw'' y0
  have HT2 := Lib.hid (HT1.out.only HO12.out)
  have d2 : _ = some (Value.func (.func 23) #[.pointer (some ⟨b, 0, none⟩)] #[]) := cell_of_row _ _ 0 _ _ _ HT2.out.cell
  go_wp2_with fail
  refine (bwrite_any b b _ s w2 HT2.out.is HL2.out (Nat.le_of_lt HT2.out.is.lt)).mono ?_
  rintro e w3 ⟨rfl, hp3⟩
  have HT3 := Lib.hid (HT2.out.post hp3)
  clear hp3
  go_wp2
  go_end0
  exact ⟨rfl, by rw [HN.out]; exact HT3.out⟩
end Go.Proofs.YtkpfachmakfncaaGreatDoor

namespace Go.Proofs.YtkpfachmakfncaaGreatDoor
open Go.RowKit

/-- The points of the shares: m owners from number fr on, of kl. -/
def nkT (fr kl k : Nat) : Nat := (fr + k) % kl
def zsT (fr kl m : Nat) : List Int := (List.range m).map fun k => ((nkT fr kl k : Nat) : Int) + 1
def ysT (F : List Int) (fr kl m : Nat) : List Int := (List.range m).map fun k => valZ F (((nkT fr kl k : Nat) : Int) + 1)
theorem zsT_len (fr kl m : Nat) : (zsT fr kl m).length = m := by simp [zsT]
theorem zsT_at (fr kl m j : Nat) (h : j < m) : ptAt (zsT fr kl m) j = ((nkT fr kl j : Nat) : Int) + 1 := by simp [zsT, ptAt, List.getD, h]
theorem ysT_at (F : List Int) (fr kl m j : Nat) (h : j < m) : ptAt (ysT F fr kl m) j = valZ F (((nkT fr kl j : Nat) : Int) + 1) := by simp [ysT, ptAt, List.getD, h]
theorem nk_lt (fr kl k : Nat) (h : 0 < kl) : nkT fr kl k < kl := Nat.mod_lt _ h
theorem nk_ne (fr kl j k : Nat) (hj : j < kl) (hk : k < kl) (h : j ≠ k) : nkT fr kl j ≠ nkT fr kl k := by
  have aux : ∀ a b, a < b → b < kl → nkT fr kl a ≠ nkT fr kl b := by
    intro a b hab hb e
    have h1 := Nat.sub_mod_eq_zero_of_mod_eq (show (fr + b) % kl = (fr + a) % kl from e.symm)
    rw [show fr + b - (fr + a) = b - a by omega, Nat.mod_eq_of_lt (by omega)] at h1
    omega
  rcases Nat.lt_or_ge j k with h1 | h1
  · exact aux j k h1 hk
  · exact fun e => aux k j (by omega) hj e.symm
theorem zsT_pts (fr kl m : Nat) (hm : m ≤ kl) (hk : kl ≤ 60) : Points (zsT fr kl m) := by
  refine ⟨fun j hj => ?_, fun j k hj hk' hne => ?_⟩
  · rw [zsT_len] at hj
    rw [zsT_at fr kl m j hj, gQ_val]
    have := nk_lt fr kl j (by omega)
    omega
  · rw [zsT_len] at hj hk'
    rw [zsT_at fr kl m j hj, zsT_at fr kl m k hk']
    have := nk_ne fr kl j k (by omega) (by omega) hne
    omega
/-- What the law computes of one share. -/
def fLo (zs : List Int) (y : Int) (i : Nat) : Nat → Int
  | 0 => y
  | j + 1 => if j = i then fLo zs y i j else fLo zs y i j * (ptAt zs j * invM (ptAt zs j - ptAt zs i) 1152921504606845789 % 1152921504606845789) % 1152921504606845789
theorem invM_mod (a : Int) : invM (a % gQ) gQ = invM a gQ := by unfold invM; rw [Int.emod_emod_of_dvd _ (Int.dvd_refl gQ)]
theorem fLo_cong (zs : List Int) (y : Int) (i : Nat) : ∀ n, fLo zs y i n % gQ = facTo zs i n * y % gQ
  | 0 => by rw [fLo, facTo, Int.one_mul]
  | n + 1 => by
    rw [fLo, facTo]
    by_cases e : n = i
    · rw [if_pos e, if_pos e]; exact fLo_cong zs y i n
    · rw [if_neg e, if_neg e, ← gQ_val, invM_mod, Int.emod_emod_of_dvd _ (Int.dvd_refl gQ)]
      generalize ptAt zs n * invM (ptAt zs n - ptAt zs i) gQ % gQ = c
      rw [Int.mul_emod, fLo_cong zs y i n, ← Int.mul_emod, res_mul]
      congr 1
      simp only [Int.mul_left_comm, Int.mul_comm]
/-- The sum, of the first k. -/
def sumT (zs ys : List Int) : Nat → Int
  | 0 => 0
  | k + 1 => (sumT zs ys k + fLo zs (ptAt ys k) k zs.length) % 1152921504606845789
theorem sumT_comb (zs ys : List Int) : ∀ k, sumT zs ys k = combRTo zs ys k
  | 0 => rfl
  | k + 1 => by
    rw [sumT, combRTo, sumT_comb zs ys k]
    have := fLo_cong zs (ptAt ys k) k zs.length
    rw [gQ_val] at this
    unfold facR
    rw [← this]
    generalize combRTo zs ys k = a
    generalize fLo zs (ptAt ys k) k zs.length = b
    omega
theorem comb_firstP (zs ns cs : List Int) (hP : Points zs) (hl : cs.length ≤ zs.length) (hc : 0 ≤ ptAt cs 0 ∧ ptAt cs 0 < gQ) (hv : ∀ j, j < zs.length → ptAt ns j = valZ cs (ptAt zs j)) : combRTo zs ns zs.length = ptAt cs 0 := by
  have hb := combRTo_bd zs ns zs.length
  have h1 := comb_lsum zs ns (ev cs) hP (fun j hj => by rw [hv j hj]; exact valZ_cong _ _) zs.length (Nat.le_refl _)
  rw [List.take_length] at h1
  exact (h1.trans (interp gQ ivQ cs zs hl (apart_of zs hP))).eq hb.1 hb.2 hc.1 hc.2
/-- The law's sum is the first coefficient. -/
theorem join_first (F : List Int) (fr kl : Nat) (hm : F.length ≤ kl) (hk : kl ≤ 60) (hc : 0 ≤ ptAt F 0 ∧ ptAt F 0 < gQ) : sumT (zsT fr kl F.length) (ysT F fr kl F.length) F.length = ptAt F 0 := by
  rw [sumT_comb]
  have := comb_firstP (zsT fr kl F.length) (ysT F fr kl F.length) F (zsT_pts fr kl _ hm hk) (by rw [zsT_len]; exact Nat.le_refl _) hc (fun j hj => by
    rw [zsT_len] at hj
    rw [ysT_at F fr kl _ j hj, zsT_at fr kl _ j hj])
  rw [zsT_len] at this
  exact this
/-- Differences of points have inverses. -/
theorem inv_pts {zs : List Int} (h : Points zs) (n i : Nat) (hn : n < zs.length) (hi : i < zs.length) (e : n ≠ i) : invB (ptAt zs n - ptAt zs i) 1152921504606845789 = true := by
  have hg : Int.gcd (ptAt zs n - ptAt zs i) gQ = 1 := by
    refine gcd_Q _ (fun h0 => ?_)
    have h1 := h.bd n hn
    have h2 := h.bd i hi
    have h3 := h.ne n i hn hi e
    obtain ⟨c, hc⟩ := Int.dvd_of_emod_eq_zero h0
    rcases Int.lt_trichotomy c 0 with hc0 | hc0 | hc0
    · have : gQ * c ≤ gQ * (-1) := Int.mul_le_mul_of_nonneg_left (by omega) (by decide)
      omega
    · subst hc0; omega
    · have : gQ * 1 ≤ gQ * c := Int.mul_le_mul_of_nonneg_left (by omega) (by decide)
      omega
  unfold invB
  have := inv_gcd (ptAt zs n - ptAt zs i) gQ (by decide) (by decide)
  rw [gQ_val] at this hg
  rw [this, hg]
  rfl
theorem dl_blk2D {A B : World} {o : Obj} (hO : Only (fun _ => False) (A.alloc o).drew B) : B.heap[A.heap.size]? = some o := by
  rw [hO.block A.heap.size (by show _ < (A.alloc o).heap.size; simp) id]; exact heap_alloc_last A o
theorem dl_blkD {A B : World} {o : Obj} (hO : Only (fun _ => False) (A.alloc o) B) : B.heap[A.heap.size]? = some o := by
  rw [hO.block A.heap.size (by simp) id]; exact heap_alloc_last A o
/-- A share that is being stored. -/
def ShMid (wr wx : World) (x y : Int) (v13 v14 : Value) : Prop := ∃ B, v13 = .pointer (some ⟨B, 0, none⟩) ∧ v14 = .bool true ∧ wx.heap[B]? = some (.cells #[.int .i64 x, .int .i64 y] 48 (0, 0)) ∧ wr.heap.size ≤ B ∧ Only (fun _ => False) wr wx
theorem sh_end1 {wr wO : World} {x y : Int} (hO : Only (fun _ => False) wr wO) : ShMid wr (wO.alloc (.cells #[.int .i64 x, .int .i64 y] 48)) x y (.pointer (some ⟨wO.heap.size, 0, none⟩)) (.bool true) :=
  ⟨_, rfl, rfl, heap_alloc_last wO _, hO.size, hO.alloc _⟩
theorem sh_end2 {wr wO : World} {x y : Int} {B : Nat} (hB : wr.heap.size ≤ B) (hk : wO.heap[B]? = some (.cells #[.int .i64 0, .int .i64 0] 48 (0, 0))) (hO : Only (fun _ => False) wr wO) :
    ShMid wr ((wO.setCell ⟨B, 0, none⟩ (.int .i64 x)).setCell ⟨B, 1, none⟩ (.int .i64 y)) x y (.pointer (some ⟨B, 0, none⟩)) (.bool true) :=
  ⟨_, rfl, rfl, heap_setCell_same _ _ 1 _ _ _ (heap_setCell_same _ _ 0 _ _ _ hk), hB, (hO.setCell (.inr hB) _).setCell (.inr hB) _⟩
end Go.Proofs.YtkpfachmakfncaaGreatDoor
