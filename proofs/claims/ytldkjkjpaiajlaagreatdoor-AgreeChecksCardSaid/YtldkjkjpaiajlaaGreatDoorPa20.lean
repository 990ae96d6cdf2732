/-
  strings.Builder: copyCheck, WriteString, String (as the kit's shelf walks them; this dump's copyCheck bears a refused branch that no run here comes to).
-/
import Derived.Test.YtldkjkjpaiajlaaGreatDoorPa02
import Derived.Test.YtldkjkjpaiajlaaGreatDoorPa15
import Derived.Test.YtldkjkjpaiajlaaGreatDoorPa12
import Derived.Lib.OthersKept
import Derived.Lib.UnsafeStr
import Derived.Lib.AppendStr
import Derived.Laws.Externs
namespace Go.Proofs.YtldkjkjpaiajlaaGreatDoor
open Go.RowKit

theorem Tryz.sizeBld : (Tryz.prog.info? 218).map (·.size) = some 2 := by kernel_rfl
theorem Tryz.liesBld : liesAt Tryz.prog Tryz.prog.depth 218 (2 / Tryz.prog.cellsOf 218) 0 218 1 = true := by kernel_rfl
theorem Tryz.infoByte : (Tryz.prog.info? 5).map (fun i => (i.zero, i.size, i.bytes)) = some (some (.int .u8 0), 1, 1) := by kernel_rfl
/-- A builder in block b that holds the bytes l. -/
def BldAt (B b : Nat) (l : List UInt8) (w : World) : Prop := Lib.IsBuilderF 218 5 B b (Lib.byteCells l) w
/-- What a builder's method leaves. -/
structure BldPost (B b : Nat) (l : List UInt8) (w w' : World) : Prop where
  is : BldAt B b l w'
  below : Below B w w'
  others : Lib.OthersKept 5 (some b) w w'

set_option maxHeartbeats 1000000 in
set_option maxRecDepth 100000 in
theorem copyCheck_used (b : Nat) (w : World) (h0 : w.cell? ⟨b, 0, none⟩ = some (.pointer (some ⟨b, 0, none⟩))) :
    Calls Tryz.prog 180 #[.pointer (some ⟨b, 0, none⟩)] w fun e w' => e = .returned (.tuple #[]) ∧ w' = w := by
  obtain ⟨j, hj, _⟩ := Option.map_eq_some_iff.1 Tryz.sizeBld
  go_enter Tryz.func180, Tryz.ntmps180
  go_wp2
  rw [Lib.run_neq_ptr_same w _ Tryz.underlying216 hj]
  go_wp2
  go_end0
  exact ⟨rfl, rfl⟩
set_option maxHeartbeats 1000000 in
set_option maxRecDepth 100000 in
theorem copyCheck_fresh (b : Nat) (w : World) (h0 : w.cell? ⟨b, 0, none⟩ = some (.pointer none)) (hsh : w.shape? b = some (218, 2)) (hfz : w.frozen? ⟨b, 0, none⟩ = false) :
    Calls Tryz.prog 180 #[.pointer (some ⟨b, 0, none⟩)] w fun e w' => e = .returned (.tuple #[]) ∧ w' = w.setCell ⟨b, 0, none⟩ (.pointer (some ⟨b, 0, none⟩)) := by
  obtain ⟨j, hj, hjs⟩ := Option.map_eq_some_iff.1 Tryz.sizeBld
  go_enter Tryz.func180, Tryz.ntmps180
  go_wp2
  rw [Lib.run_to_unsafe w ⟨b, 0, none⟩ Tryz.underlying216 Tryz.underlying270 hj (by rw [hjs]; decide) hsh (Nat.zero_lt_succ 1)]
  simp only [Result.andThen]
  rw [Oper.upon_value]
  go_wp2
  rw [run_callFunc_extern Tryz.func203 (by kernel_rfl) (by kernel_rfl) (by kernel_rfl) (e := Extern.AbiNoEscape.same) (by kernel_rfl)]
  rw [Lib.run_noEscape]
  simp only [Result.andThen]
  rw [Oper.upon_value]
  go_wp2
  rw [Lib.run_from_unsafe w ⟨b, 0, none⟩ Tryz.underlying270 Tryz.underlying216 hj hsh Tryz.liesBld]
  simp only [Result.andThen]
  rw [Oper.upon_value]
  go_wp2
  go_end0
  exact ⟨rfl, rfl⟩
theorem copyCheck_any (B b : Nat) (l : List UInt8) (w : World) (h : BldAt B b l w) :
    Calls Tryz.prog 180 #[.pointer (some ⟨b, 0, none⟩)] w fun e w' => e = .returned (.tuple #[]) ∧ (Lib.BuilderAtF 218 5 B b (.pointer (some ⟨b, 0, none⟩)) (Lib.byteCells l) w' ∧ Below B w w' ∧ Lib.OthersKept 5 (some b) w w') := by
  rcases h with h | h
  · refine (copyCheck_fresh b w h.cell0 h.shape h.frozen0).mono ?_
    rintro e w' ⟨rfl, rfl⟩
    exact ⟨rfl, h.used _, (Below.refl B w).setCell (p := ⟨b, 0, none⟩) h.1 _, (Lib.OthersKept.refl _ _ w).setCell ⟨b, 0, none⟩ rfl _⟩
  · refine (copyCheck_used b w h.cell0).mono ?_
    rintro e w' ⟨rfl, rfl⟩
    exact ⟨rfl, h, Below.refl B _, Lib.OthersKept.refl _ _ _⟩
set_option maxHeartbeats 2000000 in
set_option maxRecDepth 100000 in
theorem bwrite_any (B b : Nat) (l : List UInt8) (s : ByteArray) (w : World) (h : BldAt B b l w) (hlen : l.length + s.size ≤ 140737488355328) (hBw : B ≤ w.heap.size) :
    Calls Tryz.prog 134 #[.pointer (some ⟨b, 0, none⟩), .string s] w fun e w' => e = .returned (.tuple #[.int .i64 s.size, .nilIface]) ∧ BldPost B b (l ++ s.data.toList) w w' := by
  obtain ⟨i0, hi, hz0, hz1, hz2⟩ := info_parts Tryz.infoByte
  have hcl := Lib.byteCells_length l
  have e240 : ∀ args w, (callFunc 180 args).run Tryz.prog w = .ok (.enter 180 args) w := enters_of Tryz.func180 (by kernel_rfl) rfl
  have HCC := Lib.hid (fun w (h : Lib.IsBuilderF 218 5 B b (Lib.byteCells l) w) => copyCheck_any B b l w h)
  have HL := Lib.hid (show Lib.byteCells (l ++ s.data.toList) = Lib.byteCells l ++ Lib.strCells s from Lib.byteCells_append _ _)
  unfold BldAt at h
  have H := Lib.hid h
  clear h
  generalize Lib.byteCells l = bs at *
  rw [← hcl] at hlen
  clear hcl
  go_enter Tryz.func134, Tryz.ntmps134
  go_wp2_with fail
  refine (HCC.out _ H.out).mono ?_
  rintro e w1 ⟨rfl, h1, hb1, hk1⟩
  obtain ⟨hB, v, hbk, hown, hne⟩ := h1
  have c0 : w1.cell? ⟨b, 0, none⟩ = some (.pointer (some ⟨b, 0, none⟩)) := by rw [Lib.cell_of_heap hbk]; rfl
  have c1 : w1.cell? ⟨b, 1, none⟩ = some v := by rw [Lib.cell_of_heap hbk]; rfl
  have HB1 := Lib.hid hb1
  have HK1 := Lib.hid hk1
  have hsz1 := hb1.size
  clear hb1 hk1 HCC H
  go_wp2_with (at_builtin; refine Lib.wpList_append_own_stringF _ rfl _ _ 22 9 rfl B 5 i0 Tryz.underlying22 Tryz.underlying9 hi hz0 hz1 hz2 _ _ _ rfl hown s rfl ?c3 ?c4 ?c5 ?_)
  case c3 => unfold maxLen; omega
  case c4 => omega
  case c5 => omega
  intro v' w2 hown' hgrow _
  have hlt : b < w1.heap.size := by
    rcases Nat.lt_or_ge b w1.heap.size with h' | h'
    · exact h'
    · simp [Array.getElem?_eq_none h'] at hbk
  have hb2 : w2.heap[b]? = some (.cells #[.pointer (some ⟨b, 0, none⟩), v] 218 (0, 0)) := by
    rw [hgrow.block b hlt (fun e => hne e.symm)]
    exact hbk
  have d0 : w2.cell? ⟨b, 0, none⟩ = some (.pointer (some ⟨b, 0, none⟩)) := by rw [Lib.cell_of_heap hb2]; rfl
  have d1 : w2.cell? ⟨b, 1, none⟩ = some v := by rw [Lib.cell_of_heap hb2]; rfl
  have f1 : w2.frozen? ⟨b, 1, none⟩ = false := Lib.frozen_of_heap hb2 1
  obtain ⟨ao, n', cap, rfl⟩ : ∃ ao n' cap, v' = .slice ao n' cap := by
    rcases hown'.2 with ⟨hv, _⟩ | ⟨g, cap, cur, fz, hv, _⟩
    · exact ⟨_, _, _, hv⟩
    · exact ⟨_, _, _, hv⟩
  have HP := Lib.hid (show BldPost B b (l ++ s.data.toList) w (w2.setCell ⟨b, 1, none⟩ (.slice ao n' cap)) from
    ⟨by unfold BldAt; rw [HL.out]; exact .inr (Lib.BuilderAtF.put (T := 218) (e := 5) hB hb2 (bs' := bs ++ Lib.strCells s) (by simpa [Lib.strCells_length] using hown') (by decide)),
      (HB1.out.grown hgrow (by omega) (fun k hk => (hown.lt k hk).1)).setCell (p := ⟨b, 1, none⟩) hB _,
      (HK1.out.grown hgrow (Lib.ownsRowF_kind hown)).setCell ⟨b, 1, none⟩ rfl _⟩)
  clear hown hown' hgrow hbk hb2 hne
  go_wp2
  go_ret2
  exact ⟨rfl, HP.out⟩
/-- A new builder. -/
theorem bld_new (B : Nat) (w : World) (hB : B ≤ w.heap.size) : BldAt B w.heap.size [] (w.alloc (.cells #[.pointer none, .slice none 0 0] 218)) :=
  .inl ⟨hB, .slice none 0 0, heap_alloc_last w _, World.ownsRowF_nil _ _ _ _, by simp [Value.ownBlock]⟩
theorem BldAt.lt {B b : Nat} {l : List UInt8} {w : World} (h : BldAt B b l w) : b < w.heap.size := h.elim (·.lt) (·.lt)
theorem BldAt.base {B b : Nat} {l : List UInt8} {w : World} (h : BldAt B b l w) : B ≤ b := h.elim (·.1) (·.1)
theorem BldAt.only {B b : Nat} {l : List UInt8} {w w' : World} (h : BldAt B b l w) (hO : Only (fun _ => False) w w') : BldAt B b l w' := by
  have aux : ∀ p, Lib.BuilderAtF 218 5 B b p (Lib.byteCells l) w → Lib.BuilderAtF 218 5 B b p (Lib.byteCells l) w' := by
    rintro p ⟨hB, v, hb, hown, hne⟩
    refine ⟨hB, v, (hO.block b (Array.getElem?_eq_some_iff.1 hb).1 (fun h => h)).trans hb, ?_, hne⟩
    exact hown.kept (row := none) ⟨hO.os, hO.tape, hO.output, hO.size, fun k hk _ => hO.block k hk (fun h => h)⟩ (by cases v.ownBlock <;> simp)
  exact h.imp (aux _) (aux _)
theorem bstring_any (B b : Nat) (l : List UInt8) (w : World) (h : BldAt B b l w) (hBw : B ≤ w.heap.size) :
    Calls Tryz.prog 136 #[.pointer (some ⟨b, 0, none⟩)] w fun e w' => e = .returned (.string ⟨l.toArray⟩) ∧ Below B w w' :=
  (Tryz.Builder_String_any_f B b l w h hBw).mono fun _ _ h => ⟨h.1, h.2.2⟩
theorem BldPost.trans {B b : Nat} {l l2 : List UInt8} {w w1 w2 : World} (h : BldPost B b l w w1) (k : BldPost B b l2 w1 w2) : BldPost B b l2 w w2 := ⟨k.is, h.below.trans k.below, h.others.trans k.others⟩
theorem others_only {e : TypeId} {b : Option Nat} {w w' : World} (hO : Only (fun _ => False) w w') : Lib.OthersKept e b w w' := fun k _ hk _ _ => (hO.block k (Array.getElem?_eq_some_iff.1 hk).1 (fun h => h)).trans hk
theorem BldPost.only {B b : Nat} {l : List UInt8} {w w1 w2 : World} (h : BldPost B b l w w1) (hO : Only (fun _ => False) w1 w2) (hB : B ≤ w1.heap.size) : BldPost B b l w w2 :=
  ⟨h.is.only hO, h.below.trans (hO.below hB (fun _ _ h => h)), h.others.trans (others_only hO)⟩
end Go.Proofs.YtldkjkjpaiajlaaGreatDoor
