/-
  Rules: the closures of the program's ParseEntrant: next, amount, names.
  Rules: the reference's Bent gives some text of bounded size.
  Rules: draws that are made side by side (what each operation of such a statement leaves).
-/
import Derived.Test.YteikkpiginfbkaaGreatDoorPh32
import Derived.Test.YteikkpiginfbkaaGreatDoorPh19
import Derived.Test.YteikkpiginfbkaaGreatDoorPh33
import Derived.Laws.BytesArg
import Derived.Test.YteikkpiginfbkaaGreatDoorPh05
namespace Go.Proofs.YteikkpiginfbkaaGreatDoor
open Go.RowKit

/-- What a step of the reader of an entrant leaves: of the blocks only the line's turns; d words fewer are left there. -/
def LnTo (Lb g o n c d : Nat) (w w' : World) : Prop :=
  Only (fun i => i = Lb) w w' ∧ ∃ a, (d < c → a = some ⟨g, o + d, none⟩) ∧ w'.heap[Lb]? = some (.cells #[.slice a (n - d) (c - d)] 114 (0, 0))
set_option maxRecDepth 100000 in
set_option maxHeartbeats 1000000 in
theorem next_is (Lb R r g o n c : Nat) (v : Value) (w : World) (hR : w.cell? ⟨R, 0, none⟩ = some (.pointer (some ⟨r, 0, none⟩))) (hL : w.heap[Lb]? = some (.cells #[.slice (some ⟨g, o, none⟩) n c] 114 (0, 0)))
    (hn : 1 ≤ n) (hc : n ≤ c) (hcm : c ≤ 9223372036854775807) (hv : w.cell? ⟨g, o, none⟩ = some v) :
    Calls Tryz.prog 56 #[.pointer (some ⟨R, 0, none⟩), .pointer (some ⟨Lb, 0, none⟩)] w fun e w' => e = .returned v ∧ LnTo Lb g o n c 1 w w' := by
  have HL := Lib.hid hL
  have l0 : w.cell? ⟨Lb, 0, none⟩ = some (.slice (some ⟨g, o, none⟩) n c) := cell_of_row _ _ 0 _ _ _ hL
  have z0 : w.frozen? ⟨Lb, 0, none⟩ = false := frozen_of_row _ _ _ _ _ hL
  have j1 : (0 : Int) < n := by omega
  have j2 : (1 : Int) ≤ n := by omega
  have j3 : (n : Int) ≤ c := by omega
  have j4 : decide (0 < n) = true := decide_eq_true (by omega)
  have HN := Lib.hid hn
  have HC := Lib.hid hc
  clear hL
  go_enter Tryz.func56, Tryz.ntmps56
  go_wp2_with fail
  refine (need_ok r 11 w).mono ?_
  rintro e w2 ⟨rfl, rfl⟩
  by_cases h1 : c = 1
  · obtain rfl : n = 1 := by omega
    subst h1
    clear hn hc hcm j1 j2 j3
    go_wp2_with fail
    go_ret
    refine ⟨rfl, (Only.refl (fun i => i = Lb) w).setCell (p := ⟨Lb, 0, none⟩) (.inl rfl) _, ?_⟩
    exact ⟨_, fun h => absurd h (by decide), heap_setCell_same w Lb 0 _ _ _ HL.out⟩
  · have k1 : 1 < c := by omega
    go_wp2_with fail
    go_ret
    refine ⟨rfl, (Only.refl (fun i => i = Lb) w).setCell (p := ⟨Lb, 0, none⟩) (.inl rfl) _, ?_⟩
    exact ⟨_, fun _ => rfl, heap_setCell_same w Lb 0 _ _ _ HL.out⟩
/-- The cells that hold the closures. -/
structure ClAt (w : World) (Lb R r N A : Nat) : Prop where
  rd : w.cell? ⟨R, 0, none⟩ = some (.pointer (some ⟨r, 0, none⟩))
  next : w.cell? ⟨N, 0, none⟩ = some (.func (.func 56) #[] #[.pointer (some ⟨R, 0, none⟩), .pointer (some ⟨Lb, 0, none⟩)])
  amount : w.cell? ⟨A, 0, none⟩ = some (.func (.func 58) #[] #[.pointer (some ⟨N, 0, none⟩), .pointer (some ⟨R, 0, none⟩)])
  apart : R ≠ Lb ∧ N ≠ Lb ∧ A ≠ Lb
theorem ClAt.only {S : Nat → Prop} {w w' : World} {Lb R r N A : Nat} (h : ClAt w Lb R r N A) (hO : Only S w w') (hS : ¬ S R ∧ ¬ S N ∧ ¬ S A) : ClAt w' Lb R r N A :=
  ⟨hO.cell h.rd hS.1, hO.cell h.next hS.2.1, hO.cell h.amount hS.2.2, h.apart⟩
theorem LnTo.zero {Lb g o n c : Nat} {w : World} (h : w.heap[Lb]? = some (.cells #[.slice (some ⟨g, o, none⟩) n c] 114 (0, 0))) : LnTo Lb g o n c 0 w w := ⟨Only.refl _ _, some ⟨g, o, none⟩, fun _ => rfl, h⟩
theorem LnTo.next {Lb g o n c d k : Nat} {w w' w'' : World} (h : LnTo Lb g o n c d w w') (h2 : LnTo Lb g (o + d) (n - d) (c - d) k w' w'') : LnTo Lb g o n c (d + k) w w'' := by
  obtain ⟨a, ha, hb⟩ := h2.2
  refine ⟨h.1.trans h2.1, a, fun hc => ?_, ?_⟩
  · rw [ha (by omega), Nat.add_assoc]
  · rw [show n - (d + k) = n - d - k by omega, show c - (d + k) = c - d - k by omega]; exact hb
set_option maxRecDepth 100000 in
set_option maxHeartbeats 2000000 in
theorem amount_is (Lb R r N A g o n c : Nat) (z most : Int) (w : World) (hA : ClAt w Lb R r N A) (hL : w.heap[Lb]? = some (.cells #[.slice (some ⟨g, o, none⟩) n c] 114 (0, 0)))
    (hn : 1 ≤ n) (hc : n ≤ c) (hcm : c ≤ 9223372036854775807) (hv : w.cell? ⟨g, o, none⟩ = some (.iface 3 (.int .i64 z))) (hz : z ≤ most) :
    Calls Tryz.prog 58 #[.int .i64 most, .pointer (some ⟨N, 0, none⟩), .pointer (some ⟨R, 0, none⟩)] w fun e w' => e = .returned (.int .i64 z) ∧ LnTo Lb g o n c 1 w w' := by
  have ta := ta_int_int z
  have HC := Lib.hid (next_is Lb R r g o n c _ w hA.rd hL hn hc hcm hv)
  have HA := Lib.hid hA
  have n0 := hA.next
  have q : decide (z ≤ most) = true := decide_eq_true hz
  clear hA hL hn hc hcm hv
  go_enter Tryz.func58, Tryz.ntmps58
  go_wp2_with fail
  refine HC.out.mono ?_
  rintro e w2 ⟨rfl, hl⟩
  have HL := Lib.hid hl
  have r0 := hl.1.cell HA.out.rd HA.out.apart.1
  clear hl HC n0
  go_wp2_with fail
  refine (need_ok r 11 w2).mono ?_
  rintro e w3 ⟨rfl, rfl⟩
  go_wp2_with fail
  go_ret
  exact ⟨rfl, HL.out⟩
theorem below_same {w w' : World} (h : w = w') : Below w.heap.size w w' := by subst h; exact (Only.refl (fun _ => False) w).below (Nat.le_refl _) (fun _ _ h => h)
theorem nrow_app (l : List ByteArray) (x : ByteArray) : nrow (l ++ [x]) = nrow l ++ [.string x] := by simp [nrow]
def NamesR (Lb g o n c : Nat) (l : List ByteArray) (w : World) (e : Ending) (w' : World) : Prop :=
  ∃ v, e = .returned v ∧ w'.ownsRow w.heap.size 9 1 v l.length (nrow l) ∧ LnTo Lb g o n c (1 + l.length) w w'
set_option maxRecDepth 100000 in
set_option maxHeartbeats 4000000 in
theorem names_is (Lb R r N A g o n c : Nat) (l : List ByteArray) (w : World) (hA : ClAt w Lb R r N A) (hL : w.heap[Lb]? = some (.cells #[.slice (some ⟨g, o, none⟩) n c] 114 (0, 0)))
    (hn : 1 + l.length ≤ n) (hc : n ≤ c) (hcm : c ≤ 9223372036854775807) (hv : w.cell? ⟨g, o, none⟩ = some (.iface 3 (.int .i64 l.length))) (h12 : l.length ≤ 12) (hg : g ≠ Lb)
    (hvs : ∀ j, j < l.length → w.cell? ⟨g, o + (1 + j), none⟩ = some (.iface 9 (.string (naAt l j))) ∧ nameB (naAt l j) = true) :
    Calls Tryz.prog 59 #[.pointer (some ⟨A, 0, none⟩), .pointer (some ⟨N, 0, none⟩), .pointer (some ⟨R, 0, none⟩)] w fun e w' => NamesR Lb g o n c l w e w' := by
  have HC := Lib.hid (amount_is Lb R r N A g o n c l.length 12 w hA hL (by omega) hc hcm hv (by omega))
  have HA := Lib.hid hA
  have HVS := Lib.hid hvs
  have HNC := Lib.hid (show 1 + l.length ≤ n ∧ n ≤ c ∧ c ≤ 9223372036854775807 ∧ l.length ≤ 12 from ⟨hn, hc, hcm, h12⟩)
  have HG := Lib.hid hg
  have HLB := Lib.hid (show Lb < w.heap.size from (Array.getElem?_eq_some_iff.1 hL).1)
  have a0 := hA.amount
  obtain ⟨i0, hi, hz0, hz1, hz2⟩ := info_parts Tryz.infoStr
  have HI := Lib.hid hi
  have HI0 := Lib.hid hz0
  have HI1 := Lib.hid hz1
  have HI2 := Lib.hid hz2
  clear hA hL hn hc hcm hv h12 hvs hg hi hz0 hz1 hz2
  go_enter Tryz.func59, Tryz.ntmps59
  go_wp2_with fail
  refine HC.out.mono ?_
  rintro e w2 ⟨rfl, hl⟩
  have HL := Lib.hid hl
  clear hl HC a0
  go_wp2_with fail
  go_loopw [4, 9] (fun v4 iv wr => ∃ k : Nat, iv = .int .i64 k ∧ k ≤ l.length ∧ wr.ownsRow w.heap.size 9 1 v4 k (nrow (l.take k)) ∧ LnTo Lb g o n c (1 + k) w wr) (fun _ iv _ => l.length - (intOf iv).toNat)
  case atStart => exact ⟨0, rfl, Nat.zero_le _, World.ownsRow_nil _ _ _ _, HL.out⟩
  case round =>
    obtain ⟨k, rfl, hk, hown, hl⟩ := hrel
    obtain ⟨a4, c4, rfl⟩ := slice_of_own hown
    have HW := Lib.hid hown
    have HK := Lib.hid hl
    clear hown hl
    by_cases hlt : k < l.length
    · have j1 : (k : Int) < l.length := by omega
      have j2 : 0 ≤ (k : Int) := by omega
      have HCL := Lib.hid (HA.out.only HK.out.1 HA.out.apart)
      have n0 := HCL.out.next
      obtain ⟨ax, hax, hrow⟩ := HK.out.2
      obtain rfl := hax (by have := HNC.out; omega)
      have hst := (HVS.out k hlt)
      have HNM := Lib.hid hst.2
      have HNX := Lib.hid (next_is Lb R r g (o + (1 + k)) (n - (1 + k)) (c - (1 + k)) _ wr HCL.out.rd hrow (by have := HNC.out; omega) (by have := HNC.out; omega) (by have := HNC.out; omega) (HK.out.1.cell hst.1 HG.out))
      have HTK := Lib.hid (show l.take (k + 1) = l.take k ++ [naAt l k] from na_take hlt)
      have HLT := Lib.hid hlt
      have ta := ta_str_str (naAt l k)
      clear hst hrow hax hlt
      generalize naAt l k = y at *
      go_wp2_with fail
      refine HNX.out.mono ?_
      rintro e w3 ⟨rfl, hl⟩
      have HK3 := Lib.hid (HK.out.next hl)
      have HW3 := Lib.hid (hl.1.owns HW.out (fun g' hg' e => by
        have h1 := ownR_ge HW.out hg'
        have h2 := HLB.out
        omega))
      clear hl n0 HNX
      have r0 := HK3.out.1.cell HA.out.rd HA.out.apart.1
      have HNC2 := Lib.hid (isname_any y true)
      have hnm := HNM.out
      go_upto_region 5 with (fail)
      have y0 := fun (d : Nat) (os : Array Obj) => cell_regrown r0 d os
      clear r0
      have HIN := Lib.hid (fun W => isname_any y true W hnm)
      clear hnm HNC2
      refine wp_region_quiet_below (by kernel_rfl) (by kernel_rfl) ?_
      repeat (go_big_quiet_step ((first | (go_at_call 60; exact Calls.regrown_of ((HIN.out _).mono fun _ _ h => ⟨h.1, below_same h.2⟩)) | (go_at_call 57; exact Calls.regrown_of ((need_ok r 11 _).mono fun _ _ h => ⟨h.1, below_same h.2⟩)))))
      refine wpQuiet_nil ?_
      intro wy hw'
      obtain ⟨pq, hw''⟩ := hw'
      have HOy := Lib.hid (Only.ofBelow (below_regrown w3 pq.d pq.os) (fun _ => False))
      rw [← hw''] at HOy
      clear hw'' y0
      have HKy := Lib.hid (show LnTo Lb g o n c (1 + k + 1) w wy from ⟨HK3.out.1.trans (HOy.out.mono (fun _ _ h => h.elim)), by obtain ⟨a, h1, h2⟩ := HK3.out.2; exact ⟨a, h1, row_still HOy.out h2⟩⟩)
      have HWy := Lib.hid (HOy.out.owns HW3.out (fun _ _ h => h))
      have HWa := Lib.hid (HWy.out.alloc (.cells #[.string y] 9))
      have hbs := (HKy.out.1.alloc (.cells #[.string y] 9)).size
      have HLN := Lib.hid (show k ≤ 12 by have := HNC.out; have := HLT.out; omega)
      have hb1 := HLN.out
      have hb4 : wrap64 ((k : Int) + 1) = (k : Int) + 1 := IntWalk.wrap64_in _ (by omega)
      go_wp2_with (first | (refine wpList_append_lies _ rfl _ _ 42 rfl w.heap.size 9 i0 _ 1 16 Tryz.underlying42 HI.out HI0.out HI1.out HI2.out rfl (by decide) _ _ _ rfl HWa.out ⟨wy.heap.size, 0, none⟩ 1 1 [.string y] rfl rfl (by exact newsR' wy _ _) (one_str1 _) (by decide) (by have := HLN.out; unfold maxLen; omega) (by have := HLN.out; omega) hbs _ rfl ?_; intro g5 cap w5 hown1 hgrow hat hlt2))
      have hOa := (HKy.out.1.alloc (.cells #[.string y] 9))
      have HK5 := Lib.hid (show LnTo Lb g o n c (1 + (k + 1)) w w5 from ⟨hOa.grown hgrow (fun i e hi => by have := ownR_ge HWa.out e; omega), by
        obtain ⟨a, h1, h2⟩ := HKy.out.2
        refine ⟨a, h1, ?_⟩
        have h3 : (wy.alloc (.cells #[.string y] 9)).heap[Lb]? = _ := row_still ((Only.refl (fun _ => False) wy).alloc _) h2
        rw [hgrow.block Lb (Array.getElem?_eq_some_iff.1 h3).1 (fun e => by have := ownR_ge HWa.out e.symm; have := HLB.out; omega)]
        exact h3⟩)
      go_roundw
      case rel => exact ⟨k + 1, by go_num, HLT.out, by rw [HTK.out, nrow_app]; exact hown1, HK5.out⟩
      case measure => simp [intOf]; have := HLT.out; omega
    · obtain rfl : k = l.length := by omega
      have j1 : ¬ (l.length : Int) < l.length := by omega
      have HWL := Lib.hid (show wr.ownsRow w.heap.size 9 1 (.slice a4 l.length c4) l.length (nrow l) from by have := HW.out; rw [List.take_length] at this; exact this)
      clear hlt hk
      go_wp2_with fail
      go_ret
      exact ⟨_, rfl, HWL.out, HK.out⟩
end Go.Proofs.YteikkpiginfbkaaGreatDoor

namespace Go.Proofs.YteikkpiginfbkaaGreatDoor
open Go.RowKit

theorem nrow_one (l : List ByteArray) : ∀ y ∈ nrow l, y.oneCell' = true := by
  intro y hy
  obtain ⟨x, _, rfl⟩ := List.mem_map.1 hy
  rfl
theorem nrow_cat (a b : List ByteArray) : nrow (a ++ b) = nrow a ++ nrow b := List.map_append
end Go.Proofs.YteikkpiginfbkaaGreatDoor

namespace Go.Proofs.YteikkpiginfbkaaGreatDoor
open Go.RowKit

/-- No block is shared. -/
def NoShare (v u : Value) : Prop := ∀ g, v.ownBlock = some g → u.ownBlock ≠ some g
theorem NoShare.symm {v u : Value} (h : NoShare v u) : NoShare u v := fun g h1 h2 => h g h2 h1
/-- A draw as a value, its lists in blocks of their own. -/
def DrVal (base : Nat) (d : Dr) (v : Value) (W : World) : Prop := ∃ vt vp vq vb, v = .agg (drCells d vt vp vq vb) ∧ DrOwn base W d vt vp vq vb
theorem DrVal.only {base : Nat} {d : Dr} {v : Value} {w w' : World} (h : DrVal base d v w) (hO : Only (fun _ => False) w w') : DrVal base d v w' := by
  obtain ⟨vt, vp, vq, vb, h1, h2⟩ := h
  exact ⟨vt, vp, vq, vb, h1, h2.only hO (fun _ _ h => h)⟩
def zeroDrC : Array Value := #[.string ⟨#[]⟩, .int .i64 0, .int .i64 0, .int .i64 0, .int .i64 0, .int .i64 0, .slice none 0 0, .bool false, .slice none 0 0, .int .i64 0, .int .i64 0, .slice none 0 0, .slice none 0 0]
/-- A new variable of a type with zero cells cs. -/
def NewAt (base : Nat) (cs : Array Value) (T : Nat) (v : Value) (W : World) : Prop := ∃ n, v = .pointer (some ⟨n, 0, none⟩) ∧ base ≤ n ∧ W.heap[n]? = some (.cells cs T (0, 0))
theorem NewAt.only {base T : Nat} {cs : Array Value} {v : Value} {w w' : World} (h : NewAt base cs T v w) (hO : Only (fun _ => False) w w') : NewAt base cs T v w' := by
  obtain ⟨n, h1, h2, h3⟩ := h
  exact ⟨n, h1, h2, row_still hO h3⟩
theorem newAt_ne {base T : Nat} {cs : Array Value} {u : Value} {w : World} (h : NewAt base cs T u w) : (Value.pointer (some ⟨w.heap.size, 0, none⟩)) ≠ u ∧ u ≠ (Value.pointer (some ⟨w.heap.size, 0, none⟩)) := by
  obtain ⟨n, rfl, _, h3⟩ := h
  have := (Array.getElem?_eq_some_iff.1 h3).1
  constructor <;> (intro h; simp only [Value.pointer.injEq, Option.some.injEq, Addr.mk.injEq, and_true] at h; omega)
theorem dr_oneE {base : Nat} {w : World} {d : Dr} {vt vp vq vb : Value} (h : DrOwn base w d vt vp vq vb) : (drCells d vt vp vq vb).all (·.oneCell') = true := by
  obtain ⟨_, _, rfl⟩ := slice_of_own h.tiers
  obtain ⟨_, _, rfl⟩ := slice_of_own h.places
  obtain ⟨_, _, rfl⟩ := slice_of_own h.quotas
  obtain ⟨_, _, rfl⟩ := slice_of_own h.bars
  exact cells_one _ _ _ _ _ _ _ _ _ _ _ _ _
theorem three_row2 {wx : World} {n1 n2 : Nat} {cs : Array Value} {o : Obj} (h : wx.heap[n2]? = some o) (d : n1 ≠ n2) : (wx.setRow n1 cs).heap[n2]? = some o := (setRow_other _ _ _ _ (Ne.symm d)).trans h
end Go.Proofs.YteikkpiginfbkaaGreatDoor
