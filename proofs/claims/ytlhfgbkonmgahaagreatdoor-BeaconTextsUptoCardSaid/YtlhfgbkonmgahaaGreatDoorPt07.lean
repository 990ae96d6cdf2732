/-
  The iterator of the factors of points, and the fold over it.
  The fold over the factors of points: combine and lift.
  A set of ints in a map[int]bool that the call makes; the walks of point and different.
-/
import Derived.RangeFuncNested
import Derived.RangeFuncBound
import Derived.RangeFuncCalls
import Derived.RangeFuncLeaves
import Derived.RangeFuncBox
import Derived.Shelf.Abstract
import Derived.Shelf.RegionOpen
import Derived.OwnWalkIn
import Derived.TacticsInMore
import Derived.LoopNIn
import Derived.LoopIn
import Derived.Test.YtlhfgbkonmgahaaGreatDoorPt05
import Derived.Maps.OwnSet
import Derived.Maps.Views
namespace Go.Proofs.YtlhfgbkonmgahaaGreatDoor
open Go.RowKit Go.Shelf
attribute [local go_sem] Oper.semAt_some

/-- The first k indexes. -/
def upF (len : Nat) : Nat → List (Fin len)
  | 0 => []
  | k + 1 => if h : k < len then upF len k ++ [⟨k, h⟩] else upF len k
theorem upF_succ {len k : Nat} (h : k < len) : upF len (k + 1) = upF len k ++ [⟨k, h⟩] := by rw [upF, dif_pos h]
theorem upF_length {len : Nat} : ∀ k, k ≤ len → (upF len k).length = k := by
  intro k
  induction k with
  | zero => intro _; rfl
  | succ k ih => intro h; rw [upF_succ (by omega), List.length_append, ih (by omega)]; rfl

/-- A slice of ints that lies below n₀. -/
def PtsAt (n₀ : Nat) (W : World) (sv : Value) (zs : List Int) : Prop :=
  (∃ a c, sv = .slice a 0 c ∧ zs = []) ∨ ∃ b off cap, sv = .slice (some ⟨b, off, none⟩) zs.length cap ∧ b < n₀ ∧ zs.length ≤ cap ∧ cap ≤ 9223372036854775807 ∧ ∀ j, j < zs.length → W.cell? ⟨b, off + j, none⟩ = some (.int .i64 (ptAt zs j))
theorem PtsAt.below {n₀ : Nat} {A B : World} (h : Below n₀ A B) {sv : Value} {zs : List Int} : PtsAt n₀ A sv zs → PtsAt n₀ B sv zs
  | .inl e => .inl e
  | .inr ⟨b, off, cap, e, hb, h1, h2, hc⟩ => .inr ⟨b, off, cap, e, hb, h1, h2, fun j hj => (h.cell (p := ⟨b, off + j, none⟩) hb).trans (hc j hj)⟩

theorem PtsAt.mono {n₀ n₁ : Nat} {A : World} (h : n₀ ≤ n₁) {sv : Value} {zs : List Int} : PtsAt n₀ A sv zs → PtsAt n₁ A sv zs
  | .inl e => .inl e
  | .inr ⟨b, off, cap, e, hb, h1, h2, hc⟩ => .inr ⟨b, off, cap, e, by omega, h1, h2, hc⟩

theorem grown_drewN (w : World) (n : Nat) : w.grownBy (w.drewN n) none := ⟨rfl, rfl, rfl, Nat.le_refl _, fun _ _ _ => rfl⟩

set_option maxRecDepth 100000 in
set_option maxHeartbeats 2000000 in
theorem factors1_in (n : Nat) (hn : 1 ≤ n) (l Bs n₀ b off cap : Nat) (zs : List Int) (hcap : zs.length ≤ cap) (hcap2 : cap ≤ 9223372036854775807) (hb : b < n₀) (hBn : Bs < n₀) (J Jx : List (Fin zs.length) → World → Prop) (W : World) (hJ : AbidesFrom W.heap.size J)
    (hY : ∀ pre (x : Fin zs.length) W1, J pre W1 → pre.length < zs.length → YieldAt Fence.wide (n - 1) Tryz.prog l #[.int .i64 (x.1 : Int), .int .i64 (facP zs x.1)] W1 fun e W' =>
      (e = .returned (.bool true) ∧ J (pre ++ [x]) W' ∧ Below n₀ W1 W') ∨ (e = .returned (.bool false) ∧ Jx (pre ++ [x]) W'))
    (hBs : W.cell? ⟨Bs, 0, none⟩ = some (.slice (some ⟨b, off, none⟩) zs.length cap)) (hc : ∀ j, j < zs.length → W.cell? ⟨b, off + j, none⟩ = some (.int .i64 (ptAt zs j))) (h0 : J [] W) :
    CallsIn Fence.wide n Tryz.prog 127 #[.func (.yield l) #[] #[], .pointer (some ⟨Bs, 0, none⟩)] W fun e W' => (∃ v, e = .returned v) ∧
      ((∃ ys, ys = upF zs.length zs.length ∧ J ys W') ∨ (∃ pre, True ∧ Jx pre W')) := by
  have HY := Lib.hid hY
  have HJ := Lib.hid hJ
  have HC := Lib.hid hc
  clear hY hJ hc
  refine callsIn_of_wp Tryz.func127 rfl trivial ?_ rfl
  simp only [Tryz.ntmps127, List.size_toArray, List.length_cons, List.length_nil, Nat.reduceAdd, Nat.reduceSub, Array.replicate_succ, Array.replicate_zero, List.push_toArray, List.append_toArray, List.nil_append, List.cons_append]
  gi_wp2
  gi_loopw [13] (fun i wr => ∃ k : Nat, k ≤ zs.length ∧ i = .int .i64 k ∧ J (upF zs.length k) wr ∧ Below n₀ W wr) (fun i _ => zs.length - (intOf i).toNat)
  case atStart => exact ⟨0, Nat.zero_le _, rfl, h0, Below.refl _ _⟩
  case round =>
    obtain ⟨k, hk, rfl, hJs, hnx⟩ := hrel
    have hBs' := (hnx.cell (p := ⟨Bs, 0, none⟩) hBn).trans hBs
    have hcx : ∀ j, j < zs.length → wr.cell? ⟨b, off + j, none⟩ = some (.int .i64 (ptAt zs j)) := fun j h => (hnx.cell (p := ⟨b, off + j, none⟩) hb).trans (HC.out j h)
    have HCX := Lib.hid hcx
    have HJS := Lib.hid hJs
    have HNX := Lib.hid hnx
    clear hcx hJs hnx
    by_cases hlt : k < zs.length
    · have hck := HCX.out k hlt
      have HP := Lib.hid (rfl : ptAt zs k = ptAt zs k)
      gi_wp2
      obtain ⟨wo, rfl⟩ : ∃ wo : World, wo = wr := ⟨_, rfl⟩
      gi_loopw [5, 6, 20] (fun va vb vj wi => ∃ j : Nat, j ≤ zs.length ∧ vj = .int .i64 j ∧ va = .int .i64 (aboveTo zs k j) ∧ vb = .int .i64 (belowTo zs k j) ∧ wi = wo) (fun _ _ vj _ => zs.length - (intOf vj).toNat)
      case atStart => exact ⟨0, Nat.zero_le _, rfl, rfl, rfl, rfl⟩
      case round =>
        obtain ⟨j, hj, rfl, rfl, rfl, rfl⟩ := hrel
        by_cases hjl : j < zs.length
        · have hcj := HCX.out j hjl
          by_cases e : j = k
          · subst e
            have hbb : ((j : Int) != (j : Int)) = false := by simp
            gi_wp2
            go_roundw
            case rel => exact ⟨j + 1, by omega, by go_num, by rw [aboveTo, if_pos rfl], by rw [belowTo, if_pos rfl], by first | rfl | trivial⟩
            case measure => simp [intOf]; omega
          · have hbb : ((j : Int) != (k : Int)) = true := by simp; omega
            have HA := Lib.hid (show aboveTo zs k (j + 1) = aboveTo zs k j * ptAt zs j % 1152921504606845789 by rw [aboveTo, if_neg e]; rfl)
            have HB := Lib.hid (show belowTo zs k (j + 1) = belowTo zs k j * ((ptAt zs j - ptAt zs k) % 1152921504606845789) % 1152921504606845789 by rw [belowTo, if_neg e]; rfl)
            clear e
            gi_wp2_with fail
            refine ⟨trivial, (callsIn_wide.2 (mul_any (aboveTo zs k j) (ptAt zs j) 1152921504606845789 _ (by decide) (by decide))).mono ?_⟩
            rintro e w' ⟨rfl, rfl⟩
            gi_wp2_with fail
            refine ⟨trivial, (callsIn_wide.2 (sub_any (ptAt zs j) (ptAt zs k) 1152921504606845789 _ (by decide) (by decide))).mono ?_⟩
            rintro e w' ⟨rfl, rfl⟩
            gi_wp2_with fail
            refine ⟨trivial, (callsIn_wide.2 (mul_any (belowTo zs k j) ((ptAt zs j - ptAt zs k) % 1152921504606845789) 1152921504606845789 _ (by decide) (by decide))).mono ?_⟩
            rintro e w' ⟨rfl, rfl⟩
            gi_wp2
            go_roundw
            case rel => exact ⟨j + 1, by omega, by go_num, by rw [HA.out], by rw [HB.out], by first | rfl | trivial⟩
            case measure => simp [intOf]; omega
        · obtain rfl : j = zs.length := by omega
          have HFP := Lib.hid (show facP zs k = aboveTo zs k zs.length * invM (belowTo zs k zs.length) 1152921504606845789 % 1152921504606845789 from rfl)
          generalize aboveTo zs k zs.length = va at *
          generalize belowTo zs k zs.length = vb at *
          gi_wp2_with fail
          refine ⟨trivial, (callsIn_wide.2 (inv_any vb 1152921504606845789 _ (by decide) (by decide))).mono ?_⟩
          rintro e w' ⟨rfl, nq, rfl⟩
          unfold invV
          gi_wp2_with fail
          refine ⟨trivial, (callsIn_wide.2 (mul_any va (invM vb 1152921504606845789) 1152921504606845789 _ (by decide) (by decide))).mono ?_⟩
          rintro e w' ⟨rfl, rfl⟩
          rw [← HFP.out]
          have hJ' : J (upF zs.length k) (wr.drewN nq) := HJ.out _ wr _ none HJS.out (grown_drewN wr nq) (fun r e => by cases e)
          have hnx' : Below n₀ W (wr.drewN nq) := ⟨HNX.out.os, HNX.out.tape, HNX.out.output, HNX.out.size, HNX.out.block⟩
          obtain ⟨fn, tmps, assign, body, hy, hR⟩ := HY.out (upF zs.length k) ⟨k, hlt⟩ (wr.drewN nq) hJ' (by rw [upF_length k (by omega)]; exact hlt)
          dsimp only at hy
          have HNX2 := Lib.hid hnx'
          clear hJ' hnx' HFP
          gi_wp2
          refine hR.mono ?_
          rintro e W3 (⟨rfl, hJ3, hk3⟩ | ⟨rfl, hJx3⟩)
          · have HJ3 := Lib.hid hJ3
            have HK3 := Lib.hid hk3
            clear hJ3 hk3
            gi_wp2
            go_roundw
            case rel => exact ⟨k + 1, by omega, by go_num, by rw [upF_succ hlt]; exact HJ3.out, HNX2.out.trans HK3.out⟩
            case measure => simp [intOf]; omega
          · gi_wp2
            refine bodyPost_ret (results_none rfl _ _ _) rfl ?_
            exact ⟨⟨_, rfl⟩, .inr ⟨_, trivial, hJx3⟩⟩
    · obtain rfl : k = zs.length := by omega
      gi_wp2
      go_end0
      exact ⟨⟨_, rfl⟩, .inl ⟨_, rfl, HJS.out⟩⟩

set_option maxRecDepth 100000 in
set_option maxHeartbeats 1000000 in
theorem factors1_nil_in (n : Nat) (l Bs : Nat) (a : Option Addr) (c : Nat) (J : List (Fin 0) → World → Prop) (W : World) (hBs : W.cell? ⟨Bs, 0, none⟩ = some (.slice a 0 c)) (h0 : J [] W) :
    CallsIn Fence.wide n Tryz.prog 127 #[.func (.yield l) #[] #[], .pointer (some ⟨Bs, 0, none⟩)] W fun e W' => (∃ v, e = .returned v) ∧ J [] W' := by
  refine callsIn_of_wp Tryz.func127 rfl trivial ?_ rfl
  simp only [Tryz.ntmps127, List.size_toArray, List.length_cons, List.length_nil, Nat.reduceAdd, Nat.reduceSub, Array.replicate_succ, Array.replicate_zero, List.push_toArray, List.append_toArray, List.nil_append, List.cons_append]
  gi_wp2
  gi_loopw [13] (fun i wr => i = .int .i64 0 ∧ J [] wr) (fun _ _ => 0)
  case atStart => exact ⟨rfl, h0⟩
  case round =>
    obtain ⟨rfl, hJs⟩ := hrel
    gi_wp2
    go_end0
    exact ⟨⟨_, rfl⟩, hJs⟩

/-- The factors of points, one after the other, with their indexes. -/
theorem factors_stops (n : Nat) (hn : 1 ≤ n) (Bs n₀ : Nat) (sv : Value) (zs : List Int) (w : World) (hBs : Bs < n₀) (hn₀ : n₀ ≤ w.heap.size) (hc : w.cell? ⟨Bs, 0, none⟩ = some sv) (hI : PtsAt n₀ w sv zs) :
    SeqStopsK Fence.wide n Tryz.prog 127 #[.pointer (some ⟨Bs, 0, none⟩)] (fun x : Fin zs.length => #[Value.int .i64 (x.1 : Int), .int .i64 (facP zs x.1)]) (Below n₀) (fun ys => ys = upF zs.length zs.length) (fun _ => True) zs.length w := fun l J Jx W hW hJ _ hY h0 => by
  have hc' := (hW.cell (p := ⟨Bs, 0, none⟩) (show Bs < w.heap.size by omega)).trans hc
  rcases hI.below (hW.mono hn₀) with ⟨a, c, rfl, rfl⟩ | ⟨b, off, cap, rfl, hb, h1, h2, hcs⟩
  · exact (factors1_nil_in n l Bs a c J W hc' h0).mono fun e W' ⟨he, hj⟩ => ⟨he, .inl ⟨_, rfl, hj⟩⟩
  · exact factors1_in n hn l Bs n₀ b off cap zs h1 h2 hb hBs J Jx W hJ hY hc' hcs h0

theorem factors_any (sv : Value) (hsv : ∃ a n c, sv = .slice a n c) (w : World) :
    Calls Tryz.prog 103 #[sv] w fun e w' => e = .returned (.func (.func 127) #[] #[.pointer (some ⟨w.heap.size, 0, none⟩)]) ∧ w' = w.alloc (.cells #[sv] 34) := by
  obtain ⟨a, n, c, rfl⟩ := hsv
  go_enter Tryz.func103, Tryz.ntmps103
  go_wp2
  go_ret
  exact ⟨rfl, rfl⟩
end Go.Proofs.YtlhfgbkonmgahaaGreatDoor

namespace Go.Proofs.YtlhfgbkonmgahaaGreatDoor
open Go.RowKit Go.Shelf
attribute [local go_sem] Oper.semAt_some

theorem facP_bd (zs : List Int) (i : Nat) : 0 ≤ facP zs i ∧ facP zs i < 1152921504606845789 := emod_self_lt _ _ (by decide)
theorem foldl_snoc {α : Type} (g : Int → α → Int) (s : Int) (pre : List α) (x : α) : (pre ++ [x]).foldl g s = g (pre.foldl g s) x := by simp

theorem add_res (a b m : Int) : (a + b % m) % m = (a + b) % m := by rw [Int.add_emod, Int.emod_emod_of_dvd _ (Int.dvd_refl m), ← Int.add_emod]
/-- What turns no block keeps all. -/
theorem keeps_only {w w' : World} (h : Only (fun _ => False) w w') : KeepsOthers w w' := ⟨h.size, fun k _ hk _ => (h.block k (Array.getElem?_eq_some_iff.1 hk).1 (fun h => h)).trans hk⟩
def stepC (zs ns : List Int) (s : Int) (i : Fin zs.length) : Int := (s + ptAt ns i.1 * facP zs i.1) % 1152921504606845789
def stepL (zs ns : List Int) (s : Int) (i : Fin zs.length) : Int := s * powM (ptAt ns i.1) (facP zs i.1) 2305843009213691579 % 2305843009213691579

theorem lift1_any (Bn b off n cap i : Nat) (s f v : Int) (w : World) (hi : i < n) (_hn : n ≤ cap) (_hc : cap ≤ 9223372036854775807) (hf0 : 0 ≤ f) (hf1 : f < 1152921504606845789) (h0 : w.cell? ⟨Bn, 0, none⟩ = some (.slice (some ⟨b, off, none⟩) n cap)) (h1 : w.cell? ⟨b, off + i, none⟩ = some (.int .i64 v)) :
    Calls Tryz.prog 104 #[.int .i64 s, .int .i64 i, .int .i64 f, .pointer (some ⟨Bn, 0, none⟩)] w fun e w' => e = .returned (.int .i64 (s * powM v f 2305843009213691579 % 2305843009213691579)) ∧ Only (fun _ => False) w w' := by
  go_enter Tryz.func104, Tryz.ntmps104
  go_wp2_with fail
  refine (pow_any v f 2305843009213691579 _ (by decide) (by decide) hf0 (by omega)).mono ?_
  rintro e w' ⟨rfl, rfl⟩
  obtain ⟨z, hz⟩ : ∃ z, powM v f 2305843009213691579 = z := ⟨_, rfl⟩
  rw [hz]
  have HZ := Lib.hid hz
  clear hz
  go_wp2_with fail
  refine (mul_any s z 2305843009213691579 _ (by decide) (by decide)).mono ?_
  rintro e w' ⟨rfl, rfl⟩
  go_wp2
  go_ret
  exact ⟨ret_int (by rw [HZ.out]), (Only.refl _ _).alloc _⟩

set_option maxRecDepth 100000 in
set_option maxHeartbeats 2000000 in
theorem foldL_any (Bs Bn b off cap : Nat) (sv : Value) (zs ns : List Int) (s0 : Int) (w : World) (hBs : Bs < w.heap.size) (hBn : Bn < w.heap.size) (hb : b < w.heap.size) (hcap : ns.length ≤ cap) (hcap2 : cap ≤ 9223372036854775807) (hlen : ns.length = zs.length)
    (hs : w.cell? ⟨Bs, 0, none⟩ = some sv) (hI : PtsAt w.heap.size w sv zs) (hn : w.cell? ⟨Bn, 0, none⟩ = some (.slice (some ⟨b, off, none⟩) ns.length cap)) (hc : ∀ j, j < ns.length → w.cell? ⟨b, off + j, none⟩ = some (.int .i64 (ptAt ns j))) :
    Calls Tryz.prog 102 #[.func (.func 127) #[] #[.pointer (some ⟨Bs, 0, none⟩)], .int .i64 s0, .func (.func 104) #[] #[.pointer (some ⟨Bn, 0, none⟩)]] w
      fun e W' => e = .returned (.int .i64 ((upF zs.length zs.length).foldl (stepL zs ns) s0)) ∧ Below w.heap.size w W' := by
  refine (callsIn_wide (n := 5)).1 ?_
  refine callsIn_of_wp_marks Tryz.func102 rfl trivial ?_ rfl
  simp only [Tryz.ntmps102, List.size_toArray, List.length_cons, List.length_nil, Nat.reduceAdd, Nat.reduceSub, Array.replicate_succ, Array.replicate_zero, List.push_toArray, List.append_toArray, List.nil_append, List.cons_append]
  have HC := Lib.hid hc
  clear hc
  gi_wp2
  have b4 := Boxed.new w 3 (.int .i64 s0)
  have b5 := Boxed.new (w.alloc (.cells #[.int .i64 s0] 3)) 51 (.func (.func 104) #[] #[.pointer (some ⟨Bn, 0, none⟩)])
  rw [World.size_alloc] at b5
  have hB0 : Below w.heap.size w ((w.alloc (.cells #[.int .i64 s0] 3)).alloc (.cells #[.func (.func 104) #[] #[.pointer (some ⟨Bn, 0, none⟩)]] 51)) := ((Below.refl _ w).alloc (Nat.le_refl _) _).alloc (by simp) _
  refine wpIn_rangeFunc_ownF rfl (by decide) (gf := 127) (lb := #[.pointer (some ⟨Bs, 0, none⟩)]) rfl trivial (enters_of Tryz.func127 (by kernel_rfl) rfl)
    (factors_stops (5 - 1) (by decide) Bs w.heap.size sv zs _ hBs (by simp; omega) ((hB0.cell (p := ⟨Bs, 0, none⟩) hBs).trans hs) (hI.below hB0)) belowK_t (belowK_b (by simp; omega)) (Below.refl _ _) (fun _ => rfl)
    (fun pre W => ((W.cell? ⟨w.heap.size, 0, none⟩ = some (.int .i64 (pre.foldl (stepL zs ns) s0)) ∧ W.frozen? ⟨w.heap.size, 0, none⟩ = false) ∧ W.cell? ⟨w.heap.size + 1, 0, none⟩ = some (.func (.func 104) #[] #[.pointer (some ⟨Bn, 0, none⟩)])) ∧ Below w.heap.size w W)
    (fun _ _ _ => False)
    (OwnFrom.and (Own.from (fun s A B row hs hg hr => ⟨⟨cell_kept hs.1.1 hg hr, (frozen_kept hs.1.1 hg hr).trans hs.1.2⟩, cell_kept hs.2 hg hr⟩) _) (ownFrom_below (Nat.le_refl _) (by simp; omega)))
    (fun _ _ _ _ _ hs _ _ => hs)
    ⟨⟨⟨(b4.alloc _).cell, (b4.alloc _).frozen⟩, b5.cell⟩, hB0⟩
    (fun x => { tmps := #[.func (.func 127) #[] #[.pointer (some ⟨Bs, 0, none⟩)], .int .i64 s0, .func (.func 104) #[] #[.pointer (some ⟨Bn, 0, none⟩)], undef, .pointer (some ⟨w.heap.size, 0, none⟩), .pointer (some ⟨w.heap.size + 1, 0, none⟩), .int .i64 0, .int .i64 (x.1 : Int), .int .i64 (facP zs x.1), .func (.func 127) #[] #[.pointer (some ⟨Bs, 0, none⟩)], .int .i64 (x.1 : Int), .int .i64 (facP zs x.1), undef, undef, undef, undef, undef, undef], defers := [] }) ?assign ?body ?done ?stop
  case assign =>
    intro l x W K hK
    gi_wp2
    exact hK
  case body =>
    rintro l pre x W ⟨⟨⟨hc4, hf4⟩, hc5⟩, hB⟩ _
    have hx : x.1 < ns.length := by rw [hlen]; exact x.2
    have hbx := (hB.cell (p := ⟨b, off + x.1, none⟩) hb).trans (HC.out x.1 hx)
    have hbn := (hB.cell (p := ⟨Bn, 0, none⟩) hBn).trans hn
    have hfp := facP_bd zs x.1
    have hsz := hB.size
    have h4l := World.block_lt_of_cell? W _ hc4
    obtain ⟨fp, hfe⟩ : ∃ fp, facP zs x.1 = fp := ⟨_, rfl⟩
    have HST := Lib.hid (foldl_snoc (stepL zs ns) s0 pre x)
    obtain ⟨acc, hacc⟩ : ∃ acc, pre.foldl (stepL zs ns) s0 = acc := ⟨_, rfl⟩
    have HSX := Lib.hid (show stepL zs ns acc x = acc * powM (ptAt ns x.1) fp 2305843009213691579 % 2305843009213691579 by unfold stepL; rw [hfe])
    rw [hfe] at hfp ⊢
    rw [hacc] at hc4
    have HACC := Lib.hid hacc
    obtain ⟨fp0, fp1⟩ := hfp
    clear hacc hfe
    have hf4b := h4l
    gi_wp2_with fail
    refine ⟨trivial, (CallsIn.inRound l (callsIn_wide.2 (lift1_any Bn b off ns.length cap x.1 acc fp _ W hx hcap hcap2 fp0 fp1 hbn hbx))).mono ?_⟩
    rintro e W1 ⟨rfl, hO1⟩
    have hc41 := hO1.cell hc4 (fun h => h)
    have hf41 := (World.frozen?_of_block (hO1.block w.heap.size h4l (fun h => h))).trans hf4
    have hc51 := hO1.cell hc5 (fun h => h)
    have h4l1 : w.heap.size < W1.heap.size := Nat.lt_of_lt_of_le h4l hO1.size
    have HB1 := Lib.hid (hB.trans (hO1.below (Nat.le_trans hsz (Nat.le_refl _)) (fun _ _ h => h)))
    have HK1 := Lib.hid (keeps_only hO1)
    have HBW := Lib.hid (hO1.below (B := w.heap.size) hsz (fun _ _ h => h))
    clear hO1
    gi_wp2
    exact ⟨HK1.out.trans (KeepsOthers.setCell _ _ _), HBW.out.setCell (p := ⟨w.heap.size, 0, none⟩) (Nat.le_refl _) _, ⟨⟨by rw [HST.out, HACC.out, HSX.out]; exact World.cell?_setCell_same' _ _ _ (by rw [hc41]; rfl), by rw [World.frozen?_setCell]; exact hf41⟩, ((Only.refl (fun k => k = w.heap.size) W1).setCell (.inl rfl) _).cell hc51 (by simp)⟩, HB1.out.setCell (p := ⟨w.heap.size, 0, none⟩) (Nat.le_refl _) _⟩
  case done =>
    rintro D ys W hD rfl ⟨⟨⟨hc4, _⟩, _⟩, hB⟩ hK
    gi_wp2
    refine ⟨by simp, .inl ⟨_, _, rfl, run_takeDeferred hK, ?_⟩⟩
    exact ⟨_, results_tmp rfl _ _ _, rfl, hB.trans (belowK_b (w := w) (Nat.le_refl _) W D _ _ (by simp at hD; omega) hK rfl rfl)⟩
  case stop =>
    rintro D c pre W _ _ h _
    exact h.elim

set_option maxHeartbeats 400000 in
theorem lift_any (sv nv : Value) (zs ns : List Int) (w : World) (hI : PtsAt w.heap.size w sv zs) (hN : PtsAt w.heap.size w nv ns) (hlen : ns.length = zs.length) (hpos : 0 < zs.length) :
    Calls Tryz.prog 83 #[sv, nv] w fun e W' => e = .returned (.int .i64 ((upF zs.length zs.length).foldl (stepL zs ns) 1)) ∧ Below w.heap.size w W' := by
  rcases hN with ⟨a, c, rfl, rfl⟩ | ⟨b, off, cap, rfl, hb, h1, h2, hc⟩
  · simp at hlen; omega
  · have hsv : ∃ a n c, sv = .slice a n c := by
      rcases hI with ⟨a, c, rfl, _⟩ | ⟨b, off, cap, rfl, _⟩
      · exact ⟨_, _, _, rfl⟩
      · exact ⟨_, _, _, rfl⟩
    have HC := Lib.hid hc
    have HI := Lib.hid hI
    have HLEN := Lib.hid hlen
    clear hc hI hlen
    go_enter Tryz.func83, Tryz.ntmps83
    go_wp2_with fail
    refine (factors_any sv hsv _).mono ?_
    rintro e w' ⟨rfl, rfl⟩
    have hB0 : Below w.heap.size w ((w.alloc (.cells #[.slice (some ⟨b, off, none⟩) ns.length cap] 34)).alloc (.cells #[sv] 34)) := ((Below.refl _ w).alloc (Nat.le_refl _) _).alloc (by simp) _
    have b4 := Boxed.new w 34 (.slice (some ⟨b, off, none⟩) ns.length cap)
    have b5 := Boxed.new (w.alloc (.cells #[.slice (some ⟨b, off, none⟩) ns.length cap] 34)) 34 sv
    rw [World.size_alloc] at b5
    have HB0 := Lib.hid hB0
    have HF := Lib.hid (foldL_any (w.heap.size + 1) w.heap.size b off cap sv zs ns 1 ((w.alloc (.cells #[.slice (some ⟨b, off, none⟩) ns.length cap] 34)).alloc (.cells #[sv] 34)) (by simp) (by simp; omega) (by simp; omega) h1 h2 HLEN.out b5.cell
      ((HI.out.below hB0).mono (by simp; omega)) (b4.alloc _).cell (fun j hj => (hB0.cell (p := ⟨b, off + j, none⟩) hb).trans (HC.out j hj)))
    clear b4 b5 hB0
    go_wp2_with fail
    refine HF.out.mono ?_
    rintro e w1 ⟨rfl, hB⟩
    have HB := Lib.hid (HB0.out.trans (hB.mono (by simp; omega)))
    clear hB HF
    go_wp2
    go_ret
    exact ⟨rfl, HB.out⟩
end Go.Proofs.YtlhfgbkonmgahaaGreatDoor

namespace Go.Proofs.YtlhfgbkonmgahaaGreatDoor
open Go.RowKit

theorem plainElem_bool_inv {H : Type} {P : Program} {e : TypeId} {v : Value} {y : DataW H × List MemPlace} (he : P.underlying e = some .bool) (h : plainElem (H := H) P e v = some y) : ∃ x, v = .bool x ∧ y = (.lit (.bool x), []) := by
  unfold plainElem at h
  rw [he] at h
  cases v <;> simp at h
  exact ⟨_, rfl, h.symm⟩

theorem Tryz.zeroB (w : World) : (zeroValue 4).run Tryz.prog w = .ok (.bool false) w := by kernel_rfl
theorem Tryz.lawI : Maps.Keyed Tryz.prog 3 := Maps.int_keyed Tryz.underlying3

/-- Block mb is a set of at most n ints. -/
structure SetAt (w : World) (mb n : Nat) (S : Int → Bool) : Prop where
  own : ∃ D : DataW Unit, w.ownsMap Tryz.prog 3 (plainElem Tryz.prog 4) mb n D ∧ Maps.IsMap D ∧ ∀ k, D.atKey (.int .i64 k) (.lit (.bool false)) = .lit (.bool (S k))
theorem SetAt.look {w : World} {mb n : Nat} {S : Int → Bool} (h : SetAt w mb n S) (k : Int) (hk : (Lit.int .i64 k).wf = true) :
    (Instr.lookup 89 (.map (some mb)) (.int .i64 k) false).run Tryz.prog w = .ok (.bool (S k)) w := by
  obtain ⟨D, hown, _, hat⟩ := h.own
  have hkey := Maps.keyOf_int_mk (k := 3) Tryz.underlying3 hk
  obtain ⟨v, ps, hrun, hv⟩ := hown.lookup Tryz.lawI Tryz.underlying89 (Tryz.zeroB w) (plainElem_bool Tryz.underlying4 false) hkey
  obtain ⟨x, rfl, hx⟩ := plainElem_bool_inv Tryz.underlying4 hv
  simp only [Prod.mk.injEq] at hx
  rw [hat k] at hx
  simp only [DataW.lit.injEq, Lit.bool.injEq] at hx
  rw [hrun, hx.1]
theorem SetAt.frame {T : Nat → Prop} {w w' : World} {mb n : Nat} {S : Int → Bool} (h : SetAt w mb n S) (hO : Only T w w') (hT : ¬ T mb) : SetAt w' mb n S := by
  obtain ⟨D, ⟨es, clock, hb, r⟩, hm, hat⟩ := h.own
  refine ⟨D, ⟨es, clock, ?_, r⟩, hm, hat⟩
  rw [hO.block mb (Array.getElem?_eq_some_iff.1 hb).1 hT]; exact hb
theorem SetAt.lt {w : World} {mb n : Nat} {S : Int → Bool} (h : SetAt w mb n S) : mb < w.heap.size := by
  obtain ⟨D, hown, _⟩ := h.own
  exact hown.lt
theorem set_new (w : World) (mb : Nat) (h : w.heap[mb]? = some (.map #[] 0)) : SetAt w mb 0 (fun _ => false) :=
  ⟨.map [], ⟨#[], 0, h, ⟨by simp, MapKept.stamped_empty 0, by simp⟩, Nat.le_refl _, rfl⟩, ⟨[], rfl⟩, fun _ => rfl⟩
/-- One more. -/
theorem SetAt.add {w : World} {mb n : Nat} {S : Int → Bool} (h : SetAt w mb n S) (hn : n < maxLen) (k : Int) (hk : (Lit.int .i64 k).wf = true) :
    ∃ w', (Instr.mapUpdate 89 (.map (some mb)) (.int .i64 k) (.bool true)).run Tryz.prog w = .ok () w' ∧ SetAt w' mb (n + 1) (fun z => z == k || S z) ∧ Only (fun i => i = mb) w w' := by
  obtain ⟨D, hown, hm, hat⟩ := h.own
  have hkey := Maps.keyOf_int_mk (k := 3) Tryz.underlying3 hk
  obtain ⟨w', hrun, hown', hg⟩ := hown.update Tryz.lawI Tryz.underlying89 hn hkey (plainElem_bool Tryz.underlying4 true)
  refine ⟨w', hrun, ⟨_, hown', hm.put _ _, fun z => ?_⟩, Only.grown1 hg⟩
  by_cases e : z = k
  · subst e
    rw [Maps.atKey_put_same hm (show WideAt.IsKeyLit (.int .i64 z) from trivial)]; simp
  · rw [Maps.atKey_put_other (by simpa using e), hat z]
    simp [e]

/-- Is x a point? -/
def ptB (x : Int) : Bool := decide (1 ≤ x) && decide (x ≤ 1152921504606845788)
theorem point_is (x : Int) (bb : Bool) (w : World) (h : ptB x = bb) :
    Calls Tryz.prog 101 #[.int .i64 x] w fun e w' => e = .returned (.bool bb) ∧ w = w' := by
  unfold ptB at h
  by_cases h1 : 1 ≤ x
  · have d1 : decide (1 ≤ x) = true := decide_eq_true h1
    rw [d1] at h
    by_cases h2 : x ≤ 1152921504606845788
    · have d2 : decide (x ≤ 1152921504606845788) = true := decide_eq_true h2
      rw [d2] at h
      subst h
      go_enter Tryz.func101, Tryz.ntmps101
      go_wp2
      go_ret
      exact ⟨rfl, rfl⟩
    · have d2 : decide (x ≤ 1152921504606845788) = false := decide_eq_false h2
      rw [d2] at h
      subst h
      go_enter Tryz.func101, Tryz.ntmps101
      go_wp2
      go_ret
      exact ⟨rfl, rfl⟩
  · have d1 : decide (1 ≤ x) = false := decide_eq_false h1
    rw [d1] at h
    subst h
    go_enter Tryz.func101, Tryz.ntmps101
    go_wp2
    go_ret
    exact ⟨rfl, rfl⟩

/-- Is z among the first k? -/
def inTo (zs : List Int) : Nat → Int → Bool
  | 0, _ => false
  | k + 1, z => z == ptAt zs k || inTo zs k z
/-- Are the first k different points? -/
def diffTo (zs : List Int) : Nat → Bool
  | 0 => true
  | k + 1 => diffTo zs k && (ptB (ptAt zs k) && !inTo zs k (ptAt zs k))
def diffB (zs : List Int) : Bool := diffTo zs zs.length

theorem diffTo_false (zs : List Int) : ∀ (k j : Nat), j ≤ k → diffTo zs j = false → diffTo zs k = false := by
  intro k
  induction k with
  | zero => intro j hj h; rw [show j = 0 by omega] at h; exact h
  | succ k ih =>
    intro j hj h
    by_cases e : j = k + 1
    · rw [← e]; exact h
    · rw [diffTo, ih j (by omega) h]; rfl

structure IntsW (zs : List Int) : Prop where
  wf : ∀ j, -9223372036854775808 ≤ ptAt zs j ∧ ptAt zs j ≤ 9223372036854775807

end Go.Proofs.YtlhfgbkonmgahaaGreatDoor
