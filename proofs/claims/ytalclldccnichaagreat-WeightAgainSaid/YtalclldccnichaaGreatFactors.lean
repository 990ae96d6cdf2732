/-
  The iterator of the factors of points, and the fold over it.
-/
import Derived.RangeFuncNested
import Derived.RangeFuncBound
import Derived.RangeFuncCalls
import Derived.RangeFuncLeaves
import Derived.RangeFuncBox
import Derived.Shelf.Abstract
import Derived.Shelf.RegionOpen
import Derived.OwnWalkIn
import Derived.TacticsInMore
import Derived.LoopNIn
import Derived.LoopIn
import Derived.Test.YtalclldccnichaaGreatMember
namespace Go.Proofs.YtalclldccnichaaGreat
open Go.RowKit Go.Shelf
attribute [local go_sem] Oper.semAt_some

/-- The first k indexes. -/
def upF (len : Nat) : Nat → List (Fin len)
  | 0 => []
  | k + 1 => if h : k < len then upF len k ++ [⟨k, h⟩] else upF len k
theorem upF_succ {len k : Nat} (h : k < len) : upF len (k + 1) = upF len k ++ [⟨k, h⟩] := by rw [upF, dif_pos h]
theorem upF_length {len : Nat} : ∀ k, k ≤ len → (upF len k).length = k := by
  intro k
  induction k with
  | zero => intro _; rfl
  | succ k ih => intro h; rw [upF_succ (by omega), List.length_append, ih (by omega)]; rfl

/-- A slice of ints that lies below n₀. -/
def PtsAt (n₀ : Nat) (W : World) (sv : Value) (zs : List Int) : Prop :=
  (∃ a c, sv = .slice a 0 c ∧ zs = []) ∨ ∃ b off cap, sv = .slice (some ⟨b, off, none⟩) zs.length cap ∧ b < n₀ ∧ zs.length ≤ cap ∧ cap ≤ 9223372036854775807 ∧ ∀ j, j < zs.length → W.cell? ⟨b, off + j, none⟩ = some (.int .i64 (ptAt zs j))
theorem PtsAt.below {n₀ : Nat} {A B : World} (h : Below n₀ A B) {sv : Value} {zs : List Int} : PtsAt n₀ A sv zs → PtsAt n₀ B sv zs
  | .inl e => .inl e
  | .inr ⟨b, off, cap, e, hb, h1, h2, hc⟩ => .inr ⟨b, off, cap, e, hb, h1, h2, fun j hj => (h.cell (p := ⟨b, off + j, none⟩) hb).trans (hc j hj)⟩

theorem PtsAt.mono {n₀ n₁ : Nat} {A : World} (h : n₀ ≤ n₁) {sv : Value} {zs : List Int} : PtsAt n₀ A sv zs → PtsAt n₁ A sv zs
  | .inl e => .inl e
  | .inr ⟨b, off, cap, e, hb, h1, h2, hc⟩ => .inr ⟨b, off, cap, e, by omega, h1, h2, hc⟩

theorem grown_drewN (w : World) (n : Nat) : w.grownBy (w.drewN n) none := ⟨rfl, rfl, rfl, Nat.le_refl _, fun _ _ _ => rfl⟩

set_option maxRecDepth 100000 in
set_option maxHeartbeats 2000000 in
theorem factors1_in (n : Nat) (hn : 1 ≤ n) (l Bs n₀ b off cap : Nat) (zs : List Int) (hcap : zs.length ≤ cap) (hcap2 : cap ≤ 9223372036854775807) (hb : b < n₀) (hBn : Bs < n₀) (J Jx : List (Fin zs.length) → World → Prop) (W : World) (hJ : AbidesFrom W.heap.size J)
    (hY : ∀ pre (x : Fin zs.length) W1, J pre W1 → pre.length < zs.length → YieldAt Fence.wide (n - 1) Tryz.prog l #[.int .i64 (x.1 : Int), .int .i64 (facP zs x.1)] W1 fun e W' =>
      (e = .returned (.bool true) ∧ J (pre ++ [x]) W' ∧ Below n₀ W1 W') ∨ (e = .returned (.bool false) ∧ Jx (pre ++ [x]) W'))
    (hBs : W.cell? ⟨Bs, 0, none⟩ = some (.slice (some ⟨b, off, none⟩) zs.length cap)) (hc : ∀ j, j < zs.length → W.cell? ⟨b, off + j, none⟩ = some (.int .i64 (ptAt zs j))) (h0 : J [] W) :
    CallsIn Fence.wide n Tryz.prog 99 #[.func (.yield l) #[] #[], .pointer (some ⟨Bs, 0, none⟩)] W fun e W' => (∃ v, e = .returned v) ∧
      ((∃ ys, ys = upF zs.length zs.length ∧ J ys W') ∨ (∃ pre, True ∧ Jx pre W')) := by
  have HY := Lib.hid hY
  have HJ := Lib.hid hJ
  have HC := Lib.hid hc
  clear hY hJ hc
  refine callsIn_of_wp Tryz.func99 rfl trivial ?_ rfl
  simp only [Tryz.ntmps99, List.size_toArray, List.length_cons, List.length_nil, Nat.reduceAdd, Nat.reduceSub, Array.replicate_succ, Array.replicate_zero, List.push_toArray, List.append_toArray, List.nil_append, List.cons_append]
  gi_wp2
  gi_loopw [13] (fun i wr => ∃ k : Nat, k ≤ zs.length ∧ i = .int .i64 k ∧ J (upF zs.length k) wr ∧ Below n₀ W wr) (fun i _ => zs.length - (intOf i).toNat)
  case atStart => exact ⟨0, Nat.zero_le _, rfl, h0, Below.refl _ _⟩
  case round =>
    obtain ⟨k, hk, rfl, hJs, hnx⟩ := hrel
    have hBs' := (hnx.cell (p := ⟨Bs, 0, none⟩) hBn).trans hBs
    have hcx : ∀ j, j < zs.length → wr.cell? ⟨b, off + j, none⟩ = some (.int .i64 (ptAt zs j)) := fun j h => (hnx.cell (p := ⟨b, off + j, none⟩) hb).trans (HC.out j h)
    have HCX := Lib.hid hcx
    have HJS := Lib.hid hJs
    have HNX := Lib.hid hnx
    clear hcx hJs hnx
    by_cases hlt : k < zs.length
    · have hck := HCX.out k hlt
      have HP := Lib.hid (rfl : ptAt zs k = ptAt zs k)
      gi_wp2
      obtain ⟨wo, rfl⟩ : ∃ wo : World, wo = wr := ⟨_, rfl⟩
      gi_loopw [5, 6, 20] (fun va vb vj wi => ∃ j : Nat, j ≤ zs.length ∧ vj = .int .i64 j ∧ va = .int .i64 (aboveTo zs k j) ∧ vb = .int .i64 (belowTo zs k j) ∧ wi = wo) (fun _ _ vj _ => zs.length - (intOf vj).toNat)
      case atStart => exact ⟨0, Nat.zero_le _, rfl, rfl, rfl, rfl⟩
      case round =>
        obtain ⟨j, hj, rfl, rfl, rfl, rfl⟩ := hrel
        by_cases hjl : j < zs.length
        · have hcj := HCX.out j hjl
          by_cases e : j = k
          · subst e
            have hbb : ((j : Int) != (j : Int)) = false := by simp
            gi_wp2
            go_roundw
            case rel => exact ⟨j + 1, by omega, by go_num, by rw [aboveTo, if_pos rfl], by rw [belowTo, if_pos rfl], by first | rfl | trivial⟩
            case measure => simp [intOf]; omega
          · have hbb : ((j : Int) != (k : Int)) = true := by simp; omega
            have HA := Lib.hid (show aboveTo zs k (j + 1) = aboveTo zs k j * ptAt zs j % 1152921504606845789 by rw [aboveTo, if_neg e]; rfl)
            have HB := Lib.hid (show belowTo zs k (j + 1) = belowTo zs k j * ((ptAt zs j - ptAt zs k) % 1152921504606845789) % 1152921504606845789 by rw [belowTo, if_neg e]; rfl)
            clear e
            gi_wp2_with fail
            refine ⟨trivial, (callsIn_wide.2 (mul_any (aboveTo zs k j) (ptAt zs j) 1152921504606845789 _ (by decide) (by decide))).mono ?_⟩
            rintro e w' ⟨rfl, rfl⟩
            gi_wp2_with fail
            refine ⟨trivial, (callsIn_wide.2 (sub_any (ptAt zs j) (ptAt zs k) 1152921504606845789 _ (by decide) (by decide))).mono ?_⟩
            rintro e w' ⟨rfl, rfl⟩
            gi_wp2_with fail
            refine ⟨trivial, (callsIn_wide.2 (mul_any (belowTo zs k j) ((ptAt zs j - ptAt zs k) % 1152921504606845789) 1152921504606845789 _ (by decide) (by decide))).mono ?_⟩
            rintro e w' ⟨rfl, rfl⟩
            gi_wp2
            go_roundw
            case rel => exact ⟨j + 1, by omega, by go_num, by rw [HA.out], by rw [HB.out], by first | rfl | trivial⟩
            case measure => simp [intOf]; omega
        · obtain rfl : j = zs.length := by omega
          have HFP := Lib.hid (show facP zs k = aboveTo zs k zs.length * invM (belowTo zs k zs.length) 1152921504606845789 % 1152921504606845789 from rfl)
          generalize aboveTo zs k zs.length = va at *
          generalize belowTo zs k zs.length = vb at *
          gi_wp2_with fail
          refine ⟨trivial, (callsIn_wide.2 (inv_any vb 1152921504606845789 _ (by decide) (by decide))).mono ?_⟩
          rintro e w' ⟨rfl, nq, rfl⟩
          unfold invV
          gi_wp2_with fail
          refine ⟨trivial, (callsIn_wide.2 (mul_any va (invM vb 1152921504606845789) 1152921504606845789 _ (by decide) (by decide))).mono ?_⟩
          rintro e w' ⟨rfl, rfl⟩
          rw [← HFP.out]
          have hJ' : J (upF zs.length k) (wr.drewN nq) := HJ.out _ wr _ none HJS.out (grown_drewN wr nq) (fun r e => by cases e)
          have hnx' : Below n₀ W (wr.drewN nq) := ⟨HNX.out.os, HNX.out.tape, HNX.out.output, HNX.out.size, HNX.out.block⟩
          obtain ⟨fn, tmps, assign, body, hy, hR⟩ := HY.out (upF zs.length k) ⟨k, hlt⟩ (wr.drewN nq) hJ' (by rw [upF_length k (by omega)]; exact hlt)
          dsimp only at hy
          have HNX2 := Lib.hid hnx'
          clear hJ' hnx' HFP
          gi_wp2
          refine hR.mono ?_
          rintro e W3 (⟨rfl, hJ3, hk3⟩ | ⟨rfl, hJx3⟩)
          · have HJ3 := Lib.hid hJ3
            have HK3 := Lib.hid hk3
            clear hJ3 hk3
            gi_wp2
            go_roundw
            case rel => exact ⟨k + 1, by omega, by go_num, by rw [upF_succ hlt]; exact HJ3.out, HNX2.out.trans HK3.out⟩
            case measure => simp [intOf]; omega
          · gi_wp2
            refine bodyPost_ret (results_none rfl _ _ _) rfl ?_
            exact ⟨⟨_, rfl⟩, .inr ⟨_, trivial, hJx3⟩⟩
    · obtain rfl : k = zs.length := by omega
      gi_wp2
      go_end0
      exact ⟨⟨_, rfl⟩, .inl ⟨_, rfl, HJS.out⟩⟩

set_option maxRecDepth 100000 in
set_option maxHeartbeats 1000000 in
theorem factors1_nil_in (n : Nat) (l Bs : Nat) (a : Option Addr) (c : Nat) (J : List (Fin 0) → World → Prop) (W : World) (hBs : W.cell? ⟨Bs, 0, none⟩ = some (.slice a 0 c)) (h0 : J [] W) :
    CallsIn Fence.wide n Tryz.prog 99 #[.func (.yield l) #[] #[], .pointer (some ⟨Bs, 0, none⟩)] W fun e W' => (∃ v, e = .returned v) ∧ J [] W' := by
  refine callsIn_of_wp Tryz.func99 rfl trivial ?_ rfl
  simp only [Tryz.ntmps99, List.size_toArray, List.length_cons, List.length_nil, Nat.reduceAdd, Nat.reduceSub, Array.replicate_succ, Array.replicate_zero, List.push_toArray, List.append_toArray, List.nil_append, List.cons_append]
  gi_wp2
  gi_loopw [13] (fun i wr => i = .int .i64 0 ∧ J [] wr) (fun _ _ => 0)
  case atStart => exact ⟨rfl, h0⟩
  case round =>
    obtain ⟨rfl, hJs⟩ := hrel
    gi_wp2
    go_end0
    exact ⟨⟨_, rfl⟩, hJs⟩

/-- The factors of points, one after the other, with their indexes. -/
theorem factors_stops (n : Nat) (hn : 1 ≤ n) (Bs n₀ : Nat) (sv : Value) (zs : List Int) (w : World) (hBs : Bs < n₀) (hn₀ : n₀ ≤ w.heap.size) (hc : w.cell? ⟨Bs, 0, none⟩ = some sv) (hI : PtsAt n₀ w sv zs) :
    SeqStopsK Fence.wide n Tryz.prog 99 #[.pointer (some ⟨Bs, 0, none⟩)] (fun x : Fin zs.length => #[Value.int .i64 (x.1 : Int), .int .i64 (facP zs x.1)]) (Below n₀) (fun ys => ys = upF zs.length zs.length) (fun _ => True) zs.length w := fun l J Jx W hW hJ _ hY h0 => by
  have hc' := (hW.cell (p := ⟨Bs, 0, none⟩) (show Bs < w.heap.size by omega)).trans hc
  rcases hI.below (hW.mono hn₀) with ⟨a, c, rfl, rfl⟩ | ⟨b, off, cap, rfl, hb, h1, h2, hcs⟩
  · exact (factors1_nil_in n l Bs a c J W hc' h0).mono fun e W' ⟨he, hj⟩ => ⟨he, .inl ⟨_, rfl, hj⟩⟩
  · exact factors1_in n hn l Bs n₀ b off cap zs h1 h2 hb hBs J Jx W hJ hY hc' hcs h0

theorem factors_any (sv : Value) (hsv : ∃ a n c, sv = .slice a n c) (w : World) :
    Calls Tryz.prog 82 #[sv] w fun e w' => e = .returned (.func (.func 99) #[] #[.pointer (some ⟨w.heap.size, 0, none⟩)]) ∧ w' = w.alloc (.cells #[sv] 22) := by
  obtain ⟨a, n, c, rfl⟩ := hsv
  go_enter Tryz.func82, Tryz.ntmps82
  go_wp2
  go_ret
  exact ⟨rfl, rfl⟩
end Go.Proofs.YtalclldccnichaaGreat
