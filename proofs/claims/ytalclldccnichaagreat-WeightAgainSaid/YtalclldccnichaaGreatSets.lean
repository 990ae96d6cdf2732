/-
  A set of ints in a map[int]bool that the call makes; the walks of point and different.
-/
import Derived.Test.YtalclldccnichaaGreatFold
import Derived.Maps.OwnSet
import Derived.Maps.Views
namespace Go.Proofs.YtalclldccnichaaGreat
open Go.RowKit

theorem plainElem_bool_inv {H : Type} {P : Program} {e : TypeId} {v : Value} {y : DataW H × List MemPlace} (he : P.underlying e = some .bool) (h : plainElem (H := H) P e v = some y) : ∃ x, v = .bool x ∧ y = (.lit (.bool x), []) := by
  unfold plainElem at h
  rw [he] at h
  cases v <;> simp at h
  exact ⟨_, rfl, h.symm⟩

theorem Tryz.zeroB (w : World) : (zeroValue 4).run Tryz.prog w = .ok (.bool false) w := by kernel_rfl
theorem Tryz.lawI : Maps.Keyed Tryz.prog 3 := Maps.int_keyed Tryz.underlying3

/-- Block mb is a set of at most n ints. -/
structure SetAt (w : World) (mb n : Nat) (S : Int → Bool) : Prop where
  own : ∃ D : DataW Unit, w.ownsMap Tryz.prog 3 (plainElem Tryz.prog 4) mb n D ∧ Maps.IsMap D ∧ ∀ k, D.atKey (.int .i64 k) (.lit (.bool false)) = .lit (.bool (S k))
theorem SetAt.look {w : World} {mb n : Nat} {S : Int → Bool} (h : SetAt w mb n S) (k : Int) (hk : (Lit.int .i64 k).wf = true) :
    (Instr.lookup 95 (.map (some mb)) (.int .i64 k) false).run Tryz.prog w = .ok (.bool (S k)) w := by
  obtain ⟨D, hown, _, hat⟩ := h.own
  have hkey := Maps.keyOf_int_mk (k := 3) Tryz.underlying3 hk
  obtain ⟨v, ps, hrun, hv⟩ := hown.lookup Tryz.lawI Tryz.underlying95 (Tryz.zeroB w) (plainElem_bool Tryz.underlying4 false) hkey
  obtain ⟨x, rfl, hx⟩ := plainElem_bool_inv Tryz.underlying4 hv
  simp only [Prod.mk.injEq] at hx
  rw [hat k] at hx
  simp only [DataW.lit.injEq, Lit.bool.injEq] at hx
  rw [hrun, hx.1]
theorem SetAt.frame {T : Nat → Prop} {w w' : World} {mb n : Nat} {S : Int → Bool} (h : SetAt w mb n S) (hO : Only T w w') (hT : ¬ T mb) : SetAt w' mb n S := by
  obtain ⟨D, ⟨es, clock, hb, r⟩, hm, hat⟩ := h.own
  refine ⟨D, ⟨es, clock, ?_, r⟩, hm, hat⟩
  rw [hO.block mb (Array.getElem?_eq_some_iff.1 hb).1 hT]; exact hb
theorem SetAt.lt {w : World} {mb n : Nat} {S : Int → Bool} (h : SetAt w mb n S) : mb < w.heap.size := by
  obtain ⟨D, hown, _⟩ := h.own
  exact hown.lt
theorem set_new (w : World) (mb : Nat) (h : w.heap[mb]? = some (.map #[] 0)) : SetAt w mb 0 (fun _ => false) :=
  ⟨.map [], ⟨#[], 0, h, ⟨by simp, MapKept.stamped_empty 0, by simp⟩, Nat.le_refl _, rfl⟩, ⟨[], rfl⟩, fun _ => rfl⟩
/-- One more. -/
theorem SetAt.add {w : World} {mb n : Nat} {S : Int → Bool} (h : SetAt w mb n S) (hn : n < maxLen) (k : Int) (hk : (Lit.int .i64 k).wf = true) :
    ∃ w', (Instr.mapUpdate 95 (.map (some mb)) (.int .i64 k) (.bool true)).run Tryz.prog w = .ok () w' ∧ SetAt w' mb (n + 1) (fun z => z == k || S z) ∧ Only (fun i => i = mb) w w' := by
  obtain ⟨D, hown, hm, hat⟩ := h.own
  have hkey := Maps.keyOf_int_mk (k := 3) Tryz.underlying3 hk
  obtain ⟨w', hrun, hown', hg⟩ := hown.update Tryz.lawI Tryz.underlying95 hn hkey (plainElem_bool Tryz.underlying4 true)
  refine ⟨w', hrun, ⟨_, hown', hm.put _ _, fun z => ?_⟩, Only.grown1 hg⟩
  by_cases e : z = k
  · subst e
    rw [Maps.atKey_put_same hm (show WideAt.IsKeyLit (.int .i64 z) from trivial)]; simp
  · rw [Maps.atKey_put_other (by simpa using e), hat z]
    simp [e]

/-- Is x a point? -/
def ptB (x : Int) : Bool := decide (1 ≤ x) && decide (x ≤ 1152921504606845788)
theorem point_is (x : Int) (bb : Bool) (w : World) (h : ptB x = bb) :
    Calls Tryz.prog 79 #[.int .i64 x] w fun e w' => e = .returned (.bool bb) ∧ w = w' := by
  unfold ptB at h
  by_cases h1 : 1 ≤ x
  · have d1 : decide (1 ≤ x) = true := decide_eq_true h1
    rw [d1] at h
    by_cases h2 : x ≤ 1152921504606845788
    · have d2 : decide (x ≤ 1152921504606845788) = true := decide_eq_true h2
      rw [d2] at h
      subst h
      go_enter Tryz.func79, Tryz.ntmps79
      go_wp2
      go_ret
      exact ⟨rfl, rfl⟩
    · have d2 : decide (x ≤ 1152921504606845788) = false := decide_eq_false h2
      rw [d2] at h
      subst h
      go_enter Tryz.func79, Tryz.ntmps79
      go_wp2
      go_ret
      exact ⟨rfl, rfl⟩
  · have d1 : decide (1 ≤ x) = false := decide_eq_false h1
    rw [d1] at h
    subst h
    go_enter Tryz.func79, Tryz.ntmps79
    go_wp2
    go_ret
    exact ⟨rfl, rfl⟩

/-- Is z among the first k? -/
def inTo (zs : List Int) : Nat → Int → Bool
  | 0, _ => false
  | k + 1, z => z == ptAt zs k || inTo zs k z
/-- Are the first k different points? -/
def diffTo (zs : List Int) : Nat → Bool
  | 0 => true
  | k + 1 => diffTo zs k && (ptB (ptAt zs k) && !inTo zs k (ptAt zs k))
def diffB (zs : List Int) : Bool := diffTo zs zs.length

theorem diffTo_false (zs : List Int) : ∀ (k j : Nat), j ≤ k → diffTo zs j = false → diffTo zs k = false := by
  intro k
  induction k with
  | zero => intro j hj h; rw [show j = 0 by omega] at h; exact h
  | succ k ih =>
    intro j hj h
    by_cases e : j = k + 1
    · rw [← e]; exact h
    · rw [diffTo, ih j (by omega) h]; rfl

structure IntsW (zs : List Int) : Prop where
  wf : ∀ j, -9223372036854775808 ≤ ptAt zs j ∧ ptAt zs j ≤ 9223372036854775807

set_option maxHeartbeats 400000 in
theorem different_some (b off cap : Nat) (zs : List Int) (bb : Bool) (w : World) (hw : IntsW zs) (hlen : zs.length ≤ 1000000)
    (hc : ∀ j, j < zs.length → w.cell? ⟨b, off + j, none⟩ = some (.int .i64 (ptAt zs j))) (hd : diffB zs = bb) :
    Calls Tryz.prog 52 #[.slice (some ⟨b, off, none⟩) zs.length cap] w fun e w' => e = .returned (.bool bb) ∧ Only (fun _ => False) w w' := by
  have hmm := @run_makeMap Tryz.prog
  have HC := Lib.hid hc
  have HD := Lib.hid hd
  have HW := Lib.hid hw
  clear hc hd hw
  go_enter Tryz.func52, Tryz.ntmps52
  go_wp2_with fail
  have HS0 := Lib.hid (set_new (w.alloc (.map #[] 0)) w.heap.size (heap_alloc_new w _))
  have HO0 := Lib.hid ((Only.refl (fun _ => False) w).alloc (.map #[] 0))
  clear hmm
  go_loopw [9] (fun vi wr => ∃ k : Nat, vi = .int .i64 k ∧ k ≤ zs.length ∧ diffTo zs k = true ∧ SetAt wr w.heap.size k (inTo zs k) ∧ Only (fun _ => False) w wr) (fun vi _ => zs.length - (intOf vi).toNat)
  case atStart => exact ⟨0, rfl, Nat.zero_le _, rfl, HS0.out, HO0.out⟩
  case round =>
    clear HS0 HO0
    obtain ⟨k, rfl, hk, hdk, hS, hO⟩ := hrel
    by_cases hlt : k < zs.length
    · have hck := hO.cell (HC.out k hlt) (fun h => h)
      have HDS := Lib.hid (show diffTo zs (k + 1) = (diffTo zs k && (ptB (ptAt zs k) && !inTo zs k (ptAt zs k))) from rfl)
      have HIS := Lib.hid (fun z => show inTo zs (k + 1) z = (z == ptAt zs k || inTo zs k z) from rfl)
      have hwk := HW.out.wf k
      obtain ⟨w1, w2⟩ := hwk
      obtain ⟨x, hx⟩ : ∃ x, ptAt zs k = x := ⟨_, rfl⟩
      have hl := hS.look x (WalkArith.wf_i64 (by omega))
      rw [hx] at hck w1 w2
      have HX := Lib.hid hx
      have HDK := Lib.hid hdk
      have HS := Lib.hid hS
      have HO := Lib.hid hO
      have hsz := hO.size
      clear hx hdk hS hO
      cases hp : ptB x
      · have HBB := Lib.hid (show bb = false by
          rw [← HD.out]; exact diffTo_false zs zs.length (k + 1) (by omega) (by rw [HDS.out, HX.out, hp]; simp))
        go_wp2_with fail
        refine (point_is x false _ hp).mono ?_
        rintro e w' ⟨rfl, rfl⟩
        go_wp2
        go_ret
        rw [HBB.out]
        exact ⟨rfl, HO.out⟩
      · cases hi : inTo zs k x
        · obtain ⟨wn, hrun, hS2, hO2⟩ := HS.out.add (by unfold maxLen; omega) x (WalkArith.wf_i64 (by omega))
          rw [hi] at hl
          have HSN := Lib.hid hS2
          have HON := Lib.hid (HO.out.trans' hO2 (fun i hi e => by have := HS.out.lt; omega))
          have HDN := Lib.hid (show diffTo zs (k + 1) = true by rw [HDS.out, HDK.out, HX.out, hp, hi]; rfl)
          clear hS2 hO2 HDS HDK hi
          go_wp2_with fail
          refine (point_is x true _ hp).mono ?_
          rintro e w' ⟨rfl, rfl⟩
          go_wp2
          go_roundw
          case rel => exact ⟨k + 1, by go_num, by omega, HDN.out, by
              have := HSN.out
              have e : (fun z => z == x || inTo zs k z) = inTo zs (k + 1) := by funext z; rw [HIS.out, HX.out]
              rw [e] at this; exact this, HON.out⟩
          case measure => simp [intOf]; omega
        · have HBB := Lib.hid (show bb = false by
            rw [← HD.out]; exact diffTo_false zs zs.length (k + 1) (by omega) (by rw [HDS.out, HX.out, hi]; simp))
          rw [hi] at hl
          clear hi
          go_wp2_with fail
          refine (point_is x true _ hp).mono ?_
          rintro e w' ⟨rfl, rfl⟩
          go_wp2
          go_ret
          rw [HBB.out]
          exact ⟨rfl, HO.out⟩
    · have hke : k = zs.length := by omega
      have HBB := Lib.hid (show bb = true by rw [← HD.out, diffB, ← hke]; exact hdk)
      have HO := Lib.hid hO
      clear hke hdk hS hO
      go_wp2
      go_ret
      rw [HBB.out]
      exact ⟨rfl, HO.out⟩
end Go.Proofs.YtalclldccnichaaGreat
