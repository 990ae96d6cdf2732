/-
  The law AgreeChecks: the votes of a decision.
  The law AgreeChecks: the walk.
-/
import Derived.Test.YtldkjkjpaiajlaaGreatDoorPa28
import Derived.Deep.MidRow
import Derived.Laws.BitsAllLaws
namespace Go.Proofs.YtldkjkjpaiajlaaGreatDoor
open Go.RowKit

theorem crewMk_at (ws : List Nat) : ∀ (k i : Nat), i < k → mmAt (crewMk ws k) i = ⟨i, 1 + ws.getD i 0 % 3, keyS (nodeS i)⟩
  | 0, i, h => by omega
  | k + 1, i, h => by
    unfold mmAt
    rw [crewMk]
    by_cases hi : i < k
    · have := crewMk_at ws k i hi
      unfold mmAt at this
      rw [← this, lgetD (crewMk ws k ++ [_]) _ (show i < (crewMk ws k ++ [_]).length by rw [List.length_append, crewMk_len]; omega), lgetD (crewMk ws k) _ (show i < (crewMk ws k).length by rw [crewMk_len]; exact hi), List.getElem_append_left (by rw [crewMk_len]; exact hi)]
    · obtain rfl : i = k := by omega
      rw [lgetD _ _ (by rw [List.length_append, crewMk_len]; exact Nat.lt_succ_self i)]
      rw [List.getElem_append_right (by rw [crewMk_len]; exact Nat.le_refl _)]
      simp [crewMk_len]
theorem crew_len (ws : List Nat) : (crewM ws).length = min ws.length 5 := crewMk_len ws _
theorem crew_at (ws : List Nat) {i : Nat} (hi : i < (crewM ws).length) : mmAt (crewM ws) i = ⟨i, 1 + ws.getD i 0 % 3, keyS (nodeS i)⟩ := by
  rw [crew_len] at hi
  exact crewMk_at ws _ i hi
theorem crew_sec (ws : List Nat) {i : Nat} (hi : i < (crewM ws).length) : secOf (crewM ws) i = keyS (nodeS i) := by
  obtain ⟨j, hj, e, _, hs⟩ := sec_at (crewM ws) i ⟨mmAt (crewM ws) i, by
    unfold mmAt
    rw [lgetD _ _ hi]
    exact List.getElem_mem _, by rw [crew_at ws hi]⟩
  rw [crew_at ws hj] at e hs
  rw [hs]
  have e : j = i := e
  rw [e]
theorem secs_at (ms : List Mm) {i : Nat} (hi : i < ms.length) : (secsOf ms).getD i 0 = (mmAt ms i).sec := by
  unfold secsOf mmAt
  rw [lgetD _ _ (by rw [List.length_map]; exact hi), lgetD _ _ hi, List.getElem_map]
theorem crew_w (ws : List Nat) : MbsW (mbsOf (crewM ws)) := ⟨fun j => by
  rcases Nat.lt_or_ge j (crewM ws).length with h | h
  · rw [mbAt_of h, crew_at ws h]
    have hl := crew_len ws
    have : ws.getD j 0 % 3 < 3 := Nat.mod_lt _ (by decide)
    show (-9223372036854775808 ≤ ((j : Nat) : Int) ∧ ((j : Nat) : Int) ≤ 9223372036854775807) ∧ (-9223372036854775808 ≤ ((1 + ws.getD j 0 % 3 : Nat) : Int) ∧ ((1 + ws.getD j 0 % 3 : Nat) : Int) ≤ 9223372036854775807)
    omega
  · have e : mbAt (mbsOf (crewM ws)) j = ⟨0, 0, 0⟩ := by
      unfold mbAt
      rw [List.getD_eq_getElem?_getD, List.getElem?_eq_none (by rw [mbsOf_len]; exact h)]
      rfl
    rw [e]
    decide⟩
def vbX (h v i : Nat) : Vb := ⟨i, ⟨2, h, v, 120⟩⟩
def bitB (bits i : Nat) : Bool := bits / 2 ^ i % 2 == 1
theorem bit_test (n k : Nat) (hb : n < 256) : (Go.bits .and .u8 ((n : Int) / 2 ^ k) 1 == 1) = bitB n k := by
  have e : (n : Int) / 2 ^ k = ((n / 2 ^ k : Nat) : Int) := by simp
  have hl : n / 2 ^ k < 256 := Nat.lt_of_le_of_lt (Nat.div_le_self _ _) hb
  rw [e, show (1 : Int) = ((1 : Nat) : Int) from rfl, Go.u8_and_nat _ _ hl (by decide), Nat.and_one_is_mod]
  unfold bitB
  rw [Bool.eq_iff_iff, beq_iff_eq, beq_iff_eq]
  omega
def vtTo (bits : Nat) : Nat → List Vb
  | 0 => []
  | k + 1 => if bitB bits k then vtTo bits k ++ [vbX 2 1 k] else vtTo bits k
theorem vtTo_le (bits : Nat) : ∀ k, (vtTo bits k).length ≤ k
  | 0 => Nat.le_refl _
  | k + 1 => by
    have := vtTo_le bits k
    rw [vtTo]
    split
    · rw [List.length_append]; show _ + 1 ≤ _; omega
    · omega
theorem vtTo_ok (bits : Nat) : ∀ k, k ≤ 5 → ∀ v ∈ vtTo bits k, VbOk v ∧ v.who < k
  | 0, _, v, h => by cases h
  | k + 1, hk, v, h => by
    rw [vtTo] at h
    split at h
    · rcases List.mem_append.1 h with h | h
      · have := vtTo_ok bits k (by omega) v h
        exact ⟨this.1, by omega⟩
      · rw [List.mem_singleton.1 h]
        exact ⟨⟨⟨(show 2 < 3 by decide), (show 2 ≤ _ by decide), (show 1 ≤ _ by decide), (show 120 < 256 by decide)⟩, (show k ≤ 1000000 by omega)⟩, Nat.lt_succ_self _⟩
    · have := vtTo_ok bits k (by omega) v h
      exact ⟨this.1, by omega⟩
theorem vrC_len (v : Vr) : (vrC v).length = 4 := rfl
theorem vbrow_vr (ms : List Mm) (l : List Vb) : vbrow ms l = (l.map (vbVr ms)).flatMap vrC := by
  unfold vbrow
  rw [List.flatMap_map]
  rfl
theorem own_block {w : World} {base e size n c g : Nat} {xs : List Value} (h : w.ownsRow base e size (.slice (some ⟨g, 0, none⟩) n c) n xs) : base ≤ g ∧ n ≤ c ∧ c ≤ 9223372036854775807 ∧ ∃ cur, w.heap[g]? = some (.cells cur e (0, 0)) := by
  rcases h.2 with ⟨e0, _⟩ | ⟨g', cap, cur, e0, hb, hg, q1, q2, _⟩
  · cases e0
  · simp only [Value.slice.injEq, Option.some.injEq, Addr.mk.injEq, true_and, and_true] at e0
    obtain ⟨rfl, rfl⟩ := e0
    exact ⟨hb, q1, q2, cur, hg⟩
theorem ranges_of_own {w : World} {base n c g : Nat} {l : List Vr} (h : w.ownsRow base 35 4 (.slice (some ⟨g, 0, none⟩) n c) n (l.flatMap vrC)) (hn : l.length = n) : ∀ j, j < n → w.rangeAt g (j * 4) (vrC (vrAt l j)) := by
  intro j hj k u hu
  have hk := (List.getElem?_eq_some_iff.1 hu).1
  rw [vrC_len] at hk
  rw [h.cellAt (j * 4 + k) (by omega), flat_get vrC 4 vrC_len l j k (by omega) hk, ← hu]
  unfold vrAt
  rw [lgetD _ _ (by omega)]
theorem there_of_own {w : World} {base n c g : Nat} {l : List Vr} (h : w.ownsRow base 35 4 (.slice (some ⟨g, 0, none⟩) n c) n (l.flatMap vrC)) (hn : l.length = n) {i : Nat} (hi : i < n) : w.there g (i * 4) 4 := by
  intro j hj
  obtain ⟨_, _, _, cur, hg⟩ := own_block h
  exact ⟨(ranges_of_own h hn i hi).isSome j hj, frozen_of_row w g (i * 4 + j) _ _ hg⟩
theorem vrs_of_range {W : World} {g n c : Nat} {l : List Vr} (hl : l.length = n) (hb : g < W.heap.size) (h1 : n ≤ c) (h2 : c ≤ 9223372036854775807) (hc : ∀ j, j < n → W.rangeAt g (j * 4) (vrC (vrAt l j))) : VrsAt W (.slice (some ⟨g, 0, none⟩) n c) l := by
  refine .inr ⟨g, 0, c, by rw [hl], hb, by omega, h2, fun j hj => ?_⟩
  have h := hc j (by omega)
  rw [Nat.zero_add]
  exact ⟨h 0 _ rfl, h 1 _ rfl, h 2 _ rfl, h 3 _ rfl⟩
theorem only_setCells (b : Nat) : ∀ (vs : List Value) (o : Nat) (w : World), Only (fun k => k = b) w (w.setCells b o vs)
  | [], _, w => Only.refl _ w
  | v :: r, o, w => by
    rw [World.setCells]
    exact ((Only.refl (fun k => k = b) w).setCell (.inl rfl) v).trans (only_setCells b r (o + 1) _)
theorem vrAt_set (l : List Vr) (i j : Nat) (v : Vr) (_hi : i < l.length) (hj : j < l.length) : vrAt (l.set i v) j = if j = i then v else vrAt l j := by
  unfold vrAt
  rw [lgetD _ _ (by rw [List.length_set]; exact hj), lgetD _ _ hj, List.getElem_set]
  by_cases h : i = j
  · rw [if_pos h, if_pos h.symm]
  · rw [if_neg h, if_neg fun e => h e.symm]
/-- A vote is replaced. -/
theorem vrs_store {w : World} {base n c g : Nat} {l : List Vr} (h : w.ownsRow base 35 4 (.slice (some ⟨g, 0, none⟩) n c) n (l.flatMap vrC)) (hn : l.length = n) {i : Nat} (hi : i < n) (v : Vr) : VrsAt (w.setCells g (i * 4) (vrC v)) (.slice (some ⟨g, 0, none⟩) n c) (l.set i v) := by
  obtain ⟨hb, h1, h2, cur, hg⟩ := own_block h
  refine vrs_of_range (by rw [List.length_set]; exact hn) (Nat.lt_of_lt_of_le (Array.getElem?_eq_some_iff.1 hg).1 (only_setCells g _ _ w).size) h1 h2 fun j hj => ?_
  rw [vrAt_set l i j v (by omega) (by omega)]
  by_cases e : j = i
  · rw [if_pos e, e]
    exact World.rangeAt_setCells_same w g (i * 4) (vrC v) (there_of_own h hn hi)
  · rw [if_neg e]
    exact World.rangeAt_setCells_apart (ranges_of_own h hn j hj) g (i * 4) (vrC v) (.inr (by rw [vrC_len, vrC_len]; omega))
/-- A signature's second number is changed. -/
theorem vrs_setS {w : World} {base n c g : Nat} {l : List Vr} (h : w.ownsRow base 35 4 (.slice (some ⟨g, 0, none⟩) n c) n (l.flatMap vrC)) (hn : l.length = n) {i : Nat} (hi : i < n) (s : Int) : VrsAt (w.setCell ⟨g, i * 4 + 3, none⟩ (.int .i64 s)) (.slice (some ⟨g, 0, none⟩) n c) (l.set i { vrAt l i with S := s }) := by
  obtain ⟨hb, h1, h2, cur, hg⟩ := own_block h
  have e0 : w.setCell ⟨g, i * 4 + 3, none⟩ (.int .i64 s) = w.setCells g (i * 4 + 3) [.int .i64 s] := rfl
  rw [e0]
  refine vrs_of_range (by rw [List.length_set]; exact hn) (Nat.lt_of_lt_of_le (Array.getElem?_eq_some_iff.1 hg).1 (only_setCells g _ _ w).size) h1 h2 fun j hj => ?_
  rw [vrAt_set l i j _ (by omega) (by omega)]
  by_cases e : j = i
  · rw [if_pos e, e]
    have hr := ranges_of_own h hn i hi
    have ha : w.rangeAt g (i * 4) [.int .i64 (vrAt l i).who, .string (vrAt l i).x.t, .int .i64 (vrAt l i).R] := fun k u hu => by
      have hk : k < 3 := (List.getElem?_eq_some_iff.1 hu).1
      refine hr k u ?_
      rw [← hu]
      obtain rfl | rfl | rfl : k = 0 ∨ k = 1 ∨ k = 2 := by omega
      all_goals rfl
    have hA := World.rangeAt_setCells_apart ha g (i * 4 + 3) [.int .i64 s] (.inr (.inl (Nat.le_refl _)))
    have hS := World.rangeAt_setCells_same w g (i * 4 + 3) [.int .i64 s] (fun k hk => by
      obtain rfl : k = 0 := by simp at hk; omega
      exact there_of_own h hn hi 3 (by decide))
    intro k u hu
    have hk : k < 4 := (List.getElem?_eq_some_iff.1 hu).1
    obtain rfl | rfl | rfl | rfl : k = 0 ∨ k = 1 ∨ k = 2 ∨ k = 3 := by omega
    · exact hA 0 u hu
    · exact hA 1 u hu
    · exact hA 2 u hu
    · exact hS 0 u hu
  · rw [if_neg e]
    exact World.rangeAt_setCells_apart (ranges_of_own h hn j hj) g (i * 4 + 3) [.int .i64 s] (.inr (by rw [vrC_len]; show _ ∨ _ + 1 ≤ _; omega))
theorem set_okV {l : List Vr} (h : ∀ v ∈ l, VrOk v) {i : Nat} {v : Vr} (hv : VrOk v) : ∀ x ∈ l.set i v, VrOk x := by
  intro x hx
  rcases List.mem_or_eq_of_mem_set hx with e | e
  · exact h x e
  · rw [e]; exact hv
/-- What the operations of 'append(append([]Member{}, l...), l[0])' leave. -/
def otFact (w : World) (l : List Mb) (ga k cm : Nat) (i : Nat) (v : Value) (W : World) : Prop :=
  match i with
  | 0 => ∃ g, v = .slice (some ⟨g, 0, none⟩) 0 0 ∧ W.heap[g]? = some (.cells #[] 41 (0, 0))
  | 1 => v = .slice (some ⟨ga, 0, none⟩) k cm
  | 2 => W.ownsRow w.heap.size 41 3 v k (l.flatMap mb3)
  | 3 => v = .slice (some ⟨ga, 0, none⟩) k cm
  | 4 => v = .pointer (some ⟨ga, 0, none⟩)
  | 5 => v = .agg #[.int .i64 (mbAt l 0).id, .int .i64 (mbAt l 0).wt, .int .i64 (mbAt l 0).pb]
  | _ => ∃ g, v = .slice (some ⟨g, 0, none⟩) 1 1 ∧ W.heap[g]? = some (.cells #[.int .i64 (mbAt l 0).id, .int .i64 (mbAt l 0).wt, .int .i64 (mbAt l 0).pb] 41 (0, 0))
def oneOp (v : Value) : Operand → Value
  | .const c => c
  | _ => v
def trueRel (_ _ : Nat) (_ _ : Value) : Prop := True
theorem otFact_still {w : World} {l : List Mb} {ga k cm : Nat} (i : Nat) (v : Value) (W W' : World) (h : otFact w l ga k cm i v W) (hO : Only (fun _ => False) W W') : otFact w l ga k cm i v W' := by
  match i, h with
  | 0, h =>
    obtain ⟨g, e, h2⟩ : ∃ g, v = .slice (some ⟨g, 0, none⟩) 0 0 ∧ W.heap[g]? = some (.cells #[] 41 (0, 0)) := h
    exact ⟨g, e, row_still hO h2⟩
  | 1, h => exact h
  | 2, h => exact hO.owns h (fun _ _ h => h)
  | 3, h => exact h
  | 4, h => exact h
  | 5, h => exact h
  | i + 6, h =>
    obtain ⟨g, e, h2⟩ : ∃ g, v = .slice (some ⟨g, 0, none⟩) 1 1 ∧ W.heap[g]? = some (.cells #[.int .i64 (mbAt l 0).id, .int .i64 (mbAt l 0).wt, .int .i64 (mbAt l 0).pb] 41 (0, 0)) := h
    exact ⟨g, e, row_still hO h2⟩
theorem otFact_val {P : Program} {w W : World} {l : List Mb} {ga k cm : Nat} {i : Nat} {o : Oper} {ρ : Operand → Value} {v : Value} (hrun : (execOp ρ o).run P W = .ok (.value v) W) (hv : otFact w l ga k cm i v W) :
    opV P o ρ W (fun v W' => Only (fun _ => False) W W' ∧ otFact w l ga k cm i v W' ∧ ∀ j u, j ≠ i → otFact w l ga k cm j u W → trueRel i j v u ∧ trueRel j i u v) :=
  opV_of_value hrun ⟨Only.refl _ W, hv, fun _ _ _ _ => ⟨trivial, trivial⟩⟩
theorem otFact_new {P : Program} {w W : World} {l : List Mb} {ga k cm : Nat} {i : Nat} {o : Oper} {ρ : Operand → Value} {v : Value} {ob : Obj} (hrun : (execOp ρ o).run P W = .ok (.value v) (W.alloc ob)) (hv : otFact w l ga k cm i v (W.alloc ob)) :
    opV P o ρ W (fun v W' => Only (fun _ => False) W W' ∧ otFact w l ga k cm i v W' ∧ ∀ j u, j ≠ i → otFact w l ga k cm j u W → trueRel i j v u ∧ trueRel j i u v) :=
  opV_of_value hrun ⟨(Only.refl _ W).alloc _, hv, fun _ _ _ _ => ⟨trivial, trivial⟩⟩
theorem mbsW_snoc {l : List Mb} (h : MbsW l) : MbsW (l ++ [mbAt l 0]) := ⟨fun j => by
  have e : mbAt (l ++ [mbAt l 0]) j = mbAt l j ∨ mbAt (l ++ [mbAt l 0]) j = mbAt l 0 ∨ mbAt (l ++ [mbAt l 0]) j = ⟨0, 0, 0⟩ := by
    rcases Nat.lt_or_ge j l.length with h1 | h1
    · left
      unfold mbAt
      rw [lgetD _ _ (by rw [List.length_append]; omega), lgetD _ _ h1, List.getElem_append_left h1]
    · rcases Nat.lt_or_ge j (l.length + 1) with h2 | h2
      · right; left
        obtain rfl : j = l.length := by omega
        show (l ++ [mbAt l 0]).getD l.length _ = _
        rw [lgetD _ _ (by rw [List.length_append]; exact Nat.lt_succ_self _), List.getElem_append_right (Nat.le_refl _)]
        simp
      · right; right
        unfold mbAt
        rw [List.getD_eq_getElem?_getD, List.getElem?_eq_none (by rw [List.length_append]; exact h2)]
        rfl
  rcases e with e | e | e
  · rw [e]; exact h.wf j
  · rw [e]; exact h.wf 0
  · rw [e]; decide⟩
/-- A decision in memory. -/
def DcAt (W : World) (gd : Nat) (H : Int) (dv : Value) : Prop := W.heap[gd]? = some (.cells #[.int .i64 H, .string (⟨#[120]⟩ : ByteArray), dv] 31 (0, 0))
theorem Tryz.infoDc3 : (Tryz.prog.info? 31).map (·.size) = some 3 := by kernel_rfl
end Go.Proofs.YtldkjkjpaiajlaaGreatDoor

namespace Go.Proofs.YtldkjkjpaiajlaaGreatDoor
open Go.RowKit

theorem vrs_of_ownR {w : World} {base n : Nat} {v : Value} {ms : List Mm} {l : List Vb} (h : w.ownsRow base 35 4 v n (vbrow ms l)) (hn : l.length = n) : VrsAt w v (l.map (vbVr ms)) := by
  subst hn
  exact vrs_of_own h
theorem textC (h v : Nat) (hh : h ≤ 1000) (hv : v ≤ 1000) (kd x : Nat) (hk : kd < 3) (hx : x < 256) (W : World) : Calls Tryz.prog 9 #[.string (kindB kd), .int .i64 h, .int .i64 v, .string (oneB x)] W fun e w' => e = .returned (.string (blB ⟨kd, h, v, x⟩)) ∧ Only (fun _ => False) W w' :=
  rtext29_any ⟨kd, h, v, x⟩ ⟨hk, Nat.le_trans hh (by decide), Nat.le_trans hv (by decide), hx⟩ W
theorem vtTo_row (ms : List Mm) (bits k : Nat) : vbrow ms (vtTo bits (k + 1)) = if bitB bits k then vbrow ms (vtTo bits k) ++ vbC ms (vbX 2 1 k) else vbrow ms (vtTo bits k) := by
  rw [vtTo]
  split
  · unfold vbrow
    rw [List.flatMap_append]
    simp
  · rfl
/-- A decision after a change. -/
def ChAt (gd : Nat) (w6 wx : World) : Prop := ∃ H dv vs, DcAt wx gd H dv ∧ VrsAt wx dv vs ∧ (∀ v ∈ vs, VrOk v) ∧ vs.length ≤ 1000 ∧ Only (fun j => gd ≤ j) w6 wx
set_option maxRecDepth 100000 in
set_option maxHeartbeats 8000000 in
theorem ac_walk (sv : Value) (ws : List Nat) (bits q0 q1 : Nat) (w : World) (hW : U8sAt w sv ws) (hl : ws.length ≤ 9223372036854775807) (hb : bits < 256) (h0 : q0 < 256) (h1 : q1 < 256) (hG : GlobA w) :
    Calls Tryz.prog 3 #[sv, .int .u8 bits, .agg #[.int .u8 q0, .int .u8 q1]] w fun e w' => e = .returned (.bool true) ∧ Only (fun _ => False) w w' := by
  obtain ⟨i0, hi, hz0, hz1, hz2⟩ := info_parts Tryz.infoVoz
  have HI := Lib.hid hi
  have HI0 := Lib.hid hz0
  have HI1 := Lib.hid hz1
  have HI2 := Lib.hid hz2
  clear hi hz0 hz1 hz2
  have hA := (Only.refl (fun _ => False) w).alloc (.cells #[.int .u8 q0, .int .u8 q1] 23)
  have HQ := Lib.hid (heap_alloc_last w (.cells #[.int .u8 q0, .int .u8 q1] 23))
  have HG := Lib.hid (hG.only hA)
  have HW := Lib.hid (hW.only hA)
  have HA := Lib.hid hA
  clear hG hW hA
  go_enter Tryz.func3, Tryz.ntmps3
  go_upto_region 1 with fail
  generalize w.alloc (.cells #[.int .u8 q0, .int .u8 q1] 23) = w0 at *
  go_wp2_with fail
  refine (sane29_any w0 HG.out).mono ?_
  rintro e w1 ⟨rfl, hO1⟩
  have HO1 := Lib.hid hO1
  have HCR := Lib.hid (rcrew29_any sv ws w1 (HW.out.only hO1) hl)
  clear hO1
  go_wp2_with fail
  refine HCR.out.mono ?_
  rintro e w2 ⟨vm, vs, rfl, hm, hs, hO2⟩
  have HO2 := Lib.hid (HO1.out.trans hO2)
  have hn5 : (crewM ws).length ≤ 5 := by rw [crew_len]; exact Nat.min_le_right _ _
  obtain ⟨n, hn⟩ : ∃ n, (crewM ws).length = n := ⟨_, rfl⟩
  have HN := Lib.hid hn
  rw [hn] at hm hs hn5
  have HM := Lib.hid hm
  have HS := Lib.hid hs
  obtain ⟨am, cm, rfl⟩ := slice_of_own hm
  obtain ⟨asc, csc, rfl⟩ := slice_of_own hs
  clear hm hs hO2 hn HCR
  go_upto_region 4 with fail
  have hA3 := (Only.refl (fun _ => False) w2).alloc (.cells #[.int .i64 2, .string (⟨#[120]⟩ : ByteArray), .slice none 0 0] 31)
  have HO3 := Lib.hid (HO2.out.trans hA3)
  have HD3 := Lib.hid (show DcAt (w2.alloc (.cells #[.int .i64 2, .string (⟨#[120]⟩ : ByteArray), .slice none 0 0] 31)) w2.heap.size 2 (.slice none 0 0) from heap_alloc_last w2 _)
  have HM3 := Lib.hid (hA3.owns HM.out (fun _ _ h => h))
  have HS3 := Lib.hid (hA3.owns HS.out (fun _ _ h => h))
  have hsz3 : (w2.alloc (.cells #[.int .i64 2, .string (⟨#[120]⟩ : ByteArray), .slice none 0 0] 31)).heap.size = w2.heap.size + 1 := by simp
  have HML := Lib.hid (show ∀ j, (Value.slice am n cm).ownBlock = some j → j < w2.heap.size from fun j hj => (own_lt HM.out hj).1)
  have HSL := Lib.hid (show ∀ j, (Value.slice asc n csc).ownBlock = some j → j < w2.heap.size from fun j hj => (own_lt HS.out hj).1)
  have hgb := HO2.out.size
  clear hA3 HM HS HO2
  generalize w2.alloc (.cells #[.int .i64 2, .string (⟨#[120]⟩ : ByteArray), .slice none 0 0] 31) = w3 at *
  obtain ⟨gd, hgd⟩ : ∃ gd, w2.heap.size = gd := ⟨_, rfl⟩
  rw [hgd] at HD3 hsz3 HML HSL hgb ⊢
  have HGB := Lib.hid hgb
  clear hgb
  have HGD := Lib.hid hsz3
  clear hgd hsz3
  go_wp2_with fail
  go_loopw [11] (fun vi wr => ∃ k : Nat, k ≤ n ∧ vi = .int .i64 k ∧ ∃ dv, DcAt wr gd 2 dv ∧ wr.ownsRow (gd + 1) 35 4 dv (vtTo bits k).length (vbrow (crewM ws) (vtTo bits k)) ∧ Only (fun i => i = gd) w3 wr) (fun vi _ => n - (intOf vi).toNat)
  case atStart => exact ⟨0, Nat.zero_le _, rfl, _, HD3.out, World.ownsRow_nil _ _ _ _, Only.refl _ _⟩
  case round =>
    obtain ⟨k, hk, rfl, dv, hD, hown, hO⟩ := hrel
    have HD := Lib.hid hD
    have HO := Lib.hid hO
    have HOW := Lib.hid hown
    clear hD hO hown
    by_cases hlt : k < n
    · have hbt := bit_test bits k hb
      have HLN := Lib.hid (vtTo_le bits k)
      have HRW := Lib.hid (vtTo_row (crewM ws) bits k)
      have HVT := Lib.hid (show vtTo bits (k + 1) = if bitB bits k then vtTo bits k ++ [vbX 2 1 k] else vtTo bits k from rfl)
      cases hbit : bitB bits k
      · rw [hbit] at hbt HRW HVT
        have HE := Lib.hid (show vtTo bits (k + 1) = vtTo bits k from HVT.out)
        clear HRW HVT hbit
        go_wp2
        all_goals exact ⟨⟨k + 1, by omega, by go_num, dv, HD.out, by rw [HE.out]; exact HOW.out, HO.out⟩, by simp [intOf]; omega⟩
      · rw [hbit] at hbt HRW HVT
        have HRW2 := Lib.hid (HRW.out.trans (if_pos rfl))
        have HVT2 := Lib.hid (HVT.out.trans (if_pos rfl))
        clear HRW HVT hbit
        go_upto_region 8 with fail
        have hsc := HO.out.owns HS3.out (fun j hj e => by have := HSL.out j hj; omega)
        obtain ⟨sb, rfl, hc1, hc2, hsv⟩ := ownI_cells hsc (by unfold secsOf; rw [List.length_map, HN.out]) hlt
        have hkm : k < (crewM ws).length := by rw [HN.out]; exact hlt
        rw [secs_at _ hkm, crew_at ws hkm] at hsv
        change _ = some (Value.int .i64 (keyS (nodeS k))) at hsv
        have HSV := Lib.hid hsv
        have hdv : _ = some dv := cell_of_row _ _ 2 _ _ _ HD.out
        have HDV := Lib.hid hdv
        have HVC := Lib.hid (show vbC (crewM ws) (vbX 2 1 k) = [.int .i64 k, .string (blB ⟨2, 2, 1, 120⟩), .int .i64 (sgR (keyS (nodeS k)) (blB ⟨2, 2, 1, 120⟩)), .int .i64 (sgS (keyS (nodeS k)) (blB ⟨2, 2, 1, 120⟩))] by
          unfold vbC vbR vbS
          rw [show secOf (crewM ws) (vbX 2 1 k).who = keyS (nodeS k) from crew_sec ws hkm]
          rfl)
        rw [HVC.out] at HRW2
        have hb40 := blv_len (b := ⟨2, 2, 1, 120⟩) ⟨by decide, by decide, by decide, by decide⟩
        have HTX := Lib.hid (fun W => textC 2 1 (by decide) (by decide) 2 120 (by decide) (by decide) W)
        change Hid (∀ W, Calls _ _ #[.string (⟨#[99, 111, 109, 109, 105, 116]⟩ : ByteArray), .int .i64 2, .int .i64 1, .string (⟨#[120]⟩ : ByteArray)] _ _) at HTX
        have HVO := Lib.hid (fun W => rvote_any (k : Int) (keyS (nodeS k)) (blB ⟨2, 2, 1, 120⟩) W (by omega))
        have HOT := Lib.hid (vtTo_le bits k)
        generalize sgR (keyS (nodeS k)) (blB ⟨2, 2, 1, 120⟩) = vR at *
        generalize sgS (keyS (nodeS k)) (blB ⟨2, 2, 1, 120⟩) = vS at *
        generalize keyS (nodeS k) = sc at *
        generalize blB ⟨2, 2, 1, 120⟩ = bT at *
        have hkn : (k : Int) < n := by omega
        have hk0 : (0 : Int) ≤ k := by omega
        generalize vtTo bits k = L at *
        obtain ⟨av, cv, rfl⟩ := slice_of_own HOW.out
        clear hsc hsv hdv HVC hbt HLN
        refine region_new1 (fr := ?frA) 10 9 (.cells #[.int .i64 k, .string bT, .int .i64 vR, .int .i64 vS] 35) (fun g => .slice (some ⟨g, 0, none⟩) 1 1) (fun i => match i with | 0 => .pointer (some ⟨gd, 2, none⟩) | 1 => .slice av L.length cv | 2 => .int .i64 k | 3 => .slice (some ⟨sb, 0, none⟩) n csc | 4 => .int .i64 k | 5 => .pointer (some ⟨sb, k, none⟩) | 6 => .int .i64 sc | 7 => .string bT | 8 => .agg #[.int .i64 k, .string bT, .int .i64 vR, .int .i64 vS] | _ => undef) (by kernel_rfl) (by kernel_rfl) (by kernel_rfl) (by kernel_rfl) (by kernel_rfl) (by decide) (by decide) ?frB ?alB ?stepB ?finB
        case frB =>
          simp only [List.take_succ_cons, List.take_zero, frameAll, Act.put, List.getElem?_toArray, List.getElem?_cons_zero, List.getElem?_cons_succ, Option.bind_some, List.setIfInBounds_toArray, List.set_cons_zero, List.set_cons_succ]
          rfl
        case alB => exact ⟨_, rfl, fun W => by go_simp⟩
        case stepB =>
          intro i o W hi hia ho hO
          have e0 := hO.cell HSV.out (fun h => h)
          have e1 := hO.cell HDV.out (fun h => h)
          have hsW : sb < W.heap.size := World.block_lt_of_cell? W _ e0
          have hdW : gd < W.heap.size := World.block_lt_of_cell? W _ e1
          obtain rfl | rfl | rfl | rfl | rfl | rfl | rfl | rfl | rfl : i = 0 ∨ i = 1 ∨ i = 2 ∨ i = 3 ∨ i = 4 ∨ i = 5 ∨ i = 6 ∨ i = 7 ∨ i = 8 := by omega
          all_goals (simp only [List.getElem?_cons_zero, List.getElem?_cons_succ, Option.some.injEq] at ho; subst ho)
          · refine opV_of_value (w' := W) (v := _) ?_ ⟨rfl, Only.refl _ _⟩
            go_simp
          · refine opV_of_value (w' := W) (v := _) ?_ ⟨rfl, Only.refl _ _⟩
            go_simp
          · refine opV_of_value (w' := W) (v := _) ?_ ⟨rfl, Only.refl _ _⟩
            go_simp
          · refine opV_of_value (w' := W) (v := _) ?_ ⟨rfl, Only.refl _ _⟩
            go_simp
          · refine opV_of_value (w' := W) (v := _) ?_ ⟨rfl, Only.refl _ _⟩
            go_simp
          · refine opV_of_value (w' := W) (v := _) ?_ ⟨rfl, Only.refl _ _⟩
            go_simp
          · refine opV_of_value (w' := W) (v := _) ?_ ⟨rfl, Only.refl _ _⟩
            go_simp
          · refine opV_of_enter (w' := W) (f := 9) (args := #[.string (⟨#[99, 111, 109, 109, 105, 116]⟩ : ByteArray), .int .i64 2, .int .i64 1, .string (⟨#[120]⟩ : ByteArray)]) (by kernel_rfl) ((HTX.out W).mono ?_)
            rintro e W' ⟨rfl, hO'⟩
            exact ⟨_, rfl, rfl, hO'⟩
          · refine opV_of_enter (w' := W) (f := 8) (args := #[.int .i64 k, .int .i64 sc, .string bT]) (by kernel_rfl) ((HVO.out W).mono ?_)
            rintro e W' ⟨rfl, hO'⟩
            exact ⟨_, rfl, rfl, hO'⟩
        case finB =>
          intro g w4 hgg hrowg hOg
          simp only [updF, Nat.reduceEqDiff, reduceIte, List.take_succ_cons, List.take_zero, frameAll, Act.put, List.getElem?_toArray, List.getElem?_cons_zero, List.getElem?_cons_succ, Option.bind_some, List.setIfInBounds_toArray, List.set_cons_zero, List.set_cons_succ, List.drop_succ_cons, List.drop_zero]
          have HO4 := Lib.hid (HO.out.trans (hOg.mono fun _ _ h => h.elim))
          have HOW4 := Lib.hid (hOg.owns HOW.out (fun _ _ h => h))
          have HRG := Lib.hid hrowg
          have HD4 := Lib.hid (show DcAt w4 gd 2 (.slice av L.length cv) from row_still hOg HD.out)
          have hgl := (Array.getElem?_eq_some_iff.1 hrowg).1
          have hgd4 : gd < w4.heap.size := (Array.getElem?_eq_some_iff.1 HD4.out).1
          clear hOg hrowg HTX HVO HOW HO HD HSV HDV
          have hgd5 : gd + 1 ≤ w4.heap.size := hgd4
          have hHOT := HOT.out
          have y4 : w4.cell? ⟨gd, 2, none⟩ = some (Value.slice av L.length cv) := cell_of_row _ _ 2 _ _ _ HD4.out
          have f4 := frozen_of_row w4 gd 2 _ _ HD4.out
          have hvb : (Value.slice av L.length cv).ownBlock ≠ some gd := fun e => by have := (own_lt HOW4.out e).2; omega
          go_wp2_with (at_builtin; refine wpList_append_lies _ rfl _ _ 29 rfl (gd + 1) 35 i0 _ 4 40 Tryz.underlying29 HI.out HI0.out HI1.out HI2.out rfl (by decide) _ L.length (vbrow (crewM ws) L) rfl HOW4.out ⟨g, 0, none⟩ 1 1 [.int .i64 k, .string bT, .int .i64 vR, .int .i64 vS] rfl rfl (World.news_of_block (cs := #[.int .i64 k, .string bT, .int .i64 vR, .int .i64 vS]) (t := 35) (fr := (0, 0)) HRG.out) (four_one _ _ _ _) (by decide) (by unfold maxLen; omega) (by omega) (by omega) _ rfl ?_; intro g1 cp1 w5 ho5 hg5 ha5 hgl5; have yB := hg5.cell y4 (Ne.symm hvb); have fB := (hg5.frozen_far ⟨gd, 2, none⟩ hgd4 (Ne.symm hvb)).trans f4)
          have hO5 := HO4.out.trans' ((Only.refl (fun j => (Value.slice av L.length cv).ownBlock = some j) w4).grown hg5 (fun j e _ => e)) (fun j hj e => by
            have h1 := (own_lt HOW4.out e).2
            have h2 := HGD.out
            omega)
          have hb5 : w5.heap[gd]? = some (.cells #[.int .i64 2, .string (⟨#[120]⟩ : ByteArray), .slice av L.length cv] 31 (0, 0)) :=
            (((Only.refl (fun j => (Value.slice av L.length cv).ownBlock = some j) w4).grown hg5 (fun j e _ => e)).block gd hgd4 hvb).trans HD4.out
          have hOs : Only (fun i => i = gd) w5 (w5.setCell ⟨gd, 2, none⟩ (.slice (some ⟨g1, 0, none⟩) (L.length + 1) cp1)) := (Only.refl (fun i => i = gd) w5).setCell (.inl rfl) _
          refine ⟨⟨k + 1, by omega, by go_num, .slice (some ⟨g1, 0, none⟩) (L.length + 1) cp1, ?_, ?_, hO5.trans hOs⟩, by simp [intOf]; omega⟩
          · unfold DcAt
            rw [heap_setCell_same w5 gd 2 _ _ _ hb5]
            rfl
          · rw [HRW2.out, HVT2.out, List.length_append]
            exact hOs.owns ho5 fun j hj e => by
              have := (own_lt ho5 hj).2
              omega
    · obtain rfl : k = n := by omega
      have HON := Lib.hid (vtTo_le bits k)
      have HOKV := Lib.hid (fun v hv => (vtTo_ok bits k hn5 v hv))
      generalize hL : vtTo bits k = L at *
      clear hL
      have HVS := Lib.hid (vrs_of_own HOW.out)
      have hMb := HO.out.owns HM3.out (fun j hj e => by have := HML.out j hj; omega)
      have HMB := Lib.hid (show MbsAt wr (.slice am k cm) (mbsOf (crewM ws)) from mbs_own3 (l := mbsOf (crewM ws)) (by rw [mbsOf_len, HN.out]; exact hMb))
      have HOw := Lib.hid (show Only (fun _ => False) w0 wr from HO3.out.trans' HO.out fun j hj e => by
        have := HGB.out
        omega)
      obtain ⟨bb, hbb⟩ : ∃ b, ckB (mbsOf (crewM ws)) 2 (oneB 120) (L.map (vbVr (crewM ws))) = b := ⟨_, rfl⟩
      have hvl : (L.map (vbVr (crewM ws))).length ≤ 1000 := by rw [List.length_map]; have := HON.out; omega
      have HC1 := Lib.hid (fun W (hW : Only (fun _ => False) wr W) => check_any _ dv (mbsOf (crewM ws)) 2 (oneB 120) _ bb W (crew_w ws) (MbsAt.only hW HMB.out) (VrsAt.only hW HVS.out) (by rw [mbsOf_len, HN.out]; omega) hvl (vbs_ok fun v hv => (HOKV.out v hv).1) hbb (HG.out.only (HOw.out.trans hW)))
      have HC2 := Lib.hid (fun W (hW : Only (fun _ => False) wr W) => rcheck_any _ dv (mbsOf (crewM ws)) 2 (oneB 120) _ bb W (crew_w ws) (MbsAt.only hW HMB.out) (VrsAt.only hW HVS.out) hvl (vbs_ok fun v hv => (HOKV.out v hv).1) hbb)
      change Hid (∀ W, _ → Calls _ _ #[_, .agg #[_, .string (⟨#[120]⟩ : ByteArray), _]] W _) at HC1
      change Hid (∀ W, _ → Calls _ _ #[_, .agg #[_, .string (⟨#[120]⟩ : ByteArray), _]] W _) at HC2
      obtain ⟨av, cv, rfl⟩ := slice_of_own HOW.out
      have hSb := HO.out.owns HS3.out (fun j hj e => by have := HSL.out j hj; omega)
      clear hbb hlt hk hvl
      go_upto_region 9 with fail
      have e0 : wr.cell? ⟨gd, 0, none⟩ = some (Value.int .i64 2) := cell_of_row _ _ 0 _ _ _ HD.out
      have e1 : wr.cell? ⟨gd, 1, none⟩ = some (Value.string (⟨#[120]⟩ : ByteArray)) := cell_of_row _ _ 1 _ _ _ HD.out
      have e2 : wr.cell? ⟨gd, 2, none⟩ = some (Value.slice av L.length cv) := cell_of_row _ _ 2 _ _ _ HD.out
      have hgl : gd < wr.heap.size := World.block_lt_of_cell? _ _ e0
      have E0 := fun (d : Nat) (os : Array Obj) => cell_regrown e0 d os
      have E1 := fun (d : Nat) (os : Array Obj) => cell_regrown e1 d os
      have E2 := fun (d : Nat) (os : Array Obj) => cell_regrown e2 d os
      clear e0 e1 e2
      refine wp_region_quiet_below (by kernel_rfl) (by kernel_rfl) ?_
      repeat (go_big_quiet_step ((first | (go_at_call 10; with_reducible exact Calls.regrown_of ((HC1.out _ (Only.ofBelow (below_regrown _ _ _) _)).mono fun _ _ h => ⟨h.1, h.2.below (Nat.le_refl _) (fun _ _ h => h)⟩)) | (go_at_call 11; with_reducible exact Calls.regrown_of ((HC2.out _ (Only.ofBelow (below_regrown _ _ _) _)).mono fun _ _ h => ⟨h.1, h.2.below (Nat.le_refl _) (fun _ _ h => h)⟩)))))
      refine wpQuiet_nil ?_
      intro w6 hw'
      obtain ⟨pq, hw''⟩ := hw'
      have hO6 := Only.ofBelow (below_regrown wr pq.d pq.os) (fun _ => False)
      rw [← hw''] at hO6
      have HD6 := Lib.hid (show DcAt w6 gd 2 (.slice av L.length cv) from row_still hO6 HD.out)
      have HOW6 := Lib.hid (hO6.owns HOW.out (fun _ _ h => h))
      have HM6 := Lib.hid (hO6.owns hMb (fun _ _ h => h))
      have HS6 := Lib.hid (hO6.owns hSb (fun _ _ h => h))
      have HO6 := Lib.hid (HOw.out.trans hO6)
      have HQ6 := Lib.hid (row_still HO6.out HQ.out)
      have hqs : w.heap.size < w6.heap.size := (Array.getElem?_eq_some_iff.1 HQ6.out).1
      have hgd6 : gd < w6.heap.size := (Array.getElem?_eq_some_iff.1 HD6.out).1
      have HN5 := Lib.hid hn5
      clear hw'' hO6 E0 E1 E2 HC1 HC2 hMb hSb HVS HMB HD HOW HOw HO HQ
      have e2 : w6.cell? ⟨gd, 2, none⟩ = some (Value.slice av L.length cv) := cell_of_row _ _ 2 _ _ _ HD6.out
      have g0 : w6.cell? ⟨w.heap.size, 0, none⟩ = some (Value.int .u8 q0) := cell_of_row _ _ 0 _ _ _ HQ6.out
      have g1 : w6.cell? ⟨w.heap.size, 1, none⟩ = some (Value.int .u8 q1) := cell_of_row _ _ 1 _ _ _ HQ6.out
      go_upto_if 60 with fail
      clear e2 g0 g1
      go_cut [13, 14, 15, 60] from 61 to 126 (fun _ _ _ _ wx => ChAt gd w6 wx)
      case first =>
        by_cases hl0 : L.length = 0
        · have i1 : ¬ 0 < (L.length : Int) := by omega
          have HR := Lib.hid (show ChAt gd w6 w6 from ⟨2, _, _, HD6.out, vrs_of_own HOW6.out, vbs_ok fun v hv => (HOKV.out v hv).1, by rw [List.length_map]; omega, Only.refl _ _⟩)
          clear hl0
          go_wp2_with fail
          go_meet
          exact HR.out
        have hlp : 0 < L.length := by omega
        have i1 : 0 < (L.length : Int) := by omega
        obtain ⟨ix, hix⟩ : ∃ ix, q1 % L.length = ix := ⟨_, rfl⟩
        have hixl : ix < L.length := by rw [← hix]; exact Nat.mod_lt _ hlp
        have hmod : (q1 : Int).tmod (L.length : Int) = (ix : Int) := by rw [← hix]; exact (Int.tmod_eq_emod_of_nonneg (by omega)).trans (by omega)
        have hmod2 : (q1 : Int) % (L.length : Int) = (ix : Int) := by rw [← hix]; omega
        have hnz : ¬ (L.length : Int) = 0 := by omega
        obtain ⟨gv, rfl, hcv1, hcv2, hgv⟩ := own_some HOW6.out hlp
        have e2 : w6.cell? ⟨gd, 2, none⟩ = some (Value.slice (some ⟨gv, 0, none⟩) L.length cv) := cell_of_row _ _ 2 _ _ _ HD6.out
        have HT1 := Lib.hid (fun W => textC 2 1 (by decide) (by decide) 1 120 (by decide) (by decide) W)
        have HT2 := Lib.hid (fun W => textC 3 1 (by decide) (by decide) 2 120 (by decide) (by decide) W)
        have HT3 := Lib.hid (fun W => textC 2 0 (by decide) (by decide) 2 120 (by decide) (by decide) W)
        have HT4 := Lib.hid (fun W => textC 2 1 (by decide) (by decide) 2 121 (by decide) (by decide) W)
        change Hid (∀ W, Calls _ _ #[.string (⟨#[112, 114, 101, 112, 97, 114, 101]⟩ : ByteArray), .int .i64 2, .int .i64 1, .string (⟨#[120]⟩ : ByteArray)] _ _) at HT1
        change Hid (∀ W, Calls _ _ #[.string (⟨#[99, 111, 109, 109, 105, 116]⟩ : ByteArray), .int .i64 3, .int .i64 1, .string (⟨#[120]⟩ : ByteArray)] _ _) at HT2
        change Hid (∀ W, Calls _ _ #[.string (⟨#[99, 111, 109, 109, 105, 116]⟩ : ByteArray), .int .i64 2, .int .i64 0, .string (⟨#[120]⟩ : ByteArray)] _ _) at HT3
        change Hid (∀ W, Calls _ _ #[.string (⟨#[99, 111, 109, 109, 105, 116]⟩ : ByteArray), .int .i64 2, .int .i64 1, .string (⟨#[121]⟩ : ByteArray)] _ _) at HT4
        have HM9 := Lib.hid hmod2
        clear hl0 hix
        go_wp2_with fail
        refine (HT1.out w6).mono ?_
        rintro e x1 ⟨rfl, hx1⟩
        have HX1 := Lib.hid hx1
        clear hx1 HT1
        go_wp2_with fail
        refine (HT2.out x1).mono ?_
        rintro e x2 ⟨rfl, hx2⟩
        have HX2 := Lib.hid (HX1.out.trans hx2)
        clear hx2 HT2 HX1
        go_wp2_with fail
        refine (HT3.out x2).mono ?_
        rintro e x3 ⟨rfl, hx3⟩
        have HX3 := Lib.hid (HX2.out.trans hx3)
        clear hx3 HT3 HX2
        go_wp2_with fail
        refine (HT4.out x3).mono ?_
        rintro e x4 ⟨rfl, hx4⟩
        have HX4 := Lib.hid (HX3.out.trans hx4)
        clear hx4 HT4 HX3 e2
        go_upto_region 15 with fail
        have HTL := Lib.hid (heap_alloc_last x4 (.cells #[.string (blB ⟨1, 2, 1, 120⟩), .string (blB ⟨2, 3, 1, 120⟩), .string (blB ⟨2, 2, 0, 120⟩), .string (blB ⟨2, 2, 1, 121⟩), .string (⟨#[99, 111, 109, 109, 105, 116, 32, 50, 32, 49, 32, 55]⟩ : ByteArray), .string (⟨#[99, 111, 109, 109, 105, 116, 32, 48, 50, 32, 49, 32, 55, 56]⟩ : ByteArray)] 9))
        have hO7 := HX4.out.alloc (.cells #[.string (blB ⟨1, 2, 1, 120⟩), .string (blB ⟨2, 3, 1, 120⟩), .string (blB ⟨2, 2, 0, 120⟩), .string (blB ⟨2, 2, 1, 121⟩), .string (⟨#[99, 111, 109, 109, 105, 116, 32, 50, 32, 49, 32, 55]⟩ : ByteArray), .string (⟨#[99, 111, 109, 109, 105, 116, 32, 48, 50, 32, 49, 32, 55, 56]⟩ : ByteArray)] 9)
        have HTS := Lib.hid (show ∀ j, j < 6 → x4.heap.size < (x4.alloc (.cells #[.string (blB ⟨1, 2, 1, 120⟩), .string (blB ⟨2, 3, 1, 120⟩), .string (blB ⟨2, 2, 0, 120⟩), .string (blB ⟨2, 2, 1, 121⟩), .string (⟨#[99, 111, 109, 109, 105, 116, 32, 50, 32, 49, 32, 55]⟩ : ByteArray), .string (⟨#[99, 111, 109, 109, 105, 116, 32, 48, 50, 32, 49, 32, 55, 56]⟩ : ByteArray)] 9)).heap.size ∧ ∃ x : Tx, TxOk x ∧ (x4.alloc (.cells #[.string (blB ⟨1, 2, 1, 120⟩), .string (blB ⟨2, 3, 1, 120⟩), .string (blB ⟨2, 2, 0, 120⟩), .string (blB ⟨2, 2, 1, 121⟩), .string (⟨#[99, 111, 109, 109, 105, 116, 32, 50, 32, 49, 32, 55]⟩ : ByteArray), .string (⟨#[99, 111, 109, 109, 105, 116, 32, 48, 50, 32, 49, 32, 55, 56]⟩ : ByteArray)] 9)).cell? ⟨x4.heap.size, j, none⟩ = some (.string x.t) from fun j hj => ⟨by simp, by
          obtain rfl | rfl | rfl | rfl | rfl | rfl : j = 0 ∨ j = 1 ∨ j = 2 ∨ j = 3 ∨ j = 4 ∨ j = 5 := by omega
          · exact ⟨.bl ⟨1, 2, 1, 120⟩, ⟨by decide, by decide, by decide, by decide⟩, cell_of_row _ _ 0 _ _ _ HTL.out⟩
          · exact ⟨.bl ⟨2, 3, 1, 120⟩, ⟨by decide, by decide, by decide, by decide⟩, cell_of_row _ _ 1 _ _ _ HTL.out⟩
          · exact ⟨.bl ⟨2, 2, 0, 120⟩, ⟨by decide, by decide, by decide, by decide⟩, cell_of_row _ _ 2 _ _ _ HTL.out⟩
          · exact ⟨.bl ⟨2, 2, 1, 121⟩, ⟨by decide, by decide, by decide, by decide⟩, cell_of_row _ _ 3 _ _ _ HTL.out⟩
          · exact ⟨.odd, trivial, cell_of_row _ _ 4 _ _ _ HTL.out⟩
          · exact ⟨.long, trivial, cell_of_row _ _ 5 _ _ _ HTL.out⟩⟩)
        clear HTL HX4
        generalize blB ⟨1, 2, 1, 120⟩ = b1 at *
        generalize blB ⟨2, 3, 1, 120⟩ = b2 at *
        generalize blB ⟨2, 2, 0, 120⟩ = b3 at *
        generalize blB ⟨2, 2, 1, 121⟩ = b4 at *
        generalize x4.alloc _ = w7 at *
        generalize x4.heap.size = tb at *
        have HO7 := Lib.hid hO7
        have HD7 := Lib.hid (show DcAt w7 gd 2 _ from row_still hO7 HD6.out)
        have HOW7 := Lib.hid (hO7.owns HOW6.out (fun _ _ h => h))
        have HS7 := Lib.hid (hO7.owns HS6.out (fun _ _ h => h))
        have HQ7 := Lib.hid (row_still hO7 HQ6.out)
        have hqs7 : w.heap.size < w7.heap.size := (Array.getElem?_eq_some_iff.1 HQ7.out).1
        have hgd7 : gd < w7.heap.size := (Array.getElem?_eq_some_iff.1 HD7.out).1
        have hgv7 : gv < w7.heap.size := Nat.lt_of_lt_of_le hgv hO7.size
        have e2 : w7.cell? ⟨gd, 2, none⟩ = some (Value.slice (some ⟨gv, 0, none⟩) L.length cv) := cell_of_row _ _ 2 _ _ _ HD7.out
        have g0 : w7.cell? ⟨w.heap.size, 0, none⟩ = some (Value.int .u8 q0) := cell_of_row _ _ 0 _ _ _ HQ7.out
        have hwr7 : w7.ownsRow (gd + 1) 35 4 (.slice (some ⟨gv, 0, none⟩) L.length cv) L.length ((L.map (vbVr (crewM ws))).flatMap vrC) := by
          rw [← vbrow_vr]
          exact HOW7.out
        have HWR7 := Lib.hid hwr7
        have hml : (L.map (vbVr (crewM ws))).length = L.length := List.length_map ..
        have HML7 := Lib.hid hml
        have hva : vrAt (L.map (vbVr (crewM ws))) ix = vbVr (crewM ws) (vbAt L ix) := by
          unfold vrAt vbAt
          rw [lgetD _ _ (by rw [hml]; exact hixl), lgetD _ _ hixl, List.getElem_map]
        have HVA := Lib.hid hva
        have HOKI := Lib.hid (HOKV.out _ (vbAt_mem hixl))
        obtain ⟨m9, hm9⟩ : ∃ m9 : Nat, q0 % 9 = m9 := ⟨_, rfl⟩
        have hq9 : (q0 : Int) % 9 = (m9 : Int) := by omega
        have hq9l : m9 < 9 := by omega
        clear hO7 hwr7 hml hva hm9 hq9l hgv
        by_cases h6 : m9 = 6
        · subst h6
          have hrg := ranges_of_own HWR7.out HML7.out ix hixl
          have hth := there_of_own HWR7.out HML7.out hixl
          rw [HVA.out] at hrg
          have v3 := hrg 3 _ rfl
          have f3 := (hth 3 (by decide)).2
          have hsb := sgS_bd (secOf (crewM ws) (vbAt L ix).who) (blB (vbAt L ix).b)
          change 0 ≤ vbS (crewM ws) (vbAt L ix) ∧ vbS (crewM ws) (vbAt L ix) < _ at hsb
          change _ = some (Value.int .i64 (vbS (crewM ws) (vbAt L ix))) at v3
          have HR := Lib.hid (show ChAt gd w6 (w7.setCell ⟨gv, ix * 4 + 3, none⟩ (.int .i64 (vbS (crewM ws) (vbAt L ix) + 1))) from by
            have hb := own_block HWR7.out
            have hOs : Only (fun j => j = gv) w7 (w7.setCell ⟨gv, ix * 4 + 3, none⟩ (.int .i64 (vbS (crewM ws) (vbAt L ix) + 1))) := (Only.refl (fun j => j = gv) w7).setCell (.inl rfl) _
            have hv := vrs_setS HWR7.out HML7.out hixl (vbS (crewM ws) (vbAt L ix) + 1)
            refine ⟨2, _, _, ?_, hv, set_okV (vbs_ok fun v hv => (HOKV.out v hv).1) ?_, ?_, (HO7.out.mono fun _ _ h => h.elim).trans (hOs.mono fun j _ e => by omega)⟩
            · unfold DcAt
              rw [hOs.block gd hgd7 (fun e => by omega)]
              exact HD7.out
            · have := vbs_ok (ms := crewM ws) (fun v hv => (HOKV.out v hv).1) _ (vrAt_mem (vs := L.map (vbVr (crewM ws))) (k := ix) (by rw [HML7.out]; exact hixl))
              exact ⟨this.x, this.who⟩
            · rw [List.length_set, HML7.out]
              have := HON.out
              omega)
          clear hrg hth
          go_wp2_with fail
          go_meet
          exact HR.out
        by_cases h7 : m9 = 7
        · subst h7
          have hrg := ranges_of_own HWR7.out HML7.out ix hixl
          rw [HVA.out] at hrg
          have HVO := Lib.hid HOKI.out.1
          obtain ⟨o, ho⟩ : ∃ o, vbAt L ix = o := ⟨_, rfl⟩
          rw [ho] at hrg HVO
          have v0 : _ = some (Value.int .i64 o.who) := hrg 0 _ rfl
          have v1 : _ = some (Value.string (blB o.b)) := hrg 1 _ rfl
          have v2 : _ = some (Value.int .i64 (vbR (crewM ws) o)) := hrg 2 _ rfl
          have v3 : _ = some (Value.int .i64 (vbS (crewM ws) o)) := hrg 3 _ rfl
          have HVC := Lib.hid (show vbC (crewM ws) o = [.int .i64 o.who, .string (blB o.b), .int .i64 (vbR (crewM ws) o), .int .i64 (vbS (crewM ws) o)] from rfl)
          generalize vbR (crewM ws) o = vR at *
          generalize vbS (crewM ws) o = vS at *
          generalize blB o.b = vT at *
          have HV0 := Lib.hid v0
          have HV1 := Lib.hid v1
          have HV2 := Lib.hid v2
          have HV3 := Lib.hid v3
          have HE2 := Lib.hid e2
          clear hrg ho v0 v1 v2 v3 h6
          go_upto_region 21 with fail
          clear e2 g0
          have hil : (ix : Int) < L.length := by omega
          have hi0 : (0 : Int) ≤ ix := by omega
          refine region_new1 (fr := ?frE) 8 7 (.cells #[.int .i64 o.who, .string vT, .int .i64 vR, .int .i64 vS] 35) (fun g => .slice (some ⟨g, 0, none⟩) 1 1) (fun i => match i with | 0 => .pointer (some ⟨gd, 2, none⟩) | 1 => .slice (some ⟨gv, 0, none⟩) L.length cv | 2 => .pointer (some ⟨gd, 2, none⟩) | 3 => .slice (some ⟨gv, 0, none⟩) L.length cv | 4 => .int .i64 ix | 5 => .pointer (some ⟨gv, ix * 4, none⟩) | 6 => .agg #[.int .i64 o.who, .string vT, .int .i64 vR, .int .i64 vS] | _ => undef) (by kernel_rfl) (by kernel_rfl) (by kernel_rfl) (by kernel_rfl) (by kernel_rfl) (by decide) (by decide) ?frF ?alF ?stepF ?finF
          case frF =>
            simp only [List.take_succ_cons, List.take_zero, frameAll, Act.put, List.getElem?_toArray, List.getElem?_cons_zero, List.getElem?_cons_succ, Option.bind_some, List.setIfInBounds_toArray, List.set_cons_zero, List.set_cons_succ]
            rfl
          case alF => exact ⟨_, rfl, fun W => by go_simp⟩
          case stepF =>
            intro i op W hi hia ho hO
            have c0 : W.cell? ⟨gv, ix * 4, none⟩ = _ := hO.cell HV0.out (fun h => h)
            have c1 : W.cell? ⟨gv, ix * 4 + 1, none⟩ = _ := hO.cell HV1.out (fun h => h)
            have c2 : W.cell? ⟨gv, ix * 4 + 2, none⟩ = _ := hO.cell HV2.out (fun h => h)
            have c3 : W.cell? ⟨gv, ix * 4 + 3, none⟩ = _ := hO.cell HV3.out (fun h => h)
            have e2 := hO.cell HE2.out (fun h => h)
            have hgW : gv < W.heap.size := World.block_lt_of_cell? W _ c0
            have hdW : gd < W.heap.size := World.block_lt_of_cell? W _ e2
            obtain rfl | rfl | rfl | rfl | rfl | rfl | rfl : i = 0 ∨ i = 1 ∨ i = 2 ∨ i = 3 ∨ i = 4 ∨ i = 5 ∨ i = 6 := by omega
            all_goals (simp only [List.getElem?_cons_zero, List.getElem?_cons_succ, Option.some.injEq] at ho; subst ho)
            · refine opV_of_value (w' := W) (v := _) ?_ ⟨rfl, Only.refl _ _⟩
              go_simp
            · refine opV_of_value (w' := W) (v := _) ?_ ⟨rfl, Only.refl _ _⟩
              go_simp
            · refine opV_of_value (w' := W) (v := _) ?_ ⟨rfl, Only.refl _ _⟩
              go_simp
            · refine opV_of_value (w' := W) (v := _) ?_ ⟨rfl, Only.refl _ _⟩
              go_simp
            · refine opV_of_value (w' := W) (v := _) ?_ ⟨rfl, Only.refl _ _⟩
              go_simp
            · refine opV_of_value (w' := W) (v := _) ?_ ⟨rfl, Only.refl _ _⟩
              go_simp
            · refine opV_of_value (w' := W) (v := _) ?_ ⟨rfl, Only.refl _ _⟩
              go_simp
          case finF =>
            intro g w8 hgg hrowg hOg
            simp only [updF, Nat.reduceEqDiff, reduceIte, List.take_succ_cons, List.take_zero, frameAll, Act.put, List.getElem?_toArray, List.getElem?_cons_zero, List.getElem?_cons_succ, Option.bind_some, List.setIfInBounds_toArray, List.set_cons_zero, List.set_cons_succ, List.drop_succ_cons, List.drop_zero]
            have HO8 := Lib.hid (show Only (fun j => gd ≤ j) w6 w8 from (HO7.out.trans hOg).mono fun _ _ h => h.elim)
            have HOW8 := Lib.hid (hOg.owns HOW7.out (fun _ _ h => h))
            have HRG := Lib.hid hrowg
            have HD8 := Lib.hid (show DcAt w8 gd 2 (.slice (some ⟨gv, 0, none⟩) L.length cv) from row_still hOg HD7.out)
            have hgl := (Array.getElem?_eq_some_iff.1 hrowg).1
            have hgd8 : gd < w8.heap.size := (Array.getElem?_eq_some_iff.1 HD8.out).1
            clear hOg hrowg
            have hgd9 : gd + 1 ≤ w8.heap.size := hgd8
            have hHOT := HON.out
            have y4 : w8.cell? ⟨gd, 2, none⟩ = some (Value.slice (some ⟨gv, 0, none⟩) L.length cv) := cell_of_row _ _ 2 _ _ _ HD8.out
            have f4 := frozen_of_row w8 gd 2 _ _ HD8.out
            have hvb : (Value.slice (some ⟨gv, 0, none⟩) L.length cv).ownBlock ≠ some gd := fun e => by have := (own_lt HOW8.out e).2; omega
            go_wp2_with (at_builtin; refine wpList_append_lies _ rfl _ _ 29 rfl (gd + 1) 35 i0 _ 4 40 Tryz.underlying29 HI.out HI0.out HI1.out HI2.out rfl (by decide) _ L.length (vbrow (crewM ws) L) rfl HOW8.out ⟨g, 0, none⟩ 1 1 [.int .i64 o.who, .string vT, .int .i64 vR, .int .i64 vS] rfl rfl (World.news_of_block (cs := #[.int .i64 o.who, .string vT, .int .i64 vR, .int .i64 vS]) (t := 35) (fr := (0, 0)) HRG.out) (four_one _ _ _ _) (by decide) (by unfold maxLen; omega) (by omega) (by omega) _ rfl ?_; intro g1 cp1 w5 ho5 hg5 ha5 hgl5; have yB := hg5.cell y4 (Ne.symm hvb); have fB := (hg5.frozen_far ⟨gd, 2, none⟩ hgd8 (Ne.symm hvb)).trans f4)
            have HR := Lib.hid (show ChAt gd w6 (w5.setCell ⟨gd, 2, none⟩ (.slice (some ⟨g1, 0, none⟩) (L.length + 1) cp1)) from by
              have hO5 := HO8.out.trans' ((Only.refl (fun j => (Value.slice (some ⟨gv, 0, none⟩) L.length cv).ownBlock = some j) w8).grown hg5 (fun j e _ => e)) (fun j hj e => by
                have h1 := (own_lt HOW8.out e).2
                show gd ≤ j
                omega)
              have hb5 : w5.heap[gd]? = some (.cells #[.int .i64 2, .string (⟨#[120]⟩ : ByteArray), .slice (some ⟨gv, 0, none⟩) L.length cv] 31 (0, 0)) :=
                (((Only.refl (fun j => (Value.slice (some ⟨gv, 0, none⟩) L.length cv).ownBlock = some j) w8).grown hg5 (fun j e _ => e)).block gd hgd8 hvb).trans HD8.out
              have hOs : Only (fun i => i = gd) w5 (w5.setCell ⟨gd, 2, none⟩ (.slice (some ⟨g1, 0, none⟩) (L.length + 1) cp1)) := (Only.refl (fun i => i = gd) w5).setCell (.inl rfl) _
              refine ⟨2, _, _, ?_, vrs_of_ownR (l := L ++ [o]) (ms := crewM ws) (hOs.owns (by rw [show vbrow (crewM ws) (L ++ [o]) = vbrow (crewM ws) L ++ [.int .i64 o.who, .string vT, .int .i64 vR, .int .i64 vS] from by rw [← HVC.out]; unfold vbrow; rw [List.flatMap_append]; simp]; exact ho5) fun j hj e => by
                  have := (own_lt ho5 hj).2
                  omega) (by rw [List.length_append]; rfl), vbs_ok fun v hv => ?_, ?_, hO5.trans (hOs.mono fun j _ e => by omega)⟩
              · unfold DcAt
                rw [heap_setCell_same w5 gd 2 _ _ _ hb5]
                rfl
              · rcases List.mem_append.1 hv with h | h
                · exact (HOKV.out v h).1
                · rw [List.mem_singleton.1 h]
                  exact HVO.out
              · rw [List.length_map, List.length_append]
                show _ + 1 ≤ _
                omega)
            clear yB fB y4 f4 ho5 hg5 ha5 hgl5
            go_meet
            exact HR.out
        by_cases h8 : m9 = 8
        · subst h8
          have d0 : w7.cell? ⟨gd, 0, none⟩ = some (Value.int .i64 2) := cell_of_row _ _ 0 _ _ _ HD7.out
          have f0 := frozen_of_row w7 gd 0 _ _ HD7.out
          have HR := Lib.hid (show ChAt gd w6 (w7.setCell ⟨gd, 0, none⟩ (.int .i64 3)) from by
            have hOs : Only (fun i => i = gd) w7 (w7.setCell ⟨gd, 0, none⟩ (.int .i64 3)) := (Only.refl (fun i => i = gd) w7).setCell (.inl rfl) _
            refine ⟨3, _, _, ?_, vrs_of_own (ms := crewM ws) (hOs.owns HOW7.out fun j hj e => by
              have := (own_lt HOW7.out hj).2
              omega), vbs_ok fun v hv => (HOKV.out v hv).1, ?_, (HO7.out.mono fun _ _ h => h.elim).trans (hOs.mono fun j _ e => by omega)⟩
            · unfold DcAt
              rw [heap_setCell_same w7 gd 0 _ _ _ HD7.out]
              rfl
            · rw [List.length_map]
              have := HON.out
              omega)
          clear h6 h7
          go_wp2_with fail
          go_meet
          exact HR.out
        have hlt6 : (m9 : Int) < 6 := by
          have : m9 < 9 := by omega
          omega
        have q6 : ((m9 : Int) == 6) = false := beq_eq_false_iff_ne.2 (by omega)
        have q7 : ((m9 : Int) == 7) = false := beq_eq_false_iff_ne.2 (by omega)
        have q8 : ((m9 : Int) == 8) = false := beq_eq_false_iff_ne.2 (by omega)
        have hrg := ranges_of_own HWR7.out HML7.out ix hixl
        rw [HVA.out] at hrg
        obtain ⟨o, ho⟩ : ∃ o, vbAt L ix = o := ⟨_, rfl⟩
        rw [ho] at hrg HOKI
        have v0 : w7.cell? ⟨gv, ix * 4, none⟩ = some (Value.int .i64 o.who) := hrg 0 _ rfl
        clear h6 h7 h8 hrg ho
        go_upto_region 17 with fail
        have hwk : o.who < k := HOKI.out.2
        have hsl : (secsOf (crewM ws)).length = k := by unfold secsOf; rw [List.length_map, HN.out]
        obtain ⟨sb, rfl, hc1, hc2, hsv⟩ := ownI_cells HS7.out hsl hwk
        obtain ⟨htl, tx, hto, htc⟩ := HTS.out m9 (by omega)
        have hts := tx_size tx hto
        have HTX := Lib.hid hto
        generalize (secsOf (crewM ws)).getD o.who 0 = sc at *
        have HVO := Lib.hid (fun W => rvote_any (o.who : Int) sc tx.t W (by omega))
        have HSV := Lib.hid hsv
        have HTC := Lib.hid htc
        have HE2 := Lib.hid e2
        have HG0 := Lib.hid g0
        have i2 : (o.who : Int) < k := by omega
        have i3 : (0 : Int) ≤ o.who := by omega
        have i4 : (0 : Int) ≤ m9 := by omega
        have i5 : (q0 : Int).tmod 9 = (m9 : Int) := (Int.tmod_eq_emod_of_nonneg (by omega)).trans hq9
        clear hsl hsv htc hto v0 e2 g0
        refine region_val (fr := ?frG) 15 (fun i => match i with | 0 => .pointer (some ⟨gd, 2, none⟩) | 1 => .slice (some ⟨gv, 0, none⟩) L.length cv | 2 => .int .i64 ix | 3 => .int .i64 o.who | 4 => .slice (some ⟨sb, 0, none⟩) k csc | 5 => .int .i64 o.who | 6 => .pointer (some ⟨sb, o.who, none⟩) | 7 => .int .i64 sc | 8 => .slice (some ⟨tb, 0, none⟩) 6 6 | 9 => .pointer (some ⟨w.heap.size, 0, none⟩) | 10 => .int .u8 q0 | 11 => .int .u8 m9 | 12 => .pointer (some ⟨tb, m9, none⟩) | 13 => .string tx.t | _ => .agg #[.int .i64 o.who, .string tx.t, .int .i64 (sgR sc tx.t), .int .i64 (sgS sc tx.t)]) (by kernel_rfl) (by kernel_rfl) (by kernel_rfl) (by kernel_rfl) (by decide) ?frH ?stepG ?finG
        case frH =>
          simp only [List.take_succ_cons, List.take_zero, frameAll, Act.put, List.getElem?_toArray, List.getElem?_cons_zero, List.getElem?_cons_succ, Option.bind_some, List.setIfInBounds_toArray, List.set_cons_zero, List.set_cons_succ]
          rfl
        case stepG =>
          intro i op W hi ho hO
          have e2 := hO.cell HE2.out (fun h => h)
          have g0 := hO.cell HG0.out (fun h => h)
          have s0 := hO.cell HSV.out (fun h => h)
          have t0 := hO.cell HTC.out (fun h => h)
          have hdW : gd < W.heap.size := World.block_lt_of_cell? W _ e2
          have hgW : w.heap.size < W.heap.size := World.block_lt_of_cell? W _ g0
          have hsW : sb < W.heap.size := World.block_lt_of_cell? W _ s0
          have htW : tb < W.heap.size := World.block_lt_of_cell? W _ t0
          have hvW : gv < W.heap.size := Nat.lt_of_lt_of_le hgv7 hO.size
          obtain rfl | rfl | rfl | rfl | rfl | rfl | rfl | rfl | rfl | rfl | rfl | rfl | rfl | rfl | rfl : i = 0 ∨ i = 1 ∨ i = 2 ∨ i = 3 ∨ i = 4 ∨ i = 5 ∨ i = 6 ∨ i = 7 ∨ i = 8 ∨ i = 9 ∨ i = 10 ∨ i = 11 ∨ i = 12 ∨ i = 13 ∨ i = 14 := by omega
          all_goals (simp only [List.getElem?_cons_zero, List.getElem?_cons_succ, Option.some.injEq] at ho; subst ho)
          rotate_right
          · refine opV_of_enter (w' := W) (f := 8) (args := #[.int .i64 o.who, .int .i64 sc, .string tx.t]) (by kernel_rfl) ((HVO.out W).mono ?_)
            rintro e W' ⟨rfl, hO'⟩
            exact ⟨_, rfl, rfl, hO'⟩
          all_goals (refine opV_of_value (w' := W) (v := _) ?_ ⟨rfl, Only.refl _ _⟩; go_simp)
        case finG =>
          intro w8 hO8
          have HWR8 := Lib.hid (hO8.owns HWR7.out (fun _ _ h => h))
          have HD8 := Lib.hid (show DcAt w8 gd 2 (.slice (some ⟨gv, 0, none⟩) L.length cv) from row_still hO8 HD7.out)
          have HO8 := Lib.hid (show Only (fun j => gd ≤ j) w6 w8 from (HO7.out.trans hO8).mono fun _ _ h => h.elim)
          have hgv8 := Nat.lt_of_lt_of_le hgv7 hO8.size
          have HTH := Lib.hid (there_of_own HWR8.out HML7.out hixl)
          have HR := Lib.hid (show ChAt gd w6 (w8.setCells gv (ix * 4) (vrC ⟨o.who, tx, sgR sc tx.t, sgS sc tx.t⟩)) from by
            have hb := own_block HWR8.out
            have hOs := only_setCells gv (vrC ⟨o.who, tx, sgR sc tx.t, sgS sc tx.t⟩) (ix * 4) w8
            refine ⟨2, _, _, ?_, vrs_store HWR8.out HML7.out hixl _, set_okV (vbs_ok fun v hv => (HOKV.out v hv).1) ⟨HTX.out, ?_⟩, ?_, HO8.out.trans (hOs.mono fun j _ e => by omega)⟩
            · unfold DcAt
              rw [hOs.block gd (Nat.lt_of_lt_of_le hgd7 hO8.size) (fun e => by omega)]
              exact HD8.out
            · show -9223372036854775808 ≤ (o.who : Int) ∧ (o.who : Int) ≤ 9223372036854775807
              have := HN5.out
              omega
            · rw [List.length_set, HML7.out]
              have := HON.out
              omega)
          clear hO8 HVO
          go_wp2_with (first | (refine wpList_store_mid rfl 35 _ _ rfl gv (ix * 4) #[.int .i64 o.who, .string tx.t, .int .i64 (sgR sc tx.t), .int .i64 (sgS sc tx.t)] rfl rfl HTH.out Tryz.infoVote (vote_one _ _ _ _) ?_))
          go_meet
          exact HR.out
      case rest =>
      obtain ⟨H, dv, vs, hD, hV, hok, hvl, hO⟩ := hcut
      generalize wc = w7 at *
      have HD7 := Lib.hid hD
      have HV7 := Lib.hid hV
      have HOK := Lib.hid hok
      have HO7 := Lib.hid (show Only (fun _ => False) w0 w7 from HO6.out.trans' hO fun j hj e => by
        have := HGB.out
        omega)
      have HM7 := Lib.hid (hO.owns HM6.out (fun j hj e => by have := HML.out j hj; omega))
      have HMB7 := Lib.hid (show MbsAt w7 (.slice am k cm) (mbsOf (crewM ws)) from mbs_own3 (l := mbsOf (crewM ws)) (by rw [mbsOf_len, HN.out]; exact HM7.out))
      clear hD hV hok hO HD6 HOW6 HM6 HS6 HO6 HQ6
      obtain ⟨b1, hb1⟩ : ∃ b, ckB (mbsOf (crewM ws)) H (oneB 120) vs = b := ⟨_, rfl⟩
      have HB1 := Lib.hid hb1
      clear hb1
      by_cases hk0 : k = 0
      case' pos =>
        have qz : ¬ 0 < (k : Int) := by omega
        clear hk0
        go_upto_region 27 with fail
        clear qz
        obtain ⟨l2, hl2⟩ : ∃ l2, mbsOf (crewM ws) = l2 := ⟨_, rfl⟩
        have HY := Lib.hid (show MbsAt w7 (.slice am k cm) l2 from by rw [← hl2]; exact HMB7.out)
        have HYW := Lib.hid (show MbsW l2 ∧ l2.length ≤ 6 from by rw [← hl2]; exact ⟨crew_w ws, by rw [mbsOf_len, HN.out]; have := HN5.out; omega⟩)
        generalize w7 = w8 at *
      case' neg =>
        have hkp : 0 < (k : Int) := by omega
        obtain ⟨m5, hm5⟩ : ∃ m5 : Nat, q1 % 5 = m5 := ⟨_, rfl⟩
        have hq5 : (q1 : Int) % 5 = (m5 : Int) := by omega
        by_cases h4 : m5 = 4
        case' neg =>
          have q4 : ((m5 : Int) == 4) = false := beq_eq_false_iff_ne.2 (by omega)
          go_upto_region 27 with fail
          clear q4
          obtain ⟨l2, hl2⟩ : ∃ l2, mbsOf (crewM ws) = l2 := ⟨_, rfl⟩
          have HY := Lib.hid (show MbsAt w7 (.slice am k cm) l2 from by rw [← hl2]; exact HMB7.out)
          have HYW := Lib.hid (show MbsW l2 ∧ l2.length ≤ 6 from by rw [← hl2]; exact ⟨crew_w ws, by rw [mbsOf_len, HN.out]; have := HN5.out; omega⟩)
          generalize w7 = w8 at *
        case' pos =>
          subst h4
          go_upto_region 26 with fail
          obtain ⟨j0, hj, hy0, hy1, hy2⟩ := info_parts Tryz.infoMbz
          obtain ⟨ga, rfl, hma1, hma2, hga⟩ := own_some HM7.out (show 0 < k by omega)
          have hkl : k < (crewM ws).length ∨ k = (crewM ws).length := .inr HN.out.symm
          have hm0 := fun j (hj : j < k * 3) => HM7.out.cellAt j hj
          have h3 : 3 ≤ k * 3 := by omega
          have hrow : ∀ j, j < 3 → ((mbsOf (crewM ws)).flatMap mb3)[j]? = (mb3 (mbAt (mbsOf (crewM ws)) 0))[j]? := fun j hj => by
            have := mb3_get (l := mbsOf (crewM ws)) (j := 0) (k := j) (by rw [mbsOf_len, HN.out]; omega) hj
            rw [Nat.zero_mul, Nat.zero_add] at this
            exact this
          have m0 : w7.cell? ⟨ga, 0, none⟩ = some (Value.int .i64 (mbAt (mbsOf (crewM ws)) 0).id) := (hm0 0 (by omega)).trans (hrow 0 (by decide))
          have m1 : w7.cell? ⟨ga, 1, none⟩ = some (Value.int .i64 (mbAt (mbsOf (crewM ws)) 0).wt) := (hm0 1 (by omega)).trans (hrow 1 (by decide))
          have m2 : w7.cell? ⟨ga, 2, none⟩ = some (Value.int .i64 (mbAt (mbsOf (crewM ws)) 0).pb) := (hm0 2 (by omega)).trans (hrow 2 (by decide))
          have HNW := Lib.hid (show ∀ W, Only (fun _ => False) w7 W → ∀ j u, ((mbsOf (crewM ws)).flatMap mb3)[j]? = some u → W.cell? ((⟨ga, 0, none⟩ : Addr).add j) = some u from fun W h j u hu => by
            have hjl := (List.getElem?_eq_some_iff.1 hu).1
            rw [mb3_len, mbsOf_len, HN.out] at hjl
            rw [addr_add, Nat.zero_add]
            exact h.cell ((hm0 j hjl).trans hu) (fun h => h))
          have HLN := Lib.hid (show ((mbsOf (crewM ws)).flatMap mb3).length = k * 3 by rw [mb3_len, mbsOf_len, HN.out])
          clear hm0 hrow hkl
          refine wp_region_split3 7 (by kernel_rfl) (by kernel_rfl) ?_
          simp only [List.take_succ_cons, List.take_zero]
          refine wpAny_by_facts _ _ (otFact w7 (mbsOf (crewM ws)) ga k cm) trueRel (by kernel_rfl) (by kernel_rfl) otFact_still ?stepH ?finH
          case stepH =>
            intro i o f wx ho hO hW
            have hi : i < 7 := by have := (Array.getElem?_eq_some_iff.1 ho).1; simpa using this
            have hOx : Only (fun _ => False) w7 wx := ((Only.refl _ w7).drew).trans hO
            have c0 := hOx.cell m0 (fun h => h)
            have c1 := hOx.cell m1 (fun h => h)
            have c2 := hOx.cell m2 (fun h => h)
            have hgx : ga < wx.heap.size := World.block_lt_of_cell? _ _ c0
            obtain rfl | rfl | rfl | rfl | rfl | rfl | rfl : i = 0 ∨ i = 1 ∨ i = 2 ∨ i = 3 ∨ i = 4 ∨ i = 5 ∨ i = 6 := by omega
            all_goals (simp only [List.getElem?_toArray, List.getElem?_cons_zero, List.getElem?_cons_succ, Option.some.injEq] at ho; subst ho)
            · exact otFact_new (v := .slice (some ⟨wx.heap.size, 0, none⟩) 0 0) (ob := .cells #[] 41) (by kernel_rfl) ⟨wx.heap.size, rfl, heap_alloc_new wx _⟩
            · exact otFact_val (v := .slice (some ⟨ga, 0, none⟩) k cm) (by kernel_rfl) rfl
            · obtain ⟨g0, h0, hg0⟩ : ∃ g, f 0 = .slice (some ⟨g, 0, none⟩) 0 0 ∧ wx.heap[g]? = some (.cells #[] 41 (0, 0)) := hW 0 (by kernel_rfl)
              have h1 : f 1 = .slice (some ⟨ga, 0, none⟩) k cm := hW 1 (by kernel_rfl)
              refine opV_append_new _ _ 25 rfl 41 j0 _ 3 24 Tryz.underlying25 hj hy0 hy1 hy2 rfl (by decide) g0 (Eq.trans (by kernel_rfl) h0) hg0 ⟨ga, 0, none⟩ k cm ((mbsOf (crewM ws)).flatMap mb3) (Eq.trans (by kernel_rfl) h1) HLN.out (HNW.out wx hOx) (mb3_one _) (by omega) (by unfold maxLen; omega) (by omega) ?_
              intro v' W' hown hO'
              exact ⟨hO', own_baseA hown hOx.size, fun _ _ _ _ => ⟨trivial, trivial⟩⟩
            · exact otFact_val (v := .slice (some ⟨ga, 0, none⟩) k cm) (by kernel_rfl) rfl
            · have h3 : f 3 = .slice (some ⟨ga, 0, none⟩) k cm := hW 3 (by kernel_rfl)
              refine otFact_val (v := .pointer (some ⟨ga, 0, none⟩)) ((show (execOp _ _).run Tryz.prog wx = (execOp (oneOp (f 3)) { dst := none, op := .indexAddr 25 (.tmp 139) (.const (.int .i64 0)), type := 0, pos := "", after := #[], guard := none }).run Tryz.prog wx by kernel_rfl).trans ?_) rfl
              rw [h3]
              unfold oneOp
              go_simp
            · have h4 : f 4 = .pointer (some ⟨ga, 0, none⟩) := hW 4 (by kernel_rfl)
              refine otFact_val (v := .agg #[.int .i64 (mbAt (mbsOf (crewM ws)) 0).id, .int .i64 (mbAt (mbsOf (crewM ws)) 0).wt, .int .i64 (mbAt (mbsOf (crewM ws)) 0).pb]) ((show (execOp _ _).run Tryz.prog wx = (execOp (oneOp (f 4)) { dst := none, op := .load 41 (.tmp 140), type := 0, pos := "", after := #[], guard := none }).run Tryz.prog wx by kernel_rfl).trans ?_) rfl
              rw [h4]
              unfold oneOp
              go_simp
            · have h5 : f 5 = .agg #[.int .i64 (mbAt (mbsOf (crewM ws)) 0).id, .int .i64 (mbAt (mbsOf (crewM ws)) 0).wt, .int .i64 (mbAt (mbsOf (crewM ws)) 0).pb] := hW 5 (by kernel_rfl)
              refine otFact_new (v := .slice (some ⟨wx.heap.size, 0, none⟩) 1 1) (ob := .cells #[.int .i64 (mbAt (mbsOf (crewM ws)) 0).id, .int .i64 (mbAt (mbsOf (crewM ws)) 0).wt, .int .i64 (mbAt (mbsOf (crewM ws)) 0).pb] 41) ((show (execOp _ _).run Tryz.prog wx = (execOp (oneOp (f 5)) { dst := none, op := .buildSlice 25 1 #[(0, .tmp 141)], type := 0, pos := "", after := #[], guard := none }).run Tryz.prog wx by kernel_rfl).trans ?_) ⟨wx.heap.size, rfl, heap_alloc_new wx _⟩
              rw [h5]
              unfold oneOp
              go_simp
          case' finH =>
            intro f wx hO hF _
            have hOx : Only (fun _ => False) w7 wx := ((Only.refl _ w7).drew).trans hO
            have h1 : f 1 = .slice (some ⟨ga, 0, none⟩) k cm := hF 1 (by decide)
            have h2 : wx.ownsRow w7.heap.size 41 3 (f 2) k ((mbsOf (crewM ws)).flatMap mb3) := hF 2 (by decide)
            have h3 : f 3 = .slice (some ⟨ga, 0, none⟩) k cm := hF 3 (by decide)
            obtain ⟨g0, h0, -⟩ : ∃ g, f 0 = .slice (some ⟨g, 0, none⟩) 0 0 ∧ wx.heap[g]? = some (.cells #[] 41 (0, 0)) := hF 0 (by decide)
            have h4 : f 4 = .pointer (some ⟨ga, 0, none⟩) := hF 4 (by decide)
            have h5 : f 5 = .agg #[.int .i64 (mbAt (mbsOf (crewM ws)) 0).id, .int .i64 (mbAt (mbsOf (crewM ws)) 0).wt, .int .i64 (mbAt (mbsOf (crewM ws)) 0).pb] := hF 5 (by decide)
            obtain ⟨g6, h6, hg6⟩ : ∃ g, f 6 = .slice (some ⟨g, 0, none⟩) 1 1 ∧ wx.heap[g]? = some (.cells #[.int .i64 (mbAt (mbsOf (crewM ws)) 0).id, .int .i64 (mbAt (mbsOf (crewM ws)) 0).wt, .int .i64 (mbAt (mbsOf (crewM ws)) 0).pb] 41 (0, 0)) := hF 6 (by decide)
            obtain ⟨a2, c2, h2e⟩ := slice_of_own h2
            rw [h2e] at h2
            have HOX := Lib.hid hOx
            have H2 := Lib.hid h2
            have HG6 := Lib.hid hg6
            have hs7 := hOx.size
            simp only [headPost, List.drop_succ_cons, List.drop_zero, frameAll, Act.put, List.size_toArray, List.length_cons, List.length_nil, List.getElem?_toArray, List.getElem?_cons_zero, List.getElem?_cons_succ, Option.bind_some, List.setIfInBounds_toArray, List.set_cons_zero, List.set_cons_succ]
            rw [h0, h1, h2e, h3, h4, h5, h6]
            clear h0 h1 h2 h2e h3 h4 h5 h6 hg6 hO hF hOx m0 m1 m2 HNW
            go_wp2_with (at_builtin; refine wpList_append_lies _ rfl _ _ 25 rfl w7.heap.size 41 j0 _ 3 24 Tryz.underlying25 hj hy0 hy1 hy2 rfl (by decide) _ k ((mbsOf (crewM ws)).flatMap mb3) rfl H2.out ⟨g6, 0, none⟩ 1 1 [.int .i64 (mbAt (mbsOf (crewM ws)) 0).id, .int .i64 (mbAt (mbsOf (crewM ws)) 0).wt, .int .i64 (mbAt (mbsOf (crewM ws)) 0).pb] rfl rfl (World.news_of_block (cs := #[.int .i64 (mbAt (mbsOf (crewM ws)) 0).id, .int .i64 (mbAt (mbsOf (crewM ws)) 0).wt, .int .i64 (mbAt (mbsOf (crewM ws)) 0).pb]) (t := 41) (fr := (0, 0)) HG6.out) (three_intA _ _ _) (by decide) (by unfold maxLen; omega) (by omega) (by omega) _ rfl ?_; intro g1 cp1 w8 ho8 hg8 ha8 hgl8)
            have HO8 := Lib.hid (HOX.out.grow H2.out (Nat.le_refl _) hg8)
            have HY := Lib.hid (show MbsAt w8 (.slice (some ⟨g1, 0, none⟩) (k + 1) cp1) (mbsOf (crewM ws) ++ [mbAt (mbsOf (crewM ws)) 0]) from mbs_own3 (base := w7.heap.size) (by
              rw [List.length_append, mbsOf_len, HN.out, List.flatMap_append]
              exact ho8))
            have HD8 := Lib.hid (show DcAt w8 gd H dv from row_still HO8.out HD7.out)
            have HV8 := Lib.hid (VrsAt.only HO8.out HV7.out)
            have HMB8 := Lib.hid (MbsAt.only HO8.out HMB7.out)
            have HOF8 := Lib.hid (HO7.out.trans HO8.out)
            clear ho8 hg8 ha8 hgl8 HD7 HV7 HMB7 HO7 HM7
            obtain ⟨l2, hl2⟩ : ∃ l2, mbsOf (crewM ws) ++ [mbAt (mbsOf (crewM ws)) 0] = l2 := ⟨_, rfl⟩
            have HYW := Lib.hid (show MbsW l2 ∧ l2.length ≤ 6 from by rw [← hl2]; exact ⟨mbsW_snoc (crew_w ws), by rw [List.length_append, mbsOf_len, HN.out]; have := HN5.out; show _ + 1 ≤ _; omega⟩)
            rw [hl2] at HY
            have HD7 := HD8
            have HV7 := HV8
            have HMB7 := HMB8
            have HO7 := HOF8
            clear HD8 HV8 HMB8 HOF8 HO8
            go_upto_region 27 with fail
      all_goals
        obtain ⟨b2, hb2⟩ : ∃ b, ckB l2 H (oneB 120) vs = b := ⟨_, rfl⟩
        have HC1 := Lib.hid (fun W (hW : Only (fun _ => False) w8 W) => check_any _ dv (mbsOf (crewM ws)) H (oneB 120) _ b1 W (crew_w ws) (MbsAt.only hW HMB7.out) (VrsAt.only hW HV7.out) (by rw [mbsOf_len, HN.out]; have := HN5.out; omega) hvl HOK.out HB1.out (HG.out.only (HO7.out.trans hW)))
        have HC2 := Lib.hid (fun W (hW : Only (fun _ => False) w8 W) => rcheck_any _ dv (mbsOf (crewM ws)) H (oneB 120) _ b1 W (crew_w ws) (MbsAt.only hW HMB7.out) (VrsAt.only hW HV7.out) hvl HOK.out HB1.out)
        have HC3 := Lib.hid (fun W (hW : Only (fun _ => False) w8 W) => check_any _ dv l2 H (oneB 120) _ b2 W HYW.out.1 (MbsAt.only hW HY.out) (VrsAt.only hW HV7.out) (by have := HYW.out.2; omega) hvl HOK.out hb2 (HG.out.only (HO7.out.trans hW)))
        have HC4 := Lib.hid (fun W (hW : Only (fun _ => False) w8 W) => rcheck_any _ dv l2 H (oneB 120) _ b2 W HYW.out.1 (MbsAt.only hW HY.out) (VrsAt.only hW HV7.out) hvl HOK.out hb2)
        change Hid (∀ W, _ → Calls _ _ #[_, .agg #[_, .string (⟨#[120]⟩ : ByteArray), _]] W _) at HC1
        change Hid (∀ W, _ → Calls _ _ #[_, .agg #[_, .string (⟨#[120]⟩ : ByteArray), _]] W _) at HC2
        change Hid (∀ W, _ → Calls _ _ #[_, .agg #[_, .string (⟨#[120]⟩ : ByteArray), _]] W _) at HC3
        change Hid (∀ W, _ → Calls _ _ #[_, .agg #[_, .string (⟨#[120]⟩ : ByteArray), _]] W _) at HC4
        have e0 : w8.cell? ⟨gd, 0, none⟩ = some (Value.int .i64 H) := cell_of_row _ _ 0 _ _ _ HD7.out
        have e1 : w8.cell? ⟨gd, 1, none⟩ = some (Value.string (⟨#[120]⟩ : ByteArray)) := cell_of_row _ _ 1 _ _ _ HD7.out
        have e2 : w8.cell? ⟨gd, 2, none⟩ = some dv := cell_of_row _ _ 2 _ _ _ HD7.out
        have hgl : gd < w8.heap.size := World.block_lt_of_cell? _ _ e0
        have E0 := fun (d : Nat) (os : Array Obj) => cell_regrown e0 d os
        have E1 := fun (d : Nat) (os : Array Obj) => cell_regrown e1 d os
        have E2 := fun (d : Nat) (os : Array Obj) => cell_regrown e2 d os
        clear e0 e1 e2 hb2 hl2
        refine wp_region_quiet_below (by kernel_rfl) (by kernel_rfl) ?_
        repeat (go_big_quiet_step ((first | (go_at_call 10; with_reducible exact Calls.regrown_of ((HC1.out _ (Only.ofBelow (below_regrown _ _ _) _)).mono fun _ _ h => ⟨h.1, h.2.below (Nat.le_refl _) (fun _ _ h => h)⟩)) | (go_at_call 10; with_reducible exact Calls.regrown_of ((HC3.out _ (Only.ofBelow (below_regrown _ _ _) _)).mono fun _ _ h => ⟨h.1, h.2.below (Nat.le_refl _) (fun _ _ h => h)⟩)) | (go_at_call 11; with_reducible exact Calls.regrown_of ((HC2.out _ (Only.ofBelow (below_regrown _ _ _) _)).mono fun _ _ h => ⟨h.1, h.2.below (Nat.le_refl _) (fun _ _ h => h)⟩)) | (go_at_call 11; with_reducible exact Calls.regrown_of ((HC4.out _ (Only.ofBelow (below_regrown _ _ _) _)).mono fun _ _ h => ⟨h.1, h.2.below (Nat.le_refl _) (fun _ _ h => h)⟩)))))
        refine wpQuiet_nil ?_
        intro w9 hw'
        obtain ⟨pq, hw''⟩ := hw'
        have hO9 := Only.ofBelow (below_regrown w8 pq.d pq.os) (fun _ => False)
        rw [← hw''] at hO9
        have HOE := Lib.hid ((HA.out.trans HO7.out).trans hO9)
        clear hw'' hO9 E0 E1 E2 HC1 HC2 HC3 HC4
        go_wp2
        go_ret
        exact ⟨rfl, HOE.out⟩
theorem ac_law (sv : Value) (ws : List Nat) (bits q0 q1 : Nat) (w : World) (hW : U8sAt w sv ws) (hl : ws.length ≤ 9223372036854775807) (hb : bits < 256) (h0 : q0 < 256) (h1 : q1 < 256) (hG : GlobA w) :
    Calls Tryz.prog 3 #[sv, .int .u8 bits, .agg #[.int .u8 q0, .int .u8 q1]] w fun e w' => e = .returned (.bool true) ∧ Below w.heap.size w w' :=
  (ac_walk sv ws bits q0 q1 w hW hl hb h0 h1 hG).mono fun _ _ h => ⟨h.1, h.2.below (Nat.le_refl _) (fun _ _ h => h)⟩
end Go.Proofs.YtldkjkjpaiajlaaGreatDoor
