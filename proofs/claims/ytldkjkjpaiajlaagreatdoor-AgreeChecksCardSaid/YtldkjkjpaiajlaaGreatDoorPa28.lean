/-
  Agree: put.
  Agree: enter; propose.
  Agree: commit.
  Agree: the closures of prepare and conclude.
  Agree: prepare.
  Agree: decide, for whatever conclude does.
  Agree: act.
  Agree: the text of a message.
  Agree: all.
  Agree: Tick.
  Agree: slices.Clone of members; New.
  Agree: the reference's Value, Crew; the law's four.
  Agree: the reference's decimal, Text of a signature, Line, Send.
  Agree: Propose.
  Agree: Leader; sanity.
-/
import Derived.Test.YtldkjkjpaiajlaaGreatDoorPa27
import Derived.Test.YtldkjkjpaiajlaaGreatDoorPa06
import Derived.StringKeys
import Derived.Test.YtldkjkjpaiajlaaGreatDoorPa26
namespace Go.Proofs.YtldkjkjpaiajlaaGreatDoor
open Go.RowKit

/-- The listed variables, whatever changes in G. -/
def GA (w : World) (G : Nat → Prop) : Prop := ∀ w', Only G w w' → GlobA w'
theorem GA.here {w : World} {G : Nat → Prop} (h : GA w G) : GlobA w := h w (Only.refl _ _)
theorem GA.step {w w1 : World} {G G1 : Nat → Prop} (h : GA w G) (hO : Only G w w1) (hG : ∀ k, G1 k → G k ∨ w.heap.size ≤ k) : GA w1 G1 := fun w' hw => h w' (hO.trans' hw fun k hk hG1 => by
  rcases hG k hG1 with h | h
  · exact h
  · omega)
theorem GA.still {w w1 : World} {G : Nat → Prop} (h : GA w G) (hO : Only (fun _ => False) w w1) : GA w1 G := h.step (hO.mono fun _ _ h => h.elim) fun _ h => .inl h
def putV (r : Nr) (kd x : Nat) : Vb := ⟨r.id, ⟨kd, r.height, r.view, x⟩⟩
def putR (r : Nr) (kd x : Nat) : Nr :=
  if putV r kd x ∈ r.seen then { r with signed := kd :: r.signed } else { r with signed := kd :: r.signed, seen := putV r kd x :: r.seen, votes := r.votes ++ [putV r kd x] }
/-- The node is one of the members, with the secret that they know. -/
structure OwnOk (C : Nc) (id : Nat) : Prop where
  mem : ∃ m ∈ C.ms, m.id = id
  sec : secOf C.ms id = C.sec
theorem seen_mem {l : List Vb} {v : Vb} (hl : ∀ s ∈ l, VbOk s) (hv : VbOk v) : seenS l (mkB v.who v.b) = decide (v ∈ l) := by
  unfold seenS
  rw [Bool.eq_iff_iff, List.any_eq_true, decide_eq_true_eq]
  constructor
  · rintro ⟨s, hs, e⟩
    have h := of_decide_eq_true e
    obtain ⟨e1, e2⟩ := mkB_inj (hl s hs).2 hv.2 (hl s hs).1 hv.1 h
    obtain ⟨a, b⟩ := s
    obtain ⟨c, d⟩ := v
    dsimp only at e1 e2
    subst e1
    subst e2
    exact hs
  · intro h
    exact ⟨v, h, decide_eq_true rfl⟩
theorem sec_at : ∀ (ms : List Mm) (who : Nat), (∃ m ∈ ms, m.id = who) → ∃ i, i < ms.length ∧ (mmAt ms i).id = who ∧ (∀ j, j < i → (mmAt ms j).id ≠ who) ∧ secOf ms who = (mmAt ms i).sec
  | [], _, ⟨_, h, _⟩ => by cases h
  | m :: ms, who, h => by
    by_cases hm : m.id = who
    · exact ⟨0, by simp, hm, fun j hj => absurd hj (Nat.not_lt_zero _), by simp [secOf, hm, mmAt]⟩
    · obtain ⟨m', h1, h2⟩ := h
      have h3 : m' ∈ ms := by
        rcases List.mem_cons.1 h1 with e | e
        · rw [e] at h2; exact absurd h2 hm
        · exact e
      obtain ⟨i, hi, q1, q2, q3⟩ := sec_at ms who ⟨m', h3, h2⟩
      refine ⟨i + 1, by simpa using hi, q1, fun j hj => ?_, ?_⟩
      · cases j with
        | zero => exact hm
        | succ j => exact q2 j (by omega)
      · unfold secOf at *
        rw [List.find?_cons_of_neg (by simpa using hm), q3]
        rfl
theorem cn_vb {ms : List Mm} {v : Vb} (hm : ∃ m ∈ ms, m.id = v.who) : cnT (mbsOf ms) (vbVr ms v) = some v.b := by
  obtain ⟨i, hi, h1, h2, h3⟩ := sec_at ms v.who hm
  have hw : whoI (mbsOf ms) (v.who : Int) = i := by
    unfold whoI
    refine firstI_yes (by rw [mbsOf_len]; exact hi) (fun j hj => ?_) ?_
    · rw [mbAt_of (by omega)]
      simp only [mbOf]
      rw [beq_eq_false_iff_ne]
      have := h2 j hj
      omega
    · rw [mbAt_of hi]
      simp only [mbOf]
      rw [h1]
      exact beq_self_eq_true _
  have hc : cntB (mbsOf ms) v.who (blB v.b) (vbR ms v) (vbS ms v) = true := by
    unfold cntB
    rw [hw, Int.toNat_natCast, mbAt_of hi, decide_eq_true (Int.natCast_nonneg i), Bool.true_and]
    simp only [mbOf]
    unfold vbR vbS
    rw [h3]
    exact sver_made _ _
  show (if cntB (mbsOf ms) (v.who : Int) (blB v.b) (vbR ms v) (vbS ms v) = true then some v.b else none) = some v.b
  rw [if_pos hc]
theorem counted_vb (w : World) {F G : Nat → Prop} {p : Nat} {C : Nc} {r : Nr} {A : Na} (h : NdAt w F G p C r A) (hC : CxOk C) {v : Vb} (hv : VbOk v) (hm : ∃ m ∈ C.ms, m.id = v.who) (hG : GlobA w) :
    Calls Tryz.prog 32 #[A.sv, .agg #[.int .i64 v.who, .string (blB v.b), .int .i64 (vbR C.ms v), .int .i64 (vbS C.ms v)]] w fun e w' => e = .returned (.tuple #[.agg #[.string (kindB v.b.kind), .int .i64 v.b.height, .int .i64 v.b.view, .string (oneB v.b.val)], .bool true]) ∧ Only (fun _ => False) w w' := by
  have h1 := counted_tx A.sv (mbsOf C.ms) (vbVr C.ms v) w h.mem (by rw [mbsOf_len]; have := hC.len; omega) ⟨hv.1, by have := hv.2; show -9223372036854775808 ≤ (v.who : Int) ∧ (v.who : Int) ≤ 9223372036854775807; omega⟩ hG
  rw [cn_vb hm] at h1
  exact h1
set_option maxHeartbeats 4000000 in
theorem put_any (kd x : Nat) (w : World) {F G : Nat → Prop} {p : Nat} {C : Nc} {r : Nr} {A : Na} (h : NdAt w F G p C r A) (hC : CxOk C) (hr : NrOk r) (hse : ∀ v ∈ r.seen, VbOk v) (hw : OwnOk C r.id)
    (hv : VbOk (putV r kd x)) (hno : putV r kd x ∉ r.seen → NoCon r (putV r kd x)) (hsl : r.seen.length ≤ 1000000) (hgl : r.signed.length ≤ 1000000) (hG : GA w G) :
    Calls Tryz.prog 97 #[.pointer (some ⟨p, 0, none⟩), .string (kindB kd), .string (oneB x)] w fun e w' => e = .returned (.bool true) ∧ NdTo w F G p C (putR r kd x) w' := by
  obtain ⟨w1, hrun, hK1, hO1⟩ := h.sgd.add Tryz.lawS Tryz.underlying112 (sml hgl) (WideMaps.keyOf_string_mk Tryz.underlying9 (kindB_max kd))
  have HN1 := Lib.hid (h.sign kd hO1 hK1)
  have HOG := Lib.hid (show Only G w w1 from hO1.mono (fun k _ e => e ▸ h.gs))
  have HG1 := Lib.hid (hG.step HOG.out (fun _ h => .inl h))
  have HC := Lib.hid hC
  have HR := Lib.hid hr
  have HSE := Lib.hid hse
  have HW := Lib.hid hw
  have HV := Lib.hid hv
  have HNO := Lib.hid hno
  have HSL := Lib.hid hsl
  have hpl := h.plt
  have hpl1 := HN1.out.plt
  have y13 : _ = some (Value.map (some A.sg)) := h.cells 13
  have HBD := Lib.hid (show r.height ≤ 1000000000 ∧ r.view ≤ 1000000000 from ⟨hv.1.height, hv.1.view⟩)
  clear hG hC hr hse hw hv hno hsl hgl h hK1 hO1
  go_enter Tryz.func97, Tryz.ntmps97
  go_upto_region 2 with fail
  clear y13 hrun
  have y4 : w1.cell? ⟨p, 4, none⟩ = some (Value.int .i64 r.height) := HN1.out.cells 4
  have y5 : w1.cell? ⟨p, 5, none⟩ = some (Value.int .i64 r.view) := HN1.out.cells 5
  refine region_alloc1 (fr := ?frvA) 12 11 86 #[.string (⟨#[]⟩ : ByteArray), .int .i64 0, .int .i64 0, .string (⟨#[]⟩ : ByteArray)] (fun i => match i with | 0 => .string (kindB kd) | 1 => .pointer (some ⟨p, 0, none⟩) | 2 => .pointer (some ⟨p, 0, none⟩) | 3 => .pointer (some ⟨p, 4, none⟩) | 4 => .int .i64 r.height | 5 => .pointer (some ⟨p, 0, none⟩) | 6 => .pointer (some ⟨p, 0, none⟩) | 7 => .pointer (some ⟨p, 5, none⟩) | 8 => .int .i64 r.view | 9 => .string (oneB x) | 10 => .agg #[.string (kindB kd), .int .i64 r.height, .int .i64 r.view, .string (oneB x)] | _ => undef) (by kernel_rfl) (by kernel_rfl) (by kernel_rfl) (by kernel_rfl) (by kernel_rfl) (by decide) (by decide) ?alA ?frA ?stepA ?finA
  case alA => exact ⟨_, rfl, fun ρ W => by kernel_rfl⟩
  case frA =>
    simp only [List.take_succ_cons, List.take_zero, frameAll, Act.put, List.getElem?_toArray, List.getElem?_cons_zero, List.getElem?_cons_succ, Option.bind_some, List.setIfInBounds_toArray, List.set_cons_zero, List.set_cons_succ]
    rfl
  case stepA =>
    intro i o W hi hia ho hO
    have e4 := hO.cell y4 (fun h => h)
    have e5 := hO.cell y5 (fun h => h)
    have hplW : p < W.heap.size := World.block_lt_of_cell? W _ e4
    obtain rfl | rfl | rfl | rfl | rfl | rfl | rfl | rfl | rfl | rfl | rfl : i = 0 ∨ i = 1 ∨ i = 2 ∨ i = 3 ∨ i = 4 ∨ i = 5 ∨ i = 6 ∨ i = 7 ∨ i = 8 ∨ i = 9 ∨ i = 10 := by omega
    all_goals (simp only [List.getElem?_cons_zero, List.getElem?_cons_succ, Option.some.injEq] at ho; subst ho)
    · refine opV_of_value (w' := W) (v := _) ?_ ⟨rfl, Only.refl _ _⟩
      go_simp
    · refine opV_of_value (w' := W) (v := _) ?_ ⟨rfl, Only.refl _ _⟩
      go_simp
    · refine opV_of_value (w' := W) (v := _) ?_ ⟨rfl, Only.refl _ _⟩
      go_simp
    · refine opV_of_value (w' := W) (v := _) ?_ ⟨rfl, Only.refl _ _⟩
      go_simp
    · refine opV_of_value (w' := W) (v := _) ?_ ⟨rfl, Only.refl _ _⟩
      go_simp
    · refine opV_of_value (w' := W) (v := _) ?_ ⟨rfl, Only.refl _ _⟩
      go_simp
    · refine opV_of_value (w' := W) (v := _) ?_ ⟨rfl, Only.refl _ _⟩
      go_simp
    · refine opV_of_value (w' := W) (v := _) ?_ ⟨rfl, Only.refl _ _⟩
      go_simp
    · refine opV_of_value (w' := W) (v := _) ?_ ⟨rfl, Only.refl _ _⟩
      go_simp
    · refine opV_of_value (w' := W) (v := _) ?_ ⟨rfl, Only.refl _ _⟩
      go_simp
    · refine opV_of_value (w' := W) (v := _) ?_ ⟨rfl, Only.refl _ _⟩
      go_simp
  case finA =>
    intro g1 w2 hgg1 hrowg1 hOg1
    simp only [updF, Nat.reduceEqDiff, reduceIte, List.take_succ_cons, List.take_zero, frameAll, Act.put, List.getElem?_toArray, List.getElem?_cons_zero, List.getElem?_cons_succ, Option.bind_some, List.setIfInBounds_toArray, List.set_cons_zero, List.set_cons_succ, List.drop_succ_cons, List.drop_zero]
    have hO3 := hOg1.setRow hgg1 #[.string (kindB kd), .int .i64 r.height, .int .i64 r.view, .string (oneB x)]
    have HN3 := Lib.hid (HN1.out.still hO3)
    have HO3 := Lib.hid (HOG.out.trans (hO3.mono fun _ _ h => h.elim))
    have HG3 := Lib.hid (HG1.out.still hO3)
    have HROW := Lib.hid hrowg1
    have HB3 := Lib.hid (setRow_heap w2 g1 _ #[.string (kindB kd), .int .i64 r.height, .int .i64 r.view, .string (oneB x)] 86 (0, 0) HROW.out)
    clear hrowg1 hOg1 y4 y5 hO3
    go_wp2_with (first | (refine wpList_store_row rfl 86 _ _ rfl g1 #[.string (kindB kd), .int .i64 r.height, .int .i64 r.view, .string (oneB x)] rfl rfl 86 _ HROW.out Tryz.infoBl rfl (bl_one4 _ _ _ _) ?_))
    generalize w2.setRow g1 _ = w3 at *
    clear HROW HN1 HOG HG1
    have hgl1 : g1 < w3.heap.size := (Array.getElem?_eq_some_iff.1 HB3.out).1
    have y0 : w3.cell? ⟨p, 0, none⟩ = some (Value.int .i64 r.id) := HN3.out.cells 0
    have y1 : w3.cell? ⟨p, 1, none⟩ = some (Value.int .i64 C.sec) := HN3.out.cells 1
    have HBO := Lib.hid HV.out.1
    have HPT := Lib.hid (fun (W : World) (hO : Only (fun _ => False) w3 W) => btext_any (putV r kd x).b HBO.out W (HG3.out.still hO).here.glob)
    have HPV := Lib.hid (fun (W : World) (hO : Only (fun _ => False) w3 W) => svote_any r.id C.sec (blB (putV r kd x).b) W (by have := blv_len HBO.out; omega) (HG3.out.still hO).here.glob)
    obtain ⟨vT, hvT⟩ : ∃ t, blB (putV r kd x).b = t := ⟨_, rfl⟩
    obtain ⟨vR, hvR⟩ : ∃ t, sgR C.sec vT = t := ⟨_, rfl⟩
    obtain ⟨vS, hvS⟩ : ∃ t, sgS C.sec vT = t := ⟨_, rfl⟩
    rw [hvT, hvR, hvS] at HPV
    rw [hvT] at HPT
    have HVT := Lib.hid hvT
    have HVR := Lib.hid hvR
    have HVS := Lib.hid hvS
    clear hvT hvR hvS
    refine region_alloc1 (fr := ?frvB) 12 11 35 #[.int .i64 0, .string (⟨#[]⟩ : ByteArray), .int .i64 0, .int .i64 0] (fun i => match i with | 0 => .pointer (some ⟨p, 0, none⟩) | 1 => .pointer (some ⟨p, 0, none⟩) | 2 => .pointer (some ⟨p, 0, none⟩) | 3 => .int .i64 r.id | 4 => .pointer (some ⟨p, 0, none⟩) | 5 => .pointer (some ⟨p, 0, none⟩) | 6 => .pointer (some ⟨p, 1, none⟩) | 7 => .int .i64 C.sec | 8 => .agg #[.string (kindB kd), .int .i64 r.height, .int .i64 r.view, .string (oneB x)] | 9 => .string vT | 10 => .agg #[.int .i64 r.id, .string vT, .int .i64 vR, .int .i64 vS] | _ => undef) (by kernel_rfl) (by kernel_rfl) (by kernel_rfl) (by kernel_rfl) (by kernel_rfl) (by decide) (by decide) ?alB ?frB ?stepB ?finB
    case alB => exact ⟨_, rfl, fun ρ W => by kernel_rfl⟩
    case frB =>
      simp only [List.take_succ_cons, List.take_zero, frameAll, Act.put, List.getElem?_toArray, List.getElem?_cons_zero, List.getElem?_cons_succ, Option.bind_some, List.setIfInBounds_toArray, List.set_cons_zero, List.set_cons_succ]
      rfl
    case stepB =>
      intro i o W hi hia ho hO
      have e0 := hO.cell y0 (fun h => h)
      have e1 := hO.cell y1 (fun h => h)
      have hplW : p < W.heap.size := World.block_lt_of_cell? W _ e0
      obtain rfl | rfl | rfl | rfl | rfl | rfl | rfl | rfl | rfl | rfl | rfl : i = 0 ∨ i = 1 ∨ i = 2 ∨ i = 3 ∨ i = 4 ∨ i = 5 ∨ i = 6 ∨ i = 7 ∨ i = 8 ∨ i = 9 ∨ i = 10 := by omega
      all_goals (simp only [List.getElem?_cons_zero, List.getElem?_cons_succ, Option.some.injEq] at ho; subst ho)
      · refine opV_of_value (w' := W) (v := _) ?_ ⟨rfl, Only.refl _ _⟩
        go_simp
      · refine opV_of_value (w' := W) (v := _) ?_ ⟨rfl, Only.refl _ _⟩
        go_simp
      · refine opV_of_value (w' := W) (v := _) ?_ ⟨rfl, Only.refl _ _⟩
        go_simp
      · refine opV_of_value (w' := W) (v := _) ?_ ⟨rfl, Only.refl _ _⟩
        go_simp
      · refine opV_of_value (w' := W) (v := _) ?_ ⟨rfl, Only.refl _ _⟩
        go_simp
      · refine opV_of_value (w' := W) (v := _) ?_ ⟨rfl, Only.refl _ _⟩
        go_simp
      · refine opV_of_value (w' := W) (v := _) ?_ ⟨rfl, Only.refl _ _⟩
        go_simp
      · refine opV_of_value (w' := W) (v := _) ?_ ⟨rfl, Only.refl _ _⟩
        go_simp
      · exact opV_load_row 86 (.tmp 7) rfl g1 rfl 86 _ (0, 0) _ (row_still hO HB3.out) Tryz.underlying86 rfl Tryz.infoBl ⟨rfl, Only.refl _ _⟩
      · refine opV_of_enter (w' := W) (f := 79) (args := #[.agg #[.string (kindB kd), .int .i64 r.height, .int .i64 r.view, .string (oneB x)]]) (by kernel_rfl) ((HPT.out W hO).mono ?_)
        rintro e W' ⟨rfl, hO'⟩
        exact ⟨_, rfl, rfl, hO'⟩
      · refine opV_of_enter (w' := W) (f := 141) (args := #[.int .i64 r.id, .int .i64 C.sec, .string vT]) (by kernel_rfl) ((HPV.out W hO).mono ?_)
        rintro e W' ⟨rfl, hO'⟩
        exact ⟨_, rfl, rfl, hO'⟩
    case finB =>
      intro g2 w4 hgg2 hrowg2 hOg2
      simp only [updF, Nat.reduceEqDiff, reduceIte, List.take_succ_cons, List.take_zero, frameAll, Act.put, List.getElem?_toArray, List.getElem?_cons_zero, List.getElem?_cons_succ, Option.bind_some, List.setIfInBounds_toArray, List.set_cons_zero, List.set_cons_succ, List.drop_succ_cons, List.drop_zero]
      have hO5 := hOg2.setRow hgg2 #[.int .i64 r.id, .string vT, .int .i64 vR, .int .i64 vS]
      have HN5 := Lib.hid (HN3.out.still hO5)
      have HO5 := Lib.hid (HO3.out.trans (hO5.mono fun _ _ h => h.elim))
      have HG5 := Lib.hid (HG3.out.still hO5)
      have HROW := Lib.hid hrowg2
      have HB5 := Lib.hid (row_still hO5 HB3.out)
      have HC5 := Lib.hid (setRow_heap w4 g2 _ #[.int .i64 r.id, .string vT, .int .i64 vR, .int .i64 vS] 35 (0, 0) HROW.out)
      clear hrowg2 hOg2 y0 y1 hO5
      go_wp2_with (first | (refine wpList_store_row rfl 35 _ _ rfl g2 #[.int .i64 r.id, .string vT, .int .i64 vR, .int .i64 vS] rfl rfl 35 _ HROW.out Tryz.infoVote rfl (vote_one _ _ _ _) ?_))
      generalize w4.setRow g2 _ = w5 at *
      clear HROW HN3 HO3 HG3 HB3 HPT HPV
      have hgl5 : g1 < w5.heap.size := (Array.getElem?_eq_some_iff.1 HB5.out).1
      have hgl6 : g2 < w5.heap.size := (Array.getElem?_eq_some_iff.1 HC5.out).1
      have hpl5 := HN5.out.plt
      have hfd : ∀ d os, ∀ W, W = Go.Sort.grow (Go.redrawn w5 d) os → (Instr.lookup 111 (.map (some A.sn)) (.agg #[.int .i64 r.id, .string (kindB kd), .int .i64 r.height, .int .i64 r.view, .string (oneB x)]) false).run Tryz.prog W = .ok (.bool (seenS r.seen (mkB r.id (putV r kd x).b))) W := fun d os W e => by
        subst e
        exact (HN5.out.still (Only.ofBelow (below_regrown w5 d os) _)).seen.look Tryz.lawM Tryz.underlying111 (mkB_key r.id (putV r kd x).b HV.out.2 HV.out.1)
      have hfd2 := fun d os => hfd d os _ rfl
      have k0 : w5.cell? ⟨p, 0, none⟩ = some (Value.int .i64 r.id) := HN5.out.cells 0
      have k12 : w5.cell? ⟨p, 12, none⟩ = some (Value.map (some A.sn)) := HN5.out.cells 12
      have c0 : w5.cell? ⟨g1, 0, none⟩ = some (Value.string (kindB kd)) := cell_of_row _ _ 0 _ _ _ HB5.out
      have c1 : w5.cell? ⟨g1, 1, none⟩ = some (Value.int .i64 r.height) := cell_of_row _ _ 1 _ _ _ HB5.out
      have c2 : w5.cell? ⟨g1, 2, none⟩ = some (Value.int .i64 r.view) := cell_of_row _ _ 2 _ _ _ HB5.out
      have c3 : w5.cell? ⟨g1, 3, none⟩ = some (Value.string (oneB x)) := cell_of_row _ _ 3 _ _ _ HB5.out
      have K0 := fun (d : Nat) (os : Array Obj) => cell_regrown k0 d os
      have K12 := fun (d : Nat) (os : Array Obj) => cell_regrown k12 d os
      have C0 := fun (d : Nat) (os : Array Obj) => cell_regrown c0 d os
      have C1 := fun (d : Nat) (os : Array Obj) => cell_regrown c1 d os
      have C2 := fun (d : Nat) (os : Array Obj) => cell_regrown c2 d os
      have C3 := fun (d : Nat) (os : Array Obj) => cell_regrown c3 d os
      clear k0 k12 c0 c1 c2 c3 hfd
      have HSN := Lib.hid (show seenS r.seen (mkB r.id (putV r kd x).b) = decide (putV r kd x ∈ r.seen) from seen_mem (v := putV r kd x) HSE.out HV.out)
      refine wp_region_quiet_below (by kernel_rfl) (by kernel_rfl) ?_
      repeat (go_big_quiet_step (fail))
      refine wpQuiet_nil ?_
      intro w6 hw'
      obtain ⟨pq, hw''⟩ := hw'
      have hO6 := Only.ofBelow (below_regrown w5 pq.d pq.os) (fun _ => False)
      rw [← hw''] at hO6
      have HN6 := Lib.hid (HN5.out.still hO6)
      have HO6 := Lib.hid (HO5.out.trans (hO6.mono fun _ _ h => h.elim))
      have HG6 := Lib.hid (HG5.out.still hO6)
      have HB6 := Lib.hid (row_still hO6 HB5.out)
      have HC6 := Lib.hid (row_still hO6 HC5.out)
      clear hw'' hO6 K0 K12 C0 C1 C2 C3 hfd2 HN5 HO5 HG5 HB5 HC5
      rw [HSN.out]
      by_cases hmem : putV r kd x ∈ r.seen
      · rw [decide_eq_true hmem]
        have HPR := Lib.hid (show putR r kd x = { r with signed := kd :: r.signed } by unfold putR; rw [if_pos hmem])
        clear hmem
        go_wp2
        go_ret
        exact ⟨rfl, by rw [HPR.out]; exact NdTo.of HN6.out HO6.out⟩
      · rw [decide_eq_false hmem]
        have HPR := Lib.hid (show putR r kd x = { r with signed := kd :: r.signed, seen := putV r kd x :: r.seen, votes := r.votes ++ [putV r kd x] } by unfold putR; rw [if_neg hmem])
        have HNO := Lib.hid (HNO.out hmem)
        clear hmem HSN
        go_upto_region 6 with fail
        have hgl7 : g1 < w6.heap.size := (Array.getElem?_eq_some_iff.1 HB6.out).1
        have hgl8 : g2 < w6.heap.size := (Array.getElem?_eq_some_iff.1 HC6.out).1
        have y3 : w6.cell? ⟨p, 3, none⟩ = some A.sv := HN6.out.cells 3
        have HVB := Lib.hid (show vbR C.ms (putV r kd x) = vR ∧ vbS C.ms (putV r kd x) = vS by
          unfold vbR vbS
          rw [show secOf C.ms (putV r kd x).who = C.sec from HW.out.sec, HVT.out, HVR.out, HVS.out]
          exact ⟨rfl, rfl⟩)
        have HPC := Lib.hid (fun (W : World) (hO : Only (fun _ => False) w6 W) => counted_vb W (HN6.out.still hO) HC.out HV.out HW.out.mem (HG6.out.still hO).here)
        rw [HVB.out.1, HVB.out.2, HVT.out] at HPC
        refine region_alloc1s (fr := ?frvC) 9 10 86 #[.string (⟨#[]⟩ : ByteArray), .int .i64 0, .int .i64 0, .string (⟨#[]⟩ : ByteArray)] #[.string (kindB kd), .int .i64 r.height, .int .i64 r.view, .string (oneB x)] (fun i => match i with | 0 => .pointer (some ⟨p, 0, none⟩) | 1 => .pointer (some ⟨p, 0, none⟩) | 2 => .pointer (some ⟨p, 3, none⟩) | 3 => A.sv | 4 => .agg #[.int .i64 r.id, .string vT, .int .i64 vR, .int .i64 vS] | 5 => .tuple #[.agg #[.string (kindB kd), .int .i64 r.height, .int .i64 r.view, .string (oneB x)], .bool true] | 6 => .tuple #[.agg #[.string (kindB kd), .int .i64 r.height, .int .i64 r.view, .string (oneB x)], .bool true] | 7 => .agg #[.string (kindB kd), .int .i64 r.height, .int .i64 r.view, .string (oneB x)] | 8 => .bool true | 11 => .bool true | _ => undef) (by kernel_rfl) (by kernel_rfl) (by kernel_rfl) (by kernel_rfl) (by kernel_rfl) (by decide) (by simp only [List.length_cons, List.length_nil]; decide) rfl ?alC ?frC ?stepC ?stC ?finC
        case alC => exact ⟨_, rfl, fun ρ W => by kernel_rfl⟩
        case frC =>
          simp only [List.length_cons, List.length_nil, Nat.zero_add, Nat.reduceAdd, frameAll, Act.put, List.getElem?_toArray, List.getElem?_cons_zero, List.getElem?_cons_succ, Option.bind_some, List.setIfInBounds_toArray, List.set_cons_zero, List.set_cons_succ]
          rfl
        case stepC =>
          intro i o W hia hix ho hO
          have hi : i < 12 := by have := (List.getElem?_eq_some_iff.1 ho).1; simpa using this
          have e3 := hO.cell y3 (fun h => h)
          have hplW : p < W.heap.size := World.block_lt_of_cell? W _ e3
          obtain rfl | rfl | rfl | rfl | rfl | rfl | rfl | rfl | rfl | rfl : i = 0 ∨ i = 1 ∨ i = 2 ∨ i = 3 ∨ i = 4 ∨ i = 5 ∨ i = 6 ∨ i = 7 ∨ i = 8 ∨ i = 11 := by omega
          all_goals (simp only [List.getElem?_cons_zero, List.getElem?_cons_succ, Option.some.injEq] at ho; subst ho)
          · refine opV_of_value (w' := W) (v := _) ?_ ⟨rfl, Only.refl _ _⟩
            go_simp
          · refine opV_of_value (w' := W) (v := _) ?_ ⟨rfl, Only.refl _ _⟩
            go_simp
          · refine opV_of_value (w' := W) (v := _) ?_ ⟨rfl, Only.refl _ _⟩
            go_simp
          · refine opV_of_value (w' := W) (v := _) ?_ ⟨rfl, Only.refl _ _⟩
            go_simp
          · exact opV_load_row 35 (.tmp 8) rfl g2 rfl 35 _ (0, 0) _ (row_still hO HC6.out) Tryz.underlying35 rfl Tryz.infoVote ⟨rfl, Only.refl _ _⟩
          · refine opV_of_enter (w' := W) (f := 32) (args := #[A.sv, .agg #[.int .i64 r.id, .string vT, .int .i64 vR, .int .i64 vS]]) (by kernel_rfl) ((HPC.out W hO).mono ?_)
            rintro e W' ⟨rfl, hO'⟩
            exact ⟨_, rfl, rfl, hO'⟩
          · refine opV_of_value (w' := W) (v := _) ?_ ⟨rfl, Only.refl _ _⟩
            go_simp
          · refine opV_of_value (w' := W) (v := _) ?_ ⟨rfl, Only.refl _ _⟩
            go_simp
          · refine opV_of_value (w' := W) (v := _) ?_ ⟨rfl, Only.refl _ _⟩
            go_simp
          · refine opV_of_value (w' := W) (v := _) ?_ ⟨rfl, Only.refl _ _⟩
            go_simp
        case stC =>
          intro o g3 W ho hrow
          simp only [List.getElem?_cons_zero, List.getElem?_cons_succ, Option.some.injEq] at ho
          subst ho
          exact opV_store_row 86 (.tmp 9) (.tmp 56) rfl g3 #[.string (kindB kd), .int .i64 r.height, .int .i64 r.view, .string (oneB x)] (by kernel_rfl) (by kernel_rfl) 86 #[.string (⟨#[]⟩ : ByteArray), .int .i64 0, .int .i64 0, .string (⟨#[]⟩ : ByteArray)] hrow Tryz.infoBl rfl (bl_one4 _ _ _ _) ⟨setRow_heap W g3 _ _ _ (0, 0) hrow, only_setRow W g3 _⟩
        case finC =>
          intro g3 w8 hgg3 hrowg3 hOg3
          simp only [updF, Nat.reduceEqDiff, reduceIte, List.length_cons, List.length_nil, Nat.zero_add, Nat.reduceAdd, frameAll, Act.put, List.getElem?_toArray, List.getElem?_cons_zero, List.getElem?_cons_succ, Option.bind_some, List.setIfInBounds_toArray, List.set_cons_zero, List.set_cons_succ]
          have hO8 := hOg3
          have HN8 := Lib.hid (HN6.out.still hO8)
          have HO8 := Lib.hid (HO6.out.trans (hO8.mono fun _ _ h => h.elim))
          have HB8 := Lib.hid (row_still hO8 HB6.out)
          have HC8 := Lib.hid (row_still hO8 HC6.out)
          clear hrowg3 hOg3 y3 hO8
          go_upto_region 7 with fail
          clear HN6 HO6 HG6 HB6 HC6 HPC
          have HKP := Lib.hid (keep_any (putV r kd x) w8 HN8.out ⟨HR.out.votes, HR.out.len⟩ HV.out HNO.out HSL.out)
          have HTK := Lib.hid (show tkC C.ms (putV r kd x) = [.int .i64 r.id, .string vT, .int .i64 vR, .int .i64 vS, .string (kindB kd), .int .i64 r.height, .int .i64 r.view, .string (oneB x), .bool true] by
            unfold tkC
            rw [HVB.out.1, HVB.out.2, HVT.out]
            rfl)
          rw [HTK.out] at HKP
          go_wp2_with (first | (refine wpList_load_row rfl 86 _ rfl g1 rfl 86 _ (0, 0) _ HB8.out Tryz.underlying86 rfl Tryz.infoBl ?_) | (refine wpList_load_row rfl 35 _ rfl g2 rfl 35 _ (0, 0) _ HC8.out Tryz.underlying35 rfl Tryz.infoVote ?_))
          refine HKP.out.mono ?_
          rintro e w9 ⟨rfl, hT⟩
          have HT := Lib.hid (NdTo.trans HO8.out (fun _ h => .inl h) (fun _ h => h) (fun _ h => .inl h) hT)
          clear hT HKP
          go_wp2
          go_ret
          exact ⟨rfl, by rw [HPR.out]; exact HT.out⟩
end Go.Proofs.YtldkjkjpaiajlaaGreatDoor

namespace Go.Proofs.YtldkjkjpaiajlaaGreatDoor
open Go.RowKit

/-- Small numbers, and votes that say something. -/
structure NrB (r : Nr) (B : Nat) : Prop where
  votes : ∀ v ∈ r.votes, VbOk v
  seen : ∀ v ∈ r.seen, VbOk v
  sg : ∀ k ∈ r.signed, k < 3
  wants : ∀ x ∈ r.wants, x < 256
  lock : ∀ l v, r.lock = some (l, v) → l < 256 ∧ v ≤ B
  id : r.id ≤ 1000000
  height : r.height ≤ B
  view : r.view ≤ B
  began : r.began ≤ B
  vlen : r.votes.length ≤ B
  slen : r.seen.length ≤ B
  glen : r.signed.length ≤ B
  wlen : r.wants.length ≤ B
  dlen : r.dec.length ≤ B
theorem NrB.ok {r : Nr} {B : Nat} (h : NrB r B) (hB : B ≤ 1000000) : NrOk r := ⟨h.votes, Nat.le_trans h.vlen hB⟩
theorem NrB.put {r : Nr} {B : Nat} (h : NrB r B) (hB : B ≤ 1000000) {kd x : Nat} (hk : kd < 3) (hx : x < 256) : VbOk (putV r kd x) := by
  have h1 := h.height
  have h2 := h.view
  exact ⟨⟨hk, by show r.height ≤ 1000000000; omega, by show r.view ≤ 1000000000; omega, hx⟩, h.id⟩
theorem NrB.putR {r : Nr} {B : Nat} (h : NrB r B) (hB : B ≤ 1000000) {kd x : Nat} (hk : kd < 3) (hx : x < 256) : NrB (putR r kd x) (B + 1) := by
  have hv := h.put hB hk hx
  obtain ⟨a1, a2, a3, a4, a5, a6, a7, a8, a9, b1, b2, b3, b4, b5⟩ := h
  unfold Go.Proofs.YtldkjkjpaiajlaaGreatDoor.putR
  split
  · exact ⟨a1, a2, fun k hk' => by rcases List.mem_cons.1 hk' with rfl | e; exact hk; exact a3 k e, a4, fun l v e => by have := a5 l v e; omega, a6, by dsimp only; omega, by dsimp only; omega, by dsimp only; omega, by dsimp only; omega, by dsimp only; omega, by simp only [List.length_cons]; omega, by dsimp only; omega, by dsimp only; omega⟩
  · exact ⟨fun v hv' => by rcases List.mem_append.1 hv' with e | e; exact a1 v e; rw [List.mem_singleton.1 e]; exact hv, fun v hv' => by rcases List.mem_cons.1 hv' with rfl | e; exact hv; exact a2 v e, fun k hk' => by rcases List.mem_cons.1 hk' with rfl | e; exact hk; exact a3 k e, a4, fun l v e => by have := a5 l v e; omega, a6, by dsimp only; omega, by dsimp only; omega, by dsimp only; omega, by simp only [List.length_append, List.length_cons, List.length_nil]; omega, by simp only [List.length_cons]; omega, by simp only [List.length_cons]; omega, by dsimp only; omega, by dsimp only; omega⟩
theorem sgn_has {l : List Nat} (h : ∀ k ∈ l, k < 3) {kd : Nat} (hk : kd < 3) : sgnS l (kindB kd).data.toList = l.contains kd := by
  unfold sgnS
  rw [Bool.eq_iff_iff, List.any_eq_true, List.contains_iff_mem]
  constructor
  · rintro ⟨k, h1, e⟩
    rw [← kindB_inj k (h k h1) kd hk (of_decide_eq_true e)]
    exact h1
  · intro h1
    exact ⟨kd, h1, decide_eq_true rfl⟩
/-- A new map of what was signed. -/
theorem NdAt.newSg {w : World} {F G : Nat → Prop} {p : Nat} {C : Nc} {r : Nr} {A : Na} (h : NdAt w F G p C r A) :
    NdTo w F G p C { r with signed := [] } ((w.alloc (.map #[] 0)).setCell ⟨p, 13, none⟩ (.map (some w.heap.size))) := by
  have hap := h.ap
  simp only [List.pairwise_cons, List.mem_cons, List.not_mem_nil, or_false, forall_eq_or_imp, forall_eq] at hap
  obtain ⟨⟨a1, a2, a3, a4, a5⟩, ⟨b1, b2, b3, b4⟩, ⟨c1, c2, c3⟩, ⟨d1, d2⟩, e1, -⟩ := hap
  have hA : Only (fun _ => False) w (w.alloc (.map #[] 0)) := (Only.refl _ w).alloc _
  have hN := h.still hA
  have hp := h.plt
  have hm : (w.alloc (.map #[] 0)).heap[w.heap.size]? = some (.map #[] 0) := heap_alloc_new w _
  have hOp : Only (fun k => k = p) (w.alloc (.map #[] 0)) ((w.alloc (.map #[] 0)).setCell ⟨p, 13, none⟩ (.map (some w.heap.size))) := (Only.refl (fun k => k = p) _).setCell (.inl rfl) _
  have hfr : ∀ x : Option Nat, (∀ k, x = some k → F k) → ApO x (some w.heap.size) := fun x hx k hk e => by
    cases e
    exact absurd (h.lt _ (hx _ hk)) (Nat.lt_irrefl _)
  refine ⟨fun k => F k ∨ k = w.heap.size, fun k => G k ∨ k = w.heap.size, { A with sg := w.heap.size }, {
    blk := by rw [heap_setCell_same _ p 13 _ _ _ hN.blk]; rfl
    wants := hOp.owns hN.wants fun k e e' => a3 p rfl (e' ▸ e)
    votes := hOp.owns hN.votes fun k e e' => a4 p rfl (e' ▸ e)
    seen := hN.seen.frame hOp fun e => a1 p rfl (congrArg some e)
    sgd := (ks_new _ _ _ hm).frame hOp fun e => absurd hp (by omega)
    dec := hOp.owns hN.dec fun k e e' => a5 p rfl (e' ▸ e)
    keep := fun T w'' hT hS => hN.keep (fun k => k = p ∨ T k) w'' ((hOp.mono fun _ _ h => .inl h).trans' hT (fun _ _ h => .inr h)) (fun k hF hST => by
      rcases hST with e | hTk
      · exact e ▸ h.gp
      · rcases hS k (.inl hF) hTk with q | q
        · exact q
        · have := h.lt k hF
          omega)
    sub := fun k hk => hk.imp (h.sub k) id
    lt := fun k hk => by
      have e : ((w.alloc (.map #[] 0)).setCell ⟨p, 13, none⟩ (.map (some w.heap.size))).heap.size = w.heap.size + 1 := by simp [World.setCell]
      rw [e]
      rcases hk with hk | rfl
      · have := h.lt k hk
        omega
      · omega
    gp := .inl h.gp
    gn := .inl h.gn
    gs := .inr rfl
    gw := fun k e => .inl (h.gw k e)
    gv := fun k e => .inl (h.gv k e)
    gd := fun k e => .inl (h.gd k e)
    ap := by
      simp only [List.pairwise_cons, List.mem_cons, List.not_mem_nil, or_false, forall_eq_or_imp, forall_eq]
      exact ⟨⟨a1, hfr _ (fun k e => by cases e; exact h.sub _ h.gp), a3, a4, a5⟩, ⟨hfr _ (fun k e => by cases e; exact h.sub _ h.gn), b2, b3, b4⟩, ⟨(hfr _ (fun k e => h.sub k (h.gw k e))).symm, (hfr _ (fun k e => h.sub k (h.gv k e))).symm, (hfr _ (fun k e => h.sub k (h.gd k e))).symm⟩, ⟨d1, d2⟩, e1, fun _ h => h.elim, List.Pairwise.nil⟩ }, ?_, fun k hk => .inl hk, ?_, ?_⟩
  · rintro k (hk | rfl)
    · exact .inl hk
    · exact .inr (Nat.le_refl _)
  · rintro k (hk | rfl)
    · exact .inl hk
    · exact .inr (Nat.le_refl _)
  · exact (hA.mono fun _ _ h => h.elim).trans' hOp (fun k _ e => e ▸ h.gp)
theorem alloc_setCell (w : World) (o : Obj) (a : Addr) (v : Value) (h : a.block < w.heap.size) : (w.setCell a v).alloc o = (w.alloc o).setCell a v := by
  unfold World.alloc World.setCell
  congr 1
  ext1
  · simp
  · rename_i i h1 h2
    simp only [Array.getElem_push, Array.size_modify, Array.getElem_modify]
    split
    · split <;> rfl
    · rw [if_neg (by omega)]
def enterR (r : Nr) (v now : Nat) : Nr := { r with view := v, began := now, signed := [] }
set_option maxHeartbeats 2000000 in
theorem enter_any (v now : Nat) (w : World) {F G : Nat → Prop} {p : Nat} {C : Nc} {r : Nr} {A : Na} (h : NdAt w F G p C r A) :
    Calls Tryz.prog 56 #[.pointer (some ⟨p, 0, none⟩), .int .i64 v, .int .i64 now] w fun e w' => e = .returned (.tuple #[]) ∧ NdTo w F G p C (enterR r v now) w' := by
  have hmm := @run_makeMap Tryz.prog
  have h1 := h.store { r with view := v } 5 (.int .i64 v) rfl rfl rfl rfl rfl rfl
  have h2 := h1.store { r with view := v, began := now } 6 (.int .i64 now) rfl rfl rfl rfl rfl rfl
  have HO := Lib.hid (show Only G w ((w.setCell ⟨p, 5, none⟩ (.int .i64 v)).setCell ⟨p, 6, none⟩ (.int .i64 now)) from ((Only.refl G w).setCell (.inl h.gp) _).setCell (.inl h.gp) _)
  have HT := Lib.hid h2.newSg
  have f5 := frozen_of_row w p 5 _ _ h.blk
  have f6 := frozen_of_row _ p 6 _ _ h1.blk
  have f13 := frozen_of_row _ p 13 _ _ h2.blk
  have c5 : w.cell? ⟨p, 5, none⟩ = _ := h.cells 5
  have c6 : (w.setCell ⟨p, 5, none⟩ (.int .i64 v)).cell? ⟨p, 6, none⟩ = _ := h1.cells 6
  have c13 : ((w.setCell ⟨p, 5, none⟩ (.int .i64 v)).setCell ⟨p, 6, none⟩ (.int .i64 now)).cell? ⟨p, 13, none⟩ = _ := h2.cells 13
  have hpl := h.plt
  clear h h1 h2
  go_enter Tryz.func56, Tryz.ntmps56
  go_upto_region 1 with fail
  generalize (w.setCell ⟨p, 5, none⟩ (.int .i64 v)).setCell ⟨p, 6, none⟩ (.int .i64 now) = w1 at *
  have hpl1 : p < w1.heap.size := World.block_lt_of_cell? w1 _ c13
  clear f5 f6 c5 c6
  go_wp2_with fail
  refine bodyPost_end (results_none rfl _ _ _) rfl ⟨rfl, ?_⟩
  rw [alloc_setCell w1 _ _ _ (by exact hpl1)]
  exact NdTo.trans HO.out (fun _ h => .inl h) (fun _ h => h) (fun _ h => .inl h) HT.out
def proposeR (ms : List Mm) (r : Nr) : Nr × Bool :=
  if leadM ms r.height r.view != r.id || r.signed.contains 0 then (r, false)
  else match r.lock with
    | some (l, _) => (putR r 0 l, true)
    | none => match r.wants with
      | [] => (r, false)
      | x :: _ => (putR r 0 x, true)
/-- A vote that a step adds contradicts none. -/
def StepOk (r r' : Nr) : Prop := ∀ v, r'.votes = r.votes ++ [v] → NoCon r v
theorem StepOk.put {r : Nr} {kd x : Nat} (h : StepOk r (putR r kd x)) : putV r kd x ∉ r.seen → NoCon r (putV r kd x) := fun hn => h _ (by unfold putR; rw [if_neg hn])
theorem NdAt.wslice {w : World} {F G : Nat → Prop} {p : Nat} {C : Nc} {r : Nr} {A : Na} (h : NdAt w F G p C r A) : ∃ a c, A.wv = .slice a r.wants.length c := slice_of_own h.wants
theorem NdAt.wcell {w : World} {F G : Nat → Prop} {p : Nat} {C : Nc} {r : Nr} {A : Na} (h : NdAt w F G p C r A) {a : Option Addr} {n c : Nat} (e : A.wv = .slice a n c) {j : Nat} (hj : j < r.wants.length) : ∃ b, a = some ⟨b, 0, none⟩ ∧ r.wants.length ≤ c ∧ c ≤ 9223372036854775807 ∧ n = r.wants.length ∧ w.cell? ⟨b, j, none⟩ = some (.string (oneB (r.wants.getD j 0))) := by
  obtain ⟨g, cap, e', h1, h2⟩ : ∃ g cap, A.wv = .slice (some ⟨g, 0, none⟩) r.wants.length cap ∧ r.wants.length ≤ cap ∧ cap ≤ 9223372036854775807 := by
    rcases h.wants.2 with ⟨_, e0⟩ | ⟨g, cap, cur, e, _, _, q1, q2, _⟩
    · omega
    · exact ⟨g, cap, e, q1, q2⟩
  have h3 := h.wants
  rw [e'] at h3 e
  simp only [Value.slice.injEq] at e
  obtain ⟨rfl, rfl, rfl⟩ := e
  refine ⟨g, rfl, h1, h2, rfl, ?_⟩
  rw [h3.cellAt j (by omega)]
  unfold wrow
  rw [List.getElem?_map, List.getElem?_eq_getElem hj, lgetD _ _ hj]
  rfl
set_option maxHeartbeats 4000000 in
theorem propose_any (now : Int) (B : Nat) (w : World) {F G : Nat → Prop} {p : Nat} {C : Nc} {r : Nr} {A : Na} (h : NdAt w F G p C r A) (hC : CxOk C) (hw : OwnOk C r.id) (hr : NrB r B) (hB : B ≤ 1000000) (hso : StepOk r (proposeR C.ms r).1) (hG : GA w G) :
    Calls Tryz.prog 58 #[.pointer (some ⟨p, 0, none⟩), .int .i64 now] w fun e w' => e = .returned (.bool (proposeR C.ms r).2) ∧ NdTo w F G p C (proposeR C.ms r).1 w' := by
  have hh := hr.height
  have hvw := hr.view
  have hid := hr.id
  have HN := Lib.hid h
  have HC := Lib.hid hC
  have HW := Lib.hid hw
  have HR := Lib.hid hr
  have HSO := Lib.hid hso
  have HG := Lib.hid hG
  have HB := Lib.hid hB
  have hpl := h.plt
  have y0 : w.cell? ⟨p, 0, none⟩ = some (Value.int .i64 r.id) := h.cells 0
  have y3 : w.cell? ⟨p, 3, none⟩ = some A.sv := h.cells 3
  have y4 : w.cell? ⟨p, 4, none⟩ = some (Value.int .i64 r.height) := h.cells 4
  have y5 : w.cell? ⟨p, 5, none⟩ = some (Value.int .i64 r.view) := h.cells 5
  have HLD := Lib.hid (fun W (hW : Only (fun _ => False) w W) => leader_node W (h.still hW) hC r.height r.view (by omega) (by omega))
  clear h hC hw hr hso hG
  generalize hld : leadM C.ms r.height r.view = ld at *
  have HLE := Lib.hid hld
  have Y3 := fun (d : Nat) (os : Array Obj) => cell_regrown y3 d os
  have Y4 := fun (d : Nat) (os : Array Obj) => cell_regrown y4 d os
  have Y5 := fun (d : Nat) (os : Array Obj) => cell_regrown y5 d os
  clear hld y0 y3 y4 y5
  go_enter Tryz.func58, Tryz.ntmps58
  go_upto_region 1 with fail
  refine wp_region_quiet_below (by kernel_rfl) (by kernel_rfl) ?_
  repeat (go_big_quiet_step ((go_at_call 49; with_reducible exact Calls.regrown_of ((HLD.out _ (Only.ofBelow (below_regrown _ _ _) _)).mono fun _ _ h => ⟨h.1, h.2.below (Nat.le_refl _) (fun _ _ h => h)⟩))))
  refine wpQuiet_nil ?_
  intro w1 hw'
  obtain ⟨pq, hw''⟩ := hw'
  have hO1 := Only.ofBelow (below_regrown w pq.d pq.os) (fun _ => False)
  rw [← hw''] at hO1
  have HN1 := Lib.hid (HN.out.still hO1)
  have HO1 := Lib.hid hO1
  have HG1 := Lib.hid (HG.out.still hO1)
  clear hw'' hO1 Y3 Y4 Y5 HN HG HLD
  have hpl1 := HN1.out.plt
  have y0 : w1.cell? ⟨p, 0, none⟩ = some (Value.int .i64 r.id) := HN1.out.cells 0
  by_cases hl : ld = r.id
  rotate_left
  · have HP := Lib.hid (show proposeR C.ms r = (r, false) by unfold proposeR; rw [HLE.out, if_pos]; simp [hl])
    have i1 : ¬ (ld : Int) = r.id := by omega
    clear HLE hl
    go_wp2
    go_ret
    exact ⟨by rw [HP.out]; rfl, by rw [HP.out]; exact NdTo.of HN1.out (HO1.out.mono fun _ _ h => h.elim)⟩
  have i1 : (ld : Int) = r.id := by omega
  have hlk := HN1.out.sgd.look Tryz.lawS Tryz.underlying112 (WideMaps.keyOf_string_mk Tryz.underlying9 (kindB_max 0))
  rw [sgn_has HR.out.sg (by decide)] at hlk
  change (Instr.lookup _ _ (.string (⟨#[112, 114, 111, 112, 111, 115, 101]⟩ : ByteArray)) _).run _ _ = _ at hlk
  have y13 : w1.cell? ⟨p, 13, none⟩ = some (Value.map (some A.sg)) := HN1.out.cells 13
  by_cases hs : r.signed.contains 0 = true
  · have HP := Lib.hid (show proposeR C.ms r = (r, false) by unfold proposeR; rw [HLE.out, hs, Bool.or_true, if_pos rfl])
    rw [hs] at hlk
    clear HLE hl hs
    go_wp2
    go_ret
    exact ⟨by rw [HP.out]; rfl, by rw [HP.out]; exact NdTo.of HN1.out (HO1.out.mono fun _ _ h => h.elim)⟩
  have hs' : r.signed.contains 0 = false := by simpa using hs
  rw [hs'] at hlk
  have HPI := Lib.hid (show proposeR C.ms r = (match r.lock with | some (l, _) => (putR r 0 l, true) | none => match r.wants with | [] => (r, false) | x :: _ => (putR r 0 x, true)) by
    unfold proposeR
    rw [HLE.out, if_neg]
    simp only [hl, hs', bne_self_eq_false, Bool.false_or]
    decide)
  clear HLE hl hs hs'
  have y7 : w1.cell? ⟨p, 7, none⟩ = some (Value.bool r.lock.isSome) := HN1.out.cells 7
  have y8 : w1.cell? ⟨p, 8, none⟩ = some (Value.string (lkB r.lock)) := HN1.out.cells 8
  cases hlo : r.lock with
  | some lv =>
    obtain ⟨l, v⟩ := lv
    have hP : proposeR C.ms r = (putR r 0 l, true) := by rw [HPI.out, hlo]
    have hso := HSO.out
    rw [hP] at hso
    have hl256 := (HR.out.lock l v hlo).1
    have HPU := Lib.hid (put_any 0 l w1 HN1.out HC.out (HR.out.ok HB.out) HR.out.seen HW.out (HR.out.put HB.out (by decide) hl256) hso.put (Nat.le_trans HR.out.slen HB.out) (Nat.le_trans HR.out.glen HB.out) HG1.out)
    have HP := Lib.hid hP
    change Hid (Calls _ _ #[_, .string (⟨#[112, 114, 111, 112, 111, 115, 101]⟩ : ByteArray), _] _ _) at HPU
    rw [hlo] at y7 y8
    change _ = some (Value.bool true) at y7
    change _ = some (Value.string (oneB l)) at y8
    clear hlo hP hso HPI hl256
    generalize oneB l = X at *
    go_wp2_with fail
    refine HPU.out.mono ?_
    rintro e w2 ⟨rfl, hT⟩
    have HT := Lib.hid (NdTo.pre HO1.out hT)
    clear hT
    go_wp2
    go_ret
    exact ⟨by rw [HP.out]; rfl, by rw [HP.out]; exact HT.out⟩
  | none =>
    rw [hlo] at y7
    change _ = some (Value.bool false) at y7
    obtain ⟨a1, c1, hwv⟩ := HN1.out.wslice
    have y10 : w1.cell? ⟨p, 10, none⟩ = some (Value.slice a1 r.wants.length c1) := (HN1.out.cells 10).trans (congrArg some hwv)
    cases hwa : r.wants with
    | nil =>
      have HP := Lib.hid (show proposeR C.ms r = (r, false) by rw [HPI.out, hlo, hwa])
      rw [hwa] at y10
      change _ = some (Value.slice a1 0 c1) at y10
      clear hlo hwa HPI hwv
      go_wp2
      go_ret
      exact ⟨by rw [HP.out]; rfl, by rw [HP.out]; exact NdTo.of HN1.out (HO1.out.mono fun _ _ h => h.elim)⟩
    | cons x t =>
      have hP : proposeR C.ms r = (putR r 0 x, true) := by rw [HPI.out, hlo, hwa]
      have hso := HSO.out
      rw [hP] at hso
      have hx256 := HR.out.wants x (by rw [hwa]; exact List.mem_cons_self)
      have HPU := Lib.hid (put_any 0 x w1 HN1.out HC.out (HR.out.ok HB.out) HR.out.seen HW.out (HR.out.put HB.out (by decide) hx256) hso.put (Nat.le_trans HR.out.slen HB.out) (Nat.le_trans HR.out.glen HB.out) HG1.out)
      have HP := Lib.hid hP
      change Hid (Calls _ _ #[_, .string (⟨#[112, 114, 111, 112, 111, 115, 101]⟩ : ByteArray), _] _ _) at HPU
      obtain ⟨b, rfl, m1, m2, -, d0⟩ := HN1.out.wcell hwv (j := 0) (by rw [hwa]; simp)
      rw [hwa] at d0
      change _ = some (Value.string (oneB x)) at d0
      have hlw : 0 < r.wants.length := by rw [hwa]; simp
      have hlb := Nat.le_trans HR.out.wlen HB.out
      generalize r.wants.length = n at *
      have i2 : ¬ (n : Int) = 0 := by omega
      have i3 : ((n : Int) == 0) = false := beq_eq_false_iff_ne.2 i2
      clear hlo hP hso HPI hx256 hwa hwv
      generalize oneB x = X at *
      go_wp2_with fail
      refine HPU.out.mono ?_
      rintro e w2 ⟨rfl, hT⟩
      have HT := Lib.hid (NdTo.pre HO1.out hT)
      clear hT
      go_wp2
      go_ret
      exact ⟨by rw [HP.out]; rfl, by rw [HP.out]; exact HT.out⟩
end Go.Proofs.YtldkjkjpaiajlaaGreatDoor

namespace Go.Proofs.YtldkjkjpaiajlaaGreatDoor
open Go.RowKit

theorem find_at {l : List Vb} {q : Vb → Bool} {j : Nat} (hj : j < l.length) (hno : ∀ i, i < j → q (vbAt l i) = false) (hq : q (vbAt l j) = true) : l.find? q = some (vbAt l j) := by
  induction l generalizing j with
  | nil => exact absurd hj (Nat.not_lt_zero _)
  | cons x l ih =>
    cases j with
    | zero =>
      rw [List.find?_cons_of_pos (show q x = true from hq)]
      rfl
    | succ j =>
      have h0 := hno 0 (by omega)
      rw [List.find?_cons_of_neg (by rw [show q x = false from h0]; decide)]
      exact ih (by simpa using hj) (fun i hi => hno (i + 1) (by omega)) hq
theorem find_no {l : List Vb} {q : Vb → Bool} (hno : ∀ i, i < l.length → q (vbAt l i) = false) : l.find? q = none := by
  rw [List.find?_eq_none]
  intro x hx
  obtain ⟨j, hj, rfl⟩ := List.mem_iff_getElem.1 hx
  have := hno j hj
  unfold vbAt at this
  rw [lgetD _ _ hj] at this
  rw [this]
  decide
/-- The node's own block changes, but none of its parts. -/
theorem NdAt.reblk {w w' : World} {F G : Nat → Prop} {p : Nat} {C : Nc} {r : Nr} {A : Na} (h : NdAt w F G p C r A) (r' : Nr) (hO : Only (fun k => k = p) w w') (hb : w'.heap[p]? = some (.cells (ndCells C r' A) 114 (0, 0))) (h1 : r'.wants = r.wants) (h2 : r'.votes = r.votes) (h3 : r'.seen = r.seen) (h4 : r'.signed = r.signed) (h5 : r'.dec = r.dec) :
    NdAt w' F G p C r' A := by
  have hap := h.ap
  simp only [List.pairwise_cons, List.mem_cons, List.not_mem_nil, or_false, forall_eq_or_imp, forall_eq] at hap
  obtain ⟨⟨a1, a2, a3, a4, a5⟩, -⟩ := hap
  exact {
    blk := hb
    wants := by rw [h1]; exact hO.owns h.wants fun k e e' => a3 p rfl (e' ▸ e)
    votes := by rw [h2]; exact hO.owns h.votes fun k e e' => a4 p rfl (e' ▸ e)
    seen := by rw [h3]; exact h.seen.frame hO fun e => a1 p rfl (congrArg some e)
    sgd := by rw [h4]; exact h.sgd.frame hO fun e => a2 p rfl (congrArg some e)
    dec := by rw [h5]; exact hO.owns h.dec fun k e e' => a5 p rfl (e' ▸ e)
    keep := by rw [h5]; exact h.keep' hO fun k _ e => e ▸ h.gp
    sub := h.sub
    lt := fun k hk => Nat.lt_of_lt_of_le (h.lt k hk) hO.size
    gp := h.gp
    gn := h.gn
    gs := h.gs
    gw := h.gw
    gv := h.gv
    gd := h.gd
    ap := h.ap }
def qCommit (ms : List Mm) (r : Nr) (t : Vb) : Bool := t.b.kind == 1 && (t.b.view == r.view && manyF ms r t.b)
def commitR (ms : List Mm) (r : Nr) : Nr × Bool :=
  if r.signed.contains 2 then (r, false)
  else match r.votes.find? (qCommit ms r) with
    | none => (r, false)
    | some t => (putR { r with lock := some (t.b.val, r.view) } 2 t.b.val, true)
set_option maxHeartbeats 8000000 in
theorem commit_any (now : Int) (B : Nat) (w : World) {F G : Nat → Prop} {p : Nat} {C : Nc} {r : Nr} {A : Na} (h : NdAt w F G p C r A) (hC : CxOk C) (hw : OwnOk C r.id) (hr : NrB r B) (hB : B ≤ 1000000) (hso : StepOk r (commitR C.ms r).1) (hG : GA w G) :
    Calls Tryz.prog 60 #[.pointer (some ⟨p, 0, none⟩), .int .i64 now] w fun e w' => e = .returned (.bool (commitR C.ms r).2) ∧ NdTo w F G p C (commitR C.ms r).1 w' := by
  have HN := Lib.hid h
  have HC := Lib.hid hC
  have HW := Lib.hid hw
  have HR := Lib.hid hr
  have HSO := Lib.hid hso
  have HG := Lib.hid hG
  have HB := Lib.hid hB
  have hpl := h.plt
  have y13 : w.cell? ⟨p, 13, none⟩ = some (Value.map (some A.sg)) := h.cells 13
  have hlk := h.sgd.look Tryz.lawS Tryz.underlying112 (WideMaps.keyOf_string_mk Tryz.underlying9 (kindB_max 2))
  rw [sgn_has hr.sg (by decide)] at hlk
  change (Instr.lookup _ _ (.string (⟨#[99, 111, 109, 109, 105, 116]⟩ : ByteArray)) _).run _ _ = _ at hlk
  have hvl := Nat.le_trans hr.vlen hB
  clear hC hw hr hso hG
  go_enter Tryz.func60, Tryz.ntmps60
  by_cases hs : r.signed.contains 2 = true
  · have HP := Lib.hid (show commitR C.ms r = (r, false) by unfold commitR; rw [if_pos hs])
    rw [hs] at hlk
    clear hs h
    go_wp2
    go_ret
    exact ⟨by rw [HP.out]; rfl, by rw [HP.out]; exact NdTo.of HN.out (Only.refl _ _)⟩
  have HPI := Lib.hid (show commitR C.ms r = (match r.votes.find? (qCommit C.ms r) with | none => (r, false) | some t => (putR { r with lock := some (t.b.val, r.view) } 2 t.b.val, true)) by unfold commitR; rw [if_neg hs])
  have hs' : r.signed.contains 2 = false := by simpa using hs
  rw [hs'] at hlk
  obtain ⟨a1, c1, hv⟩ := h.vslice
  have HV := Lib.hid hv
  have y11 : w.cell? ⟨p, 11, none⟩ = some (Value.slice a1 r.votes.length c1) := (h.cells 11).trans (congrArg some hv)
  clear hs hs' h hv
  go_wp2_with fail
  clear y13 y11 hlk
  go_loopw [18] (fun vi wr => ∃ k : Nat, k ≤ r.votes.length ∧ vi = .int .i64 k ∧ (∀ j, j < k → qCommit C.ms r (vbAt r.votes j) = false) ∧ Only (fun _ => False) w wr) (fun vi _ => r.votes.length - (intOf vi).toNat)
  case atStart => exact ⟨0, Nat.zero_le _, rfl, fun j hj => absurd hj (Nat.not_lt_zero _), Only.refl _ _⟩
  case round =>
    obtain ⟨k, hk, rfl, hno, hO⟩ := hrel
    have HNO := Lib.hid hno
    have HO := Lib.hid hO
    have hsz := hO.size
    clear hno hO
    by_cases hlt : k < r.votes.length
    rotate_left
    · obtain rfl : k = r.votes.length := by omega
      have HP := Lib.hid (show commitR C.ms r = (r, false) by rw [HPI.out, find_no HNO.out])
      go_wp2
      go_ret
      exact ⟨by rw [HP.out]; rfl, by rw [HP.out]; exact NdTo.of (HN.out.still HO.out) (HO.out.mono fun _ _ h => h.elim)⟩
    obtain ⟨b, rfl, m1, m2, -, -, hc⟩ := (HN.out.still HO.out).vcell HV.out hlt
    have HMO := Lib.hid (vbAt_mem hlt)
    have HFA := Lib.hid (fun hq => find_at (q := qCommit C.ms r) hlt HNO.out hq)
    have HQE := Lib.hid (show ∀ o, vbAt r.votes k = o → qCommit C.ms r o = (o.b.kind == 1 && (o.b.view == r.view && manyF C.ms r o.b)) from fun o _ => rfl)
    have HBK := Lib.hid (HR.out.votes _ (vbAt_mem hlt))
    have HNX := Lib.hid (fun (hq : qCommit C.ms r (vbAt r.votes k) = false) => show ∀ j, j < k + 1 → qCommit C.ms r (vbAt r.votes j) = false from fun j hj => by
      rcases Nat.lt_or_ge j k with h | h
      · exact HNO.out j h
      · rw [show j = k by omega]; exact hq)
    generalize hov : vbAt r.votes k = o at *
    have HQE := Lib.hid (HQE.out o rfl)
    have d0 : wr.cell? ⟨b, k * 9, none⟩ = some (Value.int .i64 o.who) := hc 0 (by decide)
    have d1 : _ = some (Value.string (blB o.b)) := hc 1 (by decide)
    have d2 : _ = some (Value.int .i64 (vbR C.ms o)) := hc 2 (by decide)
    have d3 : _ = some (Value.int .i64 (vbS C.ms o)) := hc 3 (by decide)
    have d4 : _ = some (Value.string (kindB o.b.kind)) := hc 4 (by decide)
    have d5 : _ = some (Value.int .i64 o.b.height) := hc 5 (by decide)
    have d6 : _ = some (Value.int .i64 o.b.view) := hc 6 (by decide)
    have d7 : _ = some (Value.string (oneB o.b.val)) := hc 7 (by decide)
    have d8 : _ = some (Value.bool true) := hc 8 (by decide)
    clear hc hov
    generalize vbR C.ms o = oR at *
    generalize vbS C.ms o = oS at *
    generalize blB o.b = oT at *
    have hA1 := (Only.refl (fun _ => False) wr).alloc (.cells #[.int .i64 o.who, .string oT, .int .i64 oR, .int .i64 oS, .string (kindB o.b.kind), .int .i64 o.b.height, .int .i64 o.b.view, .string (oneB o.b.val), .bool true] 184)
    have HOB := Lib.hid (hA1.alloc (.cells #[.string (kindB o.b.kind), .int .i64 o.b.height, .int .i64 o.b.view, .string (oneB o.b.val)] 86))
    have hB2 := heap_alloc_last (wr.alloc (.cells #[.int .i64 o.who, .string oT, .int .i64 oR, .int .i64 oS, .string (kindB o.b.kind), .int .i64 o.b.height, .int .i64 o.b.view, .string (oneB o.b.val), .bool true] 184)) (.cells #[.string (kindB o.b.kind), .int .i64 o.b.height, .int .i64 o.b.view, .string (oneB o.b.val)] 86)
    rw [World.size_alloc] at hB2
    have HB2 := Lib.hid hB2
    clear hA1 hB2
    go_upto_region 7 with fail
    clear d0 d1 d2 d3 d4 d5 d6 d7 d8
    generalize hw2 : World.alloc (World.alloc wr _) _ = w2 at *
    have hs2 : w2.heap.size = wr.heap.size + 2 := by rw [← hw2]; simp
    clear hw2
    have HN2 := Lib.hid (HN.out.still (HO.out.trans HOB.out))
    have HO2 := Lib.hid (HO.out.trans HOB.out)
    have HMA := Lib.hid (fun W (hW : Only (fun _ => False) w2 W) => many_any o.b HBK.out.1 W (HN2.out.still hW) HC.out (HR.out.ok HB.out))
    have hK := HBK.out.1.kind
    have e0 : w2.cell? ⟨wr.heap.size + 1, 0, none⟩ = some (Value.string (kindB o.b.kind)) := cell_of_row _ _ 0 _ _ _ HB2.out
    have e1 : w2.cell? ⟨wr.heap.size + 1, 1, none⟩ = some (Value.int .i64 o.b.height) := cell_of_row _ _ 1 _ _ _ HB2.out
    have e2 : w2.cell? ⟨wr.heap.size + 1, 2, none⟩ = some (Value.int .i64 o.b.view) := cell_of_row _ _ 2 _ _ _ HB2.out
    have e3 : w2.cell? ⟨wr.heap.size + 1, 3, none⟩ = some (Value.string (oneB o.b.val)) := cell_of_row _ _ 3 _ _ _ HB2.out
    have y5 : w2.cell? ⟨p, 5, none⟩ = some (Value.int .i64 r.view) := HN2.out.cells 5
    have hpl2 : p < w2.heap.size := HN2.out.plt
    have E0 := fun (d : Nat) (os : Array Obj) => cell_regrown e0 d os
    have E1 := fun (d : Nat) (os : Array Obj) => cell_regrown e1 d os
    have E2 := fun (d : Nat) (os : Array Obj) => cell_regrown e2 d os
    have E3 := fun (d : Nat) (os : Array Obj) => cell_regrown e3 d os
    have Y5 := fun (d : Nat) (os : Array Obj) => cell_regrown y5 d os
    clear e0 e1 e2 e3 y5
    by_cases hk1 : o.b.kind = 1
    rotate_left
    · have HQ := Lib.hid (show qCommit C.ms r o = false by rw [HQE.out, beq_eq_false_iff_ne.2 hk1]; rfl)
      have hne : kindB o.b.kind ≠ (⟨#[112, 114, 101, 112, 97, 114, 101]⟩ : ByteArray) := fun e => hk1 (kindB_inj o.b.kind hK 1 (by decide) (congrArg (fun b : ByteArray => b.data.toList) e))
      generalize kindB o.b.kind = K at *
      have q4 : ¬ K.toList = [112, 114, 101, 112, 97, 114, 101] := toList_lit hne
      have q5 : (K.toList == [112, 114, 101, 112, 97, 114, 101]) = false := beq_eq_false_iff_ne.2 q4
      clear hne hk1 hK
      refine wp_region_quiet_below (by kernel_rfl) (by kernel_rfl) ?_
      repeat (go_big_quiet_step (fail))
      refine wpQuiet_nil ?_
      intro w3 hw'
      obtain ⟨pq, hw''⟩ := hw'
      have hO3 := Only.ofBelow (below_regrown w2 pq.d pq.os) (fun _ => False)
      rw [← hw''] at hO3
      have HO3 := Lib.hid (HO2.out.trans hO3)
      clear hw'' hO3
      go_wp2
      all_goals exact ⟨⟨k + 1, by omega, by go_num, HNX.out HQ.out, HO3.out⟩, by simp [intOf]; omega⟩
    have hKB : kindB o.b.kind = (⟨#[112, 114, 101, 112, 97, 114, 101]⟩ : ByteArray) := by rw [hk1]; rfl
    rw [hKB] at HMA
    simp only [hKB] at E0
    have HKB := Lib.hid hKB
    clear hKB hK
    by_cases hv1 : o.b.view = r.view
    rotate_left
    · have HQ := Lib.hid (show qCommit C.ms r o = false by rw [HQE.out, beq_eq_false_iff_ne.2 hv1, Bool.false_and, Bool.and_false])
      have i1 : ¬ (o.b.view : Int) = r.view := by omega
      have i2 : ((o.b.view : Int) == r.view) = false := beq_eq_false_iff_ne.2 i1
      clear hv1
      refine wp_region_quiet_below (by kernel_rfl) (by kernel_rfl) ?_
      repeat (go_big_quiet_step (fail))
      refine wpQuiet_nil ?_
      intro w3 hw'
      obtain ⟨pq, hw''⟩ := hw'
      have hO3 := Only.ofBelow (below_regrown w2 pq.d pq.os) (fun _ => False)
      rw [← hw''] at hO3
      have HO3 := Lib.hid (HO2.out.trans hO3)
      clear hw'' hO3
      go_wp2
      all_goals exact ⟨⟨k + 1, by omega, by go_num, HNX.out HQ.out, HO3.out⟩, by simp [intOf]; omega⟩
    have i1 : (o.b.view : Int) = r.view := by omega
    rw [i1] at HMA
    simp only [i1] at E2
    clear i1
    cases hmn : manyF C.ms r o.b
    · have HQ := Lib.hid (show qCommit C.ms r o = false by rw [HQE.out, hmn, Bool.and_false, Bool.and_false])
      rw [hmn] at HMA
      clear hv1 hmn
      refine wp_region_quiet_below (by kernel_rfl) (by kernel_rfl) ?_
      repeat (go_big_quiet_step ((go_at_call 100; with_reducible exact Calls.regrown_of ((HMA.out _ (Only.ofBelow (below_regrown _ _ _) _)).mono fun _ _ h => ⟨h.1, h.2.below (Nat.le_refl _) (fun _ _ h => h)⟩))))
      refine wpQuiet_nil ?_
      intro w3 hw'
      obtain ⟨pq, hw''⟩ := hw'
      have hO3 := Only.ofBelow (below_regrown w2 pq.d pq.os) (fun _ => False)
      rw [← hw''] at hO3
      have HO3 := Lib.hid (HO2.out.trans hO3)
      clear hw'' hO3
      go_wp2
      all_goals exact ⟨⟨k + 1, by omega, by go_num, HNX.out HQ.out, HO3.out⟩, by simp [intOf]; omega⟩
    have HQ := Lib.hid (show qCommit C.ms r o = true by rw [HQE.out, hk1, hv1, hmn]; simp)
    rw [hmn] at HMA
    have hP : commitR C.ms r = (putR { r with lock := some (o.b.val, r.view) } 2 o.b.val, true) := by rw [HPI.out, HFA.out HQ.out]
    have hso := HSO.out
    rw [hP] at hso
    have HP := Lib.hid hP
    have HS := Lib.hid hso
    clear hv1 hmn hP hso hk1
    refine wp_region_quiet_below (by kernel_rfl) (by kernel_rfl) ?_
    repeat (go_big_quiet_step ((go_at_call 100; with_reducible exact Calls.regrown_of ((HMA.out _ (Only.ofBelow (below_regrown _ _ _) _)).mono fun _ _ h => ⟨h.1, h.2.below (Nat.le_refl _) (fun _ _ h => h)⟩))))
    refine wpQuiet_nil ?_
    intro w3 hw'
    obtain ⟨pq, hw''⟩ := hw'
    have hO3 := Only.ofBelow (below_regrown w2 pq.d pq.os) (fun _ => False)
    rw [← hw''] at hO3
    have HO3 := Lib.hid (HO2.out.trans hO3)
    have HN3 := Lib.hid (HN2.out.still hO3)
    have HB3 := Lib.hid (row_still hO3 HB2.out)
    have HG3 := Lib.hid (HG.out.still HO3.out)
    have hs3 := hO3.size
    clear hw'' hO3 HMA E0 E1 E2 E3 Y5
    go_upto_region 8 with fail
    have e3 : w3.cell? ⟨wr.heap.size + 1, 3, none⟩ = some (Value.string (oneB o.b.val)) := cell_of_row _ _ 3 _ _ _ HB3.out
    have y5 : w3.cell? ⟨p, 5, none⟩ = some (Value.int .i64 r.view) := HN3.out.cells 5
    have y7 : w3.cell? ⟨p, 7, none⟩ = some (Value.bool r.lock.isSome) := HN3.out.cells 7
    have y8 : w3.cell? ⟨p, 8, none⟩ = some (Value.string (lkB r.lock)) := HN3.out.cells 8
    have y9 : w3.cell? ⟨p, 9, none⟩ = some (Value.int .i64 (lkV r.lock)) := HN3.out.cells 9
    have f7 := frozen_of_row w3 p 7 _ _ HN3.out.blk
    have f8 := frozen_of_row w3 p 8 _ _ HN3.out.blk
    have f9 := frozen_of_row w3 p 9 _ _ HN3.out.blk
    have hpl3 := HN3.out.plt
    have hne : p ≠ wr.heap.size + 1 := by omega
    have hne2 : wr.heap.size + 1 ≠ p := by omega
    have hlb : wr.heap.size + 1 < w3.heap.size := by omega
    go_region
    have hO4 : Only (fun k => k = p) w3 (((w3.setCell ⟨p, 7, none⟩ (.bool true)).setCell ⟨p, 8, none⟩ (.string (oneB o.b.val))).setCell ⟨p, 9, none⟩ (.int .i64 r.view)).drew := ((((Only.refl (fun k => k = p) w3).setCell (.inl rfl) _).setCell (.inl rfl) _).setCell (.inl rfl) _).drew
    have hb4 : (((w3.setCell ⟨p, 7, none⟩ (.bool true)).setCell ⟨p, 8, none⟩ (.string (oneB o.b.val))).setCell ⟨p, 9, none⟩ (.int .i64 r.view)).drew.heap[p]? = some (.cells (ndCells C { r with lock := some (o.b.val, r.view) } A) 114 (0, 0)) :=
      (heap_setCell_same _ p 9 _ _ _ (heap_setCell_same _ p 8 _ _ _ (heap_setCell_same w3 p 7 _ _ _ HN3.out.blk))).trans rfl
    have HN4 := Lib.hid (HN3.out.reblk { r with lock := some (o.b.val, r.view) } hO4 hb4 rfl rfl rfl rfl rfl)
    have hOG : Only G w3 (((w3.setCell ⟨p, 7, none⟩ (.bool true)).setCell ⟨p, 8, none⟩ (.string (oneB o.b.val))).setCell ⟨p, 9, none⟩ (.int .i64 r.view)).drew := hO4.mono fun k _ e => e ▸ HN3.out.gp
    have HO4 := Lib.hid ((HO3.out.mono fun _ _ h => h.elim).trans hOG : Only G w _)
    have HG4 := Lib.hid (HG3.out.step hOG (fun _ h => .inl h))
    have HB4 := Lib.hid (show _ = _ from (hO4.block (wr.heap.size + 1) hlb hne2).trans HB3.out)
    clear hO4 hb4 hOG e3 y5 y7 y8 y9 f7 f8 f9 hne hne2
    generalize World.drew (World.setCell (World.setCell (World.setCell w3 _ _) _ _) _ _) = w4 at *
    have hx256 := HBK.out.1.val
    have HR4 := Lib.hid (show NrB { r with lock := some (o.b.val, r.view) } B from ⟨HR.out.votes, HR.out.seen, HR.out.sg, HR.out.wants, fun l v e => by cases e; exact ⟨hx256, HR.out.view⟩, HR.out.id, HR.out.height, HR.out.view, HR.out.began, HR.out.vlen, HR.out.slen, HR.out.glen, HR.out.wlen, HR.out.dlen⟩)
    have HPU := Lib.hid (put_any 2 o.b.val w4 HN4.out HC.out (HR4.out.ok HB.out) HR4.out.seen HW.out (HR4.out.put HB.out (by decide) hx256) (StepOk.put (r := { r with lock := some (o.b.val, r.view) }) HS.out) (Nat.le_trans HR.out.slen HB.out) (Nat.le_trans HR.out.glen HB.out) HG4.out)
    change Hid (Calls _ _ #[_, .string (⟨#[99, 111, 109, 109, 105, 116]⟩ : ByteArray), _] _ _) at HPU
    have e3 : w4.cell? ⟨wr.heap.size + 1, 3, none⟩ = some (Value.string (oneB o.b.val)) := cell_of_row _ _ 3 _ _ _ HB4.out
    generalize oneB o.b.val = X at *
    go_wp2_with fail
    refine HPU.out.mono ?_
    rintro e w5 ⟨rfl, hT⟩
    have HT := Lib.hid (NdTo.trans HO4.out (fun _ h => .inl h) (fun _ h => h) (fun _ h => .inl h) hT)
    clear hT HPU
    go_wp2
    go_ret
    exact ⟨by rw [HP.out]; rfl, by rw [HP.out]; exact HT.out⟩
end Go.Proofs.YtldkjkjpaiajlaaGreatDoor

namespace Go.Proofs.YtldkjkjpaiajlaaGreatDoor
open Go.RowKit

set_option maxHeartbeats 4000000 in
theorem prep_clo (who id R S h' v' vn : Int) (t K X : ByteArray) (ib nb p : Nat) (w : World) (hi : w.cell? ⟨ib, 0, none⟩ = some (.int .i64 id)) (hn : w.cell? ⟨nb, 0, none⟩ = some (.pointer (some ⟨p, 0, none⟩))) (hv : w.cell? ⟨p, 5, none⟩ = some (.int .i64 vn)) :
    Calls Tryz.prog 99 #[.agg #[.int .i64 who, .string t, .int .i64 R, .int .i64 S, .string K, .int .i64 h', .int .i64 v', .string X, .bool true], .pointer (some ⟨ib, 0, none⟩), .pointer (some ⟨nb, 0, none⟩)] w fun e w' => e = .returned (.bool (decide (who = id) && (decide (K = (⟨#[112, 114, 111, 112, 111, 115, 101]⟩ : ByteArray)) && decide (v' = vn)))) ∧ Only (fun _ => False) w w' := by
  have hl1 : ib < w.heap.size := World.block_lt_of_cell? w _ hi
  have hl2 : nb < w.heap.size := World.block_lt_of_cell? w _ hn
  have hl3 : p < w.heap.size := World.block_lt_of_cell? w _ hv
  have hO := ((Only.refl (fun _ => False) w).alloc (.cells #[.int .i64 who, .string t, .int .i64 R, .int .i64 S, .string K, .int .i64 h', .int .i64 v', .string X, .bool true] 184))
  have HO := Lib.hid hO
  have HB := Lib.hid (heap_alloc_last w (.cells #[.int .i64 who, .string t, .int .i64 R, .int .i64 S, .string K, .int .i64 h', .int .i64 v', .string X, .bool true] 184))
  go_enter Tryz.func99, Tryz.ntmps99
  go_upto_region 1 with fail
  have c0 := hO.cell hi (fun h => h)
  have c1 := hO.cell hn (fun h => h)
  have c2 := hO.cell hv (fun h => h)
  have d0 := cell_of_row _ _ 0 _ _ _ HB.out
  have d4 := cell_of_row _ _ 4 _ _ _ HB.out
  have d6 := cell_of_row _ _ 6 _ _ _ HB.out
  change _ = some (Value.int .i64 who) at d0
  change _ = some (Value.string K) at d4
  change _ = some (Value.int .i64 v') at d6
  clear hi hn hv hO
  generalize hw1 : w.alloc _ = w1 at *
  have hs1 : w1.heap.size = w.heap.size + 1 := by rw [← hw1]; simp
  have q1 : ib < w1.heap.size := by omega
  have q2 : nb < w1.heap.size := by omega
  have q3 : p < w1.heap.size := by omega
  have q4 : w.heap.size < w1.heap.size := by omega
  clear hw1
  have C0 := fun (d : Nat) (os : Array Obj) => cell_regrown c0 d os
  have C1 := fun (d : Nat) (os : Array Obj) => cell_regrown c1 d os
  have C2 := fun (d : Nat) (os : Array Obj) => cell_regrown c2 d os
  have D0 := fun (d : Nat) (os : Array Obj) => cell_regrown d0 d os
  have D4 := fun (d : Nat) (os : Array Obj) => cell_regrown d4 d os
  have D6 := fun (d : Nat) (os : Array Obj) => cell_regrown d6 d os
  clear c0 c1 c2 d0 d4 d6
  have HR := Lib.hid (show ∀ bb, (decide (who = id) && (decide (K = (⟨#[112, 114, 111, 112, 111, 115, 101]⟩ : ByteArray)) && decide (v' = vn))) = bb → Value.bool (decide (who = id) && (decide (K = (⟨#[112, 114, 111, 112, 111, 115, 101]⟩ : ByteArray)) && decide (v' = vn))) = .bool bb from fun bb e => by rw [e])
  by_cases hw : who = id
  · by_cases hk : K = (⟨#[112, 114, 111, 112, 111, 115, 101]⟩ : ByteArray)
    · by_cases hv : v' = vn
      · have HE := Lib.hid (HR.out true (by rw [decide_eq_true hw, decide_eq_true hk, decide_eq_true hv]; rfl))
        subst hw
        subst hk
        subst hv
        refine wp_region_quiet_below (by kernel_rfl) (by kernel_rfl) ?_
        repeat (go_big_quiet_step (fail))
        refine wpQuiet_nil ?_
        intro w3 hw'
        obtain ⟨pq, hw''⟩ := hw'
        have hO3 := Only.ofBelow (below_regrown w1 pq.d pq.os) (fun _ => False)
        rw [← hw''] at hO3
        have HO3 := Lib.hid (HO.out.trans hO3)
        clear hw'' hO3
        go_wp2
        go_ret
        exact ⟨by first | rfl | (rw [HE.out]; rfl), HO3.out⟩
      · have HE := Lib.hid (HR.out false (by rw [decide_eq_false hv, Bool.and_false, Bool.and_false]))
        subst hw
        subst hk
        have i2 : (v' == vn) = false := beq_eq_false_iff_ne.2 hv
        refine wp_region_quiet_below (by kernel_rfl) (by kernel_rfl) ?_
        repeat (go_big_quiet_step (fail))
        refine wpQuiet_nil ?_
        intro w3 hw'
        obtain ⟨pq, hw''⟩ := hw'
        have hO3 := Only.ofBelow (below_regrown w1 pq.d pq.os) (fun _ => False)
        rw [← hw''] at hO3
        have HO3 := Lib.hid (HO.out.trans hO3)
        clear hw'' hO3
        go_wp2
        go_ret
        exact ⟨by first | rfl | (rw [HE.out]; rfl) | (rw [HE.out]; simp [i2]) | simp_all, HO3.out⟩
    · have HE := Lib.hid (HR.out false (by rw [decide_eq_false hk, Bool.false_and, Bool.and_false]))
      subst hw
      have k4 : ¬ K.toList = [112, 114, 111, 112, 111, 115, 101] := toList_lit hk
      have k5 : (K.toList == [112, 114, 111, 112, 111, 115, 101]) = false := beq_eq_false_iff_ne.2 k4
      refine wp_region_quiet_below (by kernel_rfl) (by kernel_rfl) ?_
      repeat (go_big_quiet_step (fail))
      refine wpQuiet_nil ?_
      intro w3 hw'
      obtain ⟨pq, hw''⟩ := hw'
      have hO3 := Only.ofBelow (below_regrown w1 pq.d pq.os) (fun _ => False)
      rw [← hw''] at hO3
      have HO3 := Lib.hid (HO.out.trans hO3)
      clear hw'' hO3
      go_wp2
      go_ret
      exact ⟨by first | rfl | (rw [HE.out]; rfl) | (rw [HE.out]; simp [k5]) | simp_all, HO3.out⟩
  · have HE := Lib.hid (HR.out false (by rw [decide_eq_false hw, Bool.false_and]))
    have i2 : (who == id) = false := beq_eq_false_iff_ne.2 hw
    refine wp_region_quiet_below (by kernel_rfl) (by kernel_rfl) ?_
    repeat (go_big_quiet_step (fail))
    refine wpQuiet_nil ?_
    intro w3 hw'
    obtain ⟨pq, hw''⟩ := hw'
    have hO3 := Only.ofBelow (below_regrown w1 pq.d pq.os) (fun _ => False)
    rw [← hw''] at hO3
    have HO3 := Lib.hid (HO.out.trans hO3)
    clear hw'' hO3
    go_wp2
    go_ret
    exact ⟨by first | rfl | (rw [HE.out]; rfl) | (rw [HE.out]; simp [i2]) | simp_all, HO3.out⟩
end Go.Proofs.YtldkjkjpaiajlaaGreatDoor

namespace Go.Proofs.YtldkjkjpaiajlaaGreatDoor
open Go.RowKit

theorem firstI_cases (q : Nat → Bool) (n : Nat) : (firstI q n = -1 ∧ ∀ j, j < n → q j = false) ∨ ∃ j, j < n ∧ firstI q n = j ∧ q j = true ∧ ∀ i, i < j → q i = false := by
  by_cases h : ∃ j, j < n ∧ q j = true
  · obtain ⟨j, hj, hq⟩ := h
    have key : ∀ m, (∃ i, i < n ∧ i ≤ m ∧ q i = true) → ∃ i, i < n ∧ q i = true ∧ ∀ k, k < i → q k = false := by
      intro m
      induction m with
      | zero => rintro ⟨i, h1, h2, h3⟩; exact ⟨i, h1, h3, fun k hk => by omega⟩
      | succ m ih =>
        rintro ⟨i, h1, h2, h3⟩
        by_cases h4 : ∃ i, i < n ∧ i ≤ m ∧ q i = true
        · exact ih h4
        · refine ⟨i, h1, h3, fun k hk => ?_⟩
          cases hqk : q k with
          | false => rfl
          | true => exact absurd ⟨k, by omega, by omega, hqk⟩ h4
    obtain ⟨i, h1, h2, h3⟩ := key j ⟨j, hj, Nat.le_refl _, hq⟩
    exact .inr ⟨i, h1, firstI_yes h1 h3 h2, h2, h3⟩
  · have hno : ∀ j, j < n → q j = false := fun j hj => by
      cases hqj : q j with
      | false => rfl
      | true => exact absurd ⟨j, hj, hqj⟩ h
    exact .inl ⟨firstI_no hno, hno⟩
def qPrep (ms : List Mm) (r : Nr) (t : Vb) : Bool := t.who == leadM ms r.height r.view && (t.b.kind == 0 && t.b.view == r.view)
def qBet (ms : List Mm) (r : Nr) (lv x : Nat) (t : Vb) : Bool := t.b.kind == 1 && (t.b.val == x && ((decide (lv < t.b.view) && decide (t.b.view < r.view)) && manyF ms r t.b))
def prepareR (ms : List Mm) (r : Nr) : Nr × Bool :=
  if r.signed.contains 1 then (r, false)
  else match r.votes.find? (qPrep ms r) with
    | none => (r, false)
    | some t => match r.lock with
      | none => (putR r 1 t.b.val, true)
      | some (l, lv) => if l == t.b.val || r.votes.any (qBet ms r lv t.b.val) then (putR r 1 t.b.val, true) else (r, false)
theorem Tryz.infoI1 : (Tryz.prog.info? 3).map (·.size) = some 1 := by kernel_rfl
theorem one_inj {a b : Nat} (ha : a < 256) (hb : b < 256) (h : oneB a = oneB b) : a = b := by
  have e6 := congrArg (fun x : ByteArray => x.data.toList) h
  simp only [oneB, List.cons.injEq, and_true] at e6
  have e7 := congrArg UInt8.toNat e6
  simp only [UInt8.toNat_ofNat'] at e7
  omega
theorem kind_dec {k j : Nat} (hk : k < 3) (hj : j < 3) : decide (kindB k = kindB j) = (k == j) := by
  rw [Bool.eq_iff_iff, decide_eq_true_eq, beq_iff_eq]
  exact ⟨fun e => kindB_inj k hk j hj (by rw [e]), fun e => by rw [e]⟩
set_option maxHeartbeats 16000000 in
theorem prepare_any (now : Int) (B : Nat) (w : World) {F G : Nat → Prop} {p : Nat} {C : Nc} {r : Nr} {A : Na} (h : NdAt w F G p C r A) (hC : CxOk C) (hw : OwnOk C r.id) (hr : NrB r B) (hB : B ≤ 1000000) (hso : StepOk r (prepareR C.ms r).1) (hG : GA w G) :
    Calls Tryz.prog 59 #[.pointer (some ⟨p, 0, none⟩), .int .i64 now] w fun e w' => e = .returned (.bool (prepareR C.ms r).2) ∧ NdTo w F G p C (prepareR C.ms r).1 w' := by
  have hh := hr.height
  have hvw := hr.view
  have hO0 := (Only.refl (fun _ => False) w).alloc (.cells #[.pointer (some ⟨p, 0, none⟩)] 53)
  have HX0 := Lib.hid (heap_alloc_last w (.cells #[.pointer (some ⟨p, 0, none⟩)] 53))
  have HN0 := Lib.hid (h.still hO0)
  have HO0 := Lib.hid hO0
  have HG0 := Lib.hid (hG.still hO0)
  have HC := Lib.hid hC
  have HW := Lib.hid hw
  have HR := Lib.hid hr
  have HSO := Lib.hid hso
  have HB := Lib.hid hB
  have hvl := Nat.le_trans hr.vlen hB
  have HLD := Lib.hid (fun W (hW : Only (fun _ => False) w W) => leader_node W (h.still hW) hC r.height r.view (by omega) (by omega))
  have hplw := h.plt
  clear h hC hw hr hso hG hO0
  generalize hld : leadM C.ms r.height r.view = ld at *
  have HLE := Lib.hid hld
  clear hld
  go_enter Tryz.func59, Tryz.ntmps59
  go_upto_region 1 with fail
  obtain ⟨nb, hnb⟩ : ∃ n, w.heap.size = n := ⟨_, rfl⟩
  rw [hnb] at HX0 ⊢
  generalize hw0 : w.alloc _ = w0 at *
  have hs0 : w0.heap.size = nb + 1 := by rw [← hw0, ← hnb]; simp
  clear hw0
  have hpl0 := HN0.out.plt
  have y3 : w0.cell? ⟨p, 3, none⟩ = some A.sv := HN0.out.cells 3
  have y4 : w0.cell? ⟨p, 4, none⟩ = some (Value.int .i64 r.height) := HN0.out.cells 4
  have y5 : w0.cell? ⟨p, 5, none⟩ = some (Value.int .i64 r.view) := HN0.out.cells 5
  have x0 : w0.cell? ⟨nb, 0, none⟩ = some (Value.pointer (some ⟨p, 0, none⟩)) := cell_of_row _ _ 0 _ _ _ HX0.out
  refine region_alloc1s (fr := ?frvA) 16 17 3 #[.int .i64 0] #[.int .i64 ld] (fun i => match i with | 0 => .pointer (some ⟨p, 0, none⟩) | 1 => .pointer (some ⟨p, 0, none⟩) | 2 => .pointer (some ⟨p, 3, none⟩) | 3 => A.sv | 4 => .pointer (some ⟨p, 0, none⟩) | 5 => .pointer (some ⟨p, 0, none⟩) | 6 => .pointer (some ⟨p, 4, none⟩) | 7 => .int .i64 r.height | 8 => .pointer (some ⟨p, 0, none⟩) | 9 => .pointer (some ⟨p, 0, none⟩) | 10 => .pointer (some ⟨p, 5, none⟩) | 11 => .int .i64 r.view | 12 => .tuple #[.int .i64 ld, .bool true] | 13 => .tuple #[.int .i64 ld, .bool true] | 14 => .int .i64 ld | 15 => .bool true | 18 => .bool true | _ => undef) (by kernel_rfl) (by kernel_rfl) (by kernel_rfl) (by kernel_rfl) (by kernel_rfl) (by decide) (by simp only [List.length_cons, List.length_nil]; decide) rfl ?alA ?frA ?stepA ?stA ?finA
  case alA => exact ⟨_, rfl, fun ρ W => by kernel_rfl⟩
  case frA =>
    simp only [List.length_cons, List.length_nil, Nat.zero_add, Nat.reduceAdd, frameAll, Act.put, List.getElem?_toArray, List.getElem?_cons_zero, List.getElem?_cons_succ, Option.bind_some, List.setIfInBounds_toArray, List.set_cons_zero, List.set_cons_succ]
    rfl
  case stepA =>
    intro i o W hia hix ho hO
    have hi : i < 19 := by have := (List.getElem?_eq_some_iff.1 ho).1; simpa using this
    have e3 := hO.cell y3 (fun h => h)
    have e4 := hO.cell y4 (fun h => h)
    have e5 := hO.cell y5 (fun h => h)
    have e0 := hO.cell x0 (fun h => h)
    have hplW : p < W.heap.size := World.block_lt_of_cell? W _ e3
    have hnbW : nb < W.heap.size := World.block_lt_of_cell? W _ e0
    obtain rfl | rfl | rfl | rfl | rfl | rfl | rfl | rfl | rfl | rfl | rfl | rfl | rfl | rfl | rfl | rfl | rfl : i = 0 ∨ i = 1 ∨ i = 2 ∨ i = 3 ∨ i = 4 ∨ i = 5 ∨ i = 6 ∨ i = 7 ∨ i = 8 ∨ i = 9 ∨ i = 10 ∨ i = 11 ∨ i = 12 ∨ i = 13 ∨ i = 14 ∨ i = 15 ∨ i = 18 := by omega
    all_goals (simp only [List.getElem?_cons_zero, List.getElem?_cons_succ, Option.some.injEq] at ho; subst ho)
    · refine opV_of_value (w' := W) (v := _) ?_ ⟨rfl, Only.refl _ _⟩
      go_simp
    · refine opV_of_value (w' := W) (v := _) ?_ ⟨rfl, Only.refl _ _⟩
      go_simp
    · refine opV_of_value (w' := W) (v := _) ?_ ⟨rfl, Only.refl _ _⟩
      go_simp
    · refine opV_of_value (w' := W) (v := _) ?_ ⟨rfl, Only.refl _ _⟩
      go_simp
    · refine opV_of_value (w' := W) (v := _) ?_ ⟨rfl, Only.refl _ _⟩
      go_simp
    · refine opV_of_value (w' := W) (v := _) ?_ ⟨rfl, Only.refl _ _⟩
      go_simp
    · refine opV_of_value (w' := W) (v := _) ?_ ⟨rfl, Only.refl _ _⟩
      go_simp
    · refine opV_of_value (w' := W) (v := _) ?_ ⟨rfl, Only.refl _ _⟩
      go_simp
    · refine opV_of_value (w' := W) (v := _) ?_ ⟨rfl, Only.refl _ _⟩
      go_simp
    · refine opV_of_value (w' := W) (v := _) ?_ ⟨rfl, Only.refl _ _⟩
      go_simp
    · refine opV_of_value (w' := W) (v := _) ?_ ⟨rfl, Only.refl _ _⟩
      go_simp
    · refine opV_of_value (w' := W) (v := _) ?_ ⟨rfl, Only.refl _ _⟩
      go_simp
    · refine opV_of_enter (w' := W) (f := 49) (args := #[A.sv, .int .i64 r.height, .int .i64 r.view]) (by kernel_rfl) ((HLD.out W (HO0.out.trans hO)).mono ?_)
      rintro e W' ⟨rfl, hO'⟩
      exact ⟨_, rfl, rfl, hO'⟩
    · refine opV_of_value (w' := W) (v := _) ?_ ⟨rfl, Only.refl _ _⟩
      go_simp
    · refine opV_of_value (w' := W) (v := _) ?_ ⟨rfl, Only.refl _ _⟩
      go_simp
    · refine opV_of_value (w' := W) (v := _) ?_ ⟨rfl, Only.refl _ _⟩
      go_simp
    · refine opV_of_value (w' := W) (v := _) ?_ ⟨rfl, Only.refl _ _⟩
      go_simp
  case stA =>
    intro o g1 W ho hrow
    simp only [List.getElem?_cons_zero, List.getElem?_cons_succ, Option.some.injEq] at ho
    subst ho
    exact opV_store_one 3 (.tmp 5) (.tmp 27) rfl g1 _ (by kernel_rfl) (by kernel_rfl) 3 _ hrow Tryz.infoI1 rfl ⟨setRow_heap W g1 _ _ _ (0, 0) hrow, only_setRow W g1 _⟩
  case finA =>
    intro g1 w1 hgg1 hrowg1 hOg1
    simp only [updF, Nat.reduceEqDiff, reduceIte, List.length_cons, List.length_nil, Nat.zero_add, Nat.reduceAdd, frameAll, Act.put, List.getElem?_toArray, List.getElem?_cons_zero, List.getElem?_cons_succ, Option.bind_some, List.setIfInBounds_toArray, List.set_cons_zero, List.set_cons_succ]
    have HN1 := Lib.hid (HN0.out.still hOg1)
    have HO1 := Lib.hid (HO0.out.trans hOg1)
    have HG1 := Lib.hid (HG0.out.still hOg1)
    have HX1 := Lib.hid (row_still hOg1 HX0.out)
    have HL1 := Lib.hid hrowg1
    have hs1 := hOg1.size
    clear hOg1 hrowg1 y3 y4 y5 x0 HN0 HG0 HX0 HO0 HLD
    have hpl1 := HN1.out.plt
    have hnb1 : nb < w1.heap.size := by omega
    have hg1l : g1 < w1.heap.size := (Array.getElem?_eq_some_iff.1 HL1.out).1
    have x0 : w1.cell? ⟨nb, 0, none⟩ = some (Value.pointer (some ⟨p, 0, none⟩)) := cell_of_row _ _ 0 _ _ _ HX1.out
    have y13 : w1.cell? ⟨p, 13, none⟩ = some (Value.map (some A.sg)) := HN1.out.cells 13
    have hlk := HN1.out.sgd.look Tryz.lawS Tryz.underlying112 (WideMaps.keyOf_string_mk Tryz.underlying9 (kindB_max 1))
    rw [sgn_has HR.out.sg (by decide)] at hlk
    change (Instr.lookup _ _ (.string (⟨#[112, 114, 101, 112, 97, 114, 101]⟩ : ByteArray)) _).run _ _ = _ at hlk
    by_cases hs : r.signed.contains 1 = true
    · have HP := Lib.hid (show prepareR C.ms r = (r, false) by unfold prepareR; rw [if_pos hs])
      rw [hs] at hlk
      clear hs
      go_wp2
      go_ret
      exact ⟨by rw [HP.out]; rfl, by rw [HP.out]; exact NdTo.of HN1.out (HO1.out.mono fun _ _ h => h.elim)⟩
    have HPI := Lib.hid (show prepareR C.ms r = (match r.votes.find? (qPrep C.ms r) with
      | none => (r, false)
      | some t => match r.lock with
        | none => (putR r 1 t.b.val, true)
        | some (l, lv) => if l == t.b.val || r.votes.any (qBet C.ms r lv t.b.val) then (putR r 1 t.b.val, true) else (r, false)) by unfold prepareR; rw [if_neg hs])
    have hs' : r.signed.contains 1 = false := by simpa using hs
    rw [hs'] at hlk
    clear hs hs'
    obtain ⟨a1, c1, hv⟩ := HN1.out.vslice
    have HV := Lib.hid hv
    have y11 : w1.cell? ⟨p, 11, none⟩ = some (Value.slice a1 r.votes.length c1) := (HN1.out.cells 11).trans (congrArg some hv)
    have HIX := Lib.hid (prep_idx a1 r.votes.length c1 (fun j => .int .i64 (vbAt r.votes j).who) (fun j => .string (blB (vbAt r.votes j).b)) (fun j => .int .i64 (vbR C.ms (vbAt r.votes j))) (fun j => .int .i64 (vbS C.ms (vbAt r.votes j))) (fun j => .string (kindB (vbAt r.votes j).b.kind)) (fun j => .int .i64 (vbAt r.votes j).b.height) (fun j => .int .i64 (vbAt r.votes j).b.view) (fun j => .string (oneB (vbAt r.votes j).b.val)) (fun _ => .bool true)
      (.pointer (some ⟨g1, 0, none⟩)) (.pointer (some ⟨nb, 0, none⟩)) (fun j => qPrep C.ms r (vbAt r.votes j)) w1 hvl
      (fun j hj => by
        obtain ⟨vb, e, q1, q2, -, -, hc⟩ := HN1.out.vcell HV.out hj
        exact ⟨vb, 0, e, q1, q2, by rw [Nat.zero_add]; exact hc 0 (by decide), by rw [Nat.zero_add]; exact hc 1 (by decide), by rw [Nat.zero_add]; exact hc 2 (by decide), by rw [Nat.zero_add]; exact hc 3 (by decide), by rw [Nat.zero_add]; exact hc 4 (by decide), by rw [Nat.zero_add]; exact hc 5 (by decide), by rw [Nat.zero_add]; exact hc 6 (by decide), by rw [Nat.zero_add]; exact hc 7 (by decide), by rw [Nat.zero_add]; exact hc 8 (by decide)⟩)
      (fun j hj W hW => by
        have hk3 := (HR.out.votes _ (vbAt_mem hj)).1.kind
        have e : qPrep C.ms r (vbAt r.votes j) = (decide (((vbAt r.votes j).who : Int) = ld) && (decide (kindB (vbAt r.votes j).b.kind = (⟨#[112, 114, 111, 112, 111, 115, 101]⟩ : ByteArray)) && decide (((vbAt r.votes j).b.view : Int) = r.view))) := by
          unfold qPrep
          rw [HLE.out, int_beq, int_beq, show (⟨#[112, 114, 111, 112, 111, 115, 101]⟩ : ByteArray) = kindB 0 from rfl, kind_dec hk3 (by decide)]
        rw [e]
        exact prep_clo _ _ _ _ _ _ _ _ _ _ g1 nb p W (hW.cell (cell_of_row _ _ 0 _ _ _ HL1.out) (fun h => h)) (hW.cell (cell_of_row _ _ 0 _ _ _ HX1.out) (fun h => h)) (hW.cell (HN1.out.cells 5) (fun h => h))))
    clear hv
    have HFC := Lib.hid (firstI_cases (fun j => qPrep C.ms r (vbAt r.votes j)) r.votes.length)
    generalize firstI (fun j => qPrep C.ms r (vbAt r.votes j)) r.votes.length = fi at *
    go_wp2_with fail
    refine HIX.out.mono ?_
    rintro e w2 ⟨rfl, hO⟩
    have HN2 := Lib.hid (HN1.out.still hO)
    have HO2 := Lib.hid (HO1.out.trans hO)
    have HG2 := Lib.hid (HG1.out.still hO)
    have HX2 := Lib.hid (row_still hO HX1.out)
    have hs2 := hO.size
    clear hO x0 y13 y11 hlk HN1 HO1 HG1 HX1 HIX HL1
    have hpl2 := HN2.out.plt
    have hnb2 : nb < w2.heap.size := by omega
    have x0 : w2.cell? ⟨nb, 0, none⟩ = some (Value.pointer (some ⟨p, 0, none⟩)) := cell_of_row _ _ 0 _ _ _ HX2.out
    rcases HFC.out with ⟨hfi, hno⟩ | ⟨i, hil, hfi, hqi, hno⟩
    · subst hfi
      have HP := Lib.hid (show prepareR C.ms r = (r, false) by rw [HPI.out, find_no hno])
      clear hno
      go_wp2
      go_ret
      exact ⟨by rw [HP.out]; rfl, by rw [HP.out]; exact NdTo.of HN2.out (HO2.out.mono fun _ _ h => h.elim)⟩
    subst hfi
    have HFA := Lib.hid (find_at hil hno hqi)
    rw [HFA.out] at HPI
    have HBK := Lib.hid (HR.out.votes _ (vbAt_mem hil))
    clear hno hqi HFC HFA
    obtain ⟨b, rfl, m1, m2, -, -, hc⟩ := HN2.out.vcell HV.out hil
    have y11 : w2.cell? ⟨p, 11, none⟩ = some (Value.slice (some ⟨b, 0, none⟩) r.votes.length c1) := (HN2.out.cells 11).trans (congrArg some HV.out)
    have d7 : w2.cell? ⟨b, i * 9 + 7, none⟩ = some (Value.string (oneB (vbAt r.votes i).b.val)) := hc 7 (by decide)
    have y7 : w2.cell? ⟨p, 7, none⟩ = some (Value.bool r.lock.isSome) := HN2.out.cells 7
    have y8 : w2.cell? ⟨p, 8, none⟩ = some (Value.string (lkB r.lock)) := HN2.out.cells 8
    have hblk : b < w2.heap.size := World.block_lt_of_cell? w2 _ d7
    clear hc
    obtain ⟨x, hx⟩ : ∃ x, (vbAt r.votes i).b.val = x := ⟨_, rfl⟩
    have hx256 : x < 256 := by rw [← hx]; exact HBK.out.1.val
    have HXV := Lib.hid hx
    rw [hx] at d7
    have HPI := Lib.hid (show prepareR C.ms r = (match r.lock with
        | none => (putR r 1 x, true)
        | some (l, lv) => if l == x || r.votes.any (qBet C.ms r lv x) then (putR r 1 x, true) else (r, false)) by rw [HPI.out, ← hx])
    have HPUT := Lib.hid (fun (W : World) (hO : Only (fun _ => False) w2 W) (hP : prepareR C.ms r = (putR r 1 x, true)) => put_any 1 x W (HN2.out.still hO) HC.out (HR.out.ok HB.out) HR.out.seen HW.out (HR.out.put HB.out (by decide) hx256) (StepOk.put (by have := HSO.out; rw [hP] at this; exact this)) (Nat.le_trans HR.out.slen HB.out) (Nat.le_trans HR.out.glen HB.out) (HG2.out.still hO))
    clear hx
    cases hlo : r.lock with
    | none =>
      rw [hlo] at y7
      change _ = some (Value.bool false) at y7
      have HP := Lib.hid (show prepareR C.ms r = (putR r 1 x, true) by rw [HPI.out, hlo])
      have HPU := Lib.hid (HPUT.out w2 (Only.refl _ _) HP.out)
      change Hid (Calls _ _ #[_, .string (⟨#[112, 114, 101, 112, 97, 114, 101]⟩ : ByteArray), _] _ _) at HPU
      clear hlo HPI HPUT
      generalize oneB x = X at *
      go_wp2_with fail
      refine HPU.out.mono ?_
      rintro e w5 ⟨rfl, hT⟩
      have HT := Lib.hid (NdTo.pre HO2.out hT)
      clear hT HPU
      go_wp2
      go_ret
      exact ⟨by rw [HP.out]; rfl, by rw [HP.out]; exact HT.out⟩
    | some lv =>
      obtain ⟨l, lv⟩ := lv
      have HLK := Lib.hid (HR.out.lock l lv hlo)
      have y9 : w2.cell? ⟨p, 9, none⟩ = some (Value.int .i64 lv) := by have := HN2.out.cells 9; rw [show (ndCells C r A)[9]? = some (Value.int .i64 (lkV r.lock)) from rfl, hlo] at this; exact this
      have HY9 := Lib.hid y9
      rw [hlo] at y7 y8
      change _ = some (Value.bool true) at y7
      change _ = some (Value.string (oneB l)) at y8
      have HPI2 := Lib.hid (show prepareR C.ms r = (if l == x || r.votes.any (qBet C.ms r lv x) then (putR r 1 x, true) else (r, false)) by rw [HPI.out, hlo])
      clear hlo HPI
      by_cases hlx : l = x
      · have HP := Lib.hid (show prepareR C.ms r = (putR r 1 x, true) by rw [HPI2.out, if_pos (by rw [hlx, beq_self_eq_true, Bool.true_or])])
        have HPU := Lib.hid (HPUT.out w2 (Only.refl _ _) HP.out)
        change Hid (Calls _ _ #[_, .string (⟨#[112, 114, 101, 112, 97, 114, 101]⟩ : ByteArray), _] _ _) at HPU
        rw [hlx] at y8
        clear HPUT hlx HPI2
        generalize oneB x = X at *
        go_wp2_with fail
        refine HPU.out.mono ?_
        rintro e w5 ⟨rfl, hT⟩
        have HT := Lib.hid (NdTo.pre HO2.out hT)
        clear hT HPU
        go_wp2
        go_ret
        exact ⟨by rw [HP.out]; rfl, by rw [HP.out]; exact HT.out⟩
      have hne : oneB l ≠ oneB x := fun e => hlx (one_inj HLK.out.1 hx256 e)
      have HPI := Lib.hid (show prepareR C.ms r = (if r.votes.any (qBet C.ms r lv x) then (putR r 1 x, true) else (r, false)) by rw [HPI2.out, beq_eq_false_iff_ne.2 hlx, Bool.false_or])
      have q4 : ¬ (oneB l).toList = (oneB x).toList := fun e => hne ((bytes_toList _ _).1 e)
      have q5 : ((oneB l).toList == (oneB x).toList) = false := beq_eq_false_iff_ne.2 q4
      clear hlx HPI2 hne
      obtain ⟨X, hX⟩ : ∃ X, oneB x = X := ⟨_, rfl⟩
      have HXX := Lib.hid hX
      rw [hX] at d7 q4 q5
      clear hX
      generalize oneB l = XL at *
      go_upto_region 10 with fail
      go_wp2_with fail
      clear y7 y8 y9 y11 d7 q4 q5 x0
      go_loopw [76] (fun vi wr => ∃ k : Nat, k ≤ r.votes.length ∧ vi = .int .i64 k ∧ (∀ j, j < k → qBet C.ms r lv x (vbAt r.votes j) = false) ∧ Only (fun _ => False) w2 wr) (fun vi _ => r.votes.length - (intOf vi).toNat)
      case atStart => exact ⟨0, Nat.zero_le _, rfl, fun j hj => absurd hj (Nat.not_lt_zero _), Only.refl _ _⟩
      case round =>
        obtain ⟨k, hk, rfl, hno, hO⟩ := hrel
        have HNO := Lib.hid hno
        have HO := Lib.hid hO
        have hsz := hO.size
        clear hno hO
        by_cases hlt : k < r.votes.length
        rotate_left
        · obtain rfl : k = r.votes.length := by omega
          have HP := Lib.hid (show prepareR C.ms r = (r, false) by
            rw [HPI.out, if_neg]
            rw [Bool.not_eq_true, ← any_range r.votes ⟨0, ⟨0, 0, 0, 0⟩⟩, List.any_eq_false]
            intro j hj
            have := HNO.out j (List.mem_range.1 hj)
            unfold vbAt at this
            rw [this]
            decide)
          go_wp2
          go_ret
          exact ⟨by rw [HP.out]; rfl, by rw [HP.out]; exact NdTo.of (HN2.out.still HO.out) ((HO2.out.trans HO.out).mono fun _ _ h => h.elim)⟩
        obtain ⟨b', hbb, m1', m2', -, -, hc⟩ := (HN2.out.still HO.out).vcell HV.out hlt
        cases hbb
        have HYE := Lib.hid (fun (hq : qBet C.ms r lv x (vbAt r.votes k) = true) => show prepareR C.ms r = (putR r 1 x, true) by
          rw [HPI.out, if_pos]
          exact List.any_eq_true.2 ⟨_, vbAt_mem hlt, hq⟩)
        have HBO := Lib.hid (HR.out.votes _ (vbAt_mem hlt))
        have HNX := Lib.hid (fun (hq : qBet C.ms r lv x (vbAt r.votes k) = false) => show ∀ j, j < k + 1 → qBet C.ms r lv x (vbAt r.votes j) = false from fun j hj => by
          rcases Nat.lt_or_ge j k with h | h
          · exact HNO.out j h
          · rw [show j = k by omega]; exact hq)
        generalize hov : vbAt r.votes k = o at *
        have HQE := Lib.hid (show qBet C.ms r lv x o = (o.b.kind == 1 && (o.b.val == x && ((decide (lv < o.b.view) && decide (o.b.view < r.view)) && manyF C.ms r o.b))) from rfl)
        have d0 : wr.cell? ⟨b, k * 9, none⟩ = some (Value.int .i64 o.who) := hc 0 (by decide)
        have d1 : _ = some (Value.string (blB o.b)) := hc 1 (by decide)
        have d2 : _ = some (Value.int .i64 (vbR C.ms o)) := hc 2 (by decide)
        have d3 : _ = some (Value.int .i64 (vbS C.ms o)) := hc 3 (by decide)
        have d4 : _ = some (Value.string (kindB o.b.kind)) := hc 4 (by decide)
        have d5 : _ = some (Value.int .i64 o.b.height) := hc 5 (by decide)
        have d6 : _ = some (Value.int .i64 o.b.view) := hc 6 (by decide)
        have d7 : _ = some (Value.string (oneB o.b.val)) := hc 7 (by decide)
        have d8 : _ = some (Value.bool true) := hc 8 (by decide)
        clear hc hov
        generalize vbR C.ms o = oR at *
        generalize vbS C.ms o = oS at *
        generalize blB o.b = oT at *
        have hA1 := (Only.refl (fun _ => False) wr).alloc (.cells #[.int .i64 o.who, .string oT, .int .i64 oR, .int .i64 oS, .string (kindB o.b.kind), .int .i64 o.b.height, .int .i64 o.b.view, .string (oneB o.b.val), .bool true] 184)
        have HOB := Lib.hid (hA1.alloc (.cells #[.string (kindB o.b.kind), .int .i64 o.b.height, .int .i64 o.b.view, .string (oneB o.b.val)] 86))
        have hB2 := heap_alloc_last (wr.alloc (.cells #[.int .i64 o.who, .string oT, .int .i64 oR, .int .i64 oS, .string (kindB o.b.kind), .int .i64 o.b.height, .int .i64 o.b.view, .string (oneB o.b.val), .bool true] 184)) (.cells #[.string (kindB o.b.kind), .int .i64 o.b.height, .int .i64 o.b.view, .string (oneB o.b.val)] 86)
        rw [World.size_alloc] at hB2
        have HB2 := Lib.hid hB2
        clear hA1 hB2
        go_upto_region 14 with fail
        clear d0 d1 d2 d3 d4 d5 d6 d7 d8
        generalize hw3 : World.alloc (World.alloc wr _) _ = w3 at *
        have hs3 : w3.heap.size = wr.heap.size + 2 := by rw [← hw3]; simp
        clear hw3
        have HO23 := Lib.hid (HO.out.trans HOB.out)
        have HN3 := Lib.hid (HN2.out.still HO23.out)
        have HX3 := Lib.hid (row_still HO23.out HX2.out)
        have e2 : w3.cell? ⟨wr.heap.size + 1, 2, none⟩ = some (Value.int .i64 o.b.view) := cell_of_row _ _ 2 _ _ _ HB2.out
        have y5 : w3.cell? ⟨p, 5, none⟩ = some (Value.int .i64 r.view) := HN3.out.cells 5
        have HLV := Lib.hid (show w3.cell? ⟨p, 9, none⟩ = some (Value.int .i64 lv) from HO23.out.cell HY9.out (fun h => h))
        have y9 := HLV.out
        have x0 : w3.cell? ⟨nb, 0, none⟩ = some (Value.pointer (some ⟨p, 0, none⟩)) := cell_of_row _ _ 0 _ _ _ HX3.out
        have hpl3 : p < w3.heap.size := HN3.out.plt
        have hnb3 : nb < w3.heap.size := by omega
        have hgb3 : wr.heap.size + 1 < w3.heap.size := by omega
        go_cut [12] (fun v wx => v = .bool (decide (lv < o.b.view) && decide (o.b.view < r.view)) ∧ Only (fun _ => False) w3 wx)
        case first =>
          have E2 := fun (d : Nat) (os : Array Obj) => cell_regrown e2 d os
          have Y5 := fun (d : Nat) (os : Array Obj) => cell_regrown y5 d os
          have Y9 := fun (d : Nat) (os : Array Obj) => cell_regrown y9 d os
          have X0 := fun (d : Nat) (os : Array Obj) => cell_regrown x0 d os
          clear e2 y5 y9 x0
          by_cases h1 : lv < o.b.view
          · have i1 : (lv : Int) < o.b.view := by omega
            have HD := Lib.hid (show (decide (lv < o.b.view) && decide (o.b.view < r.view)) = decide ((o.b.view : Int) < r.view) by rw [decide_eq_true h1, Bool.true_and]; exact decide_eq_decide.2 (by omega))
            clear h1
            refine wp_region_quiet_below (by kernel_rfl) (by kernel_rfl) ?_
            repeat (go_big_quiet_step (fail))
            refine wpQuiet_nil ?_
            intro w4 hw'
            obtain ⟨pq, hw''⟩ := hw'
            have hO4 := Only.ofBelow (below_regrown w3 pq.d pq.os) (fun _ => False)
            rw [← hw''] at hO4
            go_wp2
            go_meet
            exact ⟨by first | (rw [HD.out]; done) | (rw [HD.out]; exact congrArg Value.bool (decide_eq_decide.2 (by omega))) | (exact congrArg Value.bool (decide_eq_decide.2 (by omega))), by first | exact hO4 | (rw [hw''] at hO4; exact hO4)⟩
          · have i1 : ¬ (lv : Int) < o.b.view := by omega
            have HD := Lib.hid (show (decide (lv < o.b.view) && decide (o.b.view < r.view)) = false by rw [decide_eq_false h1, Bool.false_and])
            clear h1
            refine wp_region_quiet_below (by kernel_rfl) (by kernel_rfl) ?_
            repeat (go_big_quiet_step (fail))
            refine wpQuiet_nil ?_
            intro w4 hw'
            obtain ⟨pq, hw''⟩ := hw'
            have hO4 := Only.ofBelow (below_regrown w3 pq.d pq.os) (fun _ => False)
            rw [← hw''] at hO4
            go_wp2
            go_meet
            exact ⟨by first | rfl | (rw [HD.out]; done) | (rw [HD.out]; rfl), by first | exact hO4 | (rw [hw''] at hO4; exact hO4)⟩
        case rest =>
        obtain ⟨rfl, hO4⟩ := hcut
        generalize wc = w4 at *
        have HO4 := Lib.hid (HO23.out.trans hO4)
        have HN4 := Lib.hid (HN3.out.still hO4)
        have HB4 := Lib.hid (row_still hO4 HB2.out)
        have HX4 := Lib.hid (row_still hO4 HX3.out)
        have hs4 := hO4.size
        clear e2 y5 y9 x0 hO4 HLV HN3 HX3 HB2
        have hpl4 : p < w4.heap.size := HN4.out.plt
        have hnb4 : nb < w4.heap.size := by omega
        have hgb4 : wr.heap.size + 1 < w4.heap.size := by omega
        have e0 : w4.cell? ⟨wr.heap.size + 1, 0, none⟩ = some (Value.string (kindB o.b.kind)) := cell_of_row _ _ 0 _ _ _ HB4.out
        have e1 : w4.cell? ⟨wr.heap.size + 1, 1, none⟩ = some (Value.int .i64 o.b.height) := cell_of_row _ _ 1 _ _ _ HB4.out
        have e2 : w4.cell? ⟨wr.heap.size + 1, 2, none⟩ = some (Value.int .i64 o.b.view) := cell_of_row _ _ 2 _ _ _ HB4.out
        have e3 : w4.cell? ⟨wr.heap.size + 1, 3, none⟩ = some (Value.string (oneB o.b.val)) := cell_of_row _ _ 3 _ _ _ HB4.out
        have x0 : w4.cell? ⟨nb, 0, none⟩ = some (Value.pointer (some ⟨p, 0, none⟩)) := cell_of_row _ _ 0 _ _ _ HX4.out
        have hK := HBO.out.1.kind
        by_cases hk1 : o.b.kind = 1
        rotate_left
        · have HQ := Lib.hid (show qBet C.ms r lv x o = false by rw [HQE.out, beq_eq_false_iff_ne.2 hk1, Bool.false_and])
          have hne : kindB o.b.kind ≠ (⟨#[112, 114, 101, 112, 97, 114, 101]⟩ : ByteArray) := fun e => hk1 (kindB_inj o.b.kind hK 1 (by decide) (congrArg (fun b : ByteArray => b.data.toList) e))
          generalize kindB o.b.kind = K at *
          have q4 : ¬ K.toList = [112, 114, 101, 112, 97, 114, 101] := toList_lit hne
          have q5 : (K.toList == [112, 114, 101, 112, 97, 114, 101]) = false := beq_eq_false_iff_ne.2 q4
          clear hne hk1 hK
          go_wp2
          all_goals exact ⟨⟨k + 1, by omega, by go_num, HNX.out HQ.out, HO4.out⟩, by simp [intOf]; omega⟩
        have hKB : kindB o.b.kind = (⟨#[112, 114, 101, 112, 97, 114, 101]⟩ : ByteArray) := by rw [hk1]; rfl
        have HMA := Lib.hid (many_any o.b HBO.out.1 w4 HN4.out HC.out (HR.out.ok HB.out))
        rw [hKB] at e0 HMA
        clear hKB hK
        by_cases hv : o.b.val = x
        rotate_left
        · have HQ := Lib.hid (show qBet C.ms r lv x o = false by rw [HQE.out, beq_eq_false_iff_ne.2 hv, Bool.false_and, Bool.and_false])
          have hne : oneB o.b.val ≠ X := fun e => hv (one_inj HBO.out.1.val hx256 (by rw [e, HXX.out]))
          clear hv HMA
          generalize oneB o.b.val = X2 at *
          have q4 : ¬ X2.toList = X.toList := fun e => hne ((bytes_toList _ _).1 e)
          have q5 : (X2.toList == X.toList) = false := beq_eq_false_iff_ne.2 q4
          clear hne
          go_wp2
          all_goals exact ⟨⟨k + 1, by omega, by go_num, HNX.out HQ.out, HO4.out⟩, by simp [intOf]; omega⟩
        have hxv : oneB o.b.val = X := by rw [hv, HXX.out]
        rw [hxv] at e3 HMA
        clear hxv
        cases hbt : (decide (lv < o.b.view) && decide (o.b.view < r.view))
        · have HQ := Lib.hid (show qBet C.ms r lv x o = false by rw [HQE.out, hbt, Bool.false_and, Bool.and_false, Bool.and_false])
          clear hbt HMA hv
          go_wp2
          all_goals exact ⟨⟨k + 1, by omega, by go_num, HNX.out HQ.out, HO4.out⟩, by simp [intOf]; omega⟩
        cases hmn : manyF C.ms r o.b
        · have HQ := Lib.hid (show qBet C.ms r lv x o = false by rw [HQE.out, hmn, Bool.and_false, Bool.and_false, Bool.and_false])
          rw [hmn] at HMA
          clear hbt hv hmn
          go_wp2_with fail
          refine HMA.out.mono ?_
          rintro e w5 ⟨rfl, hO5⟩
          have HO5 := Lib.hid (HO4.out.trans hO5)
          clear hO5 HMA
          go_wp2
          all_goals exact ⟨⟨k + 1, by omega, by go_num, HNX.out HQ.out, HO5.out⟩, by simp [intOf]; omega⟩
        have HP := Lib.hid (HYE.out (by rw [HQE.out, hk1, hv, hbt, hmn]; simp))
        rw [hmn] at HMA
        clear hbt hv hmn hk1
        go_wp2_with fail
        refine HMA.out.mono ?_
        rintro e w5 ⟨rfl, hO5⟩
        have HO5 := Lib.hid (HO4.out.trans hO5)
        have HX5 := Lib.hid (row_still hO5 HX4.out)
        have hs5 := hO5.size
        have HPU := Lib.hid (HPUT.out w5 HO5.out HP.out)
        change Hid (Calls _ _ #[_, .string (⟨#[112, 114, 101, 112, 97, 114, 101]⟩ : ByteArray), _] _ _) at HPU
        rw [HXX.out] at HPU
        clear hO5 HMA e0 e1 e2 e3 x0
        have x0 : w5.cell? ⟨nb, 0, none⟩ = some (Value.pointer (some ⟨p, 0, none⟩)) := cell_of_row _ _ 0 _ _ _ HX5.out
        have hnb5 : nb < w5.heap.size := by omega
        go_wp2_with fail
        refine HPU.out.mono ?_
        rintro e w6 ⟨rfl, hT⟩
        have HT := Lib.hid (NdTo.pre (HO2.out.trans HO5.out) hT)
        clear hT HPU
        go_wp2
        go_ret
        exact ⟨by rw [HP.out]; rfl, by rw [HP.out]; exact HT.out⟩
end Go.Proofs.YtldkjkjpaiajlaaGreatDoor

namespace Go.Proofs.YtldkjkjpaiajlaaGreatDoor
open Go.RowKit

def qDec (ms : List Mm) (r : Nr) (t : Vb) : Bool := t.b.kind == 2 && manyF ms r t.b
def pickR (ms : List Mm) (votes : List Vb) (b : Bl) : List Vb := ms.filterMap fun m => votes.find? fun t => t.who == m.id && decide (t.b = b)
def concludeR (ms : List Mm) (r : Nr) (b : Bl) (now : Nat) : Nr :=
  { id := r.id, height := r.height + 1, view := 0, began := now, lock := none, wants := r.wants.filter (· != b.val), votes := [], seen := [], signed := [], dec := r.dec ++ [(r.height, b.val, pickR ms r.votes b)] }
def decideR (ms : List Mm) (r : Nr) (now : Nat) : Nr × Bool :=
  match r.votes.find? (qDec ms r) with
  | none => (r, false)
  | some t => (concludeR ms r t.b now, true)
/-- What conclude is to do. -/
def ConOk (C : Nc) (p : Nat) (now : Nat) (r : Nr) : Prop :=
  ∀ t, r.votes.find? (qDec C.ms r) = some t → ∀ W F G A, NdAt W F G p C r A → GA W G → Calls Tryz.prog 101 #[.pointer (some ⟨p, 0, none⟩), .agg #[.string (kindB t.b.kind), .int .i64 t.b.height, .int .i64 t.b.view, .string (oneB t.b.val)], .int .i64 now] W fun e w' => e = .returned (.tuple #[]) ∧ NdTo W F G p C (concludeR C.ms r t.b now) w'
set_option maxHeartbeats 8000000 in
theorem decide_any (now : Nat) (B : Nat) (w : World) {F G : Nat → Prop} {p : Nat} {C : Nc} {r : Nr} {A : Na} (h : NdAt w F G p C r A) (hC : CxOk C) (hr : NrB r B) (hB : B ≤ 1000000) (hcc : ConOk C p now r) (hG : GA w G) :
    Calls Tryz.prog 61 #[.pointer (some ⟨p, 0, none⟩), .int .i64 now] w fun e w' => e = .returned (.bool (decideR C.ms r now).2) ∧ NdTo w F G p C (decideR C.ms r now).1 w' := by
  have HN := Lib.hid h
  have HC := Lib.hid hC
  have HR := Lib.hid hr
  have HCC := Lib.hid hcc
  have HG := Lib.hid hG
  have HB := Lib.hid hB
  have hpl := h.plt
  have hvl := Nat.le_trans hr.vlen hB
  obtain ⟨a1, c1, hv⟩ := h.vslice
  have HV := Lib.hid hv
  have y11 : w.cell? ⟨p, 11, none⟩ = some (Value.slice a1 r.votes.length c1) := (h.cells 11).trans (congrArg some hv)
  have HPI := Lib.hid (show decideR C.ms r now = (match r.votes.find? (qDec C.ms r) with | none => (r, false) | some t => (concludeR C.ms r t.b now, true)) from rfl)
  clear h hC hr hcc hG hv
  go_enter Tryz.func61, Tryz.ntmps61
  go_wp2_with fail
  clear y11
  go_loopw [12] (fun vi wr => ∃ k : Nat, k ≤ r.votes.length ∧ vi = .int .i64 k ∧ (∀ j, j < k → qDec C.ms r (vbAt r.votes j) = false) ∧ Only (fun _ => False) w wr) (fun vi _ => r.votes.length - (intOf vi).toNat)
  case atStart => exact ⟨0, Nat.zero_le _, rfl, fun j hj => absurd hj (Nat.not_lt_zero _), Only.refl _ _⟩
  case round =>
    obtain ⟨k, hk, rfl, hno, hO⟩ := hrel
    have HNO := Lib.hid hno
    have HO := Lib.hid hO
    have hsz := hO.size
    clear hno hO
    by_cases hlt : k < r.votes.length
    rotate_left
    · obtain rfl : k = r.votes.length := by omega
      have HP := Lib.hid (show decideR C.ms r now = (r, false) by rw [HPI.out, find_no HNO.out])
      go_wp2
      go_ret
      exact ⟨by rw [HP.out]; rfl, by rw [HP.out]; exact NdTo.of (HN.out.still HO.out) (HO.out.mono fun _ _ h => h.elim)⟩
    obtain ⟨b, rfl, m1, m2, -, -, hc⟩ := (HN.out.still HO.out).vcell HV.out hlt
    have HFA := Lib.hid (fun hq => find_at (q := qDec C.ms r) hlt HNO.out hq)
    have HBK := Lib.hid (HR.out.votes _ (vbAt_mem hlt))
    have HNX := Lib.hid (fun (hq : qDec C.ms r (vbAt r.votes k) = false) => show ∀ j, j < k + 1 → qDec C.ms r (vbAt r.votes j) = false from fun j hj => by
      rcases Nat.lt_or_ge j k with h | h
      · exact HNO.out j h
      · rw [show j = k by omega]; exact hq)
    generalize hov : vbAt r.votes k = o at *
    have HQE := Lib.hid (show qDec C.ms r o = (o.b.kind == 2 && manyF C.ms r o.b) from rfl)
    have d0 : wr.cell? ⟨b, k * 9, none⟩ = some (Value.int .i64 o.who) := hc 0 (by decide)
    have d1 : _ = some (Value.string (blB o.b)) := hc 1 (by decide)
    have d2 : _ = some (Value.int .i64 (vbR C.ms o)) := hc 2 (by decide)
    have d3 : _ = some (Value.int .i64 (vbS C.ms o)) := hc 3 (by decide)
    have d4 : _ = some (Value.string (kindB o.b.kind)) := hc 4 (by decide)
    have d5 : _ = some (Value.int .i64 o.b.height) := hc 5 (by decide)
    have d6 : _ = some (Value.int .i64 o.b.view) := hc 6 (by decide)
    have d7 : _ = some (Value.string (oneB o.b.val)) := hc 7 (by decide)
    have d8 : _ = some (Value.bool true) := hc 8 (by decide)
    clear hc hov
    generalize vbR C.ms o = oR at *
    generalize vbS C.ms o = oS at *
    generalize blB o.b = oT at *
    have HOB := Lib.hid ((Only.refl (fun _ => False) wr).alloc (.cells #[.int .i64 o.who, .string oT, .int .i64 oR, .int .i64 oS, .string (kindB o.b.kind), .int .i64 o.b.height, .int .i64 o.b.view, .string (oneB o.b.val), .bool true] 184))
    have HB2 := Lib.hid (heap_alloc_last wr (.cells #[.int .i64 o.who, .string oT, .int .i64 oR, .int .i64 oS, .string (kindB o.b.kind), .int .i64 o.b.height, .int .i64 o.b.view, .string (oneB o.b.val), .bool true] 184))
    go_upto_region 4 with fail
    clear d0 d1 d2 d3 d4 d5 d6 d7 d8
    generalize hw2 : World.alloc wr _ = w2 at *
    have hs2 : w2.heap.size = wr.heap.size + 1 := by rw [← hw2]; simp
    clear hw2
    have HO2 := Lib.hid (HO.out.trans HOB.out)
    have HN2 := Lib.hid (HN.out.still HO2.out)
    have HMA := Lib.hid (many_any o.b HBK.out.1 w2 HN2.out HC.out (HR.out.ok HB.out))
    have hK := HBK.out.1.kind
    have hgb : wr.heap.size < w2.heap.size := by omega
    have e4 : w2.cell? ⟨wr.heap.size, 4, none⟩ = some (Value.string (kindB o.b.kind)) := cell_of_row _ _ 4 _ _ _ HB2.out
    have e5 : w2.cell? ⟨wr.heap.size, 5, none⟩ = some (Value.int .i64 o.b.height) := cell_of_row _ _ 5 _ _ _ HB2.out
    have e6 : w2.cell? ⟨wr.heap.size, 6, none⟩ = some (Value.int .i64 o.b.view) := cell_of_row _ _ 6 _ _ _ HB2.out
    have e7 : w2.cell? ⟨wr.heap.size, 7, none⟩ = some (Value.string (oneB o.b.val)) := cell_of_row _ _ 7 _ _ _ HB2.out
    by_cases hk1 : o.b.kind = 2
    rotate_left
    · have HQ := Lib.hid (show qDec C.ms r o = false by rw [HQE.out, beq_eq_false_iff_ne.2 hk1]; rfl)
      have hne : kindB o.b.kind ≠ (⟨#[99, 111, 109, 109, 105, 116]⟩ : ByteArray) := fun e => hk1 (kindB_inj o.b.kind hK 2 (by decide) (congrArg (fun b : ByteArray => b.data.toList) e))
      clear HMA
      generalize kindB o.b.kind = K at *
      have q4 : ¬ K.toList = [99, 111, 109, 109, 105, 116] := toList_lit hne
      have q5 : (K.toList == [99, 111, 109, 109, 105, 116]) = false := beq_eq_false_iff_ne.2 q4
      clear hne hk1 hK
      go_wp2
      all_goals exact ⟨⟨k + 1, by omega, by go_num, HNX.out HQ.out, HO2.out⟩, by simp [intOf]; omega⟩
    have hKB : kindB o.b.kind = (⟨#[99, 111, 109, 109, 105, 116]⟩ : ByteArray) := by rw [hk1]; rfl
    have HKB := Lib.hid hKB
    rw [hKB] at HMA e4
    clear hKB hK
    cases hmn : manyF C.ms r o.b
    · have HQ := Lib.hid (show qDec C.ms r o = false by rw [HQE.out, hmn, Bool.and_false])
      rw [hmn] at HMA
      clear hmn
      go_wp2_with fail
      refine HMA.out.mono ?_
      rintro e w3 ⟨rfl, hO3⟩
      have HO3 := Lib.hid (HO2.out.trans hO3)
      clear hO3 HMA
      go_wp2
      all_goals exact ⟨⟨k + 1, by omega, by go_num, HNX.out HQ.out, HO3.out⟩, by simp [intOf]; omega⟩
    have HQ := Lib.hid (show qDec C.ms r o = true by rw [HQE.out, hk1, hmn]; rfl)
    have HP := Lib.hid (show decideR C.ms r now = (concludeR C.ms r o.b now, true) by rw [HPI.out, HFA.out HQ.out])
    rw [hmn] at HMA
    clear hmn hk1
    go_wp2_with fail
    refine HMA.out.mono ?_
    rintro e w3 ⟨rfl, hO3⟩
    have HO3 := Lib.hid (HO2.out.trans hO3)
    have HB3 := Lib.hid (row_still hO3 HB2.out)
    have hs3 := hO3.size
    have HCL := Lib.hid (HCC.out o (HFA.out HQ.out) w3 F G A (HN2.out.still hO3) (HG.out.still HO3.out))
    rw [HKB.out] at HCL
    clear hO3 HMA e4 e5 e6 e7
    have e4 : w3.cell? ⟨wr.heap.size, 4, none⟩ = some (Value.string (⟨#[99, 111, 109, 109, 105, 116]⟩ : ByteArray)) := (cell_of_row _ _ 4 _ _ _ HB3.out).trans (by rw [← HKB.out]; rfl)
    have e5 : w3.cell? ⟨wr.heap.size, 5, none⟩ = some (Value.int .i64 o.b.height) := cell_of_row _ _ 5 _ _ _ HB3.out
    have e6 : w3.cell? ⟨wr.heap.size, 6, none⟩ = some (Value.int .i64 o.b.view) := cell_of_row _ _ 6 _ _ _ HB3.out
    have e7 : w3.cell? ⟨wr.heap.size, 7, none⟩ = some (Value.string (oneB o.b.val)) := cell_of_row _ _ 7 _ _ _ HB3.out
    have hgb3 : wr.heap.size < w3.heap.size := by omega
    go_wp2_with fail
    refine HCL.out.mono ?_
    rintro e w4 ⟨rfl, hT⟩
    have HT := Lib.hid (NdTo.pre HO3.out hT)
    clear hT HCL
    go_wp2
    go_ret
    exact ⟨by rw [HP.out]; rfl, by rw [HP.out]; exact HT.out⟩
end Go.Proofs.YtldkjkjpaiajlaaGreatDoor

namespace Go.Proofs.YtldkjkjpaiajlaaGreatDoor
open Go.RowKit

def dnTo (ds : Nat → Bool) : Nat → Bool
  | 0 => false
  | k + 1 => dnTo ds k || ds k
theorem GA.to {w w' : World} {F G : Nat → Prop} {p : Nat} {C : Nc} {r : Nr} (hG : GA w G) (h : NdTo w F G p C r w') : ∃ F' G' A, NdAt w' F' G' p C r A ∧ GA w' G' ∧ (∀ k, F' k → F k ∨ w.heap.size ≤ k) ∧ (∀ k, F k → F' k) ∧ (∀ k, G' k → G k ∨ w.heap.size ≤ k) ∧ Only G w w' := by
  obtain ⟨F', G', A, h1, h2, h3, h4, h5⟩ := h
  exact ⟨F', G', A, h1, hG.step h5 h4, h2, h3, h4, h5⟩
set_option maxHeartbeats 4000000 in
theorem act_any (now : Int) (n c gs : Nat) (fs : Nat → FuncId) (rs : Nat → Nr) (ds : Nat → Bool) (w : World) {F G : Nat → Prop} {p : Nat} {C : Nc} {A : Na} (h : NdAt w F G p C (rs 0) A) (hG : GA w G) (hn : n ≤ 10) (hc : n ≤ c ∧ c ≤ 9223372036854775807) (hgs : ¬ F gs)
    (hfs : ∀ k, k < n → fs k = 58 ∨ fs k = 59 ∨ fs k = 60 ∨ fs k = 61)
    (hcell : ∀ k, k < n → w.cell? ⟨gs, k, none⟩ = some (.func (.func (fs k)) #[] #[]))
    (hst : ∀ k, k < n → ∀ W F' G' A', NdAt W F' G' p C (rs k) A' → GA W G' → Calls Tryz.prog (fs k) #[.pointer (some ⟨p, 0, none⟩), .int .i64 now] W fun e w' => e = .returned (.bool (ds k)) ∧ NdTo W F' G' p C (rs (k + 1)) w') :
    Calls Tryz.prog 57 #[.pointer (some ⟨p, 0, none⟩), .int .i64 now, .slice (some ⟨gs, 0, none⟩) n c] w fun e w' => e = .returned (.bool (dnTo ds n)) ∧ NdTo w F G p C (rs n) w' := by
  have HN := Lib.hid h
  have HG := Lib.hid hG
  have HC := Lib.hid hcell
  have HS := Lib.hid hst
  have HGS := Lib.hid hgs
  have HT0 := Lib.hid (NdTo.of h (Only.refl G w))
  obtain ⟨hc1, hc2⟩ := hc
  have HFS := Lib.hid hfs
  clear h hG hcell hst hgs hfs
  go_enter Tryz.func57, Tryz.ntmps57
  go_wp2_with fail
  go_loopw [7, 12] (fun v7 vi wr => ∃ k : Nat, k ≤ n ∧ vi = .int .i64 k ∧ v7 = .bool (dnTo ds k) ∧ NdTo w F G p C (rs k) wr) (fun _ vi _ => n - (intOf vi).toNat)
  case atStart => exact ⟨0, Nat.zero_le _, rfl, rfl, HT0.out⟩
  case round =>
    obtain ⟨k, hk, rfl, rfl, hT⟩ := hrel
    have HT := Lib.hid hT
    have HD := Lib.hid (show dnTo ds (k + 1) = (dnTo ds k || ds k) from rfl)
    by_cases hlt : k < n
    · obtain ⟨F1, G1, A1, hN1, hG1, q1, q2, q3, hO⟩ := HG.out.to hT
      have hcl : wr.cell? ⟨gs, k, none⟩ = some (Value.func (.func (fs k)) #[] #[]) := hO.cell (HC.out k hlt) (fun hg => HGS.out (HN.out.sub _ hg))
      have hgl : gs < wr.heap.size := World.block_lt_of_cell? wr _ hcl
      have HCL := Lib.hid (HS.out k hlt wr F1 G1 A1 hN1 hG1)
      have HTR := Lib.hid (fun w2 (h2 : NdTo wr F1 G1 p C (rs (k + 1)) w2) => NdTo.trans hO q1 q2 q3 h2)
      clear hT hN1 hG1 q1 q2 q3 hO
      have hf := HFS.out k hlt
      generalize fs k = f at *
      generalize ds k = d at *
      generalize dnTo ds k = dk at *
      have hn0 : (k : Int) < n := by omega
      have hn1 : (0 : Int) ≤ k := by omega
      rcases hf with rfl | rfl | rfl | rfl
      all_goals
        go_wp2_with fail
        refine HCL.out.mono ?_
        rintro e w2 ⟨rfl, hT2⟩
        have HT2 := Lib.hid (HTR.out w2 hT2)
        clear hT2 HCL HTR hcl
        cases d
        · have HD2 := Lib.hid (show dnTo ds (k + 1) = dk by rw [HD.out, Bool.or_false])
          clear HD
          go_wp2
          all_goals exact ⟨⟨k + 1, by omega, by go_num, by rw [HD2.out], HT2.out⟩, by simp [intOf]; omega⟩
        · have HD2 := Lib.hid (show dnTo ds (k + 1) = true by rw [HD.out, Bool.or_true])
          clear HD
          go_wp2
          all_goals exact ⟨⟨k + 1, by omega, by go_num, by rw [HD2.out], HT2.out⟩, by simp [intOf]; omega⟩
    · obtain rfl : k = n := by omega
      clear hT
      go_wp2
      go_ret
      exact ⟨rfl, HT.out⟩
end Go.Proofs.YtldkjkjpaiajlaaGreatDoor

namespace Go.Proofs.YtldkjkjpaiajlaaGreatDoor
open Go.RowKit

def vbLine (ms : List Mm) (v : Vb) : ByteArray := vlineB v.who (blB v.b) (vbR ms v).toNat (vbS ms v).toNat
def atB (h : Nat) : ByteArray := (⟨#[97, 116, 32]⟩ : ByteArray) ++ decB h ++ (⟨#[10]⟩ : ByteArray)
def msgL (ms : List Mm) (h : Nat) (l : List Vb) : List UInt8 := (atB h).data.toList ++ l.flatMap fun v => (vbLine ms v).data.toList
def msgB (ms : List Mm) (h : Nat) (l : List Vb) : ByteArray := ⟨(msgL ms h l).toArray⟩
theorem sgR_bd (sec : Int) (t : ByteArray) : 0 ≤ sgR sec t ∧ sgR sec t < 2305843009213691579 := powP_bd 4 _
theorem vbLine_size {ms : List Mm} {v : Vb} (h : VbOk v) : (vbLine ms v).size ≤ 107 := by
  have h1 := sgR_bd (secOf ms v.who) (blB v.b)
  have h2 := sgS_bd (secOf ms v.who) (blB v.b)
  have h3 := blv_len h.1
  have h4 := h.2
  have := vlineB_size (who := v.who) (R := (vbR ms v).toNat) (S := (vbS ms v).toNat) (t := blB v.b) (by omega) (by unfold vbR; omega) (by unfold vbS; omega)
  unfold vbLine
  omega
theorem line_vb (ms : List Mm) (v : Vb) (hv : VbOk v) (w : World) (hG : Glob w) :
    Calls Tryz.prog 135 #[.agg #[.int .i64 v.who, .string (blB v.b), .int .i64 (vbR ms v), .int .i64 (vbS ms v)]] w fun e w' => e = .returned (.string (vbLine ms v)) ∧ Only (fun _ => False) w w' := by
  have h1 := sgR_bd (secOf ms v.who) (blB v.b)
  have h2 := sgS_bd (secOf ms v.who) (blB v.b)
  have h3 := blv_len hv.1
  have h4 := hv.2
  have := line_any v.who (vbR ms v).toNat (vbS ms v).toNat (blB v.b) w (by omega) (by unfold vbR; omega) (by unfold vbS; omega) (by omega) hG
  rw [show ((vbR ms v).toNat : Int) = vbR ms v from Int.toNat_of_nonneg h1.1, show ((vbS ms v).toNat : Int) = vbS ms v from Int.toNat_of_nonneg h2.1] at this
  exact this
theorem flat_len {ms : List Mm} : ∀ {l : List Vb}, (∀ v ∈ l, VbOk v) → (l.flatMap fun v => (vbLine ms v).data.toList).length ≤ 107 * l.length
  | [], _ => Nat.le_refl _
  | v :: l, h => by
    have h1 := vbLine_size (ms := ms) (h v List.mem_cons_self)
    have h2 := flat_len (ms := ms) (l := l) fun v hv => h v (List.mem_cons_of_mem _ hv)
    rw [List.flatMap_cons, List.length_append, List.length_cons]
    have : (vbLine ms v).data.toList.length = (vbLine ms v).size := by simp
    omega
theorem take_flat {ms : List Mm} {l : List Vb} {k : Nat} (hk : k < l.length) : ((l.take (k + 1)).flatMap fun v => (vbLine ms v).data.toList) = ((l.take k).flatMap fun v => (vbLine ms v).data.toList) ++ (vbLine ms (vbAt l k)).data.toList := by
  rw [List.take_succ_eq_append_getElem hk, List.flatMap_append]
  unfold vbAt
  rw [lgetD _ _ hk]
  simp
theorem atB_size {h : Nat} (hh : h < 9223372036854775808) : (atB h).size ≤ 25 := by
  have := decB_size hh
  unfold atB
  rw [ByteArray.size_append, ByteArray.size_append]
  show 3 + _ + 1 ≤ _
  omega
set_option maxHeartbeats 4000000 in
theorem text_vb (ms : List Mm) (l : List Vb) (hgt p : Nat) (sv : Value) (w : World) (hp : w.cell? ⟨p, 4, none⟩ = some (.int .i64 hgt)) (hh : hgt ≤ 1000000000) (hl : l.length ≤ 1000000) (hv : ∀ v ∈ l, VbOk v) (hs : VrsAt w sv (l.map (vbVr ms))) (hG : GlobA w) :
    Calls Tryz.prog 91 #[.pointer (some ⟨p, 0, none⟩), sv] w fun e w' => e = .returned (.string (msgB ms hgt l)) ∧ Only (fun _ => False) w w' := by
  have hpl : p < w.heap.size := World.block_lt_of_cell? w _ hp
  have hA := (Only.refl (fun _ => False) w).alloc (.cells #[.pointer none, .slice none 0 0] 218)
  have HA := Lib.hid hA
  have HT0 := Lib.hid (bld_new w.heap.size w (Nat.le_refl _))
  have HV := Lib.hid hv
  have HS := Lib.hid hs
  have HG := Lib.hid hG
  have HB0 := Lib.hid ((Below.refl w.heap.size w).alloc (Nat.le_refl _) (.cells #[.pointer none, .slice none 0 0] 218))
  have y4 := hA.cell hp (fun h => h)
  have HI := Lib.hid (itoa_any hgt (w.alloc (.cells #[.pointer none, .slice none 0 0] 218)) (by omega) (hG.only hA).glob)
  have HE := Lib.hid (show (⟨#[97, 116, 32]⟩ : ByteArray) ++ decB hgt ++ (⟨#[10]⟩ : ByteArray) = atB hgt from rfl)
  have hds := decB_size (n := hgt) (by omega)
  have s1 : ((⟨#[97, 116, 32]⟩ : ByteArray) ++ decB hgt).size ≤ 24 := by rw [ByteArray.size_append]; show 3 + _ ≤ _; omega
  have hat := atB_size (h := hgt) (by omega)
  have HMS := Lib.hid (show msgB ms hgt l = ⟨((atB hgt).data.toList ++ (l.take l.length).flatMap fun v => (vbLine ms v).data.toList).toArray⟩ by rw [List.take_length]; rfl)
  have hatl : (atB hgt).data.toList.length = (atB hgt).size := by simp
  obtain ⟨a1, c1, hsv⟩ := hs.slice
  rw [List.length_map] at hsv
  subst hsv
  clear hp hv hs hG hA
  generalize decB hgt = D at *
  go_enter Tryz.func91, Tryz.ntmps91
  go_upto_region 2 with fail
  generalize hw1 : w.alloc _ = w1 at *
  have hs1 : w1.heap.size = w.heap.size + 1 := by rw [← hw1]; simp
  clear hw1
  have hpl1 : p < w1.heap.size := by omega
  go_wp2_with fail
  refine HI.out.mono ?_
  rintro e w2 ⟨rfl, hO⟩
  have HB2 := Lib.hid (HB0.out.trans (hO.below (by omega) (fun _ _ h => h)))
  have HT2 := Lib.hid (HT0.out.only hO)
  have hs2 := hO.size
  clear hO HI y4 HT0 HB0 HA
  go_wp2_with fail
  rw [HE.out]
  refine (bwrite_any w.heap.size w.heap.size [] (atB hgt) w2 HT2.out (by simp only [List.length_nil]; omega) (by omega)).mono ?_
  rintro e w3 ⟨rfl, hP⟩
  rw [List.nil_append] at hP
  have HP := Lib.hid hP.is
  have HB3 := Lib.hid (HB2.out.trans hP.below)
  have hs3 := hP.below.size
  clear hP HT2 HB2
  go_wp2_with fail
  go_loopw [18] (fun vi wr => ∃ k : Nat, k ≤ l.length ∧ vi = .int .i64 k ∧ BldAt w.heap.size w.heap.size ((atB hgt).data.toList ++ (l.take k).flatMap fun v => (vbLine ms v).data.toList) wr ∧ Below w.heap.size w wr) (fun vi _ => l.length - (intOf vi).toNat)
  case atStart => exact ⟨0, Nat.zero_le _, rfl, by rw [List.take_zero, List.flatMap_nil, List.append_nil]; exact HP.out, HB3.out⟩
  case round =>
    clear HP HB3 hs1 hs2 hs3
    obtain ⟨k, hk, rfl, hT, hB⟩ := hrel
    have HT := Lib.hid hT
    have HB := Lib.hid hB
    have hsz := hB.size
    have hfl := flat_len (ms := ms) (l := l.take k) fun v hv => HV.out v (List.mem_of_mem_take hv)
    rw [List.length_take, Nat.min_eq_left hk] at hfl
    clear hT hB
    by_cases hlt : k < l.length
    rotate_left
    · obtain rfl : k = l.length := by omega
      clear hlt
      go_wp2_with fail
      refine (bstring_any w.heap.size w.heap.size _ wr HT.out hsz).mono ?_
      rintro e w4 ⟨rfl, hb⟩
      have HB4 := Lib.hid (HB.out.trans hb)
      clear hb HT HB
      go_wp2
      go_ret
      exact ⟨rfl, Only.ofBelow HB4.out _⟩
    have HOW := Lib.hid (Only.ofBelow HB.out (fun _ => False))
    obtain ⟨b, off, rfl, m1, m2, d0, d1, d2, d3⟩ := (VrsAt.only HOW.out HS.out).cellAt (j := k) (by rw [List.length_map]; exact hlt)
    rw [List.length_map] at m1
    have hva : vrAt (l.map (vbVr ms)) k = vbVr ms (vbAt l k) := by
      unfold vrAt vbAt
      rw [lgetD _ _ hlt, lgetD _ _ (by rw [List.length_map]; exact hlt), List.getElem_map]
    rw [hva] at d0 d1 d2 d3
    have HVK := Lib.hid (HV.out _ (vbAt_mem hlt))
    have HTK := Lib.hid (take_flat (ms := ms) hlt)
    have hls := vbLine_size (ms := ms) HVK.out
    obtain ⟨o, ho⟩ : ∃ o, vbAt l k = o := ⟨_, rfl⟩
    rw [ho] at d0 d1 d2 d3 HVK HTK hls
    change _ = some (Value.int .i64 o.who) at d0
    change _ = some (Value.string (blB o.b)) at d1
    change _ = some (Value.int .i64 (vbR ms o)) at d2
    change _ = some (Value.int .i64 (vbS ms o)) at d3
    clear hva ho
    have hA := (Only.refl (fun _ => False) wr).alloc (.cells #[.int .i64 o.who, .string (blB o.b), .int .i64 (vbR ms o), .int .i64 (vbS ms o)] 35)
    have HX := Lib.hid (heap_alloc_last wr (.cells #[.int .i64 o.who, .string (blB o.b), .int .i64 (vbR ms o), .int .i64 (vbS ms o)] 35))
    have HLN := Lib.hid (line_vb ms o HVK.out _ (HG.out.only (HOW.out.trans hA)).glob)
    have HTA := Lib.hid (HT.out.only hA)
    have HBA := Lib.hid (HB.out.trans (hA.below hsz (fun _ _ h => h)))
    clear hA HT HB
    generalize vbR ms o = oR at *
    generalize vbS ms o = oS at *
    generalize blB o.b = oT at *
    generalize ((l.take k).flatMap fun v => (vbLine ms v).data.toList) = LK at *
    go_upto_region 6 with fail
    clear d0 d1 d2 d3
    generalize hw4 : wr.alloc _ = w4 at *
    have hs4 : w4.heap.size = wr.heap.size + 1 := by rw [← hw4]; simp
    clear hw4
    go_wp2_with (first | (refine wpList_load_row rfl 35 _ rfl wr.heap.size rfl 35 _ (0, 0) _ HX.out Tryz.underlying35 rfl Tryz.infoVote ?_))
    refine HLN.out.mono ?_
    rintro e w5 ⟨rfl, hO⟩
    have HT5 := Lib.hid (HTA.out.only hO)
    have HB5 := Lib.hid (HBA.out.trans (hO.below (by omega) (fun _ _ h => h)))
    have hs5 := hO.size
    clear hO HTA HBA HLN HX
    generalize vbLine ms o = ln at *
    go_wp2_with fail
    refine (bwrite_any w.heap.size w.heap.size _ ln w5 HT5.out (by rw [List.length_append]; omega) (by omega)).mono ?_
    rintro e w6 ⟨rfl, hP⟩
    have HT6 := Lib.hid hP.is
    have HB6 := Lib.hid (HB5.out.trans hP.below)
    clear hP HT5 HB5
    go_wp2
    all_goals exact ⟨⟨k + 1, by omega, by go_num, by rw [HTK.out, ← List.append_assoc]; exact HT6.out, HB6.out⟩, by simp [intOf]; omega⟩
end Go.Proofs.YtldkjkjpaiajlaaGreatDoor

namespace Go.Proofs.YtldkjkjpaiajlaaGreatDoor
open Go.RowKit

def vbrow (ms : List Mm) (l : List Vb) : List Value := l.flatMap (vbC ms)
theorem vbrow_get (ms : List Mm) {l : List Vb} {j k : Nat} (hj : j < l.length) (hk : k < 4) : (vbrow ms l)[j * 4 + k]? = (vbC ms (vbAt l j))[k]? := by
  unfold vbrow vbAt
  rw [flat_get (vbC ms) 4 (fun _ => rfl) l j k hj hk, lgetD _ _ hj]
theorem vbrow_take (ms : List Mm) {l : List Vb} {k : Nat} (hk : k < l.length) : vbrow ms (l.take (k + 1)) = vbrow ms (l.take k) ++ vbC ms (vbAt l k) := by
  unfold vbrow vbAt
  rw [List.take_succ_eq_append_getElem hk, List.flatMap_append, lgetD _ _ hk]
  simp
theorem vrs_of_own {w : World} {base : Nat} {v : Value} {ms : List Mm} {l : List Vb} (h : w.ownsRow base 35 4 v l.length (vbrow ms l)) : VrsAt w v (l.map (vbVr ms)) := by
  rcases Nat.eq_zero_or_pos l.length with h0 | h0
  · obtain ⟨a, c, e⟩ := slice_of_own h
    rw [h0] at e
    exact .inl ⟨a, c, e, by rw [List.eq_nil_of_length_eq_zero h0]; rfl⟩
  · obtain ⟨g, cap, e, h1, h2, hg⟩ : ∃ g cap, v = .slice (some ⟨g, 0, none⟩) l.length cap ∧ l.length ≤ cap ∧ cap ≤ 9223372036854775807 ∧ g < w.heap.size := by
      rcases h.2 with ⟨_, e0⟩ | ⟨g, cap, cur, e, _, hg, q1, q2, _⟩
      · omega
      · exact ⟨g, cap, e, q1, q2, (Array.getElem?_eq_some_iff.1 hg).1⟩
    subst e
    refine .inr ⟨g, 0, cap, by rw [List.length_map], hg, by rw [List.length_map]; exact h1, h2, fun j hj => ?_⟩
    rw [List.length_map] at hj
    have hc : ∀ k, k < 4 → w.cell? ⟨g, 0 + j * 4 + k, none⟩ = (vbC ms (vbAt l j))[k]? := fun k hk => by
      rw [Nat.zero_add, h.cellAt (j * 4 + k) (by omega), vbrow_get ms hj hk]
    have hva : vrAt (l.map (vbVr ms)) j = vbVr ms (vbAt l j) := by
      unfold vrAt vbAt
      rw [lgetD _ _ hj, lgetD _ _ (by rw [List.length_map]; exact hj), List.getElem_map]
    rw [hva]
    exact ⟨hc 0 (by decide), hc 1 (by decide), hc 2 (by decide), hc 3 (by decide)⟩
theorem four_one (a b c : Int) (t : ByteArray) : ∀ x ∈ [Value.int .i64 a, .string t, .int .i64 b, .int .i64 c], x.oneCell' = true := by
  intro x hx
  simp only [List.mem_cons, List.not_mem_nil, or_false] at hx
  rcases hx with rfl | rfl | rfl | rfl <;> rfl
theorem three_one (a b : Int) (t : ByteArray) : ∀ x ∈ [Value.int .i64 a, .int .i64 b, .string t], x.oneCell' = true := by
  intro x hx
  simp only [List.mem_cons, List.not_mem_nil, or_false] at hx
  rcases hx with rfl | rfl | rfl <;> rfl
def outM (ms : List Mm) (id : Nat) : List Nat := (ms.filter fun m => m.id != id).map (·.id)
def msgrow (id : Nat) (T : ByteArray) (l : List Nat) : List Value := l.flatMap fun (x : Nat) => [Value.int .i64 (id : Int), Value.int .i64 (x : Int), Value.string T]
theorem outM_take {ms : List Mm} {k id : Nat} (hk : k < ms.length) : outM (ms.take (k + 1)) id = if (mmAt ms k).id = id then outM (ms.take k) id else outM (ms.take k) id ++ [(mmAt ms k).id] := by
  unfold outM mmAt
  rw [List.take_succ_eq_append_getElem hk, List.filter_append, List.map_append, lgetD _ _ hk]
  by_cases h : ms[k].id = id
  · rw [if_pos h]
    simp [h]
  · rw [if_neg h]
    simp [h]
theorem msgrow_snoc (id : Nat) (T : ByteArray) (l : List Nat) (x : Nat) : msgrow id T (l ++ [x]) = msgrow id T l ++ [.int .i64 id, .int .i64 x, .string T] := by
  unfold msgrow
  rw [List.flatMap_append]
  simp
theorem Tryz.infoVoz : (Tryz.prog.info? 35).map (fun i => (i.zero, i.size, i.bytes)) = some (some (.agg #[.int .i64 0, .string (⟨#[]⟩ : ByteArray), .int .i64 0, .int .i64 0]), 4, 40) := by kernel_rfl
theorem Tryz.infoMsz : (Tryz.prog.info? 75).map (fun i => (i.zero, i.size, i.bytes)) = some (some (.agg #[.int .i64 0, .int .i64 0, .string (⟨#[]⟩ : ByteArray)]), 3, 32) := by kernel_rfl
set_option maxRecDepth 100000 in
set_option maxHeartbeats 8000000 in
theorem all_any (B : Nat) (w : World) {F G : Nat → Prop} {p : Nat} {C : Nc} {r : Nr} {A : Na} (h : NdAt w F G p C r A) (hC : CxOk C) (hr : NrB r B) (hB : B ≤ 1000000) (hG : GlobA w) :
    Calls Tryz.prog 62 #[.pointer (some ⟨p, 0, none⟩)] w fun e w' => (∃ v, e = .returned v ∧ w'.ownsRow w.heap.size 75 3 v (outM C.ms r.id).length (msgrow r.id (msgB C.ms r.height r.votes) (outM C.ms r.id))) ∧ Only (fun _ => False) w w' := by
  obtain ⟨i0, hi, hz0, hz1, hz2⟩ := info_parts Tryz.infoVoz
  have HI := Lib.hid hi
  have HI0 := Lib.hid hz0
  have HI1 := Lib.hid hz1
  have HI2 := Lib.hid hz2
  clear hi hz0 hz1 hz2
  obtain ⟨j0, hj, hy0, hy1, hy2⟩ := info_parts Tryz.infoMsz
  have HJ := Lib.hid hj
  have HJ0 := Lib.hid hy0
  have HJ1 := Lib.hid hy1
  have HJ2 := Lib.hid hy2
  clear hj hy0 hy1 hy2
  have HN := Lib.hid h
  have HC := Lib.hid hC
  have HR := Lib.hid hr
  have HG := Lib.hid hG
  have hvl := Nat.le_trans hr.vlen hB
  have hhb : r.height ≤ 1000000000 := by have := hr.height; omega
  have hpl := h.plt
  obtain ⟨a1, c1, hv⟩ := h.vslice
  have HV := Lib.hid hv
  have y11 : w.cell? ⟨p, 11, none⟩ = some (Value.slice a1 r.votes.length c1) := (h.cells 11).trans (congrArg some hv)
  clear h hC hr hG hv
  go_enter Tryz.func62, Tryz.ntmps62
  go_wp2_with fail
  clear y11
  go_loopw [3, 15] (fun v vi wr => ∃ k : Nat, k ≤ r.votes.length ∧ vi = .int .i64 k ∧ wr.ownsRow w.heap.size 35 4 v k (vbrow C.ms (r.votes.take k)) ∧ Only (fun _ => False) w wr) (fun _ vi _ => r.votes.length - (intOf vi).toNat)
  case atStart => exact ⟨0, Nat.zero_le _, rfl, World.ownsRow_nil _ _ _ _, Only.refl _ _⟩
  case round =>
    obtain ⟨k, hk, rfl, hown, hO⟩ := hrel
    have HO := Lib.hid hO
    have hsz := hO.size
    by_cases hlt : k < r.votes.length
    · obtain ⟨b, rfl, m1, m2, -, -, hc⟩ := (HN.out.still HO.out).vcell HV.out hlt
      have HTK := Lib.hid (vbrow_take C.ms hlt)
      generalize hov : vbAt r.votes k = o at *
      have d0 : wr.cell? ⟨b, k * 9, none⟩ = some (Value.int .i64 o.who) := hc 0 (by decide)
      have d1 : _ = some (Value.string (blB o.b)) := hc 1 (by decide)
      have d2 : _ = some (Value.int .i64 (vbR C.ms o)) := hc 2 (by decide)
      have d3 : _ = some (Value.int .i64 (vbS C.ms o)) := hc 3 (by decide)
      have d4 : _ = some (Value.string (kindB o.b.kind)) := hc 4 (by decide)
      have d5 : _ = some (Value.int .i64 o.b.height) := hc 5 (by decide)
      have d6 : _ = some (Value.int .i64 o.b.view) := hc 6 (by decide)
      have d7 : _ = some (Value.string (oneB o.b.val)) := hc 7 (by decide)
      have d8 : _ = some (Value.bool true) := hc 8 (by decide)
      clear hc hov hO
      have HVC := Lib.hid (show vbC C.ms o = [.int .i64 o.who, .string (blB o.b), .int .i64 (vbR C.ms o), .int .i64 (vbS C.ms o)] from rfl)
      rw [HVC.out] at HTK
      generalize vbR C.ms o = oR at *
      generalize vbS C.ms o = oS at *
      generalize blB o.b = oT at *
      have hO2 := (Only.refl (fun _ => False) wr).alloc (.cells #[.int .i64 o.who, .string oT, .int .i64 oR, .int .i64 oS, .string (kindB o.b.kind), .int .i64 o.b.height, .int .i64 o.b.view, .string (oneB o.b.val), .bool true] 184)
      have HOB := Lib.hid hO2
      have HB2 := Lib.hid (heap_alloc_last wr (.cells #[.int .i64 o.who, .string oT, .int .i64 oR, .int .i64 oS, .string (kindB o.b.kind), .int .i64 o.b.height, .int .i64 o.b.view, .string (oneB o.b.val), .bool true] 184))
      have hown2 := hO2.owns hown (fun _ _ h => h)
      clear hO2
      obtain ⟨av, cv, rfl⟩ := slice_of_own hown
      clear hown
      go_upto_region 5 with fail
      clear d0 d1 d2 d3 d4 d5 d6 d7 d8
      generalize hw2 : World.alloc wr _ = w2 at *
      have hs2 : w2.heap.size = wr.heap.size + 1 := by rw [← hw2]; simp
      clear hw2
      have hgb : wr.heap.size < w2.heap.size := by omega
      clear hs2
      have e0 : w2.cell? ⟨wr.heap.size, 0, none⟩ = some (Value.int .i64 o.who) := cell_of_row _ _ 0 _ _ _ HB2.out
      have e1 : w2.cell? ⟨wr.heap.size, 1, none⟩ = some (Value.string oT) := cell_of_row _ _ 1 _ _ _ HB2.out
      have e2 : w2.cell? ⟨wr.heap.size, 2, none⟩ = some (Value.int .i64 oR) := cell_of_row _ _ 2 _ _ _ HB2.out
      have e3 : w2.cell? ⟨wr.heap.size, 3, none⟩ = some (Value.int .i64 oS) := cell_of_row _ _ 3 _ _ _ HB2.out
      have HO2 := Lib.hid (HO.out.trans HOB.out)
      have hown3 := hown2.alloc (.cells #[.int .i64 o.who, .string oT, .int .i64 oR, .int .i64 oS] 35)
      go_wp2_with (at_builtin; refine wpList_append_lies _ rfl _ _ 29 rfl w.heap.size 35 i0 _ 4 40 Tryz.underlying29 HI.out HI0.out HI1.out HI2.out rfl (by decide) _ k (vbrow C.ms (r.votes.take k)) rfl hown3 ⟨w2.heap.size, 0, none⟩ 1 1 [.int .i64 o.who, .string oT, .int .i64 oR, .int .i64 oS] rfl rfl (World.news_of_block (cs := #[.int .i64 o.who, .string oT, .int .i64 oR, .int .i64 oS]) (t := 35) (fr := (0, 0)) (heap_alloc_new w2 _)) (four_one _ _ _ _) (by decide) ?c1 ?c2 ?c3 _ rfl ?_)
      case c1 => unfold maxLen; omega
      case c2 => omega
      case c3 => first | omega | (simp; omega)
      intro g1 cp1 w5 ho5 hg5 ha5 hgl5
      have HO5 := Lib.hid ((HO2.out.alloc (.cells #[.int .i64 o.who, .string oT, .int .i64 oR, .int .i64 oS] 35)).grow hown3 (Nat.le_refl _) hg5)
      have HOW5 := Lib.hid ho5
      clear ho5 hg5 ha5 hown3 hown2
      go_wp2
      go_roundw
      case rel => exact ⟨k + 1, by omega, by go_num, by rw [HTK.out]; exact HOW5.out, HO5.out⟩
      case measure => simp [intOf]; omega
    · obtain rfl : k = r.votes.length := by omega
      rw [List.take_length] at hown
      obtain ⟨av, cv, rfl⟩ := slice_of_own hown
      have HT := Lib.hid (text_vb C.ms r.votes r.height p _ wr ((HN.out.still HO.out).cells 4) hhb hvl HR.out.votes (vrs_of_own hown) (HG.out.only HO.out))
      obtain ⟨a2, c2, hm⟩ := HN.out.mslice
      have HM := Lib.hid hm
      clear hown hO hlt hk hm
      obtain ⟨M, hMM⟩ : ∃ M, msgB C.ms r.height r.votes = M := ⟨_, rfl⟩
      rw [hMM] at HT
      have HMM := Lib.hid hMM
      clear hMM
      go_wp2_with fail
      refine HT.out.mono ?_
      rintro e w3 ⟨rfl, hO3⟩
      have HO3 := Lib.hid (HO.out.trans hO3)
      have y3 : w3.cell? ⟨p, 3, none⟩ = some (Value.slice a2 C.ms.length c2) := ((HN.out.still HO3.out).cells 3).trans (congrArg some HM.out)
      have hs3 := HO3.out.size
      have hpl3 : p < w3.heap.size := by omega
      clear hO3 HO HT hsz
      go_wp2_with fail
      clear y3
      go_loopw [7, 33] (fun v vi wr => ∃ k : Nat, k ≤ C.ms.length ∧ vi = .int .i64 k ∧ wr.ownsRow w.heap.size 75 3 v (outM (C.ms.take k) r.id).length (msgrow r.id M (outM (C.ms.take k) r.id)) ∧ Only (fun _ => False) w wr) (fun _ vi _ => C.ms.length - (intOf vi).toNat)
      case atStart => exact ⟨0, Nat.zero_le _, rfl, World.ownsRow_nil _ _ _ _, HO3.out⟩
      case round =>
        clear HO3 hs3 hpl3
        generalize wr = wA at *
        clear w3
        obtain ⟨k, hk, rfl, hown, hO⟩ := hrel
        have HO := Lib.hid hO
        have hsz := hO.size
        have hml : C.ms.length ≤ 13 := HC.out.len.2
        by_cases hlt : k < C.ms.length
        · obtain ⟨mb, mo, rfl, m1, m2, -, q0, q1, q2⟩ := (HN.out.still HO.out).mcell HM.out hlt
          have HTK := Lib.hid (outM_take (id := r.id) hlt)
          have hol : (outM (C.ms.take k) r.id).length ≤ 13 := by
            unfold outM
            rw [List.length_map]
            have := List.length_filter_le (fun m : Mm => m.id != r.id) (C.ms.take k)
            rw [List.length_take] at this
            omega
          generalize hmv : mmAt C.ms k = m at *
          have hO2 := (Only.refl (fun _ => False) wA).alloc (.cells #[.int .i64 m.id, .int .i64 m.wt, .int .i64 (pubZ m.sec)] 41)
          have HOB := Lib.hid hO2
          have HB2 := Lib.hid (heap_alloc_last wA (.cells #[.int .i64 m.id, .int .i64 m.wt, .int .i64 (pubZ m.sec)] 41))
          have hown2 := hO2.owns hown (fun _ _ h => h)
          clear hO2 hmv
          obtain ⟨av, cv, rfl⟩ := slice_of_own hown
          clear hown
          generalize pubZ m.sec = mp at *
          go_upto_region 12 with fail
          clear q0 q1 q2
          generalize hw2 : World.alloc wA _ = w2 at *
          have hs2 : w2.heap.size = wA.heap.size + 1 := by rw [← hw2]; simp
          clear hw2
          have hgb : wA.heap.size < w2.heap.size := by omega
          clear hs2
          have HO2 := Lib.hid (HO.out.trans HOB.out)
          have hpl2 := (HN.out.still HO2.out).plt
          have e0 : w2.cell? ⟨wA.heap.size, 0, none⟩ = some (Value.int .i64 m.id) := cell_of_row _ _ 0 _ _ _ HB2.out
          have f0 : w2.cell? ⟨p, 0, none⟩ = some (Value.int .i64 r.id) := (HN.out.still HO2.out).cells 0
          have E0 := fun (d : Nat) (os : Array Obj) => cell_regrown e0 d os
          have F0 := fun (d : Nat) (os : Array Obj) => cell_regrown f0 d os
          clear e0 f0
          refine wp_region_quiet_below (by kernel_rfl) (by kernel_rfl) ?_
          repeat (go_big_quiet_step (fail))
          refine wpQuiet_nil ?_
          intro w6 hw'
          obtain ⟨pq, hw''⟩ := hw'
          have hO6 := Only.ofBelow (below_regrown w2 pq.d pq.os) (fun _ => False)
          rw [← hw''] at hO6
          have HO6 := Lib.hid (HO2.out.trans hO6)
          have HB6 := Lib.hid (row_still hO6 HB2.out)
          have hown6 := hO6.owns hown2 (fun _ _ h => h)
          have hs6 := hO6.size
          have hgb6 : wA.heap.size < w6.heap.size := by omega
          have hpl6 := (HN.out.still HO6.out).plt
          have e0 : w6.cell? ⟨wA.heap.size, 0, none⟩ = some (Value.int .i64 m.id) := cell_of_row _ _ 0 _ _ _ HB6.out
          have f0 : w6.cell? ⟨p, 0, none⟩ = some (Value.int .i64 r.id) := (HN.out.still HO6.out).cells 0
          clear hw'' hO6 E0 F0 hown2 HB2 HO2 hgb hpl2 HOB
          by_cases hid : m.id = r.id
          · have i1 : (m.id : Int) = r.id := by omega
            have HE := Lib.hid (HTK.out.trans (if_pos hid))
            have HOW := Lib.hid hown6
            clear hid HTK hown6
            go_wp2
            go_roundw
            case rel => exact ⟨k + 1, by omega, by go_num, by rw [HE.out]; exact HOW.out, HO6.out⟩
            case measure => simp [intOf]; omega
          · have i1 : ¬ (m.id : Int) = r.id := by omega
            have HE := Lib.hid (HTK.out.trans (if_neg hid))
            have HOW := Lib.hid hown6
            have HSN := Lib.hid (msgrow_snoc r.id M (outM (C.ms.take k) r.id) m.id)
            clear hid HTK hown6
            generalize outM (C.ms.take k) r.id = L at *
            have k1 : L.length ≤ 13 := hol
            go_upto_region 13 with fail
            go_region_law ((refine step_append_lies _ rfl _ _ 72 rfl w.heap.size 75 j0 _ 3 32 Tryz.underlying72 HJ.out HJ0.out HJ1.out HJ2.out rfl (by decide) _ _ _ rfl (owns_drew (HOW.out.alloc _)) ⟨w6.heap.size, 0, none⟩ 1 1 [.int .i64 r.id, .int .i64 m.id, .string M] rfl rfl (by exact newsG w6 _ _) (three_one _ _ _) (by decide) (by unfold maxLen; omega) (by omega) (by first | omega | (simp; omega)) _ rfl ?_); intro g cap w4 hown4 hgrow hat hlt4)
            all_goals
              have HO4 := Lib.hid (((HO6.out.alloc (.cells #[.int .i64 r.id, .int .i64 m.id, .string M] 75)).drew).grow (owns_drew (HOW.out.alloc _)) (Nat.le_refl _) hgrow)
              have HOW4 := Lib.hid hown4
              clear hown4 hgrow hat hlt4
              go_wp2
              go_roundw
              case rel => exact ⟨k + 1, by omega, by go_num, by rw [HE.out, HSN.out, List.length_append]; exact HOW4.out, HO4.out⟩
              case measure => simp [intOf]; omega
        · obtain rfl : k = C.ms.length := by omega
          rw [List.take_length] at hown
          have HOW := Lib.hid hown
          clear hown hlt hk
          go_wp2
          go_ret
          exact ⟨⟨_, rfl, by rw [HMM.out]; exact HOW.out⟩, HO.out⟩
end Go.Proofs.YtldkjkjpaiajlaaGreatDoor

namespace Go.Proofs.YtldkjkjpaiajlaaGreatDoor
open Go.RowKit

theorem NrB.mono {r : Nr} {B B' : Nat} (h : NrB r B) (hB : B ≤ B') : NrB r B' := by
  obtain ⟨a1, a2, a3, a4, a5, a6, a7, a8, a9, b1, b2, b3, b4, b5⟩ := h
  exact ⟨a1, a2, a3, a4, fun l v e => by have := a5 l v e; omega, a6, by omega, by omega, by omega, by omega, by omega, by omega, by omega, by omega⟩
theorem NrB.enterR {r : Nr} {B : Nat} (h : NrB r B) {v now : Nat} (hv : v ≤ B) (hn : now ≤ B) : NrB (enterR r v now) B := by
  obtain ⟨a1, a2, a3, a4, a5, a6, a7, a8, a9, b1, b2, b3, b4, b5⟩ := h
  exact ⟨a1, a2, fun _ h => (List.not_mem_nil h).elim, a4, a5, a6, a7, hv, hn, b1, b2, Nat.zero_le _, b4, b5⟩
theorem find_mem {l : List Vb} {q : Vb → Bool} {t : Vb} (h : l.find? q = some t) : t ∈ l := List.mem_of_find?_eq_some h
theorem NrB.proposeR {r : Nr} {B : Nat} (h : NrB r B) (hB : B ≤ 1000000) (ms : List Mm) : NrB (proposeR ms r).1 (B + 1) := by
  unfold Go.Proofs.YtldkjkjpaiajlaaGreatDoor.proposeR
  split
  · exact h.mono (Nat.le_succ _)
  · split
    · rename_i l v e
      exact h.putR hB (by decide) (h.lock l v e).1
    · split
      · exact h.mono (Nat.le_succ _)
      · rename_i x xs e
        exact h.putR hB (by decide) (h.wants x (by rw [e]; exact List.mem_cons_self))
theorem NrB.prepareR {r : Nr} {B : Nat} (h : NrB r B) (hB : B ≤ 1000000) (ms : List Mm) : NrB (prepareR ms r).1 (B + 1) := by
  unfold Go.Proofs.YtldkjkjpaiajlaaGreatDoor.prepareR
  split
  · exact h.mono (Nat.le_succ _)
  · split
    · exact h.mono (Nat.le_succ _)
    · rename_i t e
      have ht := (h.votes t (find_mem e)).1.val
      split
      · exact h.putR hB (by decide) ht
      · split
        · exact h.putR hB (by decide) ht
        · exact h.mono (Nat.le_succ _)
theorem NrB.lockR {r : Nr} {B : Nat} (h : NrB r B) {x : Nat} (hx : x < 256) : NrB { r with lock := some (x, r.view) } B := by
  obtain ⟨a1, a2, a3, a4, a5, a6, a7, a8, a9, b1, b2, b3, b4, b5⟩ := h
  exact ⟨a1, a2, a3, a4, fun l v e => by cases e; exact ⟨hx, a8⟩, a6, a7, a8, a9, b1, b2, b3, b4, b5⟩
theorem NrB.commitR {r : Nr} {B : Nat} (h : NrB r B) (hB : B ≤ 1000000) (ms : List Mm) : NrB (commitR ms r).1 (B + 1) := by
  unfold Go.Proofs.YtldkjkjpaiajlaaGreatDoor.commitR
  split
  · exact h.mono (Nat.le_succ _)
  · split
    · exact h.mono (Nat.le_succ _)
    · rename_i t e
      have ht := (h.votes t (find_mem e)).1.val
      exact (h.lockR ht).putR hB (by decide) ht
theorem NrB.decideR {r : Nr} {B : Nat} (h : NrB r B) (ms : List Mm) {now : Nat} (hn : now ≤ B) : NrB (decideR ms r now).1 (B + 1) := by
  unfold Go.Proofs.YtldkjkjpaiajlaaGreatDoor.decideR
  split
  · exact h.mono (Nat.le_succ _)
  · obtain ⟨a1, a2, a3, a4, a5, a6, a7, a8, a9, b1, b2, b3, b4, b5⟩ := h
    refine ⟨fun _ h => (List.not_mem_nil h).elim, fun _ h => (List.not_mem_nil h).elim, fun _ h => (List.not_mem_nil h).elim, fun x hx => a4 x (List.mem_filter.1 hx).1, fun _ _ e => (by cases e), a6, ?_, Nat.zero_le _, ?_, Nat.zero_le _, Nat.zero_le _, Nat.zero_le _, ?_, ?_⟩
    · show r.height + 1 ≤ B + 1
      omega
    · show now ≤ B + 1
      omega
    · exact Nat.le_trans (List.length_filter_le _ _) (by omega)
    · show (r.dec ++ [_]).length ≤ B + 1
      rw [List.length_append]
      show _ + 1 ≤ _
      omega
theorem putR_id (r : Nr) (kd x : Nat) : (putR r kd x).id = r.id := by
  unfold putR
  split <;> rfl
theorem proposeR_id (ms : List Mm) (r : Nr) : (proposeR ms r).1.id = r.id := by
  unfold proposeR
  split
  · rfl
  · split
    · exact putR_id _ _ _
    · split
      · rfl
      · exact putR_id _ _ _
theorem prepareR_id (ms : List Mm) (r : Nr) : (prepareR ms r).1.id = r.id := by
  unfold prepareR
  split
  · rfl
  · split
    · rfl
    · split
      · exact putR_id _ _ _
      · split
        · exact putR_id _ _ _
        · rfl
theorem commitR_id (ms : List Mm) (r : Nr) : (commitR ms r).1.id = r.id := by
  unfold commitR
  split
  · rfl
  · split
    · rfl
    · exact putR_id _ _ _
theorem decideR_id (ms : List Mm) (r : Nr) (now : Nat) : (decideR ms r now).1.id = r.id := by
  unfold decideR
  split <;> rfl
/-- Four steps of a node, one after the other. -/
def tkR0 (pat : Nat) (r : Nr) (now : Nat) : Nr := if r.began + pat * (r.view + 1) ≤ now then enterR r (r.view + 1) now else r
def tkR1 (ms : List Mm) (pat : Nat) (r : Nr) (now : Nat) : Nr := (proposeR ms (tkR0 pat r now)).1
def tkR2 (ms : List Mm) (pat : Nat) (r : Nr) (now : Nat) : Nr := (prepareR ms (tkR1 ms pat r now)).1
def tkR3 (ms : List Mm) (pat : Nat) (r : Nr) (now : Nat) : Nr := (commitR ms (tkR2 ms pat r now)).1
def tickR (ms : List Mm) (pat : Nat) (r : Nr) (now : Nat) : Nr := (decideR ms (tkR3 ms pat r now) now).1
theorem tkR0_id (pat : Nat) (r : Nr) (now : Nat) : (tkR0 pat r now).id = r.id := by
  unfold tkR0
  split <;> rfl
theorem tkR1_id (ms : List Mm) (pat : Nat) (r : Nr) (now : Nat) : (tkR1 ms pat r now).id = r.id := (proposeR_id _ _).trans (tkR0_id _ _ _)
theorem tkR2_id (ms : List Mm) (pat : Nat) (r : Nr) (now : Nat) : (tkR2 ms pat r now).id = r.id := (prepareR_id _ _).trans (tkR1_id _ _ _ _)
theorem tkR3_id (ms : List Mm) (pat : Nat) (r : Nr) (now : Nat) : (tkR3 ms pat r now).id = r.id := (commitR_id _ _).trans (tkR2_id _ _ _ _)
theorem tickR_id (ms : List Mm) (pat : Nat) (r : Nr) (now : Nat) : (tickR ms pat r now).id = r.id := (decideR_id _ _ _).trans (tkR3_id _ _ _ _)
/-- A node behind a call that may change the blocks G, and messages beside it. -/
def MsgTo (w : World) (F G : Nat → Prop) (p : Nat) (C : Nc) (r : Nr) (n : Nat) (row : List Value) (v : Value) (w' : World) : Prop :=
  ∃ F' G' A B1, NdAt w' F' G' p C r A ∧ (∀ k, F' k → F k ∨ w.heap.size ≤ k) ∧ (∀ k, F k → F' k) ∧ (∀ k, G' k → G k ∨ w.heap.size ≤ k) ∧ Only G w w' ∧ (∀ k, F' k → k < B1) ∧ w.heap.size ≤ B1 ∧ w'.ownsRow B1 75 3 v n row
/-- What the steps of a tick are to be. -/
structure TickOk (C : Nc) (p : Nat) (r : Nr) (now : Nat) : Prop where
  one : StepOk (tkR0 C.pat r now) (tkR1 C.ms C.pat r now)
  two : StepOk (tkR1 C.ms C.pat r now) (tkR2 C.ms C.pat r now)
  three : StepOk (tkR2 C.ms C.pat r now) (tkR3 C.ms C.pat r now)
  four : ConOk C p now (tkR3 C.ms C.pat r now)
def tkF : Nat → FuncId
  | 0 => 58
  | 1 => 59
  | 2 => 60
  | _ => 61
def tkS (C : Nc) (r : Nr) (now : Nat) : Nat → Nr
  | 0 => tkR0 C.pat r now
  | 1 => tkR1 C.ms C.pat r now
  | 2 => tkR2 C.ms C.pat r now
  | 3 => tkR3 C.ms C.pat r now
  | _ => tickR C.ms C.pat r now
def tkD (C : Nc) (r : Nr) (now : Nat) : Nat → Bool
  | 0 => (proposeR C.ms (tkR0 C.pat r now)).2
  | 1 => (prepareR C.ms (tkR1 C.ms C.pat r now)).2
  | 2 => (commitR C.ms (tkR2 C.ms C.pat r now)).2
  | _ => (decideR C.ms (tkR3 C.ms C.pat r now) now).2
theorem NrB.tk0 {r : Nr} {B : Nat} (h : NrB r B) {pat now : Nat} (hn : now ≤ B) (hv : r.view + 1 ≤ B) : NrB (tkR0 pat r now) B := by
  unfold tkR0
  split
  · exact h.enterR hv hn
  · exact h
theorem NrB.tick {r : Nr} {B : Nat} (h : NrB r B) (hB : B + 4 ≤ 1000000) {ms : List Mm} {pat now : Nat} (hn : now ≤ B) (hv : r.view + 1 ≤ B) : NrB (tkR1 ms pat r now) (B + 1) ∧ NrB (tkR2 ms pat r now) (B + 2) ∧ NrB (tkR3 ms pat r now) (B + 3) ∧ NrB (tickR ms pat r now) (B + 4) := by
  have h0 := h.tk0 (pat := pat) hn hv
  have h1 := h0.proposeR (by omega) ms
  have h2 := NrB.prepareR h1 (by omega) ms
  have h3 := NrB.commitR h2 (by omega) ms
  exact ⟨h1, h2, h3, NrB.decideR h3 ms (by omega)⟩
theorem tick_steps {C : Nc} {r : Nr} {B p now : Nat} (hC : CxOk C) (hw : OwnOk C r.id) (hr : NrB r B) (hB : B + 4 ≤ 1000000) (hn : now ≤ B) (hv : r.view + 1 ≤ B) (hs : TickOk C p r now) :
    ∀ k, k < 4 → ∀ W F' G' A', NdAt W F' G' p C (tkS C r now k) A' → GA W G' → Calls Tryz.prog (tkF k) #[.pointer (some ⟨p, 0, none⟩), .int .i64 now] W fun e w' => e = .returned (.bool (tkD C r now k)) ∧ NdTo W F' G' p C (tkS C r now (k + 1)) w' := by
  obtain ⟨b1, b2, b3, -⟩ := hr.tick hB (ms := C.ms) (pat := C.pat) hn hv
  intro k hk W F' G' A' hN hG
  obtain rfl | rfl | rfl | rfl : k = 0 ∨ k = 1 ∨ k = 2 ∨ k = 3 := by omega
  · exact propose_any now B W hN hC (by rw [show (tkR0 C.pat r now).id = r.id from tkR0_id _ _ _]; exact hw) (hr.tk0 hn hv) (by omega) hs.one hG
  · exact prepare_any now (B + 1) W hN hC (by rw [show (tkR1 C.ms C.pat r now).id = r.id from tkR1_id _ _ _ _]; exact hw) b1 (by omega) hs.two hG
  · exact commit_any now (B + 2) W hN hC (by rw [show (tkR2 C.ms C.pat r now).id = r.id from tkR2_id _ _ _ _]; exact hw) b2 (by omega) hs.three hG
  · exact decide_any now (B + 3) W hN hC b3 (by omega) hs.four hG
set_option maxRecDepth 100000 in
set_option maxHeartbeats 8000000 in
theorem tick_any (now B : Nat) (w : World) {F G : Nat → Prop} {p : Nat} {C : Nc} {r : Nr} {A : Na} (h : NdAt w F G p C r A) (hC : CxOk C) (hw : OwnOk C r.id) (hr : NrB r B) (hB : B + 4 ≤ 1000000) (hn : now ≤ B) (hv : r.view + 1 ≤ B) (hpat : C.pat ≤ 1000) (hs : TickOk C p r now) (hG : GA w G) :
    Calls Tryz.prog 25 #[.pointer (some ⟨p, 0, none⟩), .int .i64 now] w fun e w' => ∃ v, e = .returned v ∧ MsgTo w F G p C (tickR C.ms C.pat r now) (outM C.ms r.id).length (msgrow r.id (msgB C.ms (tickR C.ms C.pat r now).height (tickR C.ms C.pat r now).votes) (outM C.ms r.id)) v w' := by
  have HST := Lib.hid (tick_steps hC hw hr hB hn hv hs)
  obtain ⟨-, -, -, b4⟩ := hr.tick hB (ms := C.ms) (pat := C.pat) hn hv
  have HB4 := Lib.hid b4
  have hbg := hr.began
  have hvw := hr.view
  have HN := Lib.hid h
  have HC := Lib.hid hC
  have HG := Lib.hid hG
  have HNO := Lib.hid (none_node w h hC)
  have hpl := h.plt
  clear h hG b4 hs hw hr
  go_enter Tryz.func25, Tryz.ntmps25
  go_wp2_with fail
  refine HNO.out.mono ?_
  rintro e w1 ⟨rfl, hO1⟩
  have HN1 := Lib.hid (HN.out.still hO1)
  have HO1 := Lib.hid (show Only G w w1 from hO1.mono fun _ _ h => h.elim)
  have HS1 := Lib.hid hO1.size
  clear hO1 HNO HN
  have hpl1 := HN1.out.plt
  have y2 : w1.cell? ⟨p, 2, none⟩ = some (Value.int .i64 C.pat) := HN1.out.cells 2
  have y5 : w1.cell? ⟨p, 5, none⟩ = some (Value.int .i64 r.view) := HN1.out.cells 5
  have y6 : w1.cell? ⟨p, 6, none⟩ = some (Value.int .i64 r.began) := HN1.out.cells 6
  have hpv : C.pat * (r.view + 1) ≤ 1000 * 1000001 := Nat.mul_le_mul hpat (by omega)
  obtain ⟨pv, hpve⟩ : ∃ pv, C.pat * (r.view + 1) = pv := ⟨_, rfl⟩
  have hpe : (C.pat : Int) * ((r.view : Int) + 1) = (pv : Int) := by rw [← hpve]; simp
  rw [hpve] at hpv
  have HPV := Lib.hid hpve
  clear hpve
  have Y2 := fun (d : Nat) (os : Array Obj) => cell_regrown y2 d os
  have Y5 := fun (d : Nat) (os : Array Obj) => cell_regrown y5 d os
  have Y6 := fun (d : Nat) (os : Array Obj) => cell_regrown y6 d os
  clear y2 y5 y6
  go_upto_region 3 with fail
  refine wp_region_quiet_below (by kernel_rfl) (by kernel_rfl) ?_
  repeat (go_big_quiet_step (fail))
  refine wpQuiet_nil ?_
  intro w2 hw'
  obtain ⟨pq, hw''⟩ := hw'
  have hO2 := Only.ofBelow (below_regrown w1 pq.d pq.os) (fun _ => False)
  rw [← hw''] at hO2
  have HN2 := Lib.hid (HN1.out.still hO2)
  have HO2 := Lib.hid (HO1.out.trans (hO2.mono fun _ _ h => h.elim))
  have HS2 := Lib.hid (Nat.le_trans HS1.out hO2.size)
  have hpl2 := HN2.out.plt
  clear hw'' hO2 Y2 Y5 Y6 HN1 HO1 hpe hpl1 HS1
  by_cases hc : r.began + pv ≤ now
  case' pos =>
    have i1 : (r.began : Int) + pv ≤ now := by omega
    have y5 : w2.cell? ⟨p, 5, none⟩ = some (Value.int .i64 r.view) := HN2.out.cells 5
    have HE := Lib.hid (enter_any (r.view + 1) now w2 HN2.out)
    have hcast : ((r.view + 1 : Nat) : Int) = (r.view : Int) + 1 := by omega
    rw [hcast] at HE
    have HR0 := Lib.hid (show enterR r (r.view + 1) now = tkR0 C.pat r now by unfold tkR0; rw [HPV.out, if_pos hc])
    rw [HR0.out] at HE
    clear hcast hc
    go_wp2_with fail
    refine HE.out.mono ?_
    rintro e w3 ⟨rfl, hT⟩
    have HT := Lib.hid (NdTo.trans HO2.out (fun _ h => .inl h) (fun _ h => h) (fun _ h => .inl h) hT)
    clear hT HE HN2 y5 HR0
    go_upto_region 5 with fail
  case' neg =>
    have i1 : ¬ (r.began : Int) + pv ≤ now := by omega
    have HT := Lib.hid (NdTo.of HN2.out HO2.out)
    rw [show r = tkR0 C.pat r now by unfold tkR0; rw [HPV.out, if_neg hc]] at HT
    clear hc HN2
    go_upto_region 5 with fail
    generalize w2 = w3 at *
  all_goals
    obtain ⟨F1, G1, A1, hN3, hG3, q1, q2, q3, hO3⟩ := HG.out.to HT.out
    have HO3 := Lib.hid hO3
    have hA := (Only.refl (fun _ => False) w3).alloc (.cells #[.func (.func 58) #[] #[], .func (.func 59) #[] #[], .func (.func 60) #[] #[], .func (.func 61) #[] #[]] 180)
    have HX := heap_alloc_last w3 (.cells #[.func (.func 58) #[] #[], .func (.func 59) #[] #[], .func (.func 60) #[] #[], .func (.func 61) #[] #[]] 180)
    have HAC := Lib.hid (act_any now 4 4 w3.heap.size tkF (tkS C r now) (tkD C r now) _ (hN3.still hA) (hG3.still hA) (by decide) ⟨Nat.le_refl _, by decide⟩ (fun h => Nat.lt_irrefl _ (hN3.lt _ h))
      (fun k hk => by
        obtain rfl | rfl | rfl | rfl : k = 0 ∨ k = 1 ∨ k = 2 ∨ k = 3 := by omega
        · exact .inl rfl
        · exact .inr (.inl rfl)
        · exact .inr (.inr (.inl rfl))
        · exact .inr (.inr (.inr rfl)))
      (fun k hk => by
        obtain rfl | rfl | rfl | rfl : k = 0 ∨ k = 1 ∨ k = 2 ∨ k = 3 := by omega
        · exact cell_of_row _ _ 0 _ _ _ HX
        · exact cell_of_row _ _ 1 _ _ _ HX
        · exact cell_of_row _ _ 2 _ _ _ HX
        · exact cell_of_row _ _ 3 _ _ _ HX)
      HST.out)
    have HN3 := Lib.hid hN3
    have HG3 := Lib.hid hG3
    have HQ := Lib.hid (And.intro q1 (And.intro q2 q3))
    have HA := Lib.hid (show Only G1 w3 _ from hA.mono fun _ _ h => h.elim)
    clear hN3 hG3 q1 q2 q3 hO3 hA HX HT
    go_wp2_with fail
    refine HAC.out.mono ?_
    rintro e w5 ⟨rfl, hT⟩
    have HT := Lib.hid (NdTo.trans HA.out (fun _ h => .inl h) (fun _ h => h) (fun _ h => .inl h) hT)
    have HT := Lib.hid (NdTo.trans HO3.out HQ.out.1 HQ.out.2.1 HQ.out.2.2 HT.out)
    change Hid (NdTo w F G p C (tickR C.ms C.pat r now) w5) at HT
    clear hT HAC HN3 HG3 HA HO3 HQ
    obtain ⟨F2, G2, A2, hN5, hG5, p1, p2, p3, hO5⟩ := HG.out.to HT.out
    have HAL := Lib.hid (all_any (B + 4) w5 hN5 HC.out HB4.out hB hG5.here)
    rw [tickR_id] at HAL
    have HQ := Lib.hid (And.intro p1 (And.intro p2 (And.intro p3 (And.intro hO5 hN5))))
    clear hN5 hG5 p1 p2 p3 hO5 HT
    go_wp2_with fail
    refine HAL.out.mono ?_
    rintro e w6 ⟨⟨v, rfl, hown⟩, hO6⟩
    have HR := Lib.hid (show MsgTo w F G p C (tickR C.ms C.pat r now) _ _ v w6 from ⟨F2, G2, A2, w5.heap.size, HQ.out.2.2.2.2.still hO6, HQ.out.1, HQ.out.2.1, HQ.out.2.2.1, HQ.out.2.2.2.1.trans (hO6.mono fun _ _ h => h.elim), fun k hk => HQ.out.2.2.2.2.lt k hk, HQ.out.2.2.2.1.size, hown⟩)
    clear hown hO6 HQ HAL
    go_wp2
    go_ret
    exact ⟨_, rfl, HR.out⟩
end Go.Proofs.YtldkjkjpaiajlaaGreatDoor

namespace Go.Proofs.YtldkjkjpaiajlaaGreatDoor
open Go.RowKit

def mb3 (m : Mb) : List Value := [.int .i64 m.id, .int .i64 m.wt, .int .i64 m.pb]
theorem mb3_len (l : List Mb) : (l.flatMap mb3).length = l.length * 3 := by
  induction l with
  | nil => rfl
  | cons m l ih => rw [List.flatMap_cons, List.length_append, ih, List.length_cons]; show 3 + _ = _; omega
theorem mb3_one (l : List Mb) : ∀ x ∈ l.flatMap mb3, x.oneCell' = true := by
  intro x hx
  obtain ⟨m, _, hm⟩ := List.mem_flatMap.1 hx
  simp only [mb3, List.mem_cons, List.not_mem_nil, or_false] at hm
  rcases hm with rfl | rfl | rfl <;> rfl
theorem mb3_get {l : List Mb} {j k : Nat} (hj : j < l.length) (hk : k < 3) : (l.flatMap mb3)[j * 3 + k]? = (mb3 (mbAt l j))[k]? := by
  unfold mbAt
  rw [flat_get mb3 3 (fun _ => rfl) l j k hj hk, lgetD _ _ hj]
theorem mbs_own3 {w : World} {base : Nat} {v : Value} {l : List Mb} (h : w.ownsRow base 41 3 v l.length (l.flatMap mb3)) : MbsAt w v l := by
  rcases Nat.eq_zero_or_pos l.length with h0 | h0
  · obtain ⟨a, c, e⟩ := slice_of_own h
    rw [h0] at e
    exact .inl ⟨a, c, e, List.eq_nil_of_length_eq_zero h0⟩
  · obtain ⟨g, cap, e, h1, h2, hg⟩ : ∃ g cap, v = .slice (some ⟨g, 0, none⟩) l.length cap ∧ l.length ≤ cap ∧ cap ≤ 9223372036854775807 ∧ g < w.heap.size := by
      rcases h.2 with ⟨_, e0⟩ | ⟨g, cap, cur, e, _, hg, q1, q2, _⟩
      · omega
      · exact ⟨g, cap, e, q1, q2, (Array.getElem?_eq_some_iff.1 hg).1⟩
    subst e
    refine .inr ⟨g, 0, cap, rfl, hg, h1, h2, fun j hj => ?_⟩
    have hc : ∀ k, k < 3 → w.cell? ⟨g, 0 + j * 3 + k, none⟩ = (mb3 (mbAt l j))[k]? := fun k hk => by
      rw [Nat.zero_add, h.cellAt (j * 3 + k) (by omega), mb3_get hj hk]
    exact ⟨hc 0 (by decide), hc 1 (by decide), hc 2 (by decide)⟩
theorem Tryz.infoMbz : (Tryz.prog.info? 41).map (fun i => (i.zero, i.size, i.bytes)) = some (some (.agg #[.int .i64 0, .int .i64 0, .int .i64 0]), 3, 24) := by kernel_rfl
theorem addr_add (b off j : Nat) : (⟨b, off, none⟩ : Addr).add j = ⟨b, off + j, none⟩ := by
  unfold Addr.add
  split
  · rename_i h
    rw [show j = 0 by simpa using h]; rfl
  · rfl
set_option maxHeartbeats 400000 in
theorem cloneM_any (w : World) (sv : Value) (l : List Mb) (hM : MbsAt w sv l) (h1 : 1 ≤ l.length) (hl : l.length ≤ 1000000) :
    Calls Tryz.prog 53 #[sv] w fun e w' => ∃ v, e = .returned v ∧ w'.ownsRow w.heap.size 41 3 v l.length (l.flatMap mb3) ∧ Only (fun _ => False) w w' := by
  obtain ⟨i0, hi, hz0, hz1, hz2⟩ := info_parts Tryz.infoMbz
  have q1 := fun (w : World) (a : Option Addr) (n c n' c' : Nat) => Lib.run_eql_slice_nil (P := Tryz.prog) w 25 _ a n c n' c' Tryz.underlying25
  obtain ⟨b, off, c, rfl, hb, hlc, hcm, hd⟩ : ∃ b off cap, sv = .slice (some ⟨b, off, none⟩) l.length cap ∧ b < w.heap.size ∧ l.length ≤ cap ∧ cap ≤ 9223372036854775807 ∧
      ∀ j, j < l.length → w.cell? ⟨b, off + j * 3, none⟩ = some (.int .i64 (mbAt l j).id) ∧ w.cell? ⟨b, off + j * 3 + 1, none⟩ = some (.int .i64 (mbAt l j).wt) ∧ w.cell? ⟨b, off + j * 3 + 2, none⟩ = some (.int .i64 (mbAt l j).pb) := by
    rcases hM with ⟨a, c, _, rfl⟩ | h
    · exact absurd h1 (by decide)
    · exact h
  have HC := Lib.hid (show ∀ j u, (l.flatMap mb3)[j]? = some u → w.cell? ((⟨b, off, none⟩ : Addr).add j) = some u by
    intro j u hu
    have hj := (List.getElem?_eq_some_iff.1 hu).1
    rw [mb3_len] at hj
    have e : j = j / 3 * 3 + j % 3 := by omega
    rw [e, mb3_get (by omega) (Nat.mod_lt _ (by decide))] at hu
    have hc := hd (j / 3) (by omega)
    rw [addr_add]
    rcases (show j % 3 = 0 ∨ j % 3 = 1 ∨ j % 3 = 2 by omega) with e1 | e1 | e1
    · rw [e1] at hu e; rw [e, ← hu]; exact hc.1
    · rw [e1] at hu e; rw [e, ← hu]; exact hc.2.1
    · rw [e1] at hu e; rw [e, ← hu]; exact hc.2.2)
  clear hM hd
  go_enter Tryz.func53, Tryz.ntmps53
  go_wp2_with (at_builtin; refine wpList_append_own _ rfl _ _ 25 rfl w.heap.size 41 i0 _ 3 24 Tryz.underlying25 hi hz0 hz1 hz2 rfl (by decide) _ 0 [] rfl (World.ownsRow_lit w #[] 0 (Nat.le_refl _) (Nat.zero_le _) rfl) ⟨b, off, none⟩ l.length c (l.flatMap mb3) rfl (mb3_len l) ?c2 (mb3_one l) ?c3 ?c4 (by simp) ?_)
  case c2 => exact fun j u hu => cell_later ((Below.refl _ w).alloc (Nat.le_refl _) _) (HC.out j u hu)
  case c3 => exact Nat.le_trans (by omega) (show (1000000 : Nat) ≤ maxLen by decide)
  case c4 => omega
  intro v' w1 hown hgrow _
  go_wp2
  go_ret
  obtain ⟨a', c', rfl⟩ := slice_of_own hown
  exact ⟨_, rfl, hown, ((Only.refl _ w).alloc _).grown hgrow (fun k e hk => by simp [Value.ownBlock] at e; omega)⟩
theorem new_clo (x y z who : Int) (pb : Nat) (w : World) (hp : w.cell? ⟨pb, 0, none⟩ = some (.int .i64 who)) :
    Calls Tryz.prog 52 #[.agg #[.int .i64 x, .int .i64 y, .int .i64 z], .pointer (some ⟨pb, 0, none⟩)] w fun e w' => e = .returned (.bool (x == who)) ∧ Only (fun _ => False) w w' := by
  have hlt := World.block_lt_of_cell? _ _ hp
  have hne : ¬ pb = w.heap.size := by dsimp only at hlt; omega
  have HO := Lib.hid ((Only.refl (fun _ => False) w).alloc (.cells #[.int .i64 x, .int .i64 y, .int .i64 z] 41))
  go_enter Tryz.func52, Tryz.ntmps52
  go_wp2
  go_ret
  exact ⟨rfl, HO.out⟩
theorem new_who (sv : Value) (ms : List Mm) (id : Nat) (hid : ∃ m ∈ ms, m.id = id) (pb : Nat) (w : World) (hM : MbsAt w sv (mbsOf ms)) (hl : ms.length ≤ 1000000) (hp : w.cell? ⟨pb, 0, none⟩ = some (.int .i64 id)) :
    Calls Tryz.prog 51 #[sv, .func (.func 52) #[] #[.pointer (some ⟨pb, 0, none⟩)]] w fun e w' => e = .returned (.bool true) ∧ Only (fun _ => False) w w' := by
  have hc : ∀ j, j < (mbsOf ms).length → ∀ W, Only (fun _ => False) w W → Calls Tryz.prog 52 #[.agg #[.int .i64 (mbAt (mbsOf ms) j).id, .int .i64 (mbAt (mbsOf ms) j).wt, .int .i64 (mbAt (mbsOf ms) j).pb], .pointer (some ⟨pb, 0, none⟩)] W fun e w' => e = .returned (.bool ((mbAt (mbsOf ms) j).id == id)) ∧ Only (fun _ => False) W w' :=
    fun j _ W hO => new_clo _ _ _ id pb W (hO.cell hp (fun h => h))
  have he : (List.range (mbsOf ms).length).any (fun j => (mbAt (mbsOf ms) j).id == (id : Int)) = true := by
    obtain ⟨m, hm, e⟩ := hid
    obtain ⟨j, hj, rfl⟩ := List.mem_iff_getElem.1 hm
    rw [List.any_eq_true]
    refine ⟨j, by rw [List.mem_range, mbsOf_len]; exact hj, ?_⟩
    rw [mbAt_of hj, beq_iff_eq]
    unfold mmAt mbOf
    rw [lgetD _ _ hj]
    show ((ms[j].id : Nat) : Int) = id
    rw [e]
  rcases hM with ⟨a, c, rfl, hn⟩ | ⟨b, off, cap, rfl, hb, h1, h2, hd⟩
  · rw [hn] at he
    cases he
  · rw [← he]
    exact new_has _ (mbsOf ms).length cap (fun j => .int .i64 (mbAt (mbsOf ms) j).id) (fun j => .int .i64 (mbAt (mbsOf ms) j).wt) (fun j => .int .i64 (mbAt (mbsOf ms) j).pb) _ (fun j => (mbAt (mbsOf ms) j).id == id) w (by rw [mbsOf_len]; exact hl) (fun j hj => ⟨b, off, rfl, h1, h2, hd j hj⟩) hc
/-- A new node. -/
def newR (id : Nat) : Nr := ⟨id, 0, 0, 0, none, [], [], [], [], []⟩
theorem own_baseA {w : World} {b b' e size n : Nat} {v : Value} {xs : List Value} (h : w.ownsRow b e size v n xs) (hb : b' ≤ b) : w.ownsRow b' e size v n xs := by
  refine ⟨h.1, ?_⟩
  rcases h.2 with h | ⟨g, cap, cur, h1, h2, h3⟩
  · exact .inl h
  · exact .inr ⟨g, cap, cur, h1, Nat.le_trans hb h2, h3⟩
def blkOf : Value → Option Nat
  | .map (some g) => some g
  | v => v.ownBlock
/-- What the operations of the composite literal leave. -/
def newFact (w : World) (C : Nc) (id : Nat) (sv : Value) (i : Nat) (v : Value) (W : World) : Prop :=
  match i with
  | 0 => v = .int .i64 id
  | 1 => v = .int .i64 C.sec
  | 2 => v = .int .i64 C.pat
  | 3 => v = sv
  | 4 => W.ownsRow w.heap.size 41 3 v C.ms.length ((mbsOf C.ms).flatMap mb3)
  | _ => ∃ g, v = .map (some g) ∧ w.heap.size ≤ g ∧ W.heap[g]? = some (.map #[] 0)
def newRel (i j : Nat) (v u : Value) : Prop := 4 ≤ i → 4 ≤ j → ApO (blkOf v) (blkOf u)
theorem newFact_lt {w : World} {C : Nc} {id : Nat} {sv : Value} {i : Nat} {v : Value} {W : World} (hi : 4 ≤ i) (h : newFact w C id sv i v W) : ∀ k, blkOf v = some k → k < W.heap.size := by
  obtain ⟨j, rfl⟩ : ∃ j, i = j + 4 := ⟨i - 4, by omega⟩
  rcases j with _ | j
  · have h : W.ownsRow w.heap.size 41 3 v C.ms.length ((mbsOf C.ms).flatMap mb3) := h
    intro k hk
    obtain ⟨a, c, rfl⟩ := slice_of_own h
    exact (own_lt h hk).1
  · obtain ⟨g, rfl, _, hg⟩ : ∃ g, v = .map (some g) ∧ w.heap.size ≤ g ∧ W.heap[g]? = some (.map #[] 0) := h
    intro k hk
    cases hk
    exact (Array.getElem?_eq_some_iff.1 hg).1
theorem newFact_still {w : World} {C : Nc} {id : Nat} {sv : Value} (i : Nat) (v : Value) (W W' : World) (h : newFact w C id sv i v W) (hO : Only (fun _ => False) W W') : newFact w C id sv i v W' := by
  match i, h with
  | 0, h => exact h
  | 1, h => exact h
  | 2, h => exact h
  | 3, h => exact h
  | 4, h => exact hO.owns h (fun _ _ h => h)
  | i + 5, h =>
    obtain ⟨g, e, h1, h2⟩ : ∃ g, v = .map (some g) ∧ w.heap.size ≤ g ∧ W.heap[g]? = some (.map #[] 0) := h
    exact ⟨g, e, h1, by rw [hO.block g (Array.getElem?_eq_some_iff.1 h2).1 (fun h => h)]; exact h2⟩
theorem newFact_map {P : Program} {w W : World} {C : Nc} {id : Nat} {sv : Value} {i : Nat} (hi : 5 ≤ i) (hle : w.heap.size ≤ W.heap.size) {o : Oper} {ρ : Operand → Value} (hrun : (execOp ρ o).run P W = .ok (.value (.map (some W.heap.size))) (W.alloc (.map #[] 0))) :
    opV P o ρ W (fun v W' => Only (fun _ => False) W W' ∧ newFact w C id sv i v W' ∧ ∀ j u, j ≠ i → newFact w C id sv j u W → newRel i j v u ∧ newRel j i u v) := by
  refine opV_of_value hrun ⟨(Only.refl _ W).alloc _, ?_, fun j u _ hF => ?_⟩
  · obtain ⟨k, rfl⟩ : ∃ k, i = k + 5 := ⟨i - 5, by omega⟩
    exact ⟨W.heap.size, rfl, hle, heap_alloc_new W _⟩
  · have : ∀ k, 4 ≤ j → blkOf u = some k → k ≠ W.heap.size := fun k hj hk e => by
      have := newFact_lt hj hF k hk
      omega
    exact ⟨fun _ hj k hk hk' => by cases hk; exact this _ hj hk' rfl, fun hj _ k hk hk' => by cases hk'; exact this _ hj hk rfl⟩
theorem newFact_clone {P : Program} {w W : World} {C : Nc} {id : Nat} {sv : Value} (hle : w.heap.size ≤ W.heap.size) {o : Oper} {ρ : Operand → Value} {f : FuncId} {args : Array Value} (hrun : (execOp ρ o).run P W = .ok (.enter f args) W)
    (hc : Calls P f args W fun e w' => ∃ v, e = .returned v ∧ w'.ownsRow W.heap.size 41 3 v (mbsOf C.ms).length ((mbsOf C.ms).flatMap mb3) ∧ Only (fun _ => False) W w') :
    opV P o ρ W (fun v W' => Only (fun _ => False) W W' ∧ newFact w C id sv 4 v W' ∧ ∀ j u, j ≠ 4 → newFact w C id sv j u W → newRel 4 j v u ∧ newRel j 4 u v) := by
  refine opV_of_enter hrun (hc.mono ?_)
  rintro e w' ⟨v, rfl, hown, hO⟩
  rw [mbsOf_len] at hown
  refine ⟨v, rfl, hO, own_baseA hown hle, fun j u _ hF => ?_⟩
  obtain ⟨a, c, rfl⟩ := slice_of_own hown
  have h1 : ∀ k, blkOf (.slice a C.ms.length c) = some k → W.heap.size ≤ k := fun k hk => (own_lt hown hk).2
  have : ∀ k k', 4 ≤ j → blkOf u = some k → blkOf (.slice a C.ms.length c) = some k' → k ≠ k' := fun k k' hj hk hk' e => by
    have := newFact_lt hj hF k hk
    have := h1 k' hk'
    omega
  exact ⟨fun _ hj k hk hk' => this k k hj hk' hk rfl, fun hj _ k hk hk' => this k k hj hk hk' rfl⟩
theorem newFact_val {P : Program} {w W : World} {C : Nc} {id : Nat} {sv : Value} {i : Nat} (hi : i < 4) {o : Oper} {ρ : Operand → Value} {v : Value} (hrun : (execOp ρ o).run P W = .ok (.value v) W) (hv : newFact w C id sv i v W) :
    opV P o ρ W (fun v W' => Only (fun _ => False) W W' ∧ newFact w C id sv i v W' ∧ ∀ j u, j ≠ i → newFact w C id sv j u W → newRel i j v u ∧ newRel j i u v) :=
  opV_of_value hrun ⟨Only.refl _ W, hv, fun _ _ _ _ => ⟨fun h => by omega, fun _ h => by omega⟩⟩
/-- A new node in memory. -/
theorem ndAt_new {w W : World} {C : Nc} {id : Nat} {mv : Value} {g1 g2 : Nat} (hm : W.ownsRow w.heap.size 41 3 mv C.ms.length ((mbsOf C.ms).flatMap mb3)) (h1 : W.heap[g1]? = some (.map #[] 0)) (h2 : W.heap[g2]? = some (.map #[] 0)) (l1 : w.heap.size ≤ g1) (l2 : w.heap.size ≤ g2)
    (d1 : ApO mv.ownBlock (some g1)) (d2 : ApO mv.ownBlock (some g2)) (d3 : g1 ≠ g2) (hO : Only (fun _ => False) w W) :
    ∃ F G, NdAt (W.alloc (.cells (ndCells C (newR id) ⟨mv, .slice none 0 0, .slice none 0 0, g1, g2, .slice none 0 0, fun _ => .slice none 0 0⟩) 114)) F G W.heap.size C (newR id) ⟨mv, .slice none 0 0, .slice none 0 0, g1, g2, .slice none 0 0, fun _ => .slice none 0 0⟩ ∧ ∀ k, F k → w.heap.size ≤ k := by
  have hs := hO.size
  have b1 := (Array.getElem?_eq_some_iff.1 h1).1
  have b2 := (Array.getElem?_eq_some_iff.1 h2).1
  have hA : Only (fun _ => False) W (W.alloc (.cells (ndCells C (newR id) ⟨mv, .slice none 0 0, .slice none 0 0, g1, g2, .slice none 0 0, fun _ => .slice none 0 0⟩) 114)) := (Only.refl _ W).alloc _
  have hm' := hA.owns hm (fun _ _ h => h)
  refine ⟨fun k => (w.heap.size ≤ k ∧ k ≤ W.heap.size), fun k => (w.heap.size ≤ k ∧ k ≤ W.heap.size) ∧ mv.ownBlock ≠ some k, {
    blk := heap_alloc_new W _
    wants := World.ownsRow_nil _ _ _ _
    votes := World.ownsRow_nil _ _ _ _
    seen := (ks_new _ _ _ (by rw [hA.block g1 b1 (fun h => h)]; exact h1))
    sgd := (ks_new _ _ _ (by rw [hA.block g2 b2 (fun h => h)]; exact h2))
    dec := World.ownsRow_nil _ _ _ _
    keep := fun S w' hS hG => ⟨mbs_own3 (by rw [mbsOf_len]; exact hS.owns hm' fun k hk hSk => (hG k ⟨(own_lt hm hk).2, by have := (own_lt hm hk).1; omega⟩ hSk).2 hk), fun j hj => absurd hj (Nat.not_lt_zero _)⟩
    sub := fun k hk => hk.1
    lt := fun k hk => by
      rw [World.size_alloc]
      omega
    gp := ⟨⟨hs, Nat.le_refl _⟩, fun e => by have := (own_lt hm e).1; omega⟩
    gn := ⟨⟨l1, Nat.le_of_lt b1⟩, fun e => d1 g1 e rfl⟩
    gs := ⟨⟨l2, Nat.le_of_lt b2⟩, fun e => d2 g2 e rfl⟩
    gw := fun k e => by cases e
    gv := fun k e => by cases e
    gd := fun k e => by cases e
    ap := by
      simp only [List.pairwise_cons, List.mem_cons, List.not_mem_nil, or_false, forall_eq_or_imp, forall_eq]
      have n0 : ∀ x, ApO x none := fun x k _ h => by cases h
      have n1 : ∀ x, ApO none x := fun x k h => by cases h
      have n2 : ∀ a b : Nat, a ≠ b → ApO (some a) (some b) := fun a b h k e e' => h (by cases e; cases e'; rfl)
      exact ⟨⟨n2 _ _ (by omega), n2 _ _ (by omega), n0 _, n0 _, n0 _⟩, ⟨n2 _ _ d3, n0 _, n0 _, n0 _⟩, ⟨n0 _, n0 _, n0 _⟩, ⟨n0 _, n0 _⟩, n0 _, fun _ h => h.elim, List.Pairwise.nil⟩ }, fun k hk => hk.1⟩
def NewTo (w : World) (C : Nc) (id : Nat) (e : Ending) (w' : World) : Prop := ∃ p F G A, e = .returned (.pointer (some ⟨p, 0, none⟩)) ∧ NdAt w' F G p C (newR id) A ∧ (∀ k, F k → w.heap.size ≤ k) ∧ Only (fun _ => False) w w'
set_option maxRecDepth 100000 in
set_option maxHeartbeats 4000000 in
theorem newN_any (C : Nc) (id : Nat) (sv : Value) (w : World) (hC : CxOk C) (hid : ∃ m ∈ C.ms, m.id = id) (hp : 1 ≤ C.pat) (hM : MbsAt w sv (mbsOf C.ms)) :
    Calls Tryz.prog 23 #[.int .i64 id, .int .i64 C.sec, sv, .int .i64 C.pat] w (NewTo w C id) := by
  have hl := hC.len
  have hA := (Only.refl (fun _ => False) w).alloc (.cells #[.int .i64 id] 3)
  have HB := Lib.hid (heap_alloc_last w (.cells #[.int .i64 id] 3))
  have HA := Lib.hid hA
  have HP := Lib.hid (points_any sv _ _ hC.mbsW (MbsAt.only hA hM))
  have HM := Lib.hid hM
  have HC := Lib.hid hC
  have HI := Lib.hid hid
  clear hA hM hC hid
  obtain ⟨a2, c2, hm⟩ := mbs_slice HM.out
  rw [mbsOf_len] at hm
  subst hm
  have i1 : ¬ (C.pat : Int) < 1 := by omega
  go_enter Tryz.func23, Tryz.ntmps23
  go_wp2_with fail
  refine HP.out.mono ?_
  rintro e w1 ⟨hO, h⟩
  have HO1 := Lib.hid (HA.out.trans hO)
  have HB1 := Lib.hid (row_still hO HB.out)
  clear hO HP HB HA
  rcases h with ⟨hr, v, rfl, hg⟩ | ⟨hr, _⟩
  rotate_left
  · rw [HC.out.right] at hr; cases hr
  clear hr hg
  have hW := HO1.out.size
  have e0 : w1.cell? ⟨w.heap.size, 0, none⟩ = some (Value.int .i64 id) := cell_of_row _ _ 0 _ _ _ HB1.out
  have HN := Lib.hid (new_who (.slice a2 C.ms.length c2) C.ms id HI.out w.heap.size w1 (MbsAt.only HO1.out HM.out) (by omega) e0)
  go_wp2_with fail
  refine HN.out.mono ?_
  rintro e w2 ⟨rfl, hO2⟩
  have HO2 := Lib.hid (HO1.out.trans hO2)
  have HB2 := Lib.hid (row_still hO2 HB1.out)
  clear hO2 HN HO1 HB1 e0 hW
  go_upto_region 4 with fail
  have hid9 : w.heap.size < w2.heap.size := (Array.getElem?_eq_some_iff.1 HB2.out).1
  have e0 : w2.cell? ⟨w.heap.size, 0, none⟩ = some (Value.int .i64 id) := cell_of_row _ _ 0 _ _ _ HB2.out
  refine wp_region_split3 7 (by kernel_rfl) (by kernel_rfl) ?_
  simp only [List.take_succ_cons, List.take_zero]
  refine wpAny_by_facts _ _ (newFact w C id (.slice a2 C.ms.length c2)) newRel (by kernel_rfl) (by kernel_rfl) newFact_still ?step ?fin
  case step =>
    intro i o f wx ho hO hW
    have hi : i < 7 := by have := (Array.getElem?_eq_some_iff.1 ho).1; simpa using this
    have hOx : Only (fun _ => False) w2 wx := ((Only.refl _ w2).drew).trans hO
    have hle : w.heap.size ≤ wx.heap.size := (HO2.out.trans hOx).size
    have ex := hOx.cell e0 (fun h => h)
    obtain rfl | rfl | rfl | rfl | rfl | rfl | rfl : i = 0 ∨ i = 1 ∨ i = 2 ∨ i = 3 ∨ i = 4 ∨ i = 5 ∨ i = 6 := by omega
    all_goals (simp only [List.getElem?_toArray, List.getElem?_cons_zero, List.getElem?_cons_succ, Option.some.injEq] at ho; subst ho)
    · refine newFact_val (v := .int .i64 id) (by decide) ((show (execOp _ _).run Tryz.prog wx = (execOp (fun _ => Value.pointer (some ⟨w.heap.size, 0, none⟩)) { dst := none, op := .load 3 (.tmp 4), type := 0, pos := "", after := #[], guard := none }).run Tryz.prog wx by kernel_rfl).trans ?_) rfl
      go_simp
    · exact newFact_val (v := .int .i64 C.sec) (by decide) (by kernel_rfl) rfl
    · exact newFact_val (v := .int .i64 C.pat) (by decide) (by kernel_rfl) rfl
    · exact newFact_val (v := .slice a2 C.ms.length c2) (by decide) (by kernel_rfl) rfl
    · have h0 : f 3 = .slice a2 C.ms.length c2 := hW 3 (by kernel_rfl)
      exact newFact_clone hle (show (execOp _ _).run Tryz.prog wx = .ok (.enter 53 #[.slice a2 C.ms.length c2]) wx from (show (execOp _ _).run Tryz.prog wx = .ok (.enter 53 #[f 3]) wx by kernel_rfl).trans (by rw [h0])) (cloneM_any wx _ (mbsOf C.ms) (MbsAt.only (HO2.out.trans hOx) HM.out) (by rw [mbsOf_len]; omega) (by rw [mbsOf_len]; omega))
    · exact newFact_map (by decide) hle (by kernel_rfl)
    · exact newFact_map (by decide) hle (by kernel_rfl)
  case fin =>
    intro f wx hO hF hR
    have hOx : Only (fun _ => False) w wx := HO2.out.trans (((Only.refl _ w2).drew).trans hO)
    have h0 : f 0 = .int .i64 id := hF 0 (by decide)
    have h1 : f 1 = .int .i64 C.sec := hF 1 (by decide)
    have h2 : f 2 = .int .i64 C.pat := hF 2 (by decide)
    have h4 : wx.ownsRow w.heap.size 41 3 (f 4) C.ms.length ((mbsOf C.ms).flatMap mb3) := hF 4 (by decide)
    obtain ⟨g1, h5, l1, b1⟩ : ∃ g, f 5 = .map (some g) ∧ w.heap.size ≤ g ∧ wx.heap[g]? = some (.map #[] 0) := hF 5 (by decide)
    obtain ⟨g2, h6, l2, b2⟩ : ∃ g, f 6 = .map (some g) ∧ w.heap.size ≤ g ∧ wx.heap[g]? = some (.map #[] 0) := hF 6 (by decide)
    have r1 := hR 4 5 (by decide) (by decide) (by decide) (by decide) (by decide)
    have r2 := hR 4 6 (by decide) (by decide) (by decide) (by decide) (by decide)
    have r3 := hR 5 6 (by decide) (by decide) (by decide) (by decide) (by decide)
    rw [h5] at r1 r3
    rw [h6] at r2 r3
    obtain ⟨am, cm, hv⟩ := slice_of_own h4
    rw [hv] at h4 r1 r2
    have r3' : g1 ≠ g2 := fun e => r3 g1 rfl (by rw [e]; rfl)
    obtain ⟨F, G, hN, hF2⟩ := ndAt_new (id := id) (C := C) h4 b1 b2 l1 l2 r1 r2 r3' hOx
    have HN := Lib.hid hN
    have HF2 := Lib.hid hF2
    have HOx := Lib.hid hOx
    clear hO hF hR h4 l1 b1 l2 b2 r1 r2 r3 r3' hN hF2 hOx
    simp only [headPost, List.drop_succ_cons, List.drop_zero, frameAll, Act.put, List.size_toArray, List.length_cons, List.length_nil, List.getElem?_toArray, List.getElem?_cons_zero, List.getElem?_cons_succ, Option.bind_some, List.setIfInBounds_toArray, List.set_cons_zero, List.set_cons_succ]
    rw [h0, h1, h2, hv, h5, h6]
    clear h0 h1 h2 hv h5 h6
    go_wp2
    go_ret
    exact ⟨_, F, G, _, rfl, HN.out, HF2.out, HOx.out.alloc _⟩
end Go.Proofs.YtldkjkjpaiajlaaGreatDoor

namespace Go.Proofs.YtldkjkjpaiajlaaGreatDoor
open Go.RowKit

/-- A slice of bytes. -/
def U8sAt (W : World) (sv : Value) (l : List Nat) : Prop :=
  (∃ a c, sv = .slice a 0 c ∧ l = []) ∨ ∃ b off cap, sv = .slice (some ⟨b, off, none⟩) l.length cap ∧ b < W.heap.size ∧ l.length ≤ cap ∧ cap ≤ 9223372036854775807 ∧
    ∀ j, j < l.length → W.cell? ⟨b, off + j, none⟩ = some (.int .u8 (l.getD j 0 : Nat)) ∧ l.getD j 0 < 256
theorem U8sAt.only {A B : World} (h : Only (fun _ => False) A B) {sv : Value} {l : List Nat} : U8sAt A sv l → U8sAt B sv l
  | .inl e => .inl e
  | .inr ⟨b, off, cap, e, hb, h1, h2, hc⟩ => .inr ⟨b, off, cap, e, Nat.lt_of_lt_of_le hb h.size, h1, h2, fun j hj => ⟨h.cell (hc j hj).1 id, (hc j hj).2⟩⟩
theorem U8sAt.slice {W : World} {sv : Value} {l : List Nat} (h : U8sAt W sv l) : ∃ a c, sv = .slice a l.length c := by
  rcases h with ⟨a, c, rfl, rfl⟩ | ⟨b, off, cap, rfl, _⟩
  · exact ⟨a, c, rfl⟩
  · exact ⟨_, _, rfl⟩
theorem U8sAt.at {W : World} {a : Option Addr} {c k : Nat} {l : List Nat} (h : U8sAt W (.slice a l.length c) l) (hk : k < l.length) :
    ∃ b off, a = some ⟨b, off, none⟩ ∧ b < W.heap.size ∧ l.length ≤ c ∧ c ≤ 9223372036854775807 ∧ W.cell? ⟨b, off + k, none⟩ = some (.int .u8 (l.getD k 0 : Nat)) ∧ l.getD k 0 < 256 := by
  rcases h with ⟨_, _, _, h0⟩ | ⟨b, off, cap, hv, hb, h1, h2, hc⟩
  · rw [h0] at hk; simp at hk
  · simp only [Value.slice.injEq, true_and] at hv
    obtain ⟨rfl, rfl⟩ := hv
    exact ⟨b, off, rfl, hb, h1, h2, hc k hk⟩
theorem keyP_pub (s : ByteArray) : keyP s = pubZ (keyS s) := by
  have := keyS_bd s
  unfold keyP pubZ expZ
  rw [Int.emod_eq_of_lt (by omega) this.2]
/-- Members and secrets that are laid one after the other. -/
structure TwoAt (w wr : World) (B : Nat) (vm vs : Value) (M : List Mb) (S : List Int) : Prop where
  mem : wr.ownsRow B 41 3 vm M.length (M.flatMap mb3)
  sec : wr.ownsRow B 3 1 vs S.length (irow S)
  ne : ∀ k, vm.ownBlock = some k → vs.ownBlock ≠ some k
  low : w.heap.size ≤ B
  only : Only (fun _ => False) w wr
theorem TwoAt.frame {w wr w' : World} {B : Nat} {vm vs : Value} {M : List Mb} {S : List Int} (h : TwoAt w wr B vm vs M S) (hO : Only (fun _ => False) wr w') : TwoAt w w' B vm vs M S :=
  ⟨hO.owns h.mem (fun _ _ h => h), hO.owns h.sec (fun _ _ h => h), h.ne, h.low, h.only.trans hO⟩
theorem TwoAt.nil (w : World) (B : Nat) (h : w.heap.size ≤ B) {w' : World} (hO : Only (fun _ => False) w w') : TwoAt w w' B (.slice none 0 0) (.slice none 0 0) [] [] :=
  ⟨World.ownsRow_nil _ _ _ _, World.ownsRow_nil _ _ _ _, fun k h => by simp [Value.ownBlock] at h, h, hO⟩
theorem TwoAt.mem1 {w wn w' : World} {B : Nat} {vm vs : Value} {M : List Mb} {S : List Int} {k : Nat} (h : TwoAt w wn B vm vs M S) (hk : M.length = k) {m : Mb} {gg cap : Nat}
    (hown : w'.ownsRow B 41 3 (.slice (some ⟨gg, 0, none⟩) (k + 1) cap) (k + 1) (M.flatMap mb3 ++ [.int .i64 m.id, .int .i64 m.wt, .int .i64 m.pb])) (hg : wn.grownBy w' vm.ownBlock) (hat : vm.ownBlock = some gg ∨ gg = wn.heap.size) :
    TwoAt w w' B (.slice (some ⟨gg, 0, none⟩) (k + 1) cap) vs (M ++ [m]) S := by
  subst hk
  have hO : Only (fun k => vm.ownBlock = some k) wn w' := (Only.refl _ wn).grown hg (fun k e _ => e)
  have hon : Only (fun _ => False) w w' := h.only.trans' hO (fun i hi hp => by have := (own_lt h.mem hp).2; have := h.low; omega)
  have hgb : (Value.slice (some ⟨gg, 0, none⟩) (M.length + 1) cap).ownBlock = some gg := rfl
  refine ⟨?_, hO.owns h.sec (fun k hq hp => h.ne k hp hq), ?_, h.low, hon⟩
  · rw [List.length_append, List.length_singleton, List.flatMap_append, List.flatMap_cons, List.flatMap_nil, List.append_nil]; exact hown
  · intro k hk hq
    rw [hgb] at hk
    obtain rfl : gg = k := by simpa using hk
    rcases hat with hat | hat
    · exact h.ne gg hat hq
    · have := (own_lt h.sec hq).1; omega
theorem TwoAt.sec1 {w wn w' : World} {B : Nat} {vm vs : Value} {M : List Mb} {S : List Int} {k : Nat} (h : TwoAt w wn B vm vs M S) (hk : S.length = k) {z : Int} {gg cap : Nat}
    (hown : w'.ownsRow B 3 1 (.slice (some ⟨gg, 0, none⟩) (k + 1) cap) (k + 1) (irow S ++ [.int .i64 z])) (hg : wn.grownBy w' vs.ownBlock) (hat : vs.ownBlock = some gg ∨ gg = wn.heap.size) :
    TwoAt w w' B vm (.slice (some ⟨gg, 0, none⟩) (k + 1) cap) M (S ++ [z]) := by
  subst hk
  have hO : Only (fun k => vs.ownBlock = some k) wn w' := (Only.refl _ wn).grown hg (fun k e _ => e)
  have hon : Only (fun _ => False) w w' := h.only.trans' hO (fun i hi hp => by have := (own_lt h.sec hp).2; have := h.low; omega)
  have hgb : (Value.slice (some ⟨gg, 0, none⟩) (S.length + 1) cap).ownBlock = some gg := rfl
  refine ⟨hO.owns h.mem (fun k hp hq => h.ne k hp hq), ?_, ?_, h.low, hon⟩
  · rw [List.length_append, List.length_singleton, irow_append]; exact hown
  · intro k hk hq
    rw [hgb] at hq
    obtain rfl : gg = k := by simpa using hq
    rcases hat with hat | hat
    · exact h.ne gg hk hat
    · have := (own_lt h.mem hk).1; omega
theorem three_intA (a b c : Int) : ∀ u ∈ [Value.int .i64 a, .int .i64 b, .int .i64 c], u.oneCell' = true := by
  intro u hu
  simp at hu
  rcases hu with rfl | rfl | rfl <;> rfl
/-- The seeds of the crew's keys. -/
def nodeS (i : Nat) : ByteArray := (⟨#[110, 111, 100, 101, 32]⟩ : ByteArray) ++ decB i
def crewMk (ws : List Nat) : Nat → List Mm
  | 0 => []
  | k + 1 => crewMk ws k ++ [⟨k, 1 + ws.getD k 0 % 3, keyS (nodeS k)⟩]
def crewM (ws : List Nat) : List Mm := crewMk ws (min ws.length 5)
def secsOf (ms : List Mm) : List Int := ms.map (·.sec)
theorem crewMk_len (ws : List Nat) : ∀ k, (crewMk ws k).length = k
  | 0 => rfl
  | k + 1 => by rw [crewMk, List.length_append, crewMk_len ws k]; rfl
theorem mbsOf_snoc (l : List Mm) (m : Mm) : mbsOf (l ++ [m]) = mbsOf l ++ [mbOf m] := by
  unfold mbsOf
  rw [List.map_append]
  rfl
theorem secsOf_snoc (l : List Mm) (m : Mm) : secsOf (l ++ [m]) = secsOf l ++ [m.sec] := by
  unfold secsOf
  rw [List.map_append]
  rfl
def CrewRet (w : World) (ms : List Mm) (e : Ending) (w' : World) : Prop :=
  ∃ vm vs, e = .returned (.tuple #[vm, vs]) ∧ w'.ownsRow w.heap.size 41 3 vm ms.length ((mbsOf ms).flatMap mb3) ∧ w'.ownsRow w.heap.size 3 1 vs ms.length (irow (secsOf ms)) ∧ Only (fun _ => False) w w'
set_option maxRecDepth 100000 in
set_option maxHeartbeats 2000000 in
theorem rcrew29_any (sv : Value) (ws : List Nat) (w : World) (hW : U8sAt w sv ws) (hl : ws.length ≤ 9223372036854775807) :
    Calls Tryz.prog 7 #[sv] w (CrewRet w (crewM ws)) := by
  obtain ⟨i0, hi0, hz0, hz1, hz2⟩ := info_parts Tryz.infoI
  obtain ⟨j0, hj0, hy0, hy1, hy2⟩ := info_parts Tryz.infoMbz
  obtain ⟨a, c, rfl⟩ := hW.slice
  have HW := Lib.hid hW
  clear hW
  go_enter Tryz.func7, Tryz.ntmps7
  go_wp2_with fail
  obtain ⟨n5, hn5⟩ : ∃ n, min ws.length 5 = n := ⟨_, rfl⟩
  have HN5 := Lib.hid hn5
  have h5 : n5 ≤ 5 := by omega
  go_loopw [4, 5, 6] (fun vm vs vi wr => ∃ k : Nat, k ≤ n5 ∧ vi = .int .i64 k ∧ TwoAt w wr w.heap.size vm vs (mbsOf (crewMk ws k)) (secsOf (crewMk ws k))) (fun _ _ vi _ => 5 - (intOf vi).toNat)
  case atStart => exact ⟨0, Nat.zero_le _, rfl, TwoAt.nil w _ (Nat.le_refl _) (Only.refl _ _)⟩
  case round =>
    clear hn5
    obtain ⟨k, hk, rfl, hC⟩ := hrel
    have HC := Lib.hid hC
    obtain ⟨am, cm, rfl⟩ := slice_of_own hC.mem
    obtain ⟨asc, csc, rfl⟩ := slice_of_own hC.sec
    have HLM := Lib.hid (show (mbsOf (crewMk ws k)).length = k by rw [mbsOf_len, crewMk_len])
    have HLS := Lib.hid (show (secsOf (crewMk ws k)).length = k by unfold secsOf; rw [List.length_map, crewMk_len])
    by_cases hlt : k < n5
    · have h1 : k < ws.length := by have := HN5.out; omega
      have h2 : k < 5 := by omega
      have i1 : (k : Int) < ws.length := by omega
      have i2 : (k : Int) < 5 := by omega
      have i3 : 0 ≤ (k : Int) := by omega
      obtain ⟨wb, wo, rfl, hwb, hwc1, hwc2, hwc, hwl⟩ := (HW.out.only hC.only).at h1
      have HT := Lib.hid (fun W => rdec11_any k W (by omega))
      have hsz := decB_size (n := k) (by omega)
      have hs5 : (nodeS k).size ≤ 26 := by unfold nodeS; rw [ByteArray.size_append]; show 5 + _ ≤ _; omega
      have HKY := Lib.hid (fun W => rkey_any (nodeS k) W (by omega))
      have HMN := Lib.hid (show mbsOf (crewMk ws (k + 1)) = mbsOf (crewMk ws k) ++ [⟨k, 1 + ((ws.getD k 0 % 3 : Nat) : Int), keyP (nodeS k)⟩] by
        rw [crewMk, mbsOf_snoc]
        unfold mbOf
        dsimp only
        rw [keyP_pub]
        rfl)
      have HSN := Lib.hid (show secsOf (crewMk ws (k + 1)) = secsOf (crewMk ws k) ++ [keyS (nodeS k)] by rw [crewMk, secsOf_snoc])
      have HNS := Lib.hid (show nodeS k = (⟨#[110, 111, 100, 101, 32]⟩ : ByteArray) ++ decB k from rfl)
      rw [HNS.out] at HKY
      rw [HNS.out] at HMN HSN hs5
      generalize decB k = dn at *
      generalize keyP _ = kp at HKY HMN
      generalize keyS _ = ksz at HKY HSN
      generalize mbsOf (crewMk ws k) = M at *
      generalize secsOf (crewMk ws k) = S at *
      generalize ws.getD k 0 = wk at *
      clear hC HNS
      go_wp2_with fail
      refine (HT.out _).mono ?_
      rintro e w1 ⟨rfl, hO1⟩
      have HC1 := Lib.hid (HC.out.frame hO1)
      have hwc := hO1.cell hwc (fun h => h)
      clear hO1 HC HT
      go_wp2_with fail
      refine (HKY.out _).mono ?_
      rintro e w2 ⟨rfl, hO2⟩
      have HC2 := Lib.hid (HC1.out.frame hO2)
      have hwc := hO2.cell hwc (fun h => h)
      have hwb2 : wb < w2.heap.size := World.block_lt_of_cell? w2 _ hwc
      clear hO2 HC1 HKY
      have HC4 := Lib.hid (HC2.out.frame ((Only.refl (fun _ => False) w2).alloc (.cells #[.int .i64 k, .int .i64 (1 + ((wk % 3 : Nat) : Int)), .int .i64 kp] 41)))
      have hown4 := HC4.out.mem
      have hlow2 := HC2.out.only.size
      rw [HLM.out] at hown4 ⊢
      rw [HLS.out]
      go_wp2_with (at_builtin; refine wpList_append_lies _ rfl _ _ 25 rfl w.heap.size 41 j0 _ 3 24 Tryz.underlying25 hj0 hy0 hy1 hy2 rfl (by decide) _ k (M.flatMap mb3) rfl hown4 ⟨w2.heap.size, 0, none⟩ 1 1 [.int .i64 k, .int .i64 (1 + ((wk % 3 : Nat) : Int)), .int .i64 kp] rfl rfl (World.news_of_block (cs := #[.int .i64 k, .int .i64 (1 + ((wk % 3 : Nat) : Int)), .int .i64 kp]) (t := 41) (fr := (0, 0)) (heap_alloc_new w2 _)) (three_intA _ _ _) (by decide) ?c1 ?c2 ?c3 _ rfl ?_)
      case c1 => unfold maxLen; omega
      case c2 => omega
      case c3 => first | omega | (simp; omega)
      intro g1 cp1 w5 ho5 hg5 ha5 hgl5
      have HC5 := Lib.hid (HC4.out.mem1 (m := ⟨k, 1 + ((wk % 3 : Nat) : Int), kp⟩) HLM.out ho5 (by rw [HLM.out]; exact hg5) (by rw [World.size_alloc, HLM.out]; exact ha5))
      rw [← HMN.out] at HC5
      have HC6 := Lib.hid (HC5.out.frame ((Only.refl (fun _ => False) w5).alloc (.cells #[.int .i64 ksz] 3)))
      have hown6 := HC6.out.sec
      have hsz5 := HC5.out.only.size
      rw [HLS.out] at hown6
      clear ho5 hg5 ha5 hgl5 hown4 HC4 HC2 hlow2 hwc hwb2
      go_wp2_with (at_builtin; refine wpList_append_lies _ rfl _ _ 26 rfl w.heap.size 3 i0 _ 1 8 Tryz.underlying26 hi0 hz0 hz1 hz2 rfl (by decide) _ k (irow S) rfl hown6 ⟨w5.heap.size, 0, none⟩ 1 1 [.int .i64 ksz] rfl rfl (cell_one_new _ _ _) (one_int _) (by decide) ?d1 ?d2 ?d3 _ rfl ?_)
      case d1 => unfold maxLen; omega
      case d2 => omega
      case d3 => first | omega | (simp; omega)
      intro g2 cp2 w7 ho7 hg7 ha7 hgl7
      have HC7 := Lib.hid (HC6.out.sec1 HLS.out ho7 (by rw [HLS.out]; exact hg7) (by rw [World.size_alloc, HLS.out]; exact ha7))
      rw [← HSN.out] at HC7
      clear ho7 hg7 ha7 hgl7 hown6 HC5 HC6
      go_wp2
      go_roundw
      case rel => exact ⟨k + 1, by omega, by go_num, HC7.out⟩
      case measure => simp [intOf]; omega
    · obtain rfl : k = n5 := by omega
      have HCM := Lib.hid (show crewMk ws k = crewM ws by unfold crewM; rw [HN5.out])
      have hm := hC.mem
      have hs := hC.sec
      have hCL : (crewMk ws k).length = k := crewMk_len ws k
      rw [HLM.out] at hm
      rw [HLS.out] at hs
      rw [HLM.out, HLS.out]
      have HR := Lib.hid (show CrewRet w (crewM ws) (.returned (.tuple #[.slice am k cm, .slice asc k csc])) wr from ⟨_, _, rfl, by rw [← HCM.out, hCL]; exact hm, by rw [← HCM.out, hCL]; exact hs, hC.only⟩)
      have hn : ¬ ((k : Int) < ws.length ∧ (k : Int) < 5) := by have := HN5.out; omega
      clear hC hm hs
      by_cases i1 : (k : Int) < ws.length
      · have i2 : ¬ (k : Int) < 5 := fun h => hn ⟨i1, h⟩
        go_wp2
        go_ret2
        exact HR.out
      · go_wp2
        go_ret2
        exact HR.out
theorem one_lit (w : World) (d : Int) : (convert 22 9 (.slice (some ⟨w.heap.size, 0, none⟩) 1 1)).run Tryz.prog (w.alloc (.cells #[.int .u8 d] 5)) = .ok (.string (strOfNums [d])) (w.alloc (.cells #[.int .u8 d] 5)) :=
  run_convert_bytes_arg (P := Tryz.prog) _ 22 5 Tryz.underlying22 Tryz.underlying5 w.heap.size 0 1 1 [d] rfl (fun i hi => by
    obtain rfl : i = 0 := by omega
    exact cell_of_row _ _ 0 _ _ _ (heap_alloc_last w (.cells #[.int .u8 d] 5))) 9 Tryz.underlying9
theorem one_nums (d : Nat) : strOfNums [(d : Int)] = oneB d := by
  unfold strOfNums oneB
  simp
set_option maxRecDepth 100000 in
theorem rval29_any (n : Nat) (w : World) (hn : n ≤ 1000) :
    Calls Tryz.prog 19 #[.int .i64 n] w fun e w' => e = .returned (.string (oneB (97 + n % 26))) ∧ Only (fun _ => False) w w' := by
  have HO := Lib.hid ((Only.refl (fun _ => False) w).alloc (.cells #[.int .u8 (97 + (n : Int) % 26)] 5))
  have hcv := one_lit w (97 + (n : Int) % 26)
  rw [show strOfNums [97 + (n : Int) % 26] = oneB (97 + n % 26) from (by rw [← one_nums]; congr 2)] at hcv
  generalize oneB (97 + n % 26) = S at *
  go_enter Tryz.func19, Tryz.ntmps19
  go_wp2
  go_ret
  exact ⟨rfl, HO.out⟩
/-- The four members of the examples. -/
def fourS (i : Nat) : ByteArray := (⟨#[102, 111, 117, 114, 32]⟩ : ByteArray) ++ oneB (97 + i % 26)
def fourMk : Nat → List Mm
  | 0 => []
  | k + 1 => fourMk k ++ [⟨k + 1, 1, keyS (fourS (k + 1))⟩]
def fourM : List Mm := fourMk 4
theorem fourMk_len : ∀ k, (fourMk k).length = k
  | 0 => rfl
  | k + 1 => by rw [fourMk, List.length_append, fourMk_len k]; rfl
set_option maxRecDepth 100000 in
set_option maxHeartbeats 2000000 in
theorem four_any (w : World) :
    Calls Tryz.prog 22 #[] w (CrewRet w fourM) := by
  obtain ⟨i0, hi0, hz0, hz1, hz2⟩ := info_parts Tryz.infoI
  obtain ⟨j0, hj0, hy0, hy1, hy2⟩ := info_parts Tryz.infoMbz
  go_enter Tryz.func22, Tryz.ntmps22
  go_wp2_with fail
  go_loopw [2, 3, 4] (fun vm vs vi wr => ∃ k : Nat, k ≤ 4 ∧ vi = .int .i64 (k + 1) ∧ TwoAt w wr w.heap.size vm vs (mbsOf (fourMk k)) (secsOf (fourMk k))) (fun _ _ vi _ => 6 - (intOf vi).toNat)
  case atStart => exact ⟨0, Nat.zero_le _, rfl, TwoAt.nil w _ (Nat.le_refl _) (Only.refl _ _)⟩
  case round =>
    obtain ⟨k, hk, rfl, hC⟩ := hrel
    have HC := Lib.hid hC
    obtain ⟨am, cm, rfl⟩ := slice_of_own hC.mem
    obtain ⟨asc, csc, rfl⟩ := slice_of_own hC.sec
    have HLM := Lib.hid (show (mbsOf (fourMk k)).length = k by rw [mbsOf_len, fourMk_len])
    have HLS := Lib.hid (show (secsOf (fourMk k)).length = k by unfold secsOf; rw [List.length_map, fourMk_len])
    by_cases hlt : k < 4
    · have i2 : (k : Int) + 1 < 5 := by omega
      have HT := Lib.hid (fun W => rval29_any (k + 1) W (by omega))
      have hs5 : (fourS (k + 1)).size ≤ 26 := by unfold fourS; rw [ByteArray.size_append]; show 5 + 1 ≤ _; omega
      have HKY := Lib.hid (fun W => rkey_any (fourS (k + 1)) W (by omega))
      have HMN := Lib.hid (show mbsOf (fourMk (k + 1)) = mbsOf (fourMk k) ++ [⟨(k : Int) + 1, 1, keyP (fourS (k + 1))⟩] by
        rw [fourMk, mbsOf_snoc]
        unfold mbOf
        dsimp only
        rw [keyP_pub]
        rfl)
      have HSN := Lib.hid (show secsOf (fourMk (k + 1)) = secsOf (fourMk k) ++ [keyS (fourS (k + 1))] by rw [fourMk, secsOf_snoc])
      have HNS := Lib.hid (show fourS (k + 1) = (⟨#[102, 111, 117, 114, 32]⟩ : ByteArray) ++ oneB (97 + (k + 1) % 26) from rfl)
      rw [HNS.out] at HKY
      rw [HNS.out] at HMN HSN hs5
      have hds : (oneB (97 + (k + 1) % 26)).size = 1 := rfl
      have HCA := Lib.hid (show ((k + 1 : Nat) : Int) = (k : Int) + 1 by omega)
      rw [HCA.out] at HT
      generalize oneB (97 + (k + 1) % 26) = dn at *
      generalize keyP _ = kp at HKY HMN
      generalize keyS _ = ksz at HKY HSN
      generalize mbsOf (fourMk k) = M at *
      generalize secsOf (fourMk k) = S at *
      clear hC HNS
      go_wp2_with fail
      refine (HT.out _).mono ?_
      rintro e w1 ⟨rfl, hO1⟩
      have HC1 := Lib.hid (HC.out.frame hO1)
      clear hO1 HC HT
      go_wp2_with fail
      refine (HKY.out _).mono ?_
      rintro e w2 ⟨rfl, hO2⟩
      have HC2 := Lib.hid (HC1.out.frame hO2)
      clear hO2 HC1 HKY
      have HC4 := Lib.hid (HC2.out.frame ((Only.refl (fun _ => False) w2).alloc (.cells #[.int .i64 ((k : Int) + 1), .int .i64 1, .int .i64 kp] 41)))
      have hown4 := HC4.out.mem
      have hlow2 := HC2.out.only.size
      rw [HLM.out] at hown4 ⊢
      rw [HLS.out]
      go_wp2_with (at_builtin; refine wpList_append_lies _ rfl _ _ 25 rfl w.heap.size 41 j0 _ 3 24 Tryz.underlying25 hj0 hy0 hy1 hy2 rfl (by decide) _ k (M.flatMap mb3) rfl hown4 ⟨w2.heap.size, 0, none⟩ 1 1 [.int .i64 ((k : Int) + 1), .int .i64 1, .int .i64 kp] rfl rfl (World.news_of_block (cs := #[.int .i64 ((k : Int) + 1), .int .i64 1, .int .i64 kp]) (t := 41) (fr := (0, 0)) (heap_alloc_new w2 _)) (three_intA _ _ _) (by decide) ?c1 ?c2 ?c3 _ rfl ?_)
      case c1 => unfold maxLen; omega
      case c2 => omega
      case c3 => first | omega | (simp; omega)
      intro g1 cp1 w5 ho5 hg5 ha5 hgl5
      have HC5 := Lib.hid (HC4.out.mem1 (m := ⟨(k : Int) + 1, 1, kp⟩) HLM.out ho5 (by rw [HLM.out]; exact hg5) (by rw [World.size_alloc, HLM.out]; exact ha5))
      rw [← HMN.out] at HC5
      have HC6 := Lib.hid (HC5.out.frame ((Only.refl (fun _ => False) w5).alloc (.cells #[.int .i64 ksz] 3)))
      have hown6 := HC6.out.sec
      have hsz5 := HC5.out.only.size
      rw [HLS.out] at hown6
      clear ho5 hg5 ha5 hgl5 hown4 HC4 HC2 hlow2
      go_wp2_with (at_builtin; refine wpList_append_lies _ rfl _ _ 26 rfl w.heap.size 3 i0 _ 1 8 Tryz.underlying26 hi0 hz0 hz1 hz2 rfl (by decide) _ k (irow S) rfl hown6 ⟨w5.heap.size, 0, none⟩ 1 1 [.int .i64 ksz] rfl rfl (cell_one_new _ _ _) (one_int _) (by decide) ?d1 ?d2 ?d3 _ rfl ?_)
      case d1 => unfold maxLen; omega
      case d2 => omega
      case d3 => first | omega | (simp; omega)
      intro g2 cp2 w7 ho7 hg7 ha7 hgl7
      have HC7 := Lib.hid (HC6.out.sec1 HLS.out ho7 (by rw [HLS.out]; exact hg7) (by rw [World.size_alloc, HLS.out]; exact ha7))
      rw [← HSN.out] at HC7
      clear ho7 hg7 ha7 hgl7 hown6 HC5 HC6
      go_wp2
      go_roundw
      case rel => exact ⟨k + 1, by omega, by go_num, HC7.out⟩
      case measure => simp [intOf]; omega
    · obtain rfl : k = 4 := by omega
      have HR := Lib.hid (show CrewRet w fourM (.returned (.tuple #[.slice am (mbsOf (fourMk 4)).length cm, .slice asc (secsOf (fourMk 4)).length csc])) wr from ⟨_, _, rfl, hC.mem, hC.sec, hC.only⟩)
      clear hC
      go_wp2
      go_ret2
      exact HR.out
end Go.Proofs.YtldkjkjpaiajlaaGreatDoor

namespace Go.Proofs.YtldkjkjpaiajlaaGreatDoor
open Go.RowKit

theorem decB_cut (n : Nat) (h : 10 ≤ n) : decB n = decB (n / 10) ++ decB (n % 10) := by
  unfold decB
  rw [Lib.decDigits, dif_neg (by omega), Lib.decDigits_one (Nat.mod_lt _ (by decide))]
  apply ByteArray.ext
  simp
theorem decB_one {d : Nat} (h : d < 10) : decB d = ⟨#[UInt8.ofNat (48 + d)]⟩ := by
  unfold decB
  rw [Lib.decDigits_one h]
/-- What decimal has written when a rest is left. -/
def DecR (n rest : Nat) (s : ByteArray) : Prop := if rest = 0 then s = decB n else decB rest ++ s = decB n
theorem DecR.step {n rest : Nat} {s : ByteArray} (h : DecR n rest s) (h0 : 0 < rest) : DecR n (rest / 10) ((⟨#[UInt8.ofNat (48 + rest % 10)]⟩ : ByteArray) ++ s) := by
  unfold DecR at h ⊢
  rw [if_neg (by omega)] at h
  have hm : rest % 10 < 10 := Nat.mod_lt _ (by decide)
  split
  · rename_i e
    rw [← decB_one hm, show rest % 10 = rest by omega]
    exact h
  · rw [← ByteArray.append_assoc, ← decB_one hm, ← decB_cut rest (by omega)]
    exact h
theorem DecR.size {n rest : Nat} {s : ByteArray} (h : DecR n rest s) (hn : n < 9223372036854775808) : s.size ≤ 21 := by
  have := decB_size hn
  unfold DecR at h
  split at h
  · rw [h]; exact this
  · have e := congrArg ByteArray.size h
    rw [ByteArray.size_append] at e
    omega
set_option maxRecDepth 100000 in
set_option maxHeartbeats 1000000 in
theorem rdec5_any (n : Nat) (w : World) (hn : n < 9223372036854775808) :
    Calls Tryz.prog 146 #[.int .i64 n] w fun e w' => e = .returned (.string (decB n)) ∧ Only (fun _ => False) w w' := by
  by_cases h0 : n = 0
  · subst h0
    have HD := Lib.hid (decB_one (d := 0) (by decide))
    have i1 : (((0 : Nat) : Int) == 0) = true := rfl
    go_enter Tryz.func146, Tryz.ntmps146
    go_wp2
    go_ret
    exact ⟨by rw [HD.out]; rfl, Only.refl _ _⟩
  have q0 : ((n : Int) == 0) = false := beq_eq_false_iff_ne.2 (by omega)
  have hpos : ¬ (n : Int) < 0 := by omega
  have HR0 := Lib.hid (show DecR n n ⟨#[]⟩ by unfold DecR; rw [if_neg h0]; exact ByteArray.append_empty)
  go_enter Tryz.func146, Tryz.ntmps146
  go_wp2_with fail
  go_loopw [3, 4] (fun vs vr wr => ∃ (rest : Nat) (s : ByteArray), vr = .int .i64 rest ∧ vs = .string s ∧ DecR n rest s ∧ rest ≤ n ∧ Only (fun _ => False) w wr) (fun _ vr _ => (intOf vr).toNat)
  case atStart => exact ⟨n, ⟨#[]⟩, rfl, rfl, HR0.out, Nat.le_refl _, Only.refl _ _⟩
  case round =>
    obtain ⟨rest, s, rfl, rfl, hR, hle, hO⟩ := hrel
    have HR := Lib.hid hR
    have hsz := hR.size hn
    have HO := Lib.hid hO
    clear hR hO
    by_cases h1 : rest = 0
    · subst h1
      have HE := Lib.hid (show s = decB n from HR.out)
      clear HR HR0
      go_wp2
      go_ret
      exact ⟨by rw [HE.out]; rfl, HO.out⟩
    · have HS := Lib.hid (HR.out.step (by omega))
      have hcv := one_lit wr (48 + (rest : Int) % 10)
      have HO2 := Lib.hid (HO.out.alloc (.cells #[.int .u8 (48 + (rest : Int) % 10)] 5))
      rw [show strOfNums [48 + (rest : Int) % 10] = (⟨#[UInt8.ofNat (48 + rest % 10)]⟩ : ByteArray) from (by
        have := one_nums (48 + rest % 10)
        unfold oneB at this
        rw [← this]
        congr 2)] at hcv
      have hs1 : (⟨#[UInt8.ofNat (48 + rest % 10)]⟩ : ByteArray).size = 1 := rfl
      generalize (⟨#[UInt8.ofNat (48 + rest % 10)]⟩ : ByteArray) = c1 at *
      have q1 : ((rest : Int) == 0) = false := beq_eq_false_iff_ne.2 (by omega)
      clear HR HR0
      go_wp2
      go_roundw
      case rel => exact ⟨rest / 10, c1 ++ s, by congr 1, rfl, HS.out, by omega, HO2.out⟩
      case measure => simp [intOf]; omega
set_option maxHeartbeats 1000000 in
theorem rtext5_any (R S : Nat) (w : World) (hR : R < 9223372036854775808) (hS : S < 9223372036854775808) :
    Calls Tryz.prog 102 #[.agg #[.int .i64 R, .int .i64 S]] w fun e w' => e = .returned (.string (sigB R S)) ∧ Only (fun _ => False) w w' := by
  have hA := (Only.refl (fun _ => False) w).alloc (.cells #[.int .i64 R, .int .i64 S] 33)
  have HA := Lib.hid hA
  have hz := heap_alloc_last w (.cells #[.int .i64 R, .int .i64 S] 33)
  have e0 : (w.alloc (.cells #[.int .i64 R, .int .i64 S] 33)).cell? ⟨w.heap.size, 0, none⟩ = some (.int .i64 R) := cell_of_row _ _ 0 _ _ _ hz
  have e1 : (w.alloc (.cells #[.int .i64 R, .int .i64 S] 33)).cell? ⟨w.heap.size, 1, none⟩ = some (.int .i64 S) := cell_of_row _ _ 1 _ _ _ hz
  have H1 := Lib.hid (fun w => rdec5_any R w hR)
  have H2 := Lib.hid (fun w => rdec5_any S w hS)
  have HE := Lib.hid (show decB R ++ (⟨#[46]⟩ : ByteArray) ++ decB S = sigB R S from rfl)
  have k1 := decB_size hR
  have k2 := decB_size hS
  have s1 : (decB R ++ (⟨#[46]⟩ : ByteArray)).size ≤ 22 := by rw [ByteArray.size_append]; show _ + 1 ≤ _; omega
  generalize decB R = d1 at *
  generalize decB S = d2 at *
  generalize (R : Int) = r at *
  generalize (S : Int) = s at *
  clear hA hz
  go_enter Tryz.func102, Tryz.ntmps102
  go_wp2_with fail
  generalize w.heap.size = blk at *
  generalize w.alloc (.cells #[.int .i64 r, .int .i64 s] 33) = w1 at *
  have y0 := fun (d : Nat) (os : Array Obj) => cell_regrown e0 d os
  have y1 := fun (d : Nat) (os : Array Obj) => cell_regrown e1 d os
  clear e0 e1
  refine wp_region_quiet_below (by kernel_rfl) (by kernel_rfl) ?_
  repeat (go_big_quiet_step ((first | (go_at_call 146; with_reducible exact Calls.regrown_of ((H1.out _).mono fun _ _ h => ⟨h.1, h.2.below (Nat.le_refl _) (fun _ _ h => h)⟩)) | (go_at_call 146; with_reducible exact Calls.regrown_of ((H2.out _).mono fun _ _ h => ⟨h.1, h.2.below (Nat.le_refl _) (fun _ _ h => h)⟩)))))
  refine wpQuiet_nil ?_
  intro w2 hw'
  obtain ⟨pq, hw''⟩ := hw'
  have HO := Lib.hid (HA.out.trans (Only.ofBelow (below_regrown w1 pq.d pq.os) (fun _ => False)))
  rw [← hw''] at HO
  clear hw'' y0 y1
  go_wp2
  go_ret
  exact ⟨by rw [HE.out]; rfl, HO.out⟩
set_option maxHeartbeats 2000000 in
theorem rline29_any (who R S : Nat) (t : ByteArray) (w : World) (hw : who < 9223372036854775808) (hR : R < 9223372036854775808) (hS : S < 9223372036854775808) (ht : t.size ≤ 1000000) :
    Calls Tryz.prog 63 #[.agg #[.int .i64 who, .string t, .int .i64 R, .int .i64 S]] w fun e w' => e = .returned (.string (vlineB who t R S)) ∧ Only (fun _ => False) w w' := by
  have hA := (Only.refl (fun _ => False) w).alloc (.cells #[.int .i64 who, .string t, .int .i64 R, .int .i64 S] 35)
  have HA := Lib.hid hA
  have hz := heap_alloc_last w (.cells #[.int .i64 who, .string t, .int .i64 R, .int .i64 S] 35)
  have e0 : (w.alloc (.cells #[.int .i64 who, .string t, .int .i64 R, .int .i64 S] 35)).cell? ⟨w.heap.size, 0, none⟩ = some (.int .i64 who) := cell_of_row _ _ 0 _ _ _ hz
  have e1 : (w.alloc (.cells #[.int .i64 who, .string t, .int .i64 R, .int .i64 S] 35)).cell? ⟨w.heap.size, 1, none⟩ = some (.string t) := cell_of_row _ _ 1 _ _ _ hz
  have e2 : (w.alloc (.cells #[.int .i64 who, .string t, .int .i64 R, .int .i64 S] 35)).cell? ⟨w.heap.size, 2, none⟩ = some (.int .i64 R) := cell_of_row _ _ 2 _ _ _ hz
  have e3 : (w.alloc (.cells #[.int .i64 who, .string t, .int .i64 R, .int .i64 S] 35)).cell? ⟨w.heap.size, 3, none⟩ = some (.int .i64 S) := cell_of_row _ _ 3 _ _ _ hz
  have H1 := Lib.hid (fun w => rdec11_any who w hw)
  have H2 := Lib.hid (fun w => rtext5_any R S w hR hS)
  have HE := Lib.hid (show decB who ++ (⟨#[32]⟩ : ByteArray) ++ sigB R S ++ (⟨#[32]⟩ : ByteArray) ++ t ++ (⟨#[10]⟩ : ByteArray) = vlineB who t R S from rfl)
  have k1 := decB_size hw
  have k2 := sigB_size hR hS
  have s1 : (decB who ++ (⟨#[32]⟩ : ByteArray)).size ≤ 22 := by rw [ByteArray.size_append]; show _ + 1 ≤ _; omega
  have s2 : (decB who ++ (⟨#[32]⟩ : ByteArray) ++ sigB R S).size ≤ 65 := by rw [ByteArray.size_append]; omega
  have s3 : (decB who ++ (⟨#[32]⟩ : ByteArray) ++ sigB R S ++ (⟨#[32]⟩ : ByteArray)).size ≤ 66 := by rw [ByteArray.size_append]; show _ + 1 ≤ _; omega
  have s4 : (decB who ++ (⟨#[32]⟩ : ByteArray) ++ sigB R S ++ (⟨#[32]⟩ : ByteArray) ++ t).size ≤ 1000066 := by rw [ByteArray.size_append]; omega
  generalize decB who = d1 at *
  generalize sigB R S = d2 at *
  generalize (who : Int) = i at *
  generalize (R : Int) = r at *
  generalize (S : Int) = s at *
  clear hA hz
  go_enter Tryz.func63, Tryz.ntmps63
  go_wp2_with fail
  generalize w.heap.size = blk at *
  generalize w.alloc (.cells #[.int .i64 i, .string t, .int .i64 r, .int .i64 s] 35) = w1 at *
  have y0 := fun (d : Nat) (os : Array Obj) => cell_regrown e0 d os
  have y1 := fun (d : Nat) (os : Array Obj) => cell_regrown e1 d os
  have y2 := fun (d : Nat) (os : Array Obj) => cell_regrown e2 d os
  have y3 := fun (d : Nat) (os : Array Obj) => cell_regrown e3 d os
  clear e0 e1 e2 e3
  refine wp_region_quiet_below (by kernel_rfl) (by kernel_rfl) ?_
  repeat (go_big_quiet_step ((first | (go_at_call 28; with_reducible exact Calls.regrown_of ((H1.out _).mono fun _ _ h => ⟨h.1, h.2.below (Nat.le_refl _) (fun _ _ h => h)⟩)) | (go_at_call 102; with_reducible exact Calls.regrown_of ((H2.out _).mono fun _ _ h => ⟨h.1, h.2.below (Nat.le_refl _) (fun _ _ h => h)⟩)))))
  refine wpQuiet_nil ?_
  intro w2 hw'
  obtain ⟨pq, hw''⟩ := hw'
  have HO := Lib.hid (HA.out.trans (Only.ofBelow (below_regrown w1 pq.d pq.os) (fun _ => False)))
  rw [← hw''] at HO
  clear hw'' y0 y1 y2 y3
  go_wp2
  go_ret
  exact ⟨by rw [HE.out]; rfl, HO.out⟩
theorem rline_vb (ms : List Mm) (v : Vb) (hv : VbOk v) (w : World) :
    Calls Tryz.prog 63 #[.agg #[.int .i64 v.who, .string (blB v.b), .int .i64 (vbR ms v), .int .i64 (vbS ms v)]] w fun e w' => e = .returned (.string (vbLine ms v)) ∧ Only (fun _ => False) w w' := by
  have h1 := sgR_bd (secOf ms v.who) (blB v.b)
  have h2 := sgS_bd (secOf ms v.who) (blB v.b)
  have h3 := blv_len hv.1
  have h4 := hv.2
  have := rline29_any v.who (vbR ms v).toNat (vbS ms v).toNat (blB v.b) w (by omega) (by unfold vbR; omega) (by unfold vbS; omega) (by omega)
  rw [show ((vbR ms v).toNat : Int) = vbR ms v from Int.toNat_of_nonneg h1.1, show ((vbS ms v).toNat : Int) = vbS ms v from Int.toNat_of_nonneg h2.1] at this
  exact this
theorem msgB_nil (ms : List Mm) (h : Nat) : msgB ms h [] = atB h := by
  unfold msgB msgL
  rw [List.flatMap_nil, List.append_nil]
theorem msgB_take (ms : List Mm) (h : Nat) {l : List Vb} {k : Nat} (hk : k < l.length) : msgB ms h (l.take (k + 1)) = msgB ms h (l.take k) ++ vbLine ms (vbAt l k) := by
  unfold msgB msgL
  rw [take_flat hk]
  apply ByteArray.ext
  simp
theorem msgB_size {ms : List Mm} {h : Nat} {l : List Vb} (hh : h < 9223372036854775808) (hv : ∀ v ∈ l, VbOk v) : (msgB ms h l).size ≤ 25 + 107 * l.length := by
  have h1 := flat_len (ms := ms) hv
  have h2 := atB_size hh
  have e : (msgB ms h l).size = (msgL ms h l).length := by unfold msgB; simp [ByteArray.size]
  have e2 : (atB h).data.toList.length = (atB h).size := by simp
  rw [e]
  unfold msgL
  rw [List.length_append]
  omega
theorem Tryz.infoMs3 : (Tryz.prog.info? 75).map (·.size) = some 3 := by kernel_rfl
theorem mg_one (a b : Int) (t : ByteArray) : (#[Value.int .i64 a, .int .i64 b, .string t] : Array Value).all (·.oneCell') = true := by simp [Value.oneCell']
set_option maxRecDepth 100000 in
set_option maxHeartbeats 4000000 in

theorem rsend29_any (ms : List Mm) (fr dst hgt : Nat) (l : List Vb) (vs : Value) (w : World) (hh : hgt ≤ 1000000000) (hl : l.length ≤ 1000) (hv : ∀ v ∈ l, VbOk v) (hs : VrsAt w vs (l.map (vbVr ms))) :
    Calls Tryz.prog 26 #[.int .i64 fr, .int .i64 dst, .int .i64 hgt, vs] w fun e w' => e = .returned (.agg #[.int .i64 fr, .int .i64 dst, .string (msgB ms hgt l)]) ∧ Only (fun _ => False) w w' := by
  have hA := (Only.refl (fun _ => False) w).alloc (.cells #[.int .i64 0, .int .i64 0, .string (⟨#[]⟩ : ByteArray)] 75)
  have HA := Lib.hid hA
  have HZ := Lib.hid (heap_alloc_last w (.cells #[.int .i64 0, .int .i64 0, .string (⟨#[]⟩ : ByteArray)] 75))
  have HS := Lib.hid (VrsAt.only hA hs)
  have HV := Lib.hid hv
  have HD := Lib.hid (rdec11_any hgt (w.alloc (.cells #[.int .i64 0, .int .i64 0, .string (⟨#[]⟩ : ByteArray)] 75)) (by omega))
  have HE := Lib.hid (show (⟨#[97, 116, 32]⟩ : ByteArray) ++ decB hgt ++ (⟨#[10]⟩ : ByteArray) = atB hgt from rfl)
  have hds := decB_size (n := hgt) (by omega)
  have s1 : ((⟨#[97, 116, 32]⟩ : ByteArray) ++ decB hgt).size ≤ 24 := by rw [ByteArray.size_append]; show 3 + _ ≤ _; omega
  have hat := atB_size (h := hgt) (by omega)
  have hatl : (atB hgt).data.toList.length = (atB hgt).size := by simp
  obtain ⟨a1, c1, hsv⟩ := hs.slice
  rw [List.length_map] at hsv
  subst hsv
  clear hA hs hv
  generalize decB hgt = D at *
  go_enter Tryz.func26, Tryz.ntmps26
  go_upto_region 1 with fail
  generalize w.alloc (.cells #[.int .i64 0, .int .i64 0, .string (⟨#[]⟩ : ByteArray)] 75) = w1 at *
  go_wp2_with fail
  refine HD.out.mono ?_
  rintro e w2 ⟨rfl, hO2⟩
  have HO2 := Lib.hid (HA.out.trans hO2)
  have HZ2 := Lib.hid (row_still hO2 HZ.out)
  have HS2 := Lib.hid (VrsAt.only hO2 HS.out)
  clear hO2 HD HS HZ HA
  go_wp2_with fail
  rw [HE.out]
  go_loopw [9, 10] (fun s vi wr => ∃ k : Nat, k ≤ l.length ∧ vi = .int .i64 k ∧ s = .string (msgB ms hgt (l.take k)) ∧ Only (fun _ => False) w2 wr) (fun _ vi _ => l.length - (intOf vi).toNat)
  case atStart => exact ⟨0, Nat.zero_le _, rfl, by rw [List.take_zero, msgB_nil], Only.refl _ _⟩
  case round =>
    obtain ⟨k, hk, rfl, rfl, hO⟩ := hrel
    have HO := Lib.hid hO
    have hms := msgB_size (ms := ms) (h := hgt) (l := l.take k) (by omega) fun v hv => HV.out v (List.mem_of_mem_take hv)
    rw [List.length_take, Nat.min_eq_left hk] at hms
    by_cases hlt : k < l.length
    · obtain ⟨b, off, rfl, m1, m2, d0, d1, d2, d3⟩ := (VrsAt.only hO HS2.out).cellAt (j := k) (by rw [List.length_map]; exact hlt)
      rw [List.length_map] at m1
      have hva : vrAt (l.map (vbVr ms)) k = vbVr ms (vbAt l k) := by
        unfold vrAt vbAt
        rw [lgetD _ _ hlt, lgetD _ _ (by rw [List.length_map]; exact hlt), List.getElem_map]
      rw [hva] at d0 d1 d2 d3
      have HVK := Lib.hid (HV.out _ (vbAt_mem hlt))
      have HTK := Lib.hid (msgB_take ms hgt hlt)
      have hls := vbLine_size (ms := ms) HVK.out
      have HLN := Lib.hid (fun W => rline_vb ms (vbAt l k) HVK.out W)
      obtain ⟨o, ho⟩ : ∃ o, vbAt l k = o := ⟨_, rfl⟩
      rw [ho] at d0 d1 d2 d3 HVK HTK hls HLN
      change _ = some (Value.int .i64 o.who) at d0
      change _ = some (Value.string (blB o.b)) at d1
      change _ = some (Value.int .i64 (vbR ms o)) at d2
      change _ = some (Value.int .i64 (vbS ms o)) at d3
      clear hva ho hO
      generalize vbR ms o = oR at *
      generalize vbS ms o = oS at *
      generalize blB o.b = oT at *
      generalize msgB ms hgt (l.take k) = M at *
      generalize vbLine ms o = ln at *
      go_wp2_with fail
      refine (HLN.out _).mono ?_
      rintro e w3 ⟨rfl, hO3⟩
      have HO3 := Lib.hid (HO.out.trans hO3)
      clear hO3 HLN d0 d1 d2 d3
      go_wp2
      go_roundw
      case rel => exact ⟨k + 1, by omega, by go_num, by rw [HTK.out], HO3.out⟩
      case measure => simp [intOf]; omega
    · obtain rfl : k = l.length := by omega
      rw [List.take_length]
      have HR := Lib.hid (row_still hO HZ2.out)
      have HOA := Lib.hid (HO2.out.trans hO)
      clear hO HO
      obtain ⟨M, hMM⟩ : ∃ M, msgB ms hgt l = M := ⟨_, rfl⟩
      rw [hMM]
      have HMM := Lib.hid hMM
      clear hMM
      go_wp2_with (first | (refine wpList_store_row rfl 75 _ _ rfl w.heap.size #[.int .i64 fr, .int .i64 dst, .string M] rfl rfl 75 _ HR.out Tryz.infoMs3 rfl (mg_one _ _ _) ?_))
      exact bodyPost_ret (v := .agg #[.int .i64 fr, .int .i64 dst, .string M]) (results_cell_row (p := 8) rfl _ _ w.heap.size 75 #[.int .i64 fr, .int .i64 dst, .string M] (0, 0) _ rfl (setRow_heap _ _ _ _ _ _ HR.out) Tryz.underlying75 rfl Tryz.infoMs3) rfl ⟨by rw [HMM.out], HOA.out.setRow (Nat.le_refl _) _⟩
end Go.Proofs.YtldkjkjpaiajlaaGreatDoor

namespace Go.Proofs.YtldkjkjpaiajlaaGreatDoor
open Go.RowKit

theorem wrow_snoc (l : List Nat) (x : Nat) : wrow (l ++ [x]) = wrow l ++ [.string (oneB x)] := by
  unfold wrow
  rw [List.map_append]
  rfl
/-- A value more that is wanted. -/
theorem NdAt.pushW {w wA w1 : World} {F G : Nat → Prop} {p : Nat} {C : Nc} {r : Nr} {A : Na} (h : NdAt w F G p C r A) (x : Nat) (hA : Only (fun _ => False) w wA) (hg : wA.grownBy w1 A.wv.ownBlock) {g cap : Nat}
    (hown : w1.ownsRow 0 9 1 (.slice (some ⟨g, 0, none⟩) (r.wants.length + 1) cap) (r.wants.length + 1) (wrow r.wants ++ [.string (oneB x)])) (hat : A.wv.ownBlock = some g ∨ g = wA.heap.size) (hlt : g < w1.heap.size) :
    NdTo w F G p C { r with wants := r.wants ++ [x] } (w1.setCell ⟨p, 10, none⟩ (.slice (some ⟨g, 0, none⟩) (r.wants.length + 1) cap)) := by
  have hap := h.ap
  simp only [List.pairwise_cons, List.mem_cons, List.not_mem_nil, or_false, forall_eq_or_imp, forall_eq] at hap
  obtain ⟨⟨a1, a2, a3, a4, a5⟩, ⟨b1, b2, b3, b4⟩, ⟨c1, c2, c3⟩, ⟨d1, d2⟩, e1, -⟩ := hap
  have hN := h.still hA
  have hO1 : Only (fun k => A.wv.ownBlock = some k) wA w1 := (Only.refl _ wA).grown hg (fun k e _ => e)
  have hsz := hO1.size
  have hsA := hA.size
  have hOp : Only (fun k => k = p) w1 (w1.setCell ⟨p, 10, none⟩ (.slice (some ⟨g, 0, none⟩) (r.wants.length + 1) cap)) := (Only.refl (fun k => k = p) w1).setCell (.inl rfl) _
  have hO2 : Only (fun k => A.wv.ownBlock = some k ∨ k = p) wA (w1.setCell ⟨p, 10, none⟩ (.slice (some ⟨g, 0, none⟩) (r.wants.length + 1) cap)) := (hO1.mono fun _ _ h => .inl h).trans' hOp (fun _ _ h => .inr h)
  have hgG : G g ∨ w.heap.size ≤ g := by
    rcases hat with e | e
    · exact .inl (h.gw g e)
    · exact .inr (by omega)
  have hne : ∀ x : Option Nat, (∀ k, x = some k → F k) → ApO x A.wv.ownBlock → ApO x (some g) := fun x hx hxa k hk e => by
    cases e
    rcases hat with e | e
    · exact hxa g hk e
    · have := hN.lt g (hx g hk)
      omega
  have hnp : ApO (some p) (some g) := hne _ (fun k e => by cases e; exact h.sub p h.gp) a3
  have hgp : g ≠ p := fun e => hnp p rfl (congrArg some e)
  have hb1 : w1.heap[p]? = wA.heap[p]? := hO1.block p (hN.plt) (fun e => a3 p rfl e)
  refine ⟨fun k => F k ∨ k = g, fun k => G k ∨ k = g, { A with wv := .slice (some ⟨g, 0, none⟩) (r.wants.length + 1) cap }, {
    blk := by rw [heap_setCell_same w1 p 10 _ _ _ (hb1.trans hN.blk)]; rfl
    wants := by
      show World.ownsRow _ _ _ _ _ (r.wants ++ [x]).length (wrow (r.wants ++ [x]))
      rw [List.length_append, wrow_snoc]
      exact hOp.owns hown fun k e e' => hgp (by cases e; exact e')
    votes := hO2.owns hN.votes fun k e e' => by
      rcases e' with e' | e'
      · exact d1 k e' e
      · exact a4 p rfl (e' ▸ e)
    seen := hN.seen.frame hO2 fun e => by
      rcases e with e | e
      · exact b2 _ rfl e
      · exact a1 p rfl (congrArg some e)
    sgd := hN.sgd.frame hO2 fun e => by
      rcases e with e | e
      · exact c1 _ rfl e
      · exact a2 p rfl (congrArg some e)
    dec := hO2.owns hN.dec fun k e e' => by
      rcases e' with e' | e'
      · exact d2 k e' e
      · exact a5 p rfl (e' ▸ e)
    keep := fun T w'' hT hS => hN.keep (fun k => (A.wv.ownBlock = some k ∨ k = p) ∨ T k) w'' ((hO2.mono fun _ _ h => .inl h).trans' hT (fun _ _ h => .inr h)) (fun k hF hST => by
      rcases hST with (e | e) | hTk
      · exact h.gw k e
      · exact e ▸ h.gp
      · rcases hS k (.inl hF) hTk with q | q
        · exact q
        · subst q
          rcases hat with e | e
          · exact h.gw _ e
          · have := hN.lt _ hF
            omega)
    sub := fun k hk => hk.imp (h.sub k) id
    lt := fun k hk => by
      have e : (w1.setCell ⟨p, 10, none⟩ (.slice (some ⟨g, 0, none⟩) (r.wants.length + 1) cap)).heap.size = w1.heap.size := by simp [World.setCell]
      rw [e]
      rcases hk with hk | rfl
      · have := hN.lt k hk
        omega
      · exact hlt
    gp := .inl h.gp
    gn := .inl h.gn
    gs := .inl h.gs
    gw := fun k e => .inr (by cases e; rfl)
    gv := fun k e => .inl (h.gv k e)
    gd := fun k e => .inl (h.gd k e)
    ap := by
      simp only [List.pairwise_cons, List.mem_cons, List.not_mem_nil, or_false, forall_eq_or_imp, forall_eq]
      exact ⟨⟨a1, a2, hnp, a4, a5⟩, ⟨b1, hne _ (fun k e => by cases e; exact h.sub _ h.gn) b2, b3, b4⟩, ⟨hne _ (fun k e => by cases e; exact h.sub _ h.gs) c1, c2, c3⟩, ⟨(hne _ (fun k e => h.sub k (h.gv k e)) d1.symm).symm, (hne _ (fun k e => h.sub k (h.gd k e)) d2.symm).symm⟩, e1, fun _ h => h.elim, List.Pairwise.nil⟩ }, ?_, fun k hk => .inl hk, ?_, ?_⟩
  · rintro k (hk | rfl)
    · exact .inl hk
    · exact hgG.imp (h.sub _) id
  · rintro k (hk | rfl)
    · exact .inl hk
    · exact hgG
  · exact (hA.mono fun _ _ h => h.elim).trans' hO2 (fun k _ e => by
      rcases e with e | e
      · exact h.gw k e
      · exact e ▸ h.gp)
theorem wants_has {r : Nr} (hw : ∀ x ∈ r.wants, x < 256) {x : Nat} (hx : x < 256) : ((List.range r.wants.length).any fun j => decide (oneB x = oneB (r.wants.getD j 0))) = r.wants.contains x := by
  rw [any_range r.wants 0 (fun y => decide (oneB x = oneB y)), Bool.eq_iff_iff, List.any_eq_true, List.contains_iff_mem]
  constructor
  · rintro ⟨y, hy, e⟩
    rw [one_inj hx (hw y hy) (of_decide_eq_true e)]
    exact hy
  · intro h
    exact ⟨x, h, decide_eq_true rfl⟩
theorem Tryz.infoSz : (Tryz.prog.info? 9).map (fun i => (i.zero, i.size, i.bytes)) = some (some (.string (⟨#[]⟩ : ByteArray)), 1, 16) := by kernel_rfl
theorem one_str (t : ByteArray) : ∀ x ∈ [Value.string t], x.oneCell' = true := by
  intro x hx
  rw [List.mem_singleton.1 hx]
  rfl
set_option maxRecDepth 100000 in
set_option maxHeartbeats 2000000 in
theorem propose_new (x : Nat) (w : World) {F G : Nat → Prop} {p : Nat} {C : Nc} {r : Nr} {A : Na} (h : NdAt w F G p C r A) (hC : CxOk C) (hx : x < 256) (hw : ∀ x ∈ r.wants, x < 256) (hl : r.wants.length < 100) (hh : r.wants.contains x = false) :
    Calls Tryz.prog 24 #[.pointer (some ⟨p, 0, none⟩), .string (oneB x)] w fun e w' => e = .returned (.int .i64 0) ∧ NdTo w F G p C { r with wants := r.wants ++ [x] } w' := by
  obtain ⟨i0, hi, hz0, hz1, hz2⟩ := info_parts Tryz.infoSz
  have HN := Lib.hid h
  have HNO := Lib.hid (none_node w h hC)
  have HH := Lib.hid ((wants_has hw hx).trans hh)
  have HV := Lib.hid (fun W => isValue_one x W)
  have HPU := Lib.hid (fun (w3 wA w1 : World) (h3 : NdAt w3 F G p C r A) (hA : Only (fun _ => False) w3 wA) (g cap : Nat) (hg : wA.grownBy w1 A.wv.ownBlock) hown hat hlt => h3.pushW x hA hg (g := g) (cap := cap) hown hat hlt)
  clear h hh
  generalize oneB x = X at *
  go_enter Tryz.func24, Tryz.ntmps24
  go_wp2_with fail
  refine HNO.out.mono ?_
  rintro e w1 ⟨rfl, hO1⟩
  have HN1 := Lib.hid (HN.out.still hO1)
  have HO1 := Lib.hid hO1
  clear hO1 HNO HN
  go_wp2_with fail
  refine (HV.out w1).mono ?_
  rintro e w2 ⟨rfl, rfl⟩
  obtain ⟨a1, c1, hwv⟩ := HN1.out.wslice
  have y10 : w1.cell? ⟨p, 10, none⟩ = some (Value.slice a1 r.wants.length c1) := (HN1.out.cells 10).trans (congrArg some hwv)
  have hpl1 := HN1.out.plt
  have HS := Lib.hid (strs_has a1 r.wants.length c1 X (fun j => oneB (r.wants.getD j 0)) w1 (by omega) (fun j hj => by
    obtain ⟨b, e1, e2, e3, -, e5⟩ := HN1.out.wcell hwv hj
    exact ⟨b, 0, e1, e2, e3, by rw [Nat.zero_add]; exact e5⟩))
  rw [HH.out] at HS
  have HWV := Lib.hid hwv
  clear hwv
  go_wp2_with fail
  refine HS.out.mono ?_
  rintro e w3 ⟨rfl, hO3⟩
  have HN3 := Lib.hid (HN1.out.still hO3)
  have HO3 := Lib.hid (HO1.out.trans hO3)
  clear hO3 HS HO1 y10 HN1 hpl1
  have y10 : w3.cell? ⟨p, 10, none⟩ = some (Value.slice a1 r.wants.length c1) := (HN3.out.cells 10).trans (congrArg some HWV.out)
  have hpl3 := HN3.out.plt
  have i1 : ¬ (100 : Int) ≤ r.wants.length := by omega
  have hown := HN3.out.wants
  rw [HWV.out] at hown
  have HOW := Lib.hid hown
  have hap := HN3.out.ap
  simp only [List.pairwise_cons, List.mem_cons, List.not_mem_nil, or_false, forall_eq_or_imp, forall_eq] at hap
  have hvb : ¬ A.wv.ownBlock = some p := hap.1.2.2.1 p rfl
  rw [HWV.out] at hvb
  have z10 := frozen_of_row w3 p 10 _ _ HN3.out.blk
  clear hap hown
  go_upto_region 7 with fail
  have hA := (Only.refl (fun _ => False) w3).alloc (.cells #[.string X] 9)
  have yA := hA.cell y10 (fun h => h)
  have fA := frozen_of_row (w3.alloc (.cells #[.string X] 9)) p 10 _ _ (HN3.out.still hA).blk
  have plA := (HN3.out.still hA).plt
  have HA := Lib.hid hA
  rw [HWV.out] at HPU
  clear z10 hA
  go_wp2_with (at_builtin; refine wpList_append_lies _ rfl _ _ 39 rfl 0 9 i0 _ 1 16 Tryz.underlying39 hi hz0 hz1 hz2 rfl (by decide) _ r.wants.length (wrow r.wants) rfl (HOW.out.alloc _) ⟨w3.heap.size, 0, none⟩ 1 1 [.string X] rfl rfl (World.news_of_block (cs := #[.string X]) (t := 9) (fr := (0, 0)) (heap_alloc_new w3 _)) (one_str _) (by decide) (by unfold maxLen; omega) (by omega) (Nat.zero_le _) _ rfl ?_; intro g cap w4 hown4 hgrow hat hlt4; have yB := hgrow.cell yA (Ne.symm hvb); have fB := (hgrow.frozen_far ⟨p, 10, none⟩ plA (Ne.symm hvb)).trans fA)
  go_ret
  exact ⟨rfl, NdTo.pre HO3.out (HPU.out w3 _ w4 HN3.out HA.out g cap hgrow hown4 hat hlt4)⟩
end Go.Proofs.YtldkjkjpaiajlaaGreatDoor

namespace Go.Proofs.YtldkjkjpaiajlaaGreatDoor
open Go.RowKit

theorem leaderX_any (sv : Value) (C : Nc) (H V : Nat) (w : World) (hC : CxOk C) (hH : H ≤ 1000000000) (hV : V ≤ 1000000000) (hM : MbsAt w sv (mbsOf C.ms)) :
    Calls Tryz.prog 20 #[sv, .int .i64 H, .int .i64 V] w fun e w' => e = .returned (.int .i64 (leadM C.ms H V)) ∧ Only (fun _ => False) w w' := by
  have HL := Lib.hid (leader_any sv C H V w hC hH hV hM)
  clear hC hM
  go_enter Tryz.func20, Tryz.ntmps20
  go_wp2_with fail
  refine HL.out.mono ?_
  rintro e w1 ⟨rfl, hO⟩
  have HO := Lib.hid hO
  clear hO HL
  go_wp2
  go_ret
  exact ⟨rfl, HO.out⟩
/-- The node of the examples. -/
def fourC : Nc := ⟨fourM, keyS (fourS 1), 5⟩
theorem four_is : fourM = [⟨1, 1, keyS (fourS 1)⟩, ⟨2, 1, keyS (fourS 2)⟩, ⟨3, 1, keyS (fourS 3)⟩, ⟨4, 1, keyS (fourS 4)⟩] := rfl
theorem fourC_ok : CxOk fourC := ⟨by kernel_rfl, fun m hm => by
  rw [show fourC.ms = fourM from rfl, four_is] at hm
  simp only [List.mem_cons, List.not_mem_nil, or_false] at hm
  rcases hm with rfl | rfl | rfl | rfl <;> exact Nat.le_of_ble_eq_true rfl⟩
/-- A vote of the examples. -/
def xV (kd i : Nat) : Vb := ⟨i, ⟨kd, 0, 0, 120⟩⟩
theorem xV_ok {kd i : Nat} (hk : kd < 3) (hi : i ≤ 5) : VbOk (xV kd i) := ⟨⟨hk, Nat.zero_le _, Nat.zero_le _, (show 120 < 256 by decide)⟩, Nat.le_trans hi (by decide)⟩
theorem sec_abcd (a b c d : Int) : secOf [⟨1, 1, a⟩, ⟨2, 1, b⟩, ⟨3, 1, c⟩, ⟨4, 1, d⟩] 1 = a ∧ secOf [⟨1, 1, a⟩, ⟨2, 1, b⟩, ⟨3, 1, c⟩, ⟨4, 1, d⟩] 2 = b ∧ secOf [⟨1, 1, a⟩, ⟨2, 1, b⟩, ⟨3, 1, c⟩, ⟨4, 1, d⟩] 3 = c ∧ secOf [⟨1, 1, a⟩, ⟨2, 1, b⟩, ⟨3, 1, c⟩, ⟨4, 1, d⟩] 4 = d := ⟨rfl, rfl, rfl, rfl⟩
theorem secs_abcd (a b c d : Int) : (secsOf [⟨1, 1, a⟩, ⟨2, 1, b⟩, ⟨3, 1, c⟩, ⟨4, 1, d⟩]).getD 0 0 = a ∧ (secsOf [⟨1, 1, a⟩, ⟨2, 1, b⟩, ⟨3, 1, c⟩, ⟨4, 1, d⟩]).getD 1 0 = b ∧ (secsOf [⟨1, 1, a⟩, ⟨2, 1, b⟩, ⟨3, 1, c⟩, ⟨4, 1, d⟩]).getD 2 0 = c ∧ (secsOf [⟨1, 1, a⟩, ⟨2, 1, b⟩, ⟨3, 1, c⟩, ⟨4, 1, d⟩]).getD 3 0 = d := ⟨rfl, rfl, rfl, rfl⟩
theorem four_sec (i : Nat) (h : 1 ≤ i ∧ i ≤ 4) : secOf fourM i = keyS (fourS i) := by
  rw [four_is]
  have := sec_abcd (keyS (fourS 1)) (keyS (fourS 2)) (keyS (fourS 3)) (keyS (fourS 4))
  obtain rfl | rfl | rfl | rfl : i = 1 ∨ i = 2 ∨ i = 3 ∨ i = 4 := by omega
  · exact this.1
  · exact this.2.1
  · exact this.2.2.1
  · exact this.2.2.2
theorem secs_four (i : Nat) (h : i < 4) : (secsOf fourM).getD i 0 = keyS (fourS (i + 1)) := by
  rw [four_is]
  have := secs_abcd (keyS (fourS 1)) (keyS (fourS 2)) (keyS (fourS 3)) (keyS (fourS 4))
  obtain rfl | rfl | rfl | rfl : i = 0 ∨ i = 1 ∨ i = 2 ∨ i = 3 := by omega
  · exact this.1
  · exact this.2.1
  · exact this.2.2.1
  · exact this.2.2.2
def comTo : Nat → List Vb
  | 0 => []
  | k + 1 => comTo k ++ [xV 2 (k + 1)]
theorem comTo_len : ∀ k, (comTo k).length = k
  | 0 => rfl
  | k + 1 => by rw [comTo, List.length_append, comTo_len k]; rfl
theorem ok_four {i : Nat} (hi : 1 ≤ i ∧ i ≤ 4) : okV (mbsOf fourM) 0 (oneB 120) (vbVr fourM (xV 2 i)) = true := by
  rw [okV_eq, cn_vb (show ∃ m ∈ fourM, m.id = (xV 2 i).who from ?_)]
  · rfl
  · rw [four_is]
    obtain rfl | rfl | rfl | rfl : i = 1 ∨ i = 2 ∨ i = 3 ∨ i = 4 := by omega
    · exact ⟨_, .head _, rfl⟩
    · exact ⟨_, .tail _ (.head _), rfl⟩
    · exact ⟨_, .tail _ (.tail _ (.head _)), rfl⟩
    · exact ⟨_, .tail _ (.tail _ (.tail _ (.head _))), rfl⟩
theorem check_three : ckB (mbsOf fourM) 0 (oneB 120) ((comTo 3).map (vbVr fourM)) = true := by
  unfold ckB
  have h1 : rightB (mbsOf fourM) = true := by kernel_rfl
  have h2 : ckTo (mbsOf fourM) 0 (oneB 120) ((comTo 3).map (vbVr fourM)) ((comTo 3).map (vbVr fourM)).length = true := by
    show ckTo _ _ _ _ 3 = true
    simp only [ckTo]
    rw [show vrAt ((comTo 3).map (vbVr fourM)) 0 = vbVr fourM (xV 2 1) from rfl, show vrAt ((comTo 3).map (vbVr fourM)) 1 = vbVr fourM (xV 2 2) from rfl, show vrAt ((comTo 3).map (vbVr fourM)) 2 = vbVr fourM (xV 2 3) from rfl, ok_four (by decide), ok_four (by decide), ok_four (by decide)]
    rfl
  have h3 : decide (2 * totZ (mbsOf fourM) < 3 * sumV (mbsOf fourM) ((comTo 3).map (vbVr fourM)) (mbsOf fourM).length) = true := by kernel_rfl
  rw [h1, h2, h3]
  rfl
theorem check_two : ckB (mbsOf fourM) 0 (oneB 120) ((comTo 2).map (vbVr fourM)) = false := by
  unfold ckB
  have h : decide (2 * totZ (mbsOf fourM) < 3 * sumV (mbsOf fourM) ((comTo 2).map (vbVr fourM)) (mbsOf fourM).length) = false := by kernel_rfl
  rw [h, Bool.and_false, Bool.and_false]
theorem textX (kd : Nat) (hk : kd < 3) (W : World) : Calls Tryz.prog 9 #[.string (kindB kd), .int .i64 0, .int .i64 0, .string (⟨#[120]⟩ : ByteArray)] W fun e w' => e = .returned (.string (blB ⟨kd, 0, 0, 120⟩)) ∧ Only (fun _ => False) W w' :=
  rtext29_any ⟨kd, 0, 0, 120⟩ ⟨hk, Nat.zero_le _, Nat.zero_le _, (show 120 < 256 by decide)⟩ W
theorem comTo_row (k : Nat) : vbrow fourM (comTo (k + 1)) = vbrow fourM (comTo k) ++ vbC fourM (xV 2 (k + 1)) := by
  unfold vbrow
  rw [comTo, List.flatMap_append]
  simp
theorem own_some {w : World} {base e size n c : Nat} {a : Option Addr} {xs : List Value} (h : w.ownsRow base e size (.slice a n c) n xs) (hn : 0 < n) : ∃ g, a = some ⟨g, 0, none⟩ ∧ n ≤ c ∧ c ≤ 9223372036854775807 ∧ g < w.heap.size := by
  rcases h.2 with ⟨_, e0⟩ | ⟨g, cap, cur, e, _, hg, q1, q2, _⟩
  · omega
  · simp only [Value.slice.injEq, true_and] at e
    obtain ⟨rfl, rfl⟩ := e
    exact ⟨g, rfl, q1, q2, (Array.getElem?_eq_some_iff.1 hg).1⟩
theorem vrs_take {W : World} {a : Option Addr} {n c m : Nat} {l : List Vr} (h : VrsAt W (.slice a n c) l) (hm : m ≤ l.length) (h0 : 0 < m) : VrsAt W (.slice a m c) (l.take m) := by
  rcases h with ⟨_, _, _, rfl⟩ | ⟨b, off, cap, e, hb, h1, h2, hc⟩
  · simp at hm
    omega
  · simp only [Value.slice.injEq] at e
    obtain ⟨rfl, rfl, rfl⟩ := e
    refine .inr ⟨b, off, c, by rw [List.length_take, Nat.min_eq_left hm], hb, by rw [List.length_take]; omega, h2, fun j hj => ?_⟩
    rw [List.length_take] at hj
    have e : vrAt (l.take m) j = vrAt l j := by
      unfold vrAt
      rw [lgetD _ _ (by rw [List.length_take]; omega), lgetD _ _ (by omega), List.getElem_take]
    rw [e]
    exact hc j (by omega)
theorem vbs_ok {ms : List Mm} {l : List Vb} (h : ∀ v ∈ l, VbOk v) : ∀ v ∈ l.map (vbVr ms), VrOk v := by
  intro v hv
  obtain ⟨o, ho, rfl⟩ := List.mem_map.1 hv
  have h1 := h o ho
  have h2 := h1.2
  have h3 := sgR_bd (secOf ms o.who) (blB o.b)
  have h4 := sgS_bd (secOf ms o.who) (blB o.b)
  refine ⟨h1.1, ?_⟩
  show -9223372036854775808 ≤ (o.who : Int) ∧ (o.who : Int) ≤ 9223372036854775807
  omega
theorem com_ok (k : Nat) (hk : k ≤ 3) : ∀ v ∈ comTo k, VbOk v := by
  induction k with
  | zero => intro v hv; cases hv
  | succ k ih =>
    intro v hv
    rcases List.mem_append.1 hv with h | h
    · exact ih (by omega) v h
    · rw [List.mem_singleton.1 h]
      exact xV_ok (by decide) (by omega)
/-- The node of the examples when it has proposed and prepared. -/
def xR0 : Nr := ⟨1, 0, 0, 0, none, [120], [], [], [], []⟩
def xR1 : Nr := ⟨1, 0, 0, 0, none, [120], [xV 0 1], [xV 0 1], [0], []⟩
def xR2 : Nr := ⟨1, 0, 0, 0, none, [120], [xV 0 1, xV 1 1], [xV 1 1, xV 0 1], [1, 0], []⟩
theorem xt0 : tkR0 5 xR0 1 = xR0 := by kernel_rfl
theorem xt1 : tkR1 fourM 5 xR0 1 = xR1 := by kernel_rfl
theorem xt2 : tkR2 fourM 5 xR0 1 = xR2 := by kernel_rfl
theorem xt3 : tkR3 fourM 5 xR0 1 = xR2 := by kernel_rfl
theorem xt4 : tickR fourM 5 xR0 1 = xR2 := by kernel_rfl
theorem xdec : xR2.votes.find? (qDec fourM xR2) = none := by kernel_rfl
theorem xout : outM fourM 1 = [2, 3, 4] := by kernel_rfl
theorem x_tick (p : Nat) : TickOk fourC p xR0 1 := by
  constructor
  · show StepOk (tkR0 5 xR0 1) (tkR1 fourM 5 xR0 1)
    rw [xt0, xt1]
    intro v hv o ho
    cases ho
  · show StepOk (tkR1 fourM 5 xR0 1) (tkR2 fourM 5 xR0 1)
    rw [xt1, xt2]
    intro v hv o ho h1 h2
    have e : [xV 0 1, xV 1 1] = [xV 0 1] ++ [v] := hv
    simp only [List.cons_append, List.nil_append, List.cons.injEq, and_true, true_and] at e
    have ho' : o ∈ [xV 0 1] := ho
    rw [List.mem_singleton.1 ho', ← e] at h2
    have := kindB_inj 0 (by decide) 1 (by decide) (by rw [show kindB 0 = kindB 1 from h2])
    omega
  · show StepOk (tkR2 fourM 5 xR0 1) (tkR3 fourM 5 xR0 1)
    rw [xt2, xt3]
    intro v hv
    have := congrArg List.length hv
    simp at this
  · show ConOk fourC p 1 (tkR3 fourM 5 xR0 1)
    rw [xt3]
    intro t ht
    rw [show fourC.ms = fourM from rfl, xdec] at ht
    cases ht
theorem xR0_ok : NrB xR0 10 := ⟨fun _ h => (by cases h), fun _ h => (by cases h), fun _ h => (by cases h), fun x h => by rw [List.mem_singleton.1 h]; decide, fun _ _ h => (by cases h), by decide, by decide, by decide, by decide, by decide, by decide, by decide, by decide, by decide⟩
theorem x_own : OwnOk fourC 1 := ⟨⟨_, by rw [show fourC.ms = fourM from rfl, four_is]; exact .head _, rfl⟩, four_sec 1 (by decide)⟩
theorem Tryz.infoI1z : (Tryz.prog.info? 3).map (fun i => (i.zero, i.size, i.bytes)) = some (some (.int .i64 0), 1, 8) := by kernel_rfl
set_option maxRecDepth 100000 in
set_option maxHeartbeats 8000000 in
theorem sane29_any (w : World) (hG : GlobA w) : Calls Tryz.prog 6 #[] w fun e w' => e = .returned (.bool true) ∧ Only (fun _ => False) w w' := by
  obtain ⟨i0, hi, hz0, hz1, hz2⟩ := info_parts Tryz.infoVoz
  have HI := Lib.hid hi
  have HI0 := Lib.hid hz0
  have HI1 := Lib.hid hz1
  have HI2 := Lib.hid hz2
  clear hi hz0 hz1 hz2
  have HG := Lib.hid hG
  clear hG
  go_enter Tryz.func6, Tryz.ntmps6
  go_wp2_with fail
  refine (four_any w).mono ?_
  rintro e w1 ⟨vm, vs, rfl, hm, hs, hO1⟩
  rw [show fourM.length = 4 from rfl] at hm hs
  have HM := Lib.hid hm
  have HS := Lib.hid hs
  have HO1 := Lib.hid hO1
  have hs1 := hO1.size
  obtain ⟨am, cm, rfl⟩ := slice_of_own hm
  obtain ⟨asc, csc, rfl⟩ := slice_of_own hs
  clear hm hs hO1
  go_wp2_with fail
  go_loopw [3, 4] (fun v vi wr => ∃ k : Nat, k ≤ 3 ∧ vi = .int .i64 k ∧ wr.ownsRow w1.heap.size 35 4 v k (vbrow fourM (comTo k)) ∧ Only (fun _ => False) w1 wr) (fun _ vi _ => 3 - (intOf vi).toNat)
  case atStart => exact ⟨0, Nat.zero_le _, rfl, World.ownsRow_nil _ _ _ _, Only.refl _ _⟩
  case round =>
    obtain ⟨k, hk, rfl, hown, hO⟩ := hrel
    have HO := Lib.hid hO
    have hsz := hO.size
    by_cases hlt : k < 3
    · have hsc := hO.owns HS.out (fun _ _ h => h)
      obtain ⟨sb, rfl, hc1, hc2, hsv⟩ := ownI_cells hsc rfl (show k < 4 by omega)
      rw [secs_four k (by omega)] at hsv
      have HSV := Lib.hid hsv
      have HVC := Lib.hid (show vbC fourM (xV 2 (k + 1)) = [.int .i64 (1 + (k : Int)), .string (blB ⟨2, 0, 0, 120⟩), .int .i64 (sgR (keyS (fourS (k + 1))) (blB ⟨2, 0, 0, 120⟩)), .int .i64 (sgS (keyS (fourS (k + 1))) (blB ⟨2, 0, 0, 120⟩))] by
        unfold vbC vbR vbS
        rw [show secOf fourM (xV 2 (k + 1)).who = keyS (fourS (k + 1)) from four_sec (k + 1) (by omega)]
        show [Value.int .i64 ((k + 1 : Nat) : Int), _, _, _] = _
        rw [show ((k + 1 : Nat) : Int) = 1 + (k : Int) by omega]
        rfl)
      have HRW := Lib.hid (comTo_row k)
      rw [HVC.out] at HRW
      have hb40 := blv_len (b := ⟨2, 0, 0, 120⟩) ⟨by decide, by decide, by decide, by decide⟩
      have HTX := Lib.hid (fun W => textX 2 (by decide) W)
      change Hid (∀ W, Calls _ _ #[.string (⟨#[99, 111, 109, 109, 105, 116]⟩ : ByteArray), _, _, _] _ _) at HTX
      have HVO := Lib.hid (fun W => rvote_any (1 + (k : Int)) (keyS (fourS (k + 1))) (blB ⟨2, 0, 0, 120⟩) W (by omega))
      have hk4 : (k : Int) < 4 := by omega
      have hwr : IntKind.i64.wrap (1 + (k : Int)) = 1 + (k : Int) := IntWalk.i64_in _ (by omega)
      generalize sgR (keyS (fourS (k + 1))) (blB ⟨2, 0, 0, 120⟩) = vR at *
      generalize sgS (keyS (fourS (k + 1))) (blB ⟨2, 0, 0, 120⟩) = vS at *
      generalize keyS (fourS (k + 1)) = sc at *
      generalize blB ⟨2, 0, 0, 120⟩ = bT at *
      have HOW := Lib.hid hown
      obtain ⟨av, cv, rfl⟩ := slice_of_own hown
      clear hO hown hsc hsv HVC HS
      go_upto_region 6 with fail
      refine region_new1 (fr := ?frA) 10 9 (.cells #[.int .i64 (1 + (k : Int)), .string bT, .int .i64 vR, .int .i64 vS] 35) (fun g => .slice (some ⟨g, 0, none⟩) 1 1) (fun i => match i with | 0 => .slice av k cv | 1 => .int .i64 k | 2 => .int .i64 (1 + (k : Int)) | 3 => .slice (some ⟨sb, 0, none⟩) 4 csc | 4 => .int .i64 k | 5 => .pointer (some ⟨sb, k, none⟩) | 6 => .int .i64 sc | 7 => .string bT | 8 => .agg #[.int .i64 (1 + (k : Int)), .string bT, .int .i64 vR, .int .i64 vS] | _ => undef) (by kernel_rfl) (by kernel_rfl) (by kernel_rfl) (by kernel_rfl) (by kernel_rfl) (by decide) (by decide) ?frB ?alB ?stepB ?finB
      case frB =>
        simp only [List.take_succ_cons, List.take_zero, frameAll, Act.put, List.getElem?_toArray, List.getElem?_cons_zero, List.getElem?_cons_succ, Option.bind_some, List.setIfInBounds_toArray, List.set_cons_zero, List.set_cons_succ]
        rfl
      case alB => exact ⟨_, rfl, fun W => by go_simp⟩
      case stepB =>
        intro i o W hi hia ho hO
        have e0 := hO.cell HSV.out (fun h => h)
        have hsW : sb < W.heap.size := World.block_lt_of_cell? W _ e0
        obtain rfl | rfl | rfl | rfl | rfl | rfl | rfl | rfl | rfl : i = 0 ∨ i = 1 ∨ i = 2 ∨ i = 3 ∨ i = 4 ∨ i = 5 ∨ i = 6 ∨ i = 7 ∨ i = 8 := by omega
        all_goals (simp only [List.getElem?_cons_zero, List.getElem?_cons_succ, Option.some.injEq] at ho; subst ho)
        · refine opV_of_value (w' := W) (v := _) ?_ ⟨rfl, Only.refl _ _⟩
          go_simp
        · refine opV_of_value (w' := W) (v := _) ?_ ⟨rfl, Only.refl _ _⟩
          go_simp
        · refine opV_of_value (w' := W) (v := _) ?_ ⟨rfl, Only.refl _ _⟩
          go_simp
        · refine opV_of_value (w' := W) (v := _) ?_ ⟨rfl, Only.refl _ _⟩
          go_simp
        · refine opV_of_value (w' := W) (v := _) ?_ ⟨rfl, Only.refl _ _⟩
          go_simp
        · refine opV_of_value (w' := W) (v := _) ?_ ⟨rfl, Only.refl _ _⟩
          go_simp
        · refine opV_of_value (w' := W) (v := _) ?_ ⟨rfl, Only.refl _ _⟩
          go_simp
        · refine opV_of_enter (w' := W) (f := 9) (args := #[.string (⟨#[99, 111, 109, 109, 105, 116]⟩ : ByteArray), .int .i64 0, .int .i64 0, .string (⟨#[120]⟩ : ByteArray)]) (by kernel_rfl) ((HTX.out W).mono ?_)
          rintro e W' ⟨rfl, hO'⟩
          exact ⟨_, rfl, rfl, hO'⟩
        · refine opV_of_enter (w' := W) (f := 8) (args := #[.int .i64 (1 + (k : Int)), .int .i64 sc, .string bT]) (by kernel_rfl) ((HVO.out W).mono ?_)
          rintro e W' ⟨rfl, hO'⟩
          exact ⟨_, rfl, rfl, hO'⟩
      case finB =>
        intro g w4 hgg hrowg hOg
        simp only [updF, Nat.reduceEqDiff, reduceIte, List.take_succ_cons, List.take_zero, frameAll, Act.put, List.getElem?_toArray, List.getElem?_cons_zero, List.getElem?_cons_succ, Option.bind_some, List.setIfInBounds_toArray, List.set_cons_zero, List.set_cons_succ, List.drop_succ_cons, List.drop_zero]
        have HO4 := Lib.hid (HO.out.trans hOg)
        have HOW4 := Lib.hid (hOg.owns HOW.out (fun _ _ h => h))
        have hs4 := hOg.size
        have hgl := (Array.getElem?_eq_some_iff.1 hrowg).1
        have HRG := Lib.hid hrowg
        clear hOg hrowg
        go_wp2_with (at_builtin; refine wpList_append_lies _ rfl _ _ 29 rfl w1.heap.size 35 i0 _ 4 40 Tryz.underlying29 HI.out HI0.out HI1.out HI2.out rfl (by decide) _ k (vbrow fourM (comTo k)) rfl HOW4.out ⟨g, 0, none⟩ 1 1 [.int .i64 (1 + (k : Int)), .string bT, .int .i64 vR, .int .i64 vS] rfl rfl (World.news_of_block (cs := #[.int .i64 (1 + (k : Int)), .string bT, .int .i64 vR, .int .i64 vS]) (t := 35) (fr := (0, 0)) HRG.out) (four_one _ _ _ _) (by decide) ?c1 ?c2 ?c3 _ rfl ?_)
        case c1 => unfold maxLen; omega
        case c2 => omega
        case c3 => omega
        intro g1 cp1 w5 ho5 hg5 ha5 hgl5
        have HO5 := Lib.hid (HO4.out.grow HOW4.out (Nat.le_refl _) hg5)
        have HOW5 := Lib.hid ho5
        clear ho5 hg5 ha5 HO4 HOW4 HTX HVO
        go_wp2
        go_roundw
        case rel => exact ⟨k + 1, by omega, by go_num, by rw [HRW.out]; exact HOW5.out, HO5.out⟩
        case measure => simp [intOf]; omega
    · obtain rfl : k = 3 := by omega
      obtain ⟨av, cv, rfl⟩ := slice_of_own hown
      obtain ⟨g, rfl, hcv1, hcv2, hgl⟩ := own_some hown (by decide)
      have HVS := Lib.hid (vrs_of_own (l := comTo 3) hown)
      have HMB := Lib.hid (MbsAt.only hO (mbs_own3 (l := mbsOf fourM) HM.out))
      have HL1 := Lib.hid (fun W (hW : Only (fun _ => False) wr W) => leaderX_any _ fourC 0 0 W fourC_ok (by decide) (by decide) (MbsAt.only hW HMB.out))
      have HL2 := Lib.hid (fun W (hW : Only (fun _ => False) wr W) => leaderX_any _ fourC 2 3 W fourC_ok (by decide) (by decide) (MbsAt.only hW HMB.out))
      have HOG := Lib.hid (HO1.out.trans hO)
      have HC1 := Lib.hid (fun W (hW : Only (fun _ => False) wr W) => check_any _ _ (mbsOf fourM) 0 (oneB 120) _ true W fourC_ok.mbsW (MbsAt.only hW HMB.out) (VrsAt.only hW HVS.out) (by decide) (by decide) (vbs_ok (com_ok 3 (by decide))) check_three (HG.out.only (HOG.out.trans hW)))
      have HC2 := Lib.hid (fun W (hW : Only (fun _ => False) wr W) => check_any _ _ (mbsOf fourM) 0 (oneB 120) _ false W fourC_ok.mbsW (MbsAt.only hW HMB.out) (vrs_take (m := 2) (VrsAt.only hW HVS.out) (by decide) (by decide)) (by decide) (by decide) (vbs_ok (com_ok 2 (by decide))) check_two (HG.out.only (HOG.out.trans hW)))
      rw [show leadM fourC.ms 0 0 = 1 by kernel_rfl] at HL1
      rw [show leadM fourC.ms 2 3 = 2 by kernel_rfl] at HL2
      change Hid (∀ W, _ → Calls _ _ #[_, .int .i64 0, .int .i64 0] W fun e w' => e = .returned (.int .i64 1) ∧ _) at HL1
      change Hid (∀ W, _ → Calls _ _ #[_, .int .i64 2, .int .i64 3] W fun e w' => e = .returned (.int .i64 2) ∧ _) at HL2
      change Hid (∀ W, _ → Calls _ _ #[_, .agg #[_, .string (⟨#[120]⟩ : ByteArray), _]] W _) at HC1
      change Hid (∀ W, _ → Calls _ _ #[_, .agg #[_, .string (⟨#[120]⟩ : ByteArray), _]] W _) at HC2
      have hsc := hO.owns HS.out (fun _ _ h => h)
      obtain ⟨sb, rfl, hc1, hc2, hsv⟩ := ownI_cells hsc rfl (show 0 < 4 by decide)
      rw [secs_four 0 (by decide)] at hsv
      have HSV := Lib.hid hsv
      clear hO hown HVS hsc hsv HS hlt hk hs1
      go_wp2_with fail
      refine (HL1.out wr (Only.refl _ _)).mono ?_
      rintro e w2 ⟨rfl, hO2⟩
      have HO2 := Lib.hid hO2
      clear hO2 HL1
      go_wp2_with fail
      refine (HL2.out w2 HO2.out).mono ?_
      rintro e w3 ⟨rfl, hO3⟩
      have HO3 := Lib.hid (HO2.out.trans hO3)
      clear hO3 HL2 HO2
      go_wp2_with fail
      refine (HC1.out w3 HO3.out).mono ?_
      rintro e w4 ⟨rfl, hO4⟩
      have HO4 := Lib.hid (HO3.out.trans hO4)
      clear hO4 HC1 HO3
      go_wp2_with fail
      refine (HC2.out w4 HO4.out).mono ?_
      rintro e w5 ⟨rfl, hO5⟩
      have HO5 := Lib.hid (HO4.out.trans hO5)
      have hsv := HO5.out.cell HSV.out (fun h => h)
      have hsl := World.block_lt_of_cell? _ _ hsv
      have HNW := Lib.hid (newN_any fourC 1 (.slice am 4 cm) w5 fourC_ok x_own.mem (by decide) (MbsAt.only HO5.out HMB.out))
      change Hid (Calls _ _ #[.int .i64 1, .int .i64 (keyS (fourS 1)), _, .int .i64 5] _ _) at HNW
      have HSE := Lib.hid (show fourC.sec = keyS (fourS 1) from rfl)
      clear hO5 HC2 HO4
      generalize keyS (fourS 1) = sc at *
      go_wp2_with fail
      refine HNW.out.mono ?_
      rintro e w6 ⟨p, F, G, A, rfl, hN, hF, hO6⟩
      have hs6 := hO6.size
      have hO5w := HOG.out.trans HO5.out
      have hGA : GA w6 G := fun w' hw => HG.out.only ((hO5w.trans hO6).trans' hw fun k hk hG => by
        have := hF k (hN.sub k hG)
        have := hO5w.size
        omega)
      have HP := Lib.hid (propose_new 120 w6 hN fourC_ok (by decide) (fun x hx => by cases hx) (by decide) rfl)
      change Hid (Calls _ _ #[_, .string (⟨#[120]⟩ : ByteArray)] _ fun e w' => _ ∧ NdTo w6 F G p fourC xR0 w') at HP
      have HGA := Lib.hid hGA
      have HF := Lib.hid (fun k hG => hF k (hN.sub k hG))
      have HO6 := Lib.hid hO6
      have hplt := hN.plt
      clear hN hF hO6 hGA hO5w HNW hsv hsl
      go_wp2_with fail
      refine HP.out.mono ?_
      rintro e w7 ⟨rfl, hT⟩
      obtain ⟨F7, G7, A7, hN7, hGA7, q1, q2, q3, hO7⟩ := HGA.out.to hT
      have HO7 := Lib.hid (show Only (fun _ => False) w5 w7 from HO6.out.trans' hO7 fun k hk hG => by
        have := HF.out k hG
        omega)
      have HF7 := Lib.hid (show ∀ k, G7 k → w5.heap.size ≤ k from fun k hk => by
        rcases q3 k hk with h | h
        · exact HF.out k h
        · omega)
      have HTI := Lib.hid (tick_any 1 10 w7 hN7 fourC_ok x_own xR0_ok (by decide) (by decide) (by decide) (by decide) (x_tick p) hGA7)
      rw [show tickR fourC.ms fourC.pat xR0 1 = xR2 from xt4, show outM fourC.ms xR0.id = [2, 3, 4] from xout] at HTI
      have hplt7 := hN7.plt
      clear hT hN7 hGA7 q1 q2 q3 hO7 HP HGA HF HO6 hplt hs6
      change Hid (Calls _ _ #[_, .int .i64 1] _ _) at HTI
      go_wp2_with fail
      refine HTI.out.mono ?_
      rintro e w8 ⟨v, rfl, F8, G8, A8, B8, hN8, q1, q2, q3, hO8, hB1, hB2, hown8⟩
      have hown8 : w8.ownsRow B8 75 3 v 3 (msgrow 1 (msgB fourM 0 [xV 0 1, xV 1 1]) [2, 3, 4]) := hown8
      have HO8 := Lib.hid (show Only (fun _ => False) w5 w8 from HO7.out.trans' hO8 fun k hk hG => by
        have := HF7.out k hG
        omega)
      obtain ⟨a8, c8, rfl⟩ := slice_of_own hown8
      obtain ⟨g8, rfl, hm1, hm2, hgl8⟩ := own_some hown8 (by decide)
      have hsv := HO8.out.cell (HO5.out.cell HSV.out (fun h => h)) (fun h => h)
      have hsl := World.block_lt_of_cell? _ _ hsv
      have HW8 := Lib.hid hown8
      clear hN8 q1 q2 q3 hO8 hB1 hB2 hown8 HTI HF7 HO7 hplt7
      go_upto_region 12 with fail
      have hs8 : w8.heap.size = w8.heap.size := rfl
      have HSC := Lib.hid hsv
      have HT0 := Lib.hid (fun W => textX 0 (by decide) W)
      have HT1 := Lib.hid (fun W => textX 1 (by decide) W)
      change Hid (∀ W, Calls _ _ #[.string (⟨#[112, 114, 111, 112, 111, 115, 101]⟩ : ByteArray), _, _, _] _ _) at HT0
      change Hid (∀ W, Calls _ _ #[.string (⟨#[112, 114, 101, 112, 97, 114, 101]⟩ : ByteArray), _, _, _] _ _) at HT1
      have hb0 := blv_len (b := ⟨0, 0, 0, 120⟩) ⟨by decide, by decide, by decide, by decide⟩
      have hb1 := blv_len (b := ⟨1, 0, 0, 120⟩) ⟨by decide, by decide, by decide, by decide⟩
      have HV0 := Lib.hid (fun W => rvote_any 1 sc (blB ⟨0, 0, 0, 120⟩) W (by omega))
      have HV1 := Lib.hid (fun W => rvote_any 1 sc (blB ⟨1, 0, 0, 120⟩) W (by omega))
      have HVR := Lib.hid (show vbrow fourM [xV 0 1, xV 1 1] = [.int .i64 1, .string (blB ⟨0, 0, 0, 120⟩), .int .i64 (sgR sc (blB ⟨0, 0, 0, 120⟩)), .int .i64 (sgS sc (blB ⟨0, 0, 0, 120⟩)), .int .i64 1, .string (blB ⟨1, 0, 0, 120⟩), .int .i64 (sgR sc (blB ⟨1, 0, 0, 120⟩)), .int .i64 (sgS sc (blB ⟨1, 0, 0, 120⟩))] by
        have e : secOf fourM 1 = sc := x_own.sec.trans HSE.out
        show vbC fourM (xV 0 1) ++ (vbC fourM (xV 1 1) ++ []) = _
        unfold vbC vbR vbS
        rw [show secOf fourM (xV 0 1).who = sc from e, show secOf fourM (xV 1 1).who = sc from e]
        rfl)
      generalize sgR sc (blB ⟨0, 0, 0, 120⟩) = R0 at *
      generalize sgS sc (blB ⟨0, 0, 0, 120⟩) = S0 at *
      generalize sgR sc (blB ⟨1, 0, 0, 120⟩) = R1 at *
      generalize sgS sc (blB ⟨1, 0, 0, 120⟩) = S1 at *
      generalize blB ⟨0, 0, 0, 120⟩ = b0 at *
      generalize blB ⟨1, 0, 0, 120⟩ = b1 at *
      clear hsv hsl
      refine region_new1 (fr := ?frC) 11 10 (.cells #[.int .i64 1, .string b0, .int .i64 R0, .int .i64 S0, .int .i64 1, .string b1, .int .i64 R1, .int .i64 S1] 35) (fun g => .slice (some ⟨g, 0, none⟩) 2 2) (fun i => match i with | 0 => .slice (some ⟨sb, 0, none⟩) 4 csc | 1 => .pointer (some ⟨sb, 0, none⟩) | 2 => .int .i64 sc | 3 => .string b0 | 4 => .agg #[.int .i64 1, .string b0, .int .i64 R0, .int .i64 S0] | 5 => .slice (some ⟨sb, 0, none⟩) 4 csc | 6 => .pointer (some ⟨sb, 0, none⟩) | 7 => .int .i64 sc | 8 => .string b1 | 9 => .agg #[.int .i64 1, .string b1, .int .i64 R1, .int .i64 S1] | _ => undef) (by kernel_rfl) (by kernel_rfl) (by kernel_rfl) (by kernel_rfl) (by kernel_rfl) (by decide) (by decide) ?frD ?alD ?stepD ?finD
      case frD =>
        simp only [List.take_succ_cons, List.take_zero, frameAll, Act.put, List.getElem?_toArray, List.getElem?_cons_zero, List.getElem?_cons_succ, Option.bind_some, List.setIfInBounds_toArray, List.set_cons_zero, List.set_cons_succ]
        rfl
      case alD => exact ⟨_, rfl, fun W => by go_simp⟩
      case stepD =>
        intro i o W hi hia ho hO
        have e0 := hO.cell HSC.out (fun h => h)
        have hsW : sb < W.heap.size := World.block_lt_of_cell? W _ e0
        obtain rfl | rfl | rfl | rfl | rfl | rfl | rfl | rfl | rfl | rfl : i = 0 ∨ i = 1 ∨ i = 2 ∨ i = 3 ∨ i = 4 ∨ i = 5 ∨ i = 6 ∨ i = 7 ∨ i = 8 ∨ i = 9 := by omega
        all_goals (simp only [List.getElem?_cons_zero, List.getElem?_cons_succ, Option.some.injEq] at ho; subst ho)
        · refine opV_of_value (w' := W) (v := _) ?_ ⟨rfl, Only.refl _ _⟩
          go_simp
        · refine opV_of_value (w' := W) (v := _) ?_ ⟨rfl, Only.refl _ _⟩
          go_simp
        · refine opV_of_value (w' := W) (v := _) ?_ ⟨rfl, Only.refl _ _⟩
          go_simp
        · refine opV_of_enter (w' := W) (f := 9) (args := #[.string (⟨#[112, 114, 111, 112, 111, 115, 101]⟩ : ByteArray), .int .i64 0, .int .i64 0, .string (⟨#[120]⟩ : ByteArray)]) (by kernel_rfl) ((HT0.out W).mono ?_)
          rintro e W' ⟨rfl, hO'⟩
          exact ⟨_, rfl, rfl, hO'⟩
        · refine opV_of_enter (w' := W) (f := 8) (args := #[.int .i64 1, .int .i64 sc, .string b0]) (by kernel_rfl) ((HV0.out W).mono ?_)
          rintro e W' ⟨rfl, hO'⟩
          exact ⟨_, rfl, rfl, hO'⟩
        · refine opV_of_value (w' := W) (v := _) ?_ ⟨rfl, Only.refl _ _⟩
          go_simp
        · refine opV_of_value (w' := W) (v := _) ?_ ⟨rfl, Only.refl _ _⟩
          go_simp
        · refine opV_of_value (w' := W) (v := _) ?_ ⟨rfl, Only.refl _ _⟩
          go_simp
        · refine opV_of_enter (w' := W) (f := 9) (args := #[.string (⟨#[112, 114, 101, 112, 97, 114, 101]⟩ : ByteArray), .int .i64 0, .int .i64 0, .string (⟨#[120]⟩ : ByteArray)]) (by kernel_rfl) ((HT1.out W).mono ?_)
          rintro e W' ⟨rfl, hO'⟩
          exact ⟨_, rfl, rfl, hO'⟩
        · refine opV_of_enter (w' := W) (f := 8) (args := #[.int .i64 1, .int .i64 sc, .string b1]) (by kernel_rfl) ((HV1.out W).mono ?_)
          rintro e W' ⟨rfl, hO'⟩
          exact ⟨_, rfl, rfl, hO'⟩
      case finD =>
        intro g9 w9 hgg hrowg hOg
        simp only [updF, Nat.reduceEqDiff, reduceIte, List.take_succ_cons, List.take_zero, frameAll, Act.put, List.getElem?_toArray, List.getElem?_cons_zero, List.getElem?_cons_succ, Option.bind_some, List.setIfInBounds_toArray, List.set_cons_zero, List.set_cons_succ, List.drop_succ_cons, List.drop_zero]
        have hown9 : w9.ownsRow w8.heap.size 35 4 (.slice (some ⟨g9, 0, none⟩) 2 2) 2 (vbrow fourM [xV 0 1, xV 1 1]) := by
          rw [HVR.out]
          exact ⟨rfl, .inr ⟨g9, 2, _, rfl, hgg, hrowg, by decide, by decide, rfl, rfl⟩⟩
        have HVS := Lib.hid (vrs_of_own (l := [xV 0 1, xV 1 1]) hown9)
        have HO9 := Lib.hid (HO8.out.trans hOg)
        have hown8 := hOg.owns HW8.out (fun _ _ h => h)
        have HSD := Lib.hid (fun W (hW : Only (fun _ => False) w9 W) => rsend29_any fourM 1 2 0 [xV 0 1, xV 1 1] _ W (by decide) (by decide) (fun v hv => by
          simp only [List.mem_cons, List.not_mem_nil, or_false] at hv
          rcases hv with rfl | rfl <;> exact xV_ok (by decide) (by decide)) (VrsAt.only hW HVS.out))
        have HSD4 := Lib.hid (fun W (hW : Only (fun _ => False) w9 W) => rsend29_any fourM 1 4 0 [xV 0 1, xV 1 1] _ W (by decide) (by decide) (fun v hv => by
          simp only [List.mem_cons, List.not_mem_nil, or_false] at hv
          rcases hv with rfl | rfl <;> exact xV_ok (by decide) (by decide)) (VrsAt.only hW HVS.out))
        have HE9 := Lib.hid (show Only (fun _ => False) w w9 from (HOG.out.trans HO5.out).trans HO9.out)
        obtain ⟨M, hM⟩ : ∃ M, msgB fourM 0 [xV 0 1, xV 1 1] = M := ⟨_, rfl⟩
        rw [hM] at HSD HSD4 hown8
        have m0 : w9.cell? ⟨g8, 0, none⟩ = some (Value.int .i64 1) := hown8.cellAt 0 (by decide)
        have m1 : w9.cell? ⟨g8, 1, none⟩ = some (Value.int .i64 2) := hown8.cellAt 1 (by decide)
        have m2 : w9.cell? ⟨g8, 2, none⟩ = some (Value.string M) := hown8.cellAt 2 (by decide)
        have m6 : w9.cell? ⟨g8, 6, none⟩ = some (Value.int .i64 1) := hown8.cellAt 6 (by decide)
        have m7 : w9.cell? ⟨g8, 7, none⟩ = some (Value.int .i64 4) := hown8.cellAt 7 (by decide)
        have m8 : w9.cell? ⟨g8, 8, none⟩ = some (Value.string M) := hown8.cellAt 8 (by decide)
        change Hid (∀ W, _ → Calls _ _ #[.int .i64 1, .int .i64 2, .int .i64 0, _] W fun e w' => e = .returned (.agg #[.int .i64 1, .int .i64 2, _]) ∧ _) at HSD
        change Hid (∀ W, _ → Calls _ _ #[.int .i64 1, .int .i64 4, .int .i64 0, _] W fun e w' => e = .returned (.agg #[.int .i64 1, .int .i64 4, _]) ∧ _) at HSD4
        clear hrowg hOg hown8 hown9 HT0 HT1 HV0 HV1 HVR HO8 HW8
        go_upto_region 13 with fail
        have hg9 : g8 < w9.heap.size := World.block_lt_of_cell? _ _ m0
        have M0 := fun (d : Nat) (os : Array Obj) => cell_regrown m0 d os
        have M1 := fun (d : Nat) (os : Array Obj) => cell_regrown m1 d os
        have M2 := fun (d : Nat) (os : Array Obj) => cell_regrown m2 d os
        have M6 := fun (d : Nat) (os : Array Obj) => cell_regrown m6 d os
        have M7 := fun (d : Nat) (os : Array Obj) => cell_regrown m7 d os
        have M8 := fun (d : Nat) (os : Array Obj) => cell_regrown m8 d os
        clear m0 m1 m2 m6 m7 m8
        refine wp_region_quiet_below (by kernel_rfl) (by kernel_rfl) ?_
        repeat (go_big_quiet_step ((first | (go_at_call 26; with_reducible exact Calls.regrown_of ((HSD.out _ (Only.ofBelow (below_regrown _ _ _) _)).mono fun _ _ h => ⟨h.1, h.2.below (Nat.le_refl _) (fun _ _ h => h)⟩)) | (go_at_call 26; with_reducible exact Calls.regrown_of ((HSD4.out _ (Only.ofBelow (below_regrown _ _ _) _)).mono fun _ _ h => ⟨h.1, h.2.below (Nat.le_refl _) (fun _ _ h => h)⟩)))))
        refine wpQuiet_nil ?_
        intro w10 hw'
        obtain ⟨pq, hw''⟩ := hw'
        have hO10 := Only.ofBelow (below_regrown w9 pq.d pq.os) (fun _ => False)
        rw [← hw''] at hO10
        have HOE := Lib.hid (HE9.out.trans hO10)
        clear hw'' hO10 M0 M1 M2 M6 M7 M8
        go_wp2
        go_ret
        exact ⟨rfl, HOE.out⟩
end Go.Proofs.YtldkjkjpaiajlaaGreatDoor
