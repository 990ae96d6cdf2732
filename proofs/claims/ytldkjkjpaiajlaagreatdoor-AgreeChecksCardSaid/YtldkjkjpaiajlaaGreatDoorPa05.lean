/-
  A region whose order is open, by facts: each operation, whenever it comes, leaves a fact of its own, and the facts of those that have come stay. One proof for each operation, none for each order.
-/
import Derived.Test.YtldkjkjpaiajlaaGreatDoorPa02
import Derived.Test.YtldkjkjpaiajlaaGreatDoorPa04
import Derived.Laws.Rows
namespace Go.Proofs.YtldkjkjpaiajlaaGreatDoor
open Go

section
variable {P : Program} {ops : Array Oper}
/-- What an operation gives, and the world behind it. -/
def opVx (P : Program) (o : Oper) (ρ : Operand → Value) (w : World) (K : Value → World → Prop) : Prop :=
  match (execOp ρ o).run P w with
  | .ok (.value v) w' => K v w'
  | .ok .skip w' => K undef w'
  | .ok (.enter f args) w' => Calls P f args w' fun e w'' => ∃ u, e = .returned u ∧ K u w''
  | _ => False
/-- The same, shut (no tactic is to run the operation). -/
structure opV (P : Program) (o : Oper) (ρ : Operand → Value) (w : World) (K : Value → World → Prop) : Prop where
  out : opVx P o ρ w K
theorem opV_wp {Q : Exit → Act → World → Prop} {o : Oper} {a : Act} {ρ : Operand → Value} {w : World} {K : Value → World → Prop} {K' : Act → World → Prop} (hs : ∀ cs b, o.op ≠ .select cs b)
    (he : ∀ x ∈ o.op.operands, a.eval x = ρ x) (h : opV P o ρ w K) (hK : ∀ v w', K v w' → K' (a.put o.dst v) w') : o.wp P a w K' Q := by
  unfold Oper.wp
  rw [execOp_congr o hs he]
  have h := h.out
  unfold opVx at h
  generalize (execOp ρ o).run P w = r at *
  cases r with
  | ok n w' =>
    cases n
    case value v => exact hK _ _ h
    case skip => exact hK _ _ h
    case enter f args =>
      refine Calls.mono h fun e w'' hh => ?_
      obtain ⟨u, rfl, hk⟩ := hh
      exact hK _ _ hk
    all_goals exact h.elim
  | halt x w' => exact h.elim
theorem opV_of_value {o : Oper} {ρ : Operand → Value} {w w' : World} {v : Value} {K : Value → World → Prop} (h : (execOp ρ o).run P w = .ok (.value v) w') (hK : K v w') : opV P o ρ w K := by
  refine ⟨?_⟩
  unfold opVx
  rw [h]
  exact hK
theorem opV_of_enter {o : Oper} {ρ : Operand → Value} {w w' : World} {f : FuncId} {args : Array Value} {K : Value → World → Prop} (h : (execOp ρ o).run P w = .ok (.enter f args) w')
    (hK : Calls P f args w' fun e w'' => ∃ u, e = .returned u ∧ K u w'') : opV P o ρ w K := by
  refine ⟨?_⟩
  unfold opVx
  rw [h]
  exact hK
theorem opV_load_row {o : Oper} {ρ : Operand → Value} {w : World} {K : Value → World → Prop} (ty : TypeId) (x : Operand) (ho : o.op = .load ty x)
    (g : Nat) (hx : ρ x = .pointer (some ⟨g, 0, none⟩)) (t : TypeId) (cs : Array Value) (fr : Nat × Nat) (d : TypeDesc) (hg : w.heap[g]? = some (.cells cs t fr))
    (hu : P.underlying ty = some d) (hd : (match d with | .struct _ | .array _ _ => true | _ => false) = true) (hi : (P.info? ty).map (·.size) = some cs.size)
    (h : K (.agg cs) w) : opV P o ρ w K := by
  refine ⟨?_⟩
  unfold opVx execOp
  simp only [ho, hx, Instr.loadAt, Instr.sureAddr, Sem.run_bind, Sem.run_pure, Result.andThen_ok, run_loadVar_row w g t ty cs fr d hg hu hd hi]
  exact h
/-- The frame when the operations L have come, with the values f. -/
def frameOf (ops : Array Oper) (f : Nat → Value) (a : Act) (L : Array Bool) : Nat → Act
  | 0 => a
  | n + 1 => if L.getD n false = true then (frameOf ops f a L n).put ((ops[n]?).bind (·.dst)) (f n) else frameOf ops f a L n
/-- The frame when all have come. -/
def frameAll (ops : Array Oper) (f : Nat → Value) (a : Act) : Nat → Act
  | 0 => a
  | n + 1 => (frameAll ops f a n).put ((ops[n]?).bind (·.dst)) (f n)
def updF (f : Nat → Value) (i : Nat) (v : Value) : Nat → Value := fun j => if j = i then v else f j
theorem updF_same {f : Nat → Value} {i : Nat} {v : Value} : updF f i v i = v := if_pos rfl
theorem updF_ne {f : Nat → Value} {i j : Nat} {v : Value} (h : j ≠ i) : updF f i v j = f j := if_neg h
/-- No guards; each waits for earlier ones alone; each writes a slot of its own, and waits for those whose slots it reads. -/
def tidyB (ops : Array Oper) : Bool :=
  (List.range ops.size).all fun i => match ops[i]? with
    | none => false
    | some o => o.guard.isNone && (o.after.all fun e => !Region.binds .any e || decide (e.on < i)) &&
      ((List.range ops.size).all fun j => j == i || (match o.dst with | none => true | some d => (ops[j]?).bind (·.dst) != some d)) &&
      ((List.range ops.size).all fun j => match (ops[j]?).bind (·.dst) with | none => true | some d => !(o.looksAt ops).contains d || Region.waitsFor .any ops i j)
theorem tidy_spec (h : tidyB ops = true) {i : Nat} {o : Oper} (ho : ops[i]? = some o) : o.guard = none ∧ (∀ e ∈ o.after, Region.binds .any e = true → e.on < i) ∧
    (∀ j, j ≠ i → ∀ d, o.dst = some d → (ops[j]?).bind (·.dst) ≠ some d) ∧ (∀ j d, (ops[j]?).bind (·.dst) = some d → d ∈ o.looksAt ops → Region.waitsFor .any ops i j = true) := by
  have hi : i < ops.size := (Array.getElem?_eq_some_iff.1 ho).1
  unfold tidyB at h
  have h1 := List.all_eq_true.1 h i (List.mem_range.2 hi)
  rw [ho] at h1
  simp only [Bool.and_eq_true, Option.isNone_iff_eq_none, List.all_eq_true, List.mem_range, Array.all_eq_true'] at h1
  obtain ⟨⟨⟨a, b⟩, c⟩, d⟩ := h1
  refine ⟨a, fun e he hb => ?_, fun j hj dd hd => ?_, fun j dd hd hm => ?_⟩
  · have := b e he
    simp [hb] at this
    exact this
  · by_cases hjs : j < ops.size
    · have := c j hjs
      rw [hd] at this
      simp only [Bool.or_eq_true, beq_iff_eq, bne_iff_ne, ne_eq] at this
      rcases this with h | h
      · exact absurd h hj
      · exact h
    · rw [Array.getElem?_eq_none (by omega)]
      intro h; cases h
  · have hjs : j < ops.size := by
      rcases Nat.lt_or_ge j ops.size with h | h
      · exact h
      · rw [Array.getElem?_eq_none h] at hd; cases hd
    have := d j hjs
    rw [hd] at this
    simp only [Bool.or_eq_true, Bool.not_eq_true', List.contains_eq_mem, decide_eq_false_iff_not] at this
    rcases this with h | h
    · exact absurd hm h
    · exact h
theorem frame_all_eq {f : Nat → Value} {a : Act} {L : Array Bool} : ∀ n, (∀ i, i < n → L.getD i false = true) → frameOf ops f a L n = frameAll ops f a n
  | 0, _ => rfl
  | n + 1, h => by
    unfold frameOf frameAll
    rw [if_pos (h n (Nat.lt_succ_self n)), frame_all_eq n (fun i hi => h i (by omega))]
theorem frame_eval {f : Nat → Value} {a : Act} {L : Array Bool} {x : Operand} : ∀ n, (∀ j d, j < n → (ops[j]?).bind (·.dst) = some d → x = .tmp d → L.getD j false = true) → (frameOf ops f a L n).eval x = (frameAll ops f a n).eval x
  | 0, _ => rfl
  | n + 1, h => by
    have ih := frame_eval (f := f) (a := a) (L := L) n (fun j d hj => h j d (by omega))
    unfold frameOf frameAll
    by_cases hL : L.getD n false = true
    · rw [if_pos hL]
      cases hd : (ops[n]?).bind (·.dst) with
      | none => exact ih
      | some d =>
        by_cases hx : x = .tmp d
        · subst hx
          show (((frameOf ops f a L n).tmps.setIfInBounds d (f n)).getD d undef) = (((frameAll ops f a n).tmps.setIfInBounds d (f n)).getD d undef)
          have hz : ∀ m, (frameOf ops f a L m).tmps.size = (frameAll ops f a m).tmps.size := by
            intro m
            induction m with
            | zero => rfl
            | succ m ihm =>
              unfold frameOf frameAll
              have e : ∀ (b : Act) (o : Option Tmp) (v : Value), (b.put o v).tmps.size = b.tmps.size := fun b o v => by cases o <;> simp [Act.put]
              split <;> simp only [e] <;> exact ihm
          rw [Array.getD_eq_getD_getElem?, Array.getD_eq_getD_getElem?, Array.getElem?_setIfInBounds, Array.getElem?_setIfInBounds, hz n, if_pos rfl, if_pos rfl]
        · rw [Act.eval_put (fun e he => by cases he; exact hx), Act.eval_put (fun e he => by cases he; exact hx)]
          exact ih
    · rw [if_neg hL, ih]
      cases hd : (ops[n]?).bind (·.dst) with
      | none => rfl
      | some d => exact (Act.eval_put (fun e he hx => by cases he; exact hL (h n d (Nat.lt_succ_self n) hd hx))).symm
theorem frame_put (ht : tidyB ops = true) {f : Nat → Value} {a : Act} {L : Array Bool} {i : Nat} {v : Value} (hi : L.getD i true = false) : ∀ n, i < n → n ≤ ops.size →
    frameOf ops (updF f i v) a (L.setIfInBounds i true) n = (frameOf ops f a L n).put ((ops[i]?).bind (·.dst)) v := by
  have his : i < L.size := by
    rcases Nat.lt_or_ge i L.size with h | h
    · exact h
    · rw [Array.getD_eq_getD_getElem?, Array.getElem?_eq_none h] at hi; cases hi
  have hi' : L.getD i false = false := by
    rw [Array.getD_eq_getD_getElem?, Array.getElem?_eq_getElem his] at hi ⊢; exact hi
  have hset : (L.setIfInBounds i true).getD i false = true := by
    rw [Array.getD_eq_getD_getElem?, Array.getElem?_setIfInBounds]; simp [his]
  have hoth : ∀ j, j ≠ i → (L.setIfInBounds i true).getD j false = L.getD j false := fun j hj => by
    rw [Array.getD_eq_getD_getElem?, Array.getD_eq_getD_getElem?, Array.getElem?_setIfInBounds_ne (Ne.symm hj)]
  have low : ∀ m, m ≤ i → frameOf ops (updF f i v) a (L.setIfInBounds i true) m = frameOf ops f a L m := by
    intro m
    induction m with
    | zero => intro _; rfl
    | succ m ihm =>
      intro hm
      unfold frameOf
      rw [ihm (by omega), hoth m (by omega), updF_ne (by omega)]
  intro n
  induction n with
  | zero => intro h; omega
  | succ n ih =>
    intro h hn
    unfold frameOf
    by_cases hni : n = i
    · subst hni
      rw [low n (Nat.le_refl _), if_pos hset, updF_same, if_neg (by rw [hi']; decide)]
    · rw [ih (by omega) (by omega), hoth n hni, updF_ne hni]
      split
      · have ho : ops[i]? = some ops[i] := Array.getElem?_eq_getElem (by omega)
        refine Act.put_comm _ _ _ (fun d hd => ?_)
        rw [ho] at hd
        exact (tidy_spec ht ho).2.2.1 n hni d hd
      · rfl
theorem count_put {L : Array Bool} {i : Nat} (h : L.getD i true = false) : (L.setIfInBounds i true).count false + 1 = L.count false := by
  have his : i < L.size := by
    rcases Nat.lt_or_ge i L.size with h' | h'
    · exact h'
    · rw [Array.getD_eq_getD_getElem?, Array.getElem?_eq_none h'] at h; cases h
  rw [Array.getD_eq_getD_getElem?, Array.getElem?_eq_getElem his] at h
  have h2 : L[i] = false := h
  have hp : 0 < L.count false := Array.count_pos_iff.2 (by rw [← h2]; exact Array.getElem_mem his)
  rw [Array.setIfInBounds, dif_pos his, Array.count_set his]
  simp [h2]
  omega
theorem listed_all {L : Array Bool} (h : L.count false = 0) : ∀ i, i < L.size → L.getD i false = true := fun i hi => by
  rw [Array.getD_eq_getD_getElem?, Array.getElem?_eq_getElem hi]
  cases hb : L[i] with
  | true => rfl
  | false =>
    have : 0 < L.count false := Array.count_pos_iff.2 (by rw [← hb]; exact Array.getElem_mem hi)
    omega
theorem tidy_ready (ht : tidyB ops = true) {L : Array Bool} (hz : L.size = ops.size) (hr : Region.ready .any ops L = []) : ∀ i, i < ops.size → L.getD i false = true := by
  intro i
  induction i using Nat.strongRecOn with
  | _ i ih =>
    intro hi
    cases hb : L.getD i false with
    | true => rfl
    | false =>
      exfalso
      have ho : ops[i]? = some ops[i] := Array.getElem?_eq_getElem hi
      have hm : i ∈ Region.ready .any ops L := mem_ready.2 ⟨by
        rw [Array.getD_eq_getD_getElem?, Array.getElem?_eq_getElem (by omega)] at hb ⊢; exact hb, ops[i], ho, fun e he hbind => by
        have hlt := (tidy_spec ht ho).2.1 e he hbind
        exact ih e.on hlt (by omega)⟩
      rw [hr] at hm
      cases hm
variable {Q : Exit → Act → World → Prop}
theorem wpAny_facts (a0 : Act) (w0 : World) (Fact : Nat → Value → World → Prop) (Rel : Nat → Nat → Value → Value → Prop) (ht : tidyB ops = true) (hns : Region.noSelect ops = true)
    (hst : ∀ i v w w', Fact i v w → Only (fun _ => False) w w' → Fact i v w')
    (hstep : ∀ i o f w, ops[i]? = some o → Only (fun _ => False) w0 w → (∀ j, Region.waitsFor .any ops i j = true → Fact j (f j) w) →
      opV P o (frameAll ops f a0 ops.size).eval w (fun v w' => Only (fun _ => False) w w' ∧ Fact i v w' ∧ ∀ j u, j ≠ i → Fact j u w → Rel i j v u ∧ Rel j i u v))
    (hend : ∀ f w, Only (fun _ => False) w0 w → (∀ i, i < ops.size → Fact i (f i) w) → (∀ i j, i < ops.size → j < ops.size → i ≠ j → Rel i j (f i) (f j)) → Q .normal (frameAll ops f a0 ops.size) w) :
    ∀ fuel L f w, L.size = ops.size → L.count false ≤ fuel → Only (fun _ => False) w0 w → (∀ i, L.getD i false = true → Fact i (f i) w) →
      (∀ i j, L.getD i false = true → L.getD j false = true → i ≠ j → Rel i j (f i) (f j)) → wpAny P .any ops Q fuel L (frameOf ops f a0 L ops.size) w := by
  have fin : ∀ (L : Array Bool) f w, L.size = ops.size → (∀ i, i < ops.size → L.getD i false = true) → Only (fun _ => False) w0 w → (∀ i, L.getD i false = true → Fact i (f i) w) →
      (∀ i j, L.getD i false = true → L.getD j false = true → i ≠ j → Rel i j (f i) (f j)) → Q .normal (frameOf ops f a0 L ops.size) w := by
    intro L f w hz hall hO hF hD
    rw [frame_all_eq ops.size hall]
    exact hend f w hO (fun i hi => hF i (hall i hi)) (fun i j hi hj => hD i j (hall i hi) (hall j hj))
  intro fuel
  induction fuel with
  | zero =>
    intro L f w hz hc hO hF hD
    have hall : ∀ i, i < ops.size → L.getD i false = true := fun i hi => listed_all (by omega) i (by omega)
    refine ⟨?_, fin L f w hz hall hO hF hD⟩
    rw [List.eq_nil_iff_forall_not_mem]
    intro j hj
    obtain ⟨hj1, o, ho, _⟩ := mem_ready.1 hj
    have hjs : j < ops.size := (Array.getElem?_eq_some_iff.1 ho).1
    have := hall j hjs
    rw [Array.getD_eq_getD_getElem?, Array.getElem?_eq_getElem (by omega)] at this hj1
    rw [show L[j] = true from this] at hj1
    cases hj1
  | succ fuel ih =>
    intro L f w hz hc hO hF hD
    refine ⟨fun hr => fin L f w hz (tidy_ready ht hz hr) hO hF hD, fun i hi => ?_⟩
    obtain ⟨hi1, o, ho, hdeps⟩ := mem_ready.1 hi
    have his : i < ops.size := (Array.getElem?_eq_some_iff.1 ho).1
    have hi2 : L.getD i false = false := by
      rw [Array.getD_eq_getD_getElem?, Array.getElem?_eq_getElem (by omega)] at hi1 ⊢; exact hi1
    obtain ⟨hg, hback, hdst, hlook⟩ := tidy_spec ht ho
    have hw : ∀ j, Region.waitsFor .any ops i j = true → L.getD j false = true := fun j hj => by
      obtain ⟨oj, hoj, e, he, hb, hon⟩ := Region.waitsFor_spec hj
      rw [ho] at hoj
      cases hoj
      rw [← hon]
      exact hdeps e he hb
    have hV := hstep i o f w ho hO (fun j hj => hF j (hw j hj))
    unfold wpOp
    rw [ho]
    have hwant : Region.wanted o (yielded ops (frameOf ops f a0 L ops.size).tmps) = true := by unfold Region.wanted; rw [hg]
    simp only [hwant, if_true]
    left
    refine opV_wp (Region.noSelect_spec hns i o · · ho) (fun x hx => ?_) hV (fun v w' hh => ?_)
    · refine frame_eval ops.size (fun j d hj hd hxd => hw j (hlook j d hd ?_))
      subst hxd
      unfold Oper.looksAt
      refine List.mem_append_left _ (List.mem_filterMap.2 ⟨.tmp d, by simpa using hx, rfl⟩)
    · obtain ⟨hO', hFi, hAi⟩ := hh
      have e := frame_put ht (f := f) (a := a0) (L := L) (v := v) hi1 ops.size his (Nat.le_refl _)
      rw [ho] at e
      have e' : frameOf ops (updF f i v) a0 (L.setIfInBounds i true) ops.size = (frameOf ops f a0 L ops.size).put o.dst v := e
      rw [← e']
      have hoth : ∀ j, j ≠ i → (L.setIfInBounds i true).getD j false = L.getD j false := fun j hj => by
        rw [Array.getD_eq_getD_getElem?, Array.getD_eq_getD_getElem?, Array.getElem?_setIfInBounds_ne (Ne.symm hj)]
      refine ih _ _ _ (by simpa using hz) (by have := count_put hi1; omega) (hO.trans hO') (fun j hj => ?_) (fun j k hj hk hjk => ?_)
      · by_cases hji : j = i
        · subst hji; rw [updF_same]; exact hFi
        · rw [hoth j hji] at hj
          rw [updF_ne hji]
          exact hst j _ _ _ (hF j hj) hO'
      · by_cases hji : j = i
        · subst hji
          rw [hoth k (Ne.symm hjk)] at hk
          rw [updF_same, updF_ne (Ne.symm hjk)]
          exact (hAi k _ (Ne.symm hjk) (hF k hk)).1
        · rw [hoth j hji] at hj
          by_cases hki : k = i
          · subst hki
            rw [updF_same, updF_ne hji]
            exact (hAi j _ hji (hF j hj)).2
          · rw [hoth k hki] at hk
            rw [updF_ne hji, updF_ne hki]
            exact hD j k hj hk hjk
/-- The beginning. -/
theorem wpAny_by_facts (a0 : Act) (w0 : World) (Fact : Nat → Value → World → Prop) (Rel : Nat → Nat → Value → Value → Prop) (ht : tidyB ops = true) (hns : Region.noSelect ops = true)
    (hst : ∀ i v w w', Fact i v w → Only (fun _ => False) w w' → Fact i v w')
    (hstep : ∀ i o f w, ops[i]? = some o → Only (fun _ => False) w0 w → (∀ j, Region.waitsFor .any ops i j = true → Fact j (f j) w) →
      opV P o (frameAll ops f a0 ops.size).eval w (fun v w' => Only (fun _ => False) w w' ∧ Fact i v w' ∧ ∀ j u, j ≠ i → Fact j u w → Rel i j v u ∧ Rel j i u v))
    (hend : ∀ f w, Only (fun _ => False) w0 w → (∀ i, i < ops.size → Fact i (f i) w) → (∀ i j, i < ops.size → j < ops.size → i ≠ j → Rel i j (f i) (f j)) → Q .normal (frameAll ops f a0 ops.size) w) :
    wpAny P .any ops Q ops.size (Array.replicate ops.size false) a0 w0 := by
  have none : ∀ i, (Array.replicate ops.size false).getD i false = false := fun i => by
    rw [Array.getD_eq_getD_getElem?, Array.getElem?_replicate]; split <;> rfl
  have e : ∀ n, frameOf ops (fun _ => undef) a0 (Array.replicate ops.size false) n = a0 := by
    intro n
    induction n with
    | zero => rfl
    | succ n ih => unfold frameOf; rw [none n, if_neg (by decide)]; exact ih
  have := wpAny_facts (P := P) (ops := ops) (Q := Q) a0 w0 Fact Rel ht hns hst hstep hend ops.size (Array.replicate ops.size false) (fun _ => undef) w0 (by simp) (by simp) (Only.refl _ _)
    (fun i hi => by rw [none i] at hi; cases hi) (fun i j hi => by rw [none i] at hi; cases hi)
  rw [e] at this
  exact this
end
end Go.Proofs.YtldkjkjpaiajlaaGreatDoor
