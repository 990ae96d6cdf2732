/-
  A region that draws its order, whose last operations each wait for all of the first ones and come in one forced order: it is the region of the first ones, with the last ones behind it as a plain list.
  As Split, where the last operations wait for the first ones over others in between.
  As Split2, where one of the last operations may wait for another one of them.
-/
import Derived.StillTail
import Derived.Lib.QuietBelow
namespace Go.Proofs.YtldkjkjpaiajlaaGreatDoor
open Go

/-- The head's operations wait for earlier ones alone; the tail's wait for all of the head, and come one by one. -/
def splitB (ops : Array Oper) (m : Nat) : Bool :=
  decide (m ≤ ops.size) &&
  ((List.range ops.size).all fun t => decide (t < m) || (List.range m).all fun i => Region.waitsFor .any ops t i) &&
  ((List.range m).all fun j => match ops[j]? with
    | some o => (o.after.all fun e => !Region.binds .any e || decide (e.on < j)) && (match o.guard with | none => true | some (k, _) => decide (k < m))
    | none => false) &&
  Region.seqB .any ops (ops.size - m) m (Array.replicate m true ++ Array.replicate (ops.size - m) false)

section
variable {P : Program} {l : List Oper} {m : Nat} {Q : Exit → Act → World → Prop}

/-- The post of the head: at its end the tail goes on. -/
def headPost (P : Program) (l : List Oper) (m : Nat) (Q : Exit → Act → World → Prop) : Exit → Act → World → Prop
  | .normal, a, w => wpList P l.toArray Q (l.drop m) a w
  | e, a, w => Q e a w

theorem upon_headPost {o : Oper} {a : Act} {K K' : Act → World → Prop} (h : ∀ a w, K a w → K' a w) {r : Result Next} (hh : o.upon P a K (headPost P l m Q) r) : o.upon P a K' Q r := by
  cases r with
  | ok n w' =>
    cases n <;> simp only [Oper.upon] at hh ⊢
    case value v => exact h _ _ hh
    case skip => exact h _ _ hh
    case defer d => exact h _ _ hh
    case enter f args =>
      refine Calls.mono hh fun e w'' he => ?_
      cases e with
      | returned u => exact h _ _ he
      | panicked c => exact he
      | outgrown => exact he
    case row row args => exact Rows.mono hh fun u w'' he => h _ _ he
  | halt x w' => cases x <;> simp only [Oper.upon] at hh ⊢ <;> exact hh

theorem wpOp_headPost {i : Nat} {a : Act} {w : World} {K K' : Act → World → Prop} (hi : i < m) (hg : ∀ o k b, l[i]? = some o → o.guard = some (k, b) → k < m) (h : ∀ a w, K a w → K' a w)
    (hh : wpOp P (l.take m).toArray (headPost P l m Q) i K a w) : wpOp P l.toArray Q i K' a w := by
  have e : (l.take m).toArray[i]? = l.toArray[i]? := by simp [hi]
  unfold wpOp at *
  rw [e] at hh
  cases ho : l.toArray[i]? with
  | none => rw [ho] at hh; exact h _ _ hh
  | some o =>
    rw [ho] at hh
    have ho' : l[i]? = some o := by simpa using ho
    have ew : Region.wanted o (yielded (l.take m).toArray a.tmps) = Region.wanted o (yielded l.toArray a.tmps) := by
      unfold Region.wanted
      cases hgd : o.guard with
      | none => rfl
      | some kb =>
        obtain ⟨k, b⟩ := kb
        have hk := hg o k b ho' hgd
        simp only
        unfold yielded
        have : (l.take m).toArray[k]? = l.toArray[k]? := by simp [hk]
        rw [this]
    simp only at hh ⊢
    rw [ew] at hh
    split at hh
    · rename_i hw
      rw [if_pos hw]
      rcases hh with hh | ⟨h1, h2⟩
      · left; unfold Oper.wp at *; exact upon_headPost h hh
      · right; exact ⟨h1, h2⟩
    · rename_i hw
      rw [if_neg hw]
      exact h _ _ hh

theorem wpAny_more {ops : Array Oper} {md : Region.Mode} : ∀ (f : Nat) (listed : Array Bool) (a : Act) (w : World), wpAny P md ops Q f listed a w → wpAny P md ops Q (f + 1) listed a w
  | 0, _, _, _, h => ⟨fun _ => h.2, fun i hi => by rw [h.1] at hi; cases hi⟩
  | f + 1, _, _, _, h => ⟨h.1, fun i hi => wpOp_mono (fun a' w' h' => wpAny_more f _ a' w' h') (h.2 i hi)⟩
theorem wpAny_more' {ops : Array Oper} {md : Region.Mode} (g : Nat) {f : Nat} {listed : Array Bool} {a : Act} {w : World} (h : wpAny P md ops Q f listed a w) : wpAny P md ops Q (g + f) listed a w := by
  induction g with
  | zero => rw [Nat.zero_add]; exact h
  | succ g ih => rw [show g + 1 + f = g + f + 1 by omega]; exact wpAny_more _ _ _ _ ih

/-- What holds of the two lists of what has come up. -/
structure SplitInv (l : List Oper) (m : Nat) (A B : Array Bool) : Prop where
  sizeA : A.size = l.length
  sizeB : B.size = m
  same : ∀ i, i < m → B[i]? = A[i]?
  tail : ∀ t, m ≤ t → t < l.length → A[t]? = some false

theorem splitB_spec (h : splitB l.toArray m = true) : m ≤ l.length ∧ (∀ t, m ≤ t → t < l.length → ∀ i, i < m → Region.waitsFor .any l.toArray t i = true) ∧
    (∀ j o, j < m → l[j]? = some o → (∀ e ∈ o.after, Region.binds .any e = true → e.on < j) ∧ ∀ k b, o.guard = some (k, b) → k < m) ∧
    Region.seqB .any l.toArray (l.length - m) m (Array.replicate m true ++ Array.replicate (l.length - m) false) = true := by
  unfold splitB at h
  simp only [Bool.and_eq_true, decide_eq_true_eq, List.all_eq_true, List.mem_range, Bool.or_eq_true, List.size_toArray] at h
  obtain ⟨⟨⟨h1, h2⟩, h3⟩, h4⟩ := h
  refine ⟨h1, fun t ht ht' i hi => ?_, fun j o hj ho => ?_, h4⟩
  · rcases h2 t ht' with h | h
    · omega
    · exact h i hi
  · have := h3 j hj
    rw [show l.toArray[j]? = some o by simpa using ho] at this
    simp only [Bool.and_eq_true, Array.all_eq_true'] at this
    refine ⟨fun e he hb => ?_, fun k b hg => ?_⟩
    · have h5 := this.1 e he
      simp [hb] at h5
      exact h5
    · have h6 := this.2
      rw [hg] at h6
      simpa using h6

theorem ready_head {A B : Array Bool} (hs : splitB l.toArray m = true) (inv : SplitInv l m A B) {i0 : Nat} (h0 : i0 < m) (hu : A[i0]? = some false) {j : Nat} (hj : j ∈ Region.ready .any l.toArray A) :
    j < m ∧ j ∈ Region.ready .any (l.take m).toArray B := by
  obtain ⟨h1, h2, h3, h4⟩ := splitB_spec hs
  obtain ⟨hj1, o, ho, hall⟩ := mem_ready.1 hj
  have ho' : l[j]? = some o := by simpa using ho
  have hjl : j < l.length := (List.getElem?_eq_some_iff.1 ho').1
  have hjm : j < m := by
    rcases Nat.lt_or_ge j m with h | h
    · exact h
    · exfalso
      obtain ⟨oj, hoj, e, he, hb, hon⟩ := Region.waitsFor_spec (h2 j h hjl i0 h0)
      rw [ho] at hoj
      cases hoj
      have := hall e he hb
      rw [hon] at this
      simp [Array.getD_eq_getD_getElem?, hu] at this
  refine ⟨hjm, mem_ready.2 ⟨?_, o, by simp [hjm, ho'], fun e he hb => ?_⟩⟩
  · rw [Array.getD_eq_getD_getElem?] at hj1 ⊢
    rw [inv.same j hjm]; exact hj1
  · have hlt := (h3 j o hjm ho').1 e he hb
    have := hall e he hb
    rw [Array.getD_eq_getD_getElem?] at this ⊢
    rw [inv.same e.on (by omega)]; exact this

/-- The first operation of the head that has not come up is ready. -/
theorem least_ready {A B : Array Bool} (hs : splitB l.toArray m = true) (inv : SplitInv l m A B) {i0 : Nat} (h0 : i0 < m) (hu : A[i0]? = some false) : ∃ j, j ∈ Region.ready .any l.toArray A := by
  obtain ⟨h1, h2, h3, h4⟩ := splitB_spec hs
  induction i0 using Nat.strongRecOn with
  | _ i0 ih =>
    have hlt : i0 < l.length := by omega
    have ho : l[i0]? = some l[i0] := List.getElem?_eq_getElem hlt
    by_cases hall : ∀ e ∈ (l[i0]).after, Region.binds .any e = true → A.getD e.on false = true
    · exact ⟨i0, mem_ready.2 ⟨by simp [Array.getD_eq_getD_getElem?, hu], l[i0], by simp [hlt], hall⟩⟩
    · simp only [Classical.not_forall] at hall
      obtain ⟨e, he, hb, hne⟩ := hall
      have hon := (h3 i0 _ h0 ho).1 e he hb
      refine ih e.on hon (by omega) ?_
      have hsz : e.on < A.size := by rw [inv.sizeA]; omega
      rw [Array.getD_eq_getD_getElem?, Array.getElem?_eq_getElem hsz] at hne
      rw [Array.getElem?_eq_getElem hsz]
      simpa using hne

theorem wpAny_split (hs : splitB l.toArray m = true) : ∀ (f : Nat) (A B : Array Bool) (a : Act) (w : World), SplitInv l m A B →
    wpAny P .any (l.take m).toArray (headPost P l m Q) f B a w → wpAny P .any l.toArray Q (f + (l.length - m)) A a w := by
  obtain ⟨h1, h2, h3, h4⟩ := splitB_spec hs
  intro f
  induction f with
  | zero =>
    intro A B a w inv h
    by_cases hall : ∃ i0, i0 < m ∧ A[i0]? = some false
    · obtain ⟨i0, h0, hu⟩ := hall
      obtain ⟨j, hj⟩ := least_ready hs inv h0 hu
      have := (ready_head hs inv h0 hu hj).2
      rw [h.1] at this
      cases this
    · have hQ : wpList P l.toArray Q (l.drop m) a w := h.2
      have hA : A = Array.replicate m true ++ Array.replicate (l.length - m) false := by
        apply Array.ext
        · simp [inv.sizeA]; omega
        · intro i hi1 hi2
          rcases Nat.lt_or_ge i m with h | h
          · have h5 : A[i]? ≠ some false := fun e => hall ⟨i, h, e⟩
            rw [Array.getElem?_eq_getElem hi1] at h5
            rw [Array.getElem_append_left (by simpa using h)]
            simpa using h5
          · have h5 := inv.tail i h (by rw [← inv.sizeA]; exact hi1)
            rw [Array.getElem?_eq_getElem hi1] at h5
            rw [Array.getElem_append_right (by simpa using h)]
            simpa using h5
      have := wpAny_of_seq (md := .any) (Q' := Q) (l.drop m) m A a w (fun j => by simp [List.getElem?_drop]) (by rw [hA, List.length_drop]; exact h4) hQ
      rw [List.length_drop] at this
      rw [Nat.zero_add]; exact this
  | succ f ih =>
    intro A B a w inv h
    by_cases hall : ∃ i0, i0 < m ∧ A[i0]? = some false
    · obtain ⟨i0, h0, hu⟩ := hall
      rw [show f + 1 + (l.length - m) = (f + (l.length - m)) + 1 by omega]
      refine ⟨fun he => ?_, fun j hj => ?_⟩
      · obtain ⟨j, hj⟩ := least_ready hs inv h0 hu
        rw [he] at hj; cases hj
      · obtain ⟨hjm, hjB⟩ := ready_head hs inv h0 hu hj
        refine wpOp_headPost hjm (fun o k b ho hg => (h3 j o hjm ho).2 k b hg) (fun a' w' h' => ih _ _ a' w' ?_ h') (h.2 j hjB)
        refine ⟨by simp [inv.sizeA], by simp [inv.sizeB], fun i hi => ?_, fun t ht ht' => ?_⟩
        · have hiA : i < A.size := by rw [inv.sizeA]; omega
          have hiB : i < B.size := by rw [inv.sizeB]; omega
          have := inv.same i hi
          simp only [Array.getElem?_setIfInBounds]
          by_cases e : j = i
          · subst e; simp [hiA, hiB]
          · rw [if_neg e, if_neg e]; exact this
        · rw [Array.getElem?_setIfInBounds_ne (by omega)]
          exact inv.tail t ht ht'
    · have hQ : wpList P l.toArray Q (l.drop m) a w := by
        have hr : Region.ready .any (l.take m).toArray B = [] := by
          rw [List.eq_nil_iff_forall_not_mem]
          intro j hj
          obtain ⟨hj1, o, ho, _⟩ := mem_ready.1 hj
          have hjm : j < m := by
            have := (Array.getElem?_eq_some_iff.1 ho).1
            simp at this; omega
          refine hall ⟨j, hjm, ?_⟩
          rw [← inv.same j hjm]
          rw [Array.getD_eq_getD_getElem?] at hj1
          have hjB : j < B.size := by rw [inv.sizeB]; exact hjm
          rw [Array.getElem?_eq_getElem hjB] at hj1 ⊢
          simpa using hj1
        exact h.1 hr
      have hA : A = Array.replicate m true ++ Array.replicate (l.length - m) false := by
        apply Array.ext
        · simp [inv.sizeA]; omega
        · intro i hi1 hi2
          rcases Nat.lt_or_ge i m with h | h
          · have h5 : A[i]? ≠ some false := fun e => hall ⟨i, h, e⟩
            rw [Array.getElem?_eq_getElem hi1] at h5
            rw [Array.getElem_append_left (by simpa using h)]
            simpa using h5
          · have h5 := inv.tail i h (by rw [← inv.sizeA]; exact hi1)
            rw [Array.getElem?_eq_getElem hi1] at h5
            rw [Array.getElem_append_right (by simpa using h)]
            simpa using h5
      have := wpAny_of_seq (md := .any) (Q' := Q) (l.drop m) m A a w (fun j => by simp [List.getElem?_drop]) (by rw [hA, List.length_drop]; exact h4) hQ
      rw [List.length_drop] at this
      exact wpAny_more' _ this
end

/-- The region, by its head: at the head's end the tail goes on as a list. The head is handed over as 'wpAny'. -/
theorem wp_region_split {P : Program} {id : Nat} {Q : Exit → Act → World → Prop} {a : Act} {w : World} {l : List Oper} (m : Nat) (hm : P.follows .mixedOrders = true) (hB : splitB l.toArray m = true)
    (h : wpAny P .any (l.take m).toArray (headPost P l m Q) (l.take m).toArray.size (Array.replicate (l.take m).toArray.size false) a { w with drawn := w.drawn + 1 }) : (Code.region id l.toArray true).wp P Q a w := by
  have h1 := (splitB_spec hB).1
  have hl : (l.take m).toArray.size = m := by simp; omega
  rw [hl] at h
  refine wp_region_any hm ?_
  have := wpAny_split hB m (Array.replicate l.length false) (Array.replicate m false) a _ ⟨by simp, by simp, fun i hi => by simp [show i < l.length by omega, hi], fun t _ ht => by simp [ht]⟩ h
  rw [show m + (l.length - m) = l.length by omega] at this
  simpa using this

/-- The head only reads, and so do its callees: it is walked once, in the order of the text. -/
theorem wp_region_quiet_split {P : Program} {id : Nat} {Q : Exit → Act → World → Prop} {a : Act} {w : World} {l : List Oper} (m : Nat) (hm : P.follows .mixedOrders = true) (hB : splitB l.toArray m = true) (hL : Region.lexB .any (l.take m).toArray = true)
    (h : wpQuiet P (l.take m).toArray (fun w' => ∃ n, w' = w.drewN n) (fun a' => ∀ w', (∃ n, w' = w.drewN n) → wpList P l.toArray Q (l.drop m) a' w') (l.take m) a) : (Code.region id l.toArray true).wp P Q a w := by
  refine wp_region_split m hm hB ?_
  simp only [Region.lexB, Bool.and_eq_true] at hL
  refine wpAny_of_quiet (C := fun w' => ∃ n, w' = w.drewN n) (Q := fun a' => ∀ w', (∃ n, w' = w.drewN n) → headPost P l m Q .normal a' w') (fun _ w' hw' h => h w' hw') _ _ _ _ ⟨1, rfl⟩ ?_
  have := wpAnyQ_lex (C := fun w' => ∃ n, w' = w.drewN n) (md := .any) hL.1 (l.take m) 0 (Array.replicate (l.take m).toArray.size false) a (by simp) (by simpa using hL.2) h
  simpa [headPost] using this
/-- Its callees may make blocks of their own. -/
theorem wp_region_below_split {P : Program} {id : Nat} {Q : Exit → Act → World → Prop} {a : Act} {w : World} {l : List Oper} (m : Nat) (hm : P.follows .mixedOrders = true) (hB : splitB l.toArray m = true) (hL : Region.lexB .any (l.take m).toArray = true)
    (h : wpQuiet P (l.take m).toArray (fun w' => ∃ p : Regrown, w' = Go.Sort.grow (redrawn w p.d) p.os) (fun a' => ∀ w', (∃ p : Regrown, w' = Go.Sort.grow (redrawn w p.d) p.os) → wpList P l.toArray Q (l.drop m) a' w') (l.take m) a) : (Code.region id l.toArray true).wp P Q a w := by
  refine wp_region_split m hm hB ?_
  simp only [Region.lexB, Bool.and_eq_true] at hL
  refine wpAny_of_quiet (C := fun w' => ∃ p : Regrown, w' = Go.Sort.grow (redrawn w p.d) p.os) (Q := fun a' => ∀ w', (∃ p : Regrown, w' = Go.Sort.grow (redrawn w p.d) p.os) → headPost P l m Q .normal a' w') (fun _ w' hw' h => h w' hw') _ _ _ _ ⟨⟨w.drawn + 1, #[]⟩, by rw [Go.Sort.grow_empty]; rfl⟩ ?_
  have := wpAnyQ_lex (C := fun w' => ∃ p : Regrown, w' = Go.Sort.grow (redrawn w p.d) p.os) (md := .any) hL.1 (l.take m) 0 (Array.replicate (l.take m).toArray.size false) a (by simp) (by simpa using hL.2) h
  simpa [headPost] using this
end Go.Proofs.YtldkjkjpaiajlaaGreatDoor

namespace Go.Proofs.YtldkjkjpaiajlaaGreatDoor
open Go

/-- Operation t waits for operation i, over operations of the head in between. -/
def reachB (ops : Array Oper) (m : Nat) : Nat → Nat → Nat → Bool
  | 0, t, i => Region.waitsFor .any ops t i
  | f + 1, t, i => Region.waitsFor .any ops t i || (List.range m).any fun k => Region.waitsFor .any ops t k && reachB ops m f k i
/-- The head's operations wait for earlier ones alone; the tail's wait for all of the head, and come one by one. -/
def splitB2 (ops : Array Oper) (m : Nat) : Bool :=
  decide (m ≤ ops.size) &&
  ((List.range ops.size).all fun t => decide (t < m) || (List.range m).all fun i => reachB ops m 8 t i) &&
  ((List.range m).all fun j => match ops[j]? with
    | some o => (o.after.all fun e => !Region.binds .any e || decide (e.on < j)) && (match o.guard with | none => true | some (k, _) => decide (k < m))
    | none => false) &&
  Region.seqB .any ops (ops.size - m) m (Array.replicate m true ++ Array.replicate (ops.size - m) false)

section
variable {P : Program} {l : List Oper} {m : Nat} {Q : Exit → Act → World → Prop}
/-- What holds of the two lists of what has come up. -/
structure SplitInv2 (l : List Oper) (m : Nat) (A B : Array Bool) : Prop where
  sizeA : A.size = l.length
  sizeB : B.size = m
  same : ∀ i, i < m → B[i]? = A[i]?
  tail : ∀ t, m ≤ t → t < l.length → A[t]? = some false
  closed : ∀ j o, j < m → l[j]? = some o → A[j]? = some true → ∀ e ∈ o.after, Region.binds .any e = true → A[e.on]? = some true
theorem SplitInv2.back {A B : Array Bool} (inv : SplitInv2 l m A B) :
    ∀ f t i o, l[t]? = some o → (∀ e ∈ o.after, Region.binds .any e = true → A.getD e.on false = true) → reachB l.toArray m f t i = true → A[i]? = some true := by
  have one : ∀ t i o, l[t]? = some o → (∀ e ∈ o.after, Region.binds .any e = true → A.getD e.on false = true) → Region.waitsFor .any l.toArray t i = true → A[i]? = some true := by
    intro t i o ho hall hw
    obtain ⟨oj, hoj, e, he, hb, hon⟩ := Region.waitsFor_spec hw
    have : l.toArray[t]? = some o := by simpa using ho
    rw [this] at hoj
    cases hoj
    have := hall e he hb
    rw [hon, Array.getD_eq_getD_getElem?] at this
    cases h : A[i]? with
    | none => rw [h] at this; cases this
    | some x => rw [h] at this; simp at this; rw [this]
  intro f
  induction f with
  | zero => intro t i o ho hall hr; exact one t i o ho hall hr
  | succ f ih =>
    intro t i o ho hall hr
    unfold reachB at hr
    simp only [Bool.or_eq_true, List.any_eq_true, List.mem_range, Bool.and_eq_true] at hr
    rcases hr with hr | ⟨k, hk, h1, h2⟩
    · exact one t i o ho hall hr
    · have hk1 := one t k o ho hall h1
      have hkl : k < l.length := by have := (Array.getElem?_eq_some_iff.1 hk1).1; rw [inv.sizeA] at this; exact this
      refine ih k i l[k] (List.getElem?_eq_getElem hkl) (fun e he hb => ?_) h2
      rw [Array.getD_eq_getD_getElem?, inv.closed k l[k] hk (List.getElem?_eq_getElem hkl) hk1 e he hb]
      rfl

theorem splitB2_spec (h : splitB2 l.toArray m = true) : m ≤ l.length ∧ (∀ t, m ≤ t → t < l.length → ∀ i, i < m → reachB l.toArray m 8 t i = true) ∧
    (∀ j o, j < m → l[j]? = some o → (∀ e ∈ o.after, Region.binds .any e = true → e.on < j) ∧ ∀ k b, o.guard = some (k, b) → k < m) ∧
    Region.seqB .any l.toArray (l.length - m) m (Array.replicate m true ++ Array.replicate (l.length - m) false) = true := by
  unfold splitB2 at h
  simp only [Bool.and_eq_true, decide_eq_true_eq, List.all_eq_true, List.mem_range, Bool.or_eq_true, List.size_toArray] at h
  obtain ⟨⟨⟨h1, h2⟩, h3⟩, h4⟩ := h
  refine ⟨h1, fun t ht ht' i hi => ?_, fun j o hj ho => ?_, h4⟩
  · rcases h2 t ht' with h | h
    · omega
    · exact h i hi
  · have := h3 j hj
    rw [show l.toArray[j]? = some o by simpa using ho] at this
    simp only [Bool.and_eq_true, Array.all_eq_true'] at this
    refine ⟨fun e he hb => ?_, fun k b hg => ?_⟩
    · have h5 := this.1 e he
      simp [hb] at h5
      exact h5
    · have h6 := this.2
      rw [hg] at h6
      simpa using h6

theorem ready_head2 {A B : Array Bool} (hs : splitB2 l.toArray m = true) (inv : SplitInv2 l m A B) {i0 : Nat} (h0 : i0 < m) (hu : A[i0]? = some false) {j : Nat} (hj : j ∈ Region.ready .any l.toArray A) :
    j < m ∧ j ∈ Region.ready .any (l.take m).toArray B := by
  obtain ⟨h1, h2, h3, h4⟩ := splitB2_spec hs
  obtain ⟨hj1, o, ho, hall⟩ := mem_ready.1 hj
  have ho' : l[j]? = some o := by simpa using ho
  have hjl : j < l.length := (List.getElem?_eq_some_iff.1 ho').1
  have hjm : j < m := by
    rcases Nat.lt_or_ge j m with h | h
    · exact h
    · exfalso
      have := inv.back 8 j i0 o ho' hall (h2 j h hjl i0 h0)
      rw [hu] at this
      cases this
  refine ⟨hjm, mem_ready.2 ⟨?_, o, by simp [hjm, ho'], fun e he hb => ?_⟩⟩
  · rw [Array.getD_eq_getD_getElem?] at hj1 ⊢
    rw [inv.same j hjm]; exact hj1
  · have hlt := (h3 j o hjm ho').1 e he hb
    have := hall e he hb
    rw [Array.getD_eq_getD_getElem?] at this ⊢
    rw [inv.same e.on (by omega)]; exact this

/-- The first operation of the head that has not come up is ready. -/
theorem least_ready2 {A B : Array Bool} (hs : splitB2 l.toArray m = true) (inv : SplitInv2 l m A B) {i0 : Nat} (h0 : i0 < m) (hu : A[i0]? = some false) : ∃ j, j ∈ Region.ready .any l.toArray A := by
  obtain ⟨h1, h2, h3, h4⟩ := splitB2_spec hs
  induction i0 using Nat.strongRecOn with
  | _ i0 ih =>
    have hlt : i0 < l.length := by omega
    have ho : l[i0]? = some l[i0] := List.getElem?_eq_getElem hlt
    by_cases hall : ∀ e ∈ (l[i0]).after, Region.binds .any e = true → A.getD e.on false = true
    · exact ⟨i0, mem_ready.2 ⟨by simp [Array.getD_eq_getD_getElem?, hu], l[i0], by simp [hlt], hall⟩⟩
    · simp only [Classical.not_forall] at hall
      obtain ⟨e, he, hb, hne⟩ := hall
      have hon := (h3 i0 _ h0 ho).1 e he hb
      refine ih e.on hon (by omega) ?_
      have hsz : e.on < A.size := by rw [inv.sizeA]; omega
      rw [Array.getD_eq_getD_getElem?, Array.getElem?_eq_getElem hsz] at hne
      rw [Array.getElem?_eq_getElem hsz]
      simpa using hne

theorem wpAny_split2 (hs : splitB2 l.toArray m = true) : ∀ (f : Nat) (A B : Array Bool) (a : Act) (w : World), SplitInv2 l m A B →
    wpAny P .any (l.take m).toArray (headPost P l m Q) f B a w → wpAny P .any l.toArray Q (f + (l.length - m)) A a w := by
  obtain ⟨h1, h2, h3, h4⟩ := splitB2_spec hs
  intro f
  induction f with
  | zero =>
    intro A B a w inv h
    by_cases hall : ∃ i0, i0 < m ∧ A[i0]? = some false
    · obtain ⟨i0, h0, hu⟩ := hall
      obtain ⟨j, hj⟩ := least_ready2 hs inv h0 hu
      have := (ready_head2 hs inv h0 hu hj).2
      rw [h.1] at this
      cases this
    · have hQ : wpList P l.toArray Q (l.drop m) a w := h.2
      have hA : A = Array.replicate m true ++ Array.replicate (l.length - m) false := by
        apply Array.ext
        · simp [inv.sizeA]; omega
        · intro i hi1 hi2
          rcases Nat.lt_or_ge i m with h | h
          · have h5 : A[i]? ≠ some false := fun e => hall ⟨i, h, e⟩
            rw [Array.getElem?_eq_getElem hi1] at h5
            rw [Array.getElem_append_left (by simpa using h)]
            simpa using h5
          · have h5 := inv.tail i h (by rw [← inv.sizeA]; exact hi1)
            rw [Array.getElem?_eq_getElem hi1] at h5
            rw [Array.getElem_append_right (by simpa using h)]
            simpa using h5
      have := wpAny_of_seq (md := .any) (Q' := Q) (l.drop m) m A a w (fun j => by simp [List.getElem?_drop]) (by rw [hA, List.length_drop]; exact h4) hQ
      rw [List.length_drop] at this
      rw [Nat.zero_add]; exact this
  | succ f ih =>
    intro A B a w inv h
    by_cases hall : ∃ i0, i0 < m ∧ A[i0]? = some false
    · obtain ⟨i0, h0, hu⟩ := hall
      rw [show f + 1 + (l.length - m) = (f + (l.length - m)) + 1 by omega]
      refine ⟨fun he => ?_, fun j hj => ?_⟩
      · obtain ⟨j, hj⟩ := least_ready2 hs inv h0 hu
        rw [he] at hj; cases hj
      · obtain ⟨hjm, hjB⟩ := ready_head2 hs inv h0 hu hj
        refine wpOp_headPost hjm (fun o k b ho hg => (h3 j o hjm ho).2 k b hg) (fun a' w' h' => ih _ _ a' w' ?_ h') (h.2 j hjB)
        refine ⟨by simp [inv.sizeA], by simp [inv.sizeB], fun i hi => ?_, fun t ht ht' => ?_, fun j' o' hj' ho' hA' e he hb => ?_⟩
        · have hiA : i < A.size := by rw [inv.sizeA]; omega
          have hiB : i < B.size := by rw [inv.sizeB]; omega
          have := inv.same i hi
          simp only [Array.getElem?_setIfInBounds]
          by_cases e : j = i
          · subst e; simp [hiA, hiB]
          · rw [if_neg e, if_neg e]; exact this
        · rw [Array.getElem?_setIfInBounds_ne (by omega)]
          exact inv.tail t ht ht'
        · by_cases e1 : e.on = j
          · rw [e1, Array.getElem?_setIfInBounds]
            have : j < A.size := by rw [inv.sizeA]; omega
            simp [this]
          · rw [Array.getElem?_setIfInBounds_ne (by omega)]
            by_cases e2 : j' = j
            · subst e2
              obtain ⟨_, o2, ho2, hall2⟩ := mem_ready.1 hj
              have h9 : l.toArray[j']? = some o' := by simpa using ho'
              rw [h9] at ho2
              cases ho2
              have := hall2 e he hb
              rw [Array.getD_eq_getD_getElem?] at this
              cases h : A[e.on]? with
              | none => rw [h] at this; cases this
              | some x => rw [h] at this; simp at this; rw [this]
            · rw [Array.getElem?_setIfInBounds_ne (by omega)] at hA'
              exact inv.closed j' o' hj' ho' hA' e he hb
    · have hQ : wpList P l.toArray Q (l.drop m) a w := by
        have hr : Region.ready .any (l.take m).toArray B = [] := by
          rw [List.eq_nil_iff_forall_not_mem]
          intro j hj
          obtain ⟨hj1, o, ho, _⟩ := mem_ready.1 hj
          have hjm : j < m := by
            have := (Array.getElem?_eq_some_iff.1 ho).1
            simp at this; omega
          refine hall ⟨j, hjm, ?_⟩
          rw [← inv.same j hjm]
          rw [Array.getD_eq_getD_getElem?] at hj1
          have hjB : j < B.size := by rw [inv.sizeB]; exact hjm
          rw [Array.getElem?_eq_getElem hjB] at hj1 ⊢
          simpa using hj1
        exact h.1 hr
      have hA : A = Array.replicate m true ++ Array.replicate (l.length - m) false := by
        apply Array.ext
        · simp [inv.sizeA]; omega
        · intro i hi1 hi2
          rcases Nat.lt_or_ge i m with h | h
          · have h5 : A[i]? ≠ some false := fun e => hall ⟨i, h, e⟩
            rw [Array.getElem?_eq_getElem hi1] at h5
            rw [Array.getElem_append_left (by simpa using h)]
            simpa using h5
          · have h5 := inv.tail i h (by rw [← inv.sizeA]; exact hi1)
            rw [Array.getElem?_eq_getElem hi1] at h5
            rw [Array.getElem_append_right (by simpa using h)]
            simpa using h5
      have := wpAny_of_seq (md := .any) (Q' := Q) (l.drop m) m A a w (fun j => by simp [List.getElem?_drop]) (by rw [hA, List.length_drop]; exact h4) hQ
      rw [List.length_drop] at this
      exact wpAny_more' _ this
end

/-- The region, by its head: at the head's end the tail goes on as a list. The head is handed over as 'wpAny'. -/
theorem wp_region_split2 {P : Program} {id : Nat} {Q : Exit → Act → World → Prop} {a : Act} {w : World} {l : List Oper} (m : Nat) (hm : P.follows .mixedOrders = true) (hB : splitB2 l.toArray m = true)
    (h : wpAny P .any (l.take m).toArray (headPost P l m Q) (l.take m).toArray.size (Array.replicate (l.take m).toArray.size false) a { w with drawn := w.drawn + 1 }) : (Code.region id l.toArray true).wp P Q a w := by
  have h1 := (splitB2_spec hB).1
  have hl : (l.take m).toArray.size = m := by simp; omega
  rw [hl] at h
  refine wp_region_any hm ?_
  have := wpAny_split2 hB m (Array.replicate l.length false) (Array.replicate m false) a _ ⟨by simp, by simp, fun i hi => by simp [show i < l.length by omega, hi], fun t _ ht => by simp [ht], fun j o _ ho hA => by have := (List.getElem?_eq_some_iff.1 ho).1; simp [this] at hA⟩ h
  rw [show m + (l.length - m) = l.length by omega] at this
  simpa using this

/-- Its callees may make blocks of their own. -/
theorem wp_region_below_split2 {P : Program} {id : Nat} {Q : Exit → Act → World → Prop} {a : Act} {w : World} {l : List Oper} (m : Nat) (hm : P.follows .mixedOrders = true) (hB : splitB2 l.toArray m = true) (hL : Region.lexB .any (l.take m).toArray = true)
    (h : wpQuiet P (l.take m).toArray (fun w' => ∃ p : Regrown, w' = Go.Sort.grow (redrawn w p.d) p.os) (fun a' => ∀ w', (∃ p : Regrown, w' = Go.Sort.grow (redrawn w p.d) p.os) → wpList P l.toArray Q (l.drop m) a' w') (l.take m) a) : (Code.region id l.toArray true).wp P Q a w := by
  refine wp_region_split2 m hm hB ?_
  simp only [Region.lexB, Bool.and_eq_true] at hL
  refine wpAny_of_quiet (C := fun w' => ∃ p : Regrown, w' = Go.Sort.grow (redrawn w p.d) p.os) (Q := fun a' => ∀ w', (∃ p : Regrown, w' = Go.Sort.grow (redrawn w p.d) p.os) → headPost P l m Q .normal a' w') (fun _ w' hw' h => h w' hw') _ _ _ _ ⟨⟨w.drawn + 1, #[]⟩, by rw [Go.Sort.grow_empty]; rfl⟩ ?_
  have := wpAnyQ_lex (C := fun w' => ∃ p : Regrown, w' = Go.Sort.grow (redrawn w p.d) p.os) (md := .any) hL.1 (l.take m) 0 (Array.replicate (l.take m).toArray.size false) a (by simp) (by simpa using hL.2) h
  simpa [headPost] using this
end Go.Proofs.YtldkjkjpaiajlaaGreatDoor

namespace Go.Proofs.YtldkjkjpaiajlaaGreatDoor
open Go

/-- The head's operations wait for earlier ones alone; the tail's wait for all of the head, and come one by one. -/
def splitB3 (ops : Array Oper) (m : Nat) : Bool :=
  decide (m ≤ ops.size) &&
  ((List.range ops.size).all fun t => decide (t < m) || (List.range ops.size).any (fun k => decide (m ≤ k) && Region.waitsFor .any ops t k) || (List.range m).all fun i => reachB ops m 8 t i) &&
  ((List.range m).all fun j => match ops[j]? with
    | some o => (o.after.all fun e => !Region.binds .any e || decide (e.on < j)) && (match o.guard with | none => true | some (k, _) => decide (k < m))
    | none => false) &&
  Region.seqB .any ops (ops.size - m) m (Array.replicate m true ++ Array.replicate (ops.size - m) false)

section
variable {P : Program} {l : List Oper} {m : Nat} {Q : Exit → Act → World → Prop}
theorem splitB3_spec (h : splitB3 l.toArray m = true) : m ≤ l.length ∧ (∀ t, m ≤ t → t < l.length → (∃ k, m ≤ k ∧ k < l.length ∧ Region.waitsFor .any l.toArray t k = true) ∨ ∀ i, i < m → reachB l.toArray m 8 t i = true) ∧
    (∀ j o, j < m → l[j]? = some o → (∀ e ∈ o.after, Region.binds .any e = true → e.on < j) ∧ ∀ k b, o.guard = some (k, b) → k < m) ∧
    Region.seqB .any l.toArray (l.length - m) m (Array.replicate m true ++ Array.replicate (l.length - m) false) = true := by
  unfold splitB3 at h
  simp only [Bool.and_eq_true, decide_eq_true_eq, List.all_eq_true, List.mem_range, Bool.or_eq_true, List.size_toArray] at h
  obtain ⟨⟨⟨h1, h2⟩, h3⟩, h4⟩ := h
  refine ⟨h1, fun t ht ht' => ?_, fun j o hj ho => ?_, h4⟩
  · rcases h2 t ht' with (h | h) | h
    · omega
    · rw [List.any_eq_true] at h
      obtain ⟨k, hk, h⟩ := h
      rw [List.mem_range] at hk
      simp only [Bool.and_eq_true, decide_eq_true_eq] at h
      exact .inl ⟨k, h.1, hk, h.2⟩
    · exact .inr fun i hi => h i hi
  · have := h3 j hj
    rw [show l.toArray[j]? = some o by simpa using ho] at this
    simp only [Bool.and_eq_true, Array.all_eq_true'] at this
    refine ⟨fun e he hb => ?_, fun k b hg => ?_⟩
    · have h5 := this.1 e he
      simp [hb] at h5
      exact h5
    · have h6 := this.2
      rw [hg] at h6
      simpa using h6

theorem ready_head3 {A B : Array Bool} (hs : splitB3 l.toArray m = true) (inv : SplitInv2 l m A B) {i0 : Nat} (h0 : i0 < m) (hu : A[i0]? = some false) {j : Nat} (hj : j ∈ Region.ready .any l.toArray A) :
    j < m ∧ j ∈ Region.ready .any (l.take m).toArray B := by
  obtain ⟨h1, h2, h3, h4⟩ := splitB3_spec hs
  obtain ⟨hj1, o, ho, hall⟩ := mem_ready.1 hj
  have ho' : l[j]? = some o := by simpa using ho
  have hjl : j < l.length := (List.getElem?_eq_some_iff.1 ho').1
  have hjm : j < m := by
    rcases Nat.lt_or_ge j m with h | h
    · exact h
    · exfalso
      rcases h2 j h hjl with ⟨k, hk1, hk2, hkw⟩ | hall2
      · obtain ⟨oj, hoj, e, he, hb, hon⟩ := Region.waitsFor_spec hkw
        rw [ho] at hoj
        cases hoj
        have h5 := hall e he hb
        rw [hon, Array.getD_eq_getD_getElem?, inv.tail k hk1 hk2] at h5
        cases h5
      · have := inv.back 8 j i0 o ho' hall (hall2 i0 h0)
        rw [hu] at this
        cases this
  refine ⟨hjm, mem_ready.2 ⟨?_, o, by simp [hjm, ho'], fun e he hb => ?_⟩⟩
  · rw [Array.getD_eq_getD_getElem?] at hj1 ⊢
    rw [inv.same j hjm]; exact hj1
  · have hlt := (h3 j o hjm ho').1 e he hb
    have := hall e he hb
    rw [Array.getD_eq_getD_getElem?] at this ⊢
    rw [inv.same e.on (by omega)]; exact this

/-- The first operation of the head that has not come up is ready. -/
theorem least_ready3 {A B : Array Bool} (hs : splitB3 l.toArray m = true) (inv : SplitInv2 l m A B) {i0 : Nat} (h0 : i0 < m) (hu : A[i0]? = some false) : ∃ j, j ∈ Region.ready .any l.toArray A := by
  obtain ⟨h1, h2, h3, h4⟩ := splitB3_spec hs
  induction i0 using Nat.strongRecOn with
  | _ i0 ih =>
    have hlt : i0 < l.length := by omega
    have ho : l[i0]? = some l[i0] := List.getElem?_eq_getElem hlt
    by_cases hall : ∀ e ∈ (l[i0]).after, Region.binds .any e = true → A.getD e.on false = true
    · exact ⟨i0, mem_ready.2 ⟨by simp [Array.getD_eq_getD_getElem?, hu], l[i0], by simp [hlt], hall⟩⟩
    · simp only [Classical.not_forall] at hall
      obtain ⟨e, he, hb, hne⟩ := hall
      have hon := (h3 i0 _ h0 ho).1 e he hb
      refine ih e.on hon (by omega) ?_
      have hsz : e.on < A.size := by rw [inv.sizeA]; omega
      rw [Array.getD_eq_getD_getElem?, Array.getElem?_eq_getElem hsz] at hne
      rw [Array.getElem?_eq_getElem hsz]
      simpa using hne

theorem wpAny_split3 (hs : splitB3 l.toArray m = true) : ∀ (f : Nat) (A B : Array Bool) (a : Act) (w : World), SplitInv2 l m A B →
    wpAny P .any (l.take m).toArray (headPost P l m Q) f B a w → wpAny P .any l.toArray Q (f + (l.length - m)) A a w := by
  obtain ⟨h1, h2, h3, h4⟩ := splitB3_spec hs
  intro f
  induction f with
  | zero =>
    intro A B a w inv h
    by_cases hall : ∃ i0, i0 < m ∧ A[i0]? = some false
    · obtain ⟨i0, h0, hu⟩ := hall
      obtain ⟨j, hj⟩ := least_ready3 hs inv h0 hu
      have := (ready_head3 hs inv h0 hu hj).2
      rw [h.1] at this
      cases this
    · have hQ : wpList P l.toArray Q (l.drop m) a w := h.2
      have hA : A = Array.replicate m true ++ Array.replicate (l.length - m) false := by
        apply Array.ext
        · simp [inv.sizeA]; omega
        · intro i hi1 hi2
          rcases Nat.lt_or_ge i m with h | h
          · have h5 : A[i]? ≠ some false := fun e => hall ⟨i, h, e⟩
            rw [Array.getElem?_eq_getElem hi1] at h5
            rw [Array.getElem_append_left (by simpa using h)]
            simpa using h5
          · have h5 := inv.tail i h (by rw [← inv.sizeA]; exact hi1)
            rw [Array.getElem?_eq_getElem hi1] at h5
            rw [Array.getElem_append_right (by simpa using h)]
            simpa using h5
      have := wpAny_of_seq (md := .any) (Q' := Q) (l.drop m) m A a w (fun j => by simp [List.getElem?_drop]) (by rw [hA, List.length_drop]; exact h4) hQ
      rw [List.length_drop] at this
      rw [Nat.zero_add]; exact this
  | succ f ih =>
    intro A B a w inv h
    by_cases hall : ∃ i0, i0 < m ∧ A[i0]? = some false
    · obtain ⟨i0, h0, hu⟩ := hall
      rw [show f + 1 + (l.length - m) = (f + (l.length - m)) + 1 by omega]
      refine ⟨fun he => ?_, fun j hj => ?_⟩
      · obtain ⟨j, hj⟩ := least_ready3 hs inv h0 hu
        rw [he] at hj; cases hj
      · obtain ⟨hjm, hjB⟩ := ready_head3 hs inv h0 hu hj
        refine wpOp_headPost hjm (fun o k b ho hg => (h3 j o hjm ho).2 k b hg) (fun a' w' h' => ih _ _ a' w' ?_ h') (h.2 j hjB)
        refine ⟨by simp [inv.sizeA], by simp [inv.sizeB], fun i hi => ?_, fun t ht ht' => ?_, fun j' o' hj' ho' hA' e he hb => ?_⟩
        · have hiA : i < A.size := by rw [inv.sizeA]; omega
          have hiB : i < B.size := by rw [inv.sizeB]; omega
          have := inv.same i hi
          simp only [Array.getElem?_setIfInBounds]
          by_cases e : j = i
          · subst e; simp [hiA, hiB]
          · rw [if_neg e, if_neg e]; exact this
        · rw [Array.getElem?_setIfInBounds_ne (by omega)]
          exact inv.tail t ht ht'
        · by_cases e1 : e.on = j
          · rw [e1, Array.getElem?_setIfInBounds]
            have : j < A.size := by rw [inv.sizeA]; omega
            simp [this]
          · rw [Array.getElem?_setIfInBounds_ne (by omega)]
            by_cases e2 : j' = j
            · subst e2
              obtain ⟨_, o2, ho2, hall2⟩ := mem_ready.1 hj
              have h9 : l.toArray[j']? = some o' := by simpa using ho'
              rw [h9] at ho2
              cases ho2
              have := hall2 e he hb
              rw [Array.getD_eq_getD_getElem?] at this
              cases h : A[e.on]? with
              | none => rw [h] at this; cases this
              | some x => rw [h] at this; simp at this; rw [this]
            · rw [Array.getElem?_setIfInBounds_ne (by omega)] at hA'
              exact inv.closed j' o' hj' ho' hA' e he hb
    · have hQ : wpList P l.toArray Q (l.drop m) a w := by
        have hr : Region.ready .any (l.take m).toArray B = [] := by
          rw [List.eq_nil_iff_forall_not_mem]
          intro j hj
          obtain ⟨hj1, o, ho, _⟩ := mem_ready.1 hj
          have hjm : j < m := by
            have := (Array.getElem?_eq_some_iff.1 ho).1
            simp at this; omega
          refine hall ⟨j, hjm, ?_⟩
          rw [← inv.same j hjm]
          rw [Array.getD_eq_getD_getElem?] at hj1
          have hjB : j < B.size := by rw [inv.sizeB]; exact hjm
          rw [Array.getElem?_eq_getElem hjB] at hj1 ⊢
          simpa using hj1
        exact h.1 hr
      have hA : A = Array.replicate m true ++ Array.replicate (l.length - m) false := by
        apply Array.ext
        · simp [inv.sizeA]; omega
        · intro i hi1 hi2
          rcases Nat.lt_or_ge i m with h | h
          · have h5 : A[i]? ≠ some false := fun e => hall ⟨i, h, e⟩
            rw [Array.getElem?_eq_getElem hi1] at h5
            rw [Array.getElem_append_left (by simpa using h)]
            simpa using h5
          · have h5 := inv.tail i h (by rw [← inv.sizeA]; exact hi1)
            rw [Array.getElem?_eq_getElem hi1] at h5
            rw [Array.getElem_append_right (by simpa using h)]
            simpa using h5
      have := wpAny_of_seq (md := .any) (Q' := Q) (l.drop m) m A a w (fun j => by simp [List.getElem?_drop]) (by rw [hA, List.length_drop]; exact h4) hQ
      rw [List.length_drop] at this
      exact wpAny_more' _ this
end

/-- The region, by its head: at the head's end the tail goes on as a list. The head is handed over as 'wpAny'. -/
theorem wp_region_split3 {P : Program} {id : Nat} {Q : Exit → Act → World → Prop} {a : Act} {w : World} {l : List Oper} (m : Nat) (hm : P.follows .mixedOrders = true) (hB : splitB3 l.toArray m = true)
    (h : wpAny P .any (l.take m).toArray (headPost P l m Q) (l.take m).toArray.size (Array.replicate (l.take m).toArray.size false) a { w with drawn := w.drawn + 1 }) : (Code.region id l.toArray true).wp P Q a w := by
  have h1 := (splitB3_spec hB).1
  have hl : (l.take m).toArray.size = m := by simp; omega
  rw [hl] at h
  refine wp_region_any hm ?_
  have := wpAny_split3 hB m (Array.replicate l.length false) (Array.replicate m false) a _ ⟨by simp, by simp, fun i hi => by simp [show i < l.length by omega, hi], fun t _ ht => by simp [ht], fun j o _ ho hA => by have := (List.getElem?_eq_some_iff.1 ho).1; simp [this] at hA⟩ h
  rw [show m + (l.length - m) = l.length by omega] at this
  simpa using this

end Go.Proofs.YtldkjkjpaiajlaaGreatDoor
