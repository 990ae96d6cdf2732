/-
  A region whose order is open, with one new variable that may be made at any time: all other operations give one value each.
  A region whose order is open, with one new block that may be made at any time (a literal, a new variable): all other operations give one value each.
-/
import Derived.Test.YtldkjkjpaiajlaaGreatDoorPa05
import Derived.Great.BuildSlice
namespace Go.Proofs.YtldkjkjpaiajlaaGreatDoor
open Go

section
variable {P : Program}
theorem frameAll_congr {ops : Array Oper} {f g : Nat → Value} {a : Act} : ∀ n, (∀ i, i < n → f i = g i) → frameAll ops f a n = frameAll ops g a n
  | 0, _ => rfl
  | n + 1, h => by
    unfold frameAll
    rw [frameAll_congr n (fun i hi => h i (by omega)), h n (by omega)]
theorem frameAll_eval {ops : Array Oper} {f g : Nat → Value} {a : Act} {x : Operand} : ∀ n, (∀ j d, j < n → (ops[j]?).bind (·.dst) = some d → x = .tmp d → f j = g j) → (frameAll ops f a n).eval x = (frameAll ops g a n).eval x
  | 0, _ => rfl
  | n + 1, h => by
    have ih := frameAll_eval (f := f) (g := g) (a := a) (x := x) n (fun j d hj => h j d (by omega))
    unfold frameAll
    cases hd : (ops[n]?).bind (·.dst) with
    | none => exact ih
    | some d =>
      by_cases hx : x = .tmp d
      · have e := h n d (by omega) hd hx
        subst hx
        have hz : ∀ m, (frameAll ops f a m).tmps.size = (frameAll ops g a m).tmps.size := by
          intro m
          induction m with
          | zero => rfl
          | succ m ihm =>
            unfold frameAll
            have e : ∀ (b : Act) (o : Option Tmp) (v : Value), (b.put o v).tmps.size = b.tmps.size := fun b o v => by cases o <;> simp [Act.put]
            simp only [e]
            exact ihm
        show (((frameAll ops f a n).tmps.setIfInBounds d (f n)).getD d undef) = (((frameAll ops g a n).tmps.setIfInBounds d (g n)).getD d undef)
        rw [Array.getD_eq_getD_getElem?, Array.getD_eq_getD_getElem?, Array.getElem?_setIfInBounds, Array.getElem?_setIfInBounds, hz n, if_pos rfl, if_pos rfl, e]
      · rw [Act.eval_put (fun e he => by cases he; exact hx), Act.eval_put (fun e he => by cases he; exact hx)]
        exact ih
theorem opV_congr {o : Oper} {ρ ρ' : Operand → Value} {w : World} {K : Value → World → Prop} (hs : ∀ cs b, o.op ≠ .select cs b) (he : ∀ x ∈ o.op.operands, ρ x = ρ' x) (h : opV P o ρ' w K) : opV P o ρ w K := by
  refine ⟨?_⟩
  have h := h.out
  unfold opVx at *
  rw [execOp_congr o hs he]
  exact h
theorem opV_mono {o : Oper} {ρ : Operand → Value} {w : World} {K K' : Value → World → Prop} (h : opV P o ρ w K) (hK : ∀ v w', K v w' → K' v w') : opV P o ρ w K' := by
  refine ⟨?_⟩
  have h := h.out
  unfold opVx at *
  generalize (execOp ρ o).run P w = r at *
  cases r with
  | ok n w' =>
    cases n
    case value v => exact hK _ _ h
    case skip => exact hK _ _ h
    case enter f args =>
      refine Calls.mono h fun e w'' hh => ?_
      obtain ⟨u, rfl, hk⟩ := hh
      exact ⟨u, rfl, hK _ _ hk⟩
    all_goals exact h.elim
  | halt x w' => exact h.elim
/-- One new variable (operation ia), values for all others. -/
theorem region_alloc1 {id : Nat} {Q : Exit → Act → World → Prop} {a fr : Act} {w : World} {l : List Oper} (m ia : Nat) (T : TypeId) (z : Array Value) (val : Nat → Value) (hm : P.follows .mixedOrders = true) (hB : splitB3 l.toArray m = true)
    (ht : tidyB (l.take m).toArray = true) (hns : Region.noSelect (l.take m).toArray = true) (hdep : ((List.range m).all fun i => !Region.waitsFor .any (l.take m).toArray i ia) = true) (hia : ia < m) (hml : m ≤ l.length)
    (hal : ∃ o, l[ia]? = some o ∧ ∀ ρ W, (execOp ρ o).run P W = .ok (.value (.pointer (some ⟨W.heap.size, 0, none⟩))) (W.alloc (.cells z T)))
    (hfr : frameAll (l.take m).toArray val a m = fr)
    (hstep : ∀ i o W, i < m → i ≠ ia → l[i]? = some o → Only (fun _ => False) w W → opV P o fr.eval W (fun v W' => v = val i ∧ Only (fun _ => False) W W'))
    (hend : ∀ g W, w.heap.size ≤ g → W.heap[g]? = some (.cells z T (0, 0)) → Only (fun _ => False) w W → wpList P l.toArray Q (l.drop m) (frameAll (l.take m).toArray (updF val ia (.pointer (some ⟨g, 0, none⟩))) a m) W) :
    (Code.region id l.toArray true).wp P Q a w := by
  have hsz : (l.take m).toArray.size = m := by simp; omega
  have hget : ∀ i, i < m → (l.take m).toArray[i]? = l[i]? := fun i hi => by
    rw [List.getElem?_toArray, List.getElem?_take, if_pos hi]
  refine wp_region_split3 m hm hB ?_
  refine wpAny_by_facts a { w with drawn := w.drawn + 1 } (fun i v W => if i = ia then ∃ g, v = .pointer (some ⟨g, 0, none⟩) ∧ w.heap.size ≤ g ∧ W.heap[g]? = some (.cells z T (0, 0)) else v = val i) (fun _ _ _ _ => True) ht hns ?_ ?_ ?_
  · intro i v W W' hF hO
    by_cases hi : i = ia
    · rw [if_pos hi] at hF ⊢
      obtain ⟨g, e, h1, h2⟩ := hF
      exact ⟨g, e, h1, by rw [hO.block g (Array.getElem?_eq_some_iff.1 h2).1 (fun h => h)]; exact h2⟩
    · rw [if_neg hi] at hF ⊢
      exact hF
  · intro i o f W ho hO hW
    have hi : i < m := by have := (Array.getElem?_eq_some_iff.1 ho).1; rw [hsz] at this; exact this
    have hO' : Only (fun _ => False) w W := ((Only.refl _ w).drew).trans hO
    by_cases hie : i = ia
    · subst hie
      obtain ⟨oa, hoa, hrun⟩ := hal
      rw [hget i hi, hoa] at ho
      cases ho
      refine opV_of_value (hrun _ W) ⟨(Only.refl _ W).alloc _, ?_, fun _ _ _ _ => ⟨trivial, trivial⟩⟩
      rw [if_pos rfl]
      exact ⟨W.heap.size, rfl, hO'.size, (MapKept.heap_alloc W (.cells z T)).1⟩
    · obtain ⟨hg, hback, hdst, hlook⟩ := tidy_spec ht ho
      have h1 := hstep i o W hi hie (by rw [← hget i hi]; exact ho) hO'
      rw [← hfr] at h1
      rw [hsz]
      refine opV_congr (Region.noSelect_spec hns i o · · ho) (fun x hx => ?_) (opV_mono h1 fun v W' hh => ⟨hh.2, by rw [if_neg hie]; exact hh.1, fun _ _ _ _ => ⟨trivial, trivial⟩⟩)
      refine frameAll_eval m fun j d hj hd hxd => ?_
      subst hxd
      have hwt := hlook j d hd (by
        unfold Oper.looksAt
        exact List.mem_append_left _ (List.mem_filterMap.2 ⟨.tmp d, by simpa using hx, rfl⟩))
      have hF := hW j hwt
      have hja : j ≠ ia := fun e => by
        have := List.all_eq_true.1 hdep i (List.mem_range.2 hi)
        rw [← e, hwt] at this
        cases this
      rw [if_neg hja] at hF
      exact hF
  · intro f W hO hF _
    have hO' : Only (fun _ => False) w W := ((Only.refl _ w).drew).trans hO
    have h0 := hF ia (by rw [hsz]; exact hia)
    rw [if_pos rfl] at h0
    obtain ⟨g, e, h1, h2⟩ := h0
    rw [hsz, frameAll_congr (g := updF val ia (.pointer (some ⟨g, 0, none⟩))) m (fun i hi => by
      by_cases hie : i = ia
      · subst hie; rw [updF_same]; exact e
      · have := hF i (by rw [hsz]; exact hi)
        rw [if_neg hie] at this
        rw [updF_ne hie]
        exact this)]
    exact hend g W h1 h2 hO'
variable {ops : Array Oper} {Q : Exit → Act → World → Prop}
/-- A region whose order is open, by a fact on what has come. -/
theorem wpAny_inv (a0 : Act) (Inv : Array Bool → (Nat → Value) → World → Prop) (ht : tidyB ops = true) (hns : Region.noSelect ops = true)
    (hstep : ∀ i o L f w, ops[i]? = some o → L.size = ops.size → L.getD i false = false → (∀ j, Region.waitsFor .any ops i j = true → L.getD j false = true) → Inv L f w →
      opV P o (frameAll ops f a0 ops.size).eval w (fun v w' => Inv (L.setIfInBounds i true) (updF f i v) w'))
    (hend : ∀ f w L, (∀ i, i < ops.size → L.getD i false = true) → Inv L f w → Q .normal (frameAll ops f a0 ops.size) w) :
    ∀ fuel L f w, L.size = ops.size → L.count false ≤ fuel → Inv L f w → wpAny P .any ops Q fuel L (frameOf ops f a0 L ops.size) w := by
  have fin : ∀ (L : Array Bool) f w, (∀ i, i < ops.size → L.getD i false = true) → Inv L f w → Q .normal (frameOf ops f a0 L ops.size) w := by
    intro L f w hall hI
    rw [frame_all_eq ops.size hall]
    exact hend f w L hall hI
  intro fuel
  induction fuel with
  | zero =>
    intro L f w hz hc hI
    have hall : ∀ i, i < ops.size → L.getD i false = true := fun i hi => listed_all (by omega) i (by omega)
    refine ⟨?_, fin L f w hall hI⟩
    rw [List.eq_nil_iff_forall_not_mem]
    intro j hj
    obtain ⟨hj1, o, ho, _⟩ := mem_ready.1 hj
    have hjs : j < ops.size := (Array.getElem?_eq_some_iff.1 ho).1
    have := hall j hjs
    rw [Array.getD_eq_getD_getElem?, Array.getElem?_eq_getElem (by omega)] at this hj1
    rw [show L[j] = true from this] at hj1
    cases hj1
  | succ fuel ih =>
    intro L f w hz hc hI
    refine ⟨fun hr => fin L f w (tidy_ready ht hz hr) hI, fun i hi => ?_⟩
    obtain ⟨hi1, o, ho, hdeps⟩ := mem_ready.1 hi
    have his : i < ops.size := (Array.getElem?_eq_some_iff.1 ho).1
    have hi2 : L.getD i false = false := by
      rw [Array.getD_eq_getD_getElem?, Array.getElem?_eq_getElem (by omega)] at hi1 ⊢; exact hi1
    obtain ⟨hg, hback, hdst, hlook⟩ := tidy_spec ht ho
    have hw : ∀ j, Region.waitsFor .any ops i j = true → L.getD j false = true := fun j hj => by
      obtain ⟨oj, hoj, e, he, hb, hon⟩ := Region.waitsFor_spec hj
      rw [ho] at hoj
      cases hoj
      rw [← hon]
      exact hdeps e he hb
    have hV := hstep i o L f w ho hz hi2 hw hI
    unfold wpOp
    rw [ho]
    have hwant : Region.wanted o (yielded ops (frameOf ops f a0 L ops.size).tmps) = true := by unfold Region.wanted; rw [hg]
    simp only [hwant, if_true]
    left
    refine opV_wp (Region.noSelect_spec hns i o · · ho) (fun x hx => ?_) hV (fun v w' hh => ?_)
    · refine frame_eval ops.size (fun j d hj hd hxd => hw j (hlook j d hd ?_))
      subst hxd
      unfold Oper.looksAt
      refine List.mem_append_left _ (List.mem_filterMap.2 ⟨.tmp d, by simpa using hx, rfl⟩)
    · have e := frame_put ht (f := f) (a := a0) (L := L) (v := v) hi1 ops.size his (Nat.le_refl _)
      rw [ho] at e
      have e' : frameOf ops (updF f i v) a0 (L.setIfInBounds i true) ops.size = (frameOf ops f a0 L ops.size).put o.dst v := e
      rw [← e']
      exact ih _ _ _ (by simpa using hz) (by have := count_put hi1; omega) hh
theorem set_getD {L : Array Bool} {i j : Nat} (hi : i < L.size) : (L.setIfInBounds i true).getD j false = if j = i then true else L.getD j false := by
  rw [Array.getD_eq_getD_getElem?, Array.getD_eq_getD_getElem?, Array.getElem?_setIfInBounds]
  by_cases h : i = j
  · subst h
    rw [if_pos rfl, if_pos hi, if_pos rfl]
    rfl
  · rw [if_neg h, if_neg (fun e => h e.symm)]
/-- One new variable (operation ia) that one operation (ix) fills; values for all others. -/
theorem region_alloc1s {id : Nat} {Q : Exit → Act → World → Prop} {a fr : Act} {w : World} {l : List Oper} (ia ix : Nat) (T : TypeId) (z cs : Array Value) (val : Nat → Value) (hm : P.follows .mixedOrders = true)
    (ht : tidyB l.toArray = true) (hns : Region.noSelect l.toArray = true) (hdep : ((List.range l.length).all fun i => decide (i = ix) || (match l[i]?, (l[ia]?).bind (·.dst) with | some o, some d => !(o.looksAt l.toArray).contains d | _, _ => true)) = true) (hix : Region.waitsFor .any l.toArray ix ia = true) (hne : ix ≠ ia) (hlx : ix < l.length)
    (hdx : ((l[ix]?).bind (·.dst)) = none)
    (hal : ∃ o, l[ia]? = some o ∧ ∀ ρ W, (execOp ρ o).run P W = .ok (.value (.pointer (some ⟨W.heap.size, 0, none⟩))) (W.alloc (.cells z T)))
    (hfr : frameAll l.toArray val a l.length = fr)
    (hstep : ∀ i o W, i ≠ ia → i ≠ ix → l[i]? = some o → Only (fun _ => False) w W → opV P o fr.eval W (fun v W' => v = val i ∧ Only (fun _ => False) W W'))
    (hst : ∀ o g W, l[ix]? = some o → W.heap[g]? = some (.cells z T (0, 0)) → opV P o (frameAll l.toArray (updF val ia (.pointer (some ⟨g, 0, none⟩))) a l.length).eval W (fun _ W' => W'.heap[g]? = some (.cells cs T (0, 0)) ∧ Only (fun k => k = g) W W'))
    (hend : ∀ g W, w.heap.size ≤ g → W.heap[g]? = some (.cells cs T (0, 0)) → Only (fun _ => False) w W → Q .normal (frameAll l.toArray (updF val ia (.pointer (some ⟨g, 0, none⟩))) a l.length) W) :
    (Code.region id l.toArray true).wp P Q a w := by
  have hsz : l.toArray.size = l.length := by simp
  refine wp_region_any hm ?_
  have hwf : ∀ i o j d, l[i]? = some o → i ≠ ix → (l.toArray[j]?).bind (·.dst) = some d → d ∈ o.looksAt l.toArray → j ≠ ia := fun i o j d ho hi hd hm e => by
    have h := List.all_eq_true.1 hdep i (List.mem_range.2 (List.getElem?_eq_some_iff.1 ho).1)
    subst e
    rw [show l.toArray[j]? = l[j]? by simp] at hd
    rw [ho, hd] at h
    simp [hi] at h
    exact h hm
  have key := wpAny_inv (P := P) (ops := l.toArray) (Q := Q) a (fun L f W => L.size = l.length ∧ Only (fun _ => False) w W ∧ (∀ i, L.getD i false = true → i ≠ ia → i ≠ ix → f i = val i) ∧
      (L.getD ix false = true → L.getD ia false = true) ∧ (L.getD ia false = true → ∃ g, f ia = .pointer (some ⟨g, 0, none⟩) ∧ w.heap.size ≤ g ∧ W.heap[g]? = some (.cells (if L.getD ix false = true then cs else z) T (0, 0)))) ht hns ?_ ?_
    l.length (Array.replicate l.length false) (fun _ => undef) { w with drawn := w.drawn + 1 } (by simp) (by simp) ?_
  · have none : ∀ i, (Array.replicate l.length false).getD i false = false := fun i => by
      rw [Array.getD_eq_getD_getElem?, Array.getElem?_replicate]; split <;> rfl
    have e : ∀ n, frameOf l.toArray (fun _ => undef) a (Array.replicate l.length false) n = a := by
      intro n
      induction n with
      | zero => rfl
      | succ n ih => unfold frameOf; rw [none n, if_neg (by decide)]; exact ih
    rw [e] at key
    simpa using key
  · intro i o L f W ho hz hnl hW hI
    obtain ⟨hLz, hO, hF, hxa, hG⟩ := hI
    have ho' : l[i]? = some o := by simpa using ho
    have hil : i < L.size := by rw [hLz]; exact (List.getElem?_eq_some_iff.1 ho').1
    by_cases hie : i = ia
    · subst hie
      obtain ⟨oa, hoa, hrun⟩ := hal
      rw [hoa] at ho'
      cases ho'
      have hnx : L.getD ix false = false := by
        cases hq : L.getD ix false with
        | false => rfl
        | true => rw [hxa hq] at hnl; cases hnl
      refine opV_of_value (hrun _ W) ⟨by simpa using hLz, hO.alloc _, fun j hj h1 h2 => ?_, fun _ => ?_, fun _ => ⟨W.heap.size, updF_same, hO.size, ?_⟩⟩
      · rw [set_getD hil, if_neg h1] at hj
        rw [updF_ne h1]
        exact hF j hj h1 h2
      · rw [set_getD hil, if_pos rfl]
      · rw [set_getD hil, if_neg hne, hnx, if_neg (by decide)]
        exact (MapKept.heap_alloc W (.cells z T)).1
    · by_cases hix' : i = ix
      · subst hix'
        have hla := hW ia hix
        obtain ⟨g, e1, e2, e3⟩ := hG hla
        rw [hnl, if_neg (by decide)] at e3
        have h1 := hst o g W ho' e3
        rw [hsz]
        have hfe : ∀ x ∈ o.op.operands, (frameAll l.toArray f a l.length).eval x = (frameAll l.toArray (updF val ia (.pointer (some ⟨g, 0, none⟩))) a l.length).eval x := fun x hx => by
          refine frameAll_eval l.length fun j d hj hd hxd => ?_
          subst hxd
          have hwt := (tidy_spec ht ho).2.2.2 j d hd (by
            unfold Oper.looksAt
            exact List.mem_append_left _ (List.mem_filterMap.2 ⟨.tmp d, by simpa using hx, rfl⟩))
          by_cases hja : j = ia
          · subst hja; rw [updF_same]; exact e1
          · rw [updF_ne hja]
            refine hF j (hW j hwt) hja fun e => ?_
            subst e
            rw [show l.toArray[j]? = l[j]? by simp, hdx] at hd
            cases hd
        refine opV_congr (Region.noSelect_spec hns i o · · ho) hfe (opV_mono h1 fun v W' hh => ?_)
        refine ⟨by simpa using hLz, hO.trans' hh.2 (fun k hk e => by omega), fun j hj h1 h2 => ?_, fun _ => ?_, fun _ => ⟨g, ?_, e2, ?_⟩⟩
        · rw [set_getD hil, if_neg h2] at hj
          rw [updF_ne h2]
          exact hF j hj h1 h2
        · rw [set_getD hil, if_neg (Ne.symm hne)]; exact hla
        · rw [updF_ne (Ne.symm hne)]; exact e1
        · rw [set_getD hil, if_pos rfl, if_pos rfl]; exact hh.1
      · have h1 := hstep i o W hie hix' ho' hO
        rw [← hfr] at h1
        rw [hsz]
        refine opV_congr (Region.noSelect_spec hns i o · · ho) (fun x hx => ?_) (opV_mono h1 fun v W' hh => ?_)
        · refine frameAll_eval l.length fun j d hj hd hxd => ?_
          subst hxd
          have hlk : d ∈ o.looksAt l.toArray := by
            unfold Oper.looksAt
            exact List.mem_append_left _ (List.mem_filterMap.2 ⟨.tmp d, by simpa using hx, rfl⟩)
          have hwt := (tidy_spec ht ho).2.2.2 j d hd hlk
          refine hF j (hW j hwt) (hwf i o j d ho' hix' hd hlk) fun e => ?_
          subst e
          rw [show l.toArray[j]? = l[j]? by simp, hdx] at hd
          cases hd
        · refine ⟨by simpa using hLz, hO.trans hh.2, fun j hj h1 h2 => ?_, fun hj => ?_, fun hj => ?_⟩
          · by_cases hji : j = i
            · subst hji; rw [updF_same]; exact hh.1
            · rw [set_getD hil, if_neg hji] at hj
              rw [updF_ne hji]
              exact hF j hj h1 h2
          · rw [set_getD hil, if_neg (fun e => hix' e.symm)] at hj
            rw [set_getD hil, if_neg (fun e => hie e.symm)]
            exact hxa hj
          · rw [set_getD hil, if_neg (fun e => hie e.symm)] at hj
            obtain ⟨g, e1, e2, e3⟩ := hG hj
            refine ⟨g, by rw [updF_ne (fun e => hie e.symm)]; exact e1, e2, ?_⟩
            have e5 : (L.setIfInBounds i true).getD ix false = L.getD ix false := by rw [set_getD hil, if_neg (fun e => hix' e.symm)]
            rw [e5, hh.2.block g (Array.getElem?_eq_some_iff.1 e3).1 (fun h => h)]
            exact e3
  · intro f W L hall hI
    obtain ⟨hLz, hO, hF, hxa, hG⟩ := hI
    rw [hsz] at hall ⊢
    have hla := hxa (hall ix hlx)
    obtain ⟨g, e1, e2, e3⟩ := hG hla
    rw [hall ix hlx, if_pos rfl] at e3
    have hfin := hend g W e2 e3 hO
    have hcg : ∀ n, n ≤ l.length → frameAll l.toArray f a n = frameAll l.toArray (updF val ia (.pointer (some ⟨g, 0, none⟩))) a n := by
      intro n
      induction n with
      | zero => intro _; rfl
      | succ n ih =>
        intro hn
        unfold frameAll
        rw [ih (by omega)]
        by_cases hnx : n = ix
        · subst hnx
          rw [show l.toArray[n]? = l[n]? by simp, hdx]
          rfl
        · by_cases hna : n = ia
          · subst hna; rw [updF_same, e1]
          · rw [updF_ne hna, hF n (hall n (by omega)) hna hnx]
    rw [hcg _ (Nat.le_refl _)]
    exact hfin
  · refine ⟨by simp, (Only.refl _ w).drew, fun i hi => ?_, fun hi => ?_, fun hi => ?_⟩
    all_goals
      rw [Array.getD_eq_getD_getElem?, Array.getElem?_replicate] at hi
      split at hi <;> cases hi
theorem opV_store_row {o : Oper} {ρ : Operand → Value} {w : World} {K : Value → World → Prop} (ty : TypeId) (x y : Operand) (ho : o.op = .store ty x y)
    (g : Nat) (cells : Array Value) (hx : ρ x = .pointer (some ⟨g, 0, none⟩)) (hy : ρ y = .agg cells) (t : TypeId) (old : Array Value) (hg : w.heap[g]? = some (.cells old t (0, 0))) (hi : (P.info? ty).map (·.size) = some cells.size)
    (hold : old.size = cells.size) (h1 : cells.all (·.oneCell') = true) (h : K undef (w.setRow g cells)) : opV P o ρ w K := by
  refine ⟨?_⟩
  unfold opVx execOp
  simp only [ho, hx, hy, Instr.storeAt, Instr.sureAddr, Sem.run_bind, Sem.run_pure, Result.andThen_ok, run_storeVar_row w g t ty old cells hg hi hold h1]
  exact h
theorem opV_store_one {o : Oper} {ρ : Operand → Value} {w : World} {K : Value → World → Prop} (ty : TypeId) (x y : Operand) (ho : o.op = .store ty x y)
    (g : Nat) (v : Value) (hx : ρ x = .pointer (some ⟨g, 0, none⟩)) (hy : ρ y = v) (t : TypeId) (old : Value) (hg : w.heap[g]? = some (.cells #[old] t (0, 0))) (hi : (P.info? ty).map (·.size) = some 1)
    (h1 : v.oneCell' = true) (h : K undef (w.setRow g #[v])) : opV P o ρ w K := by
  refine ⟨?_⟩
  unfold opVx execOp
  simp only [ho, hx, hy, Instr.storeAt, Instr.sureAddr, Sem.run_bind, Sem.run_pure, Result.andThen_ok, run_storeVar_one w g t ty old v hg hi h1]
  exact h
theorem only_setRow (w : World) (g : Nat) (cs : Array Value) : Only (fun k => k = g) w (w.setRow g cs) :=
  ⟨rfl, rfl, rfl, by simp, fun k _ hk => by simp only [World.setRow, Array.getElem?_modify]; rw [if_neg (fun e => hk e.symm)]⟩
end
end Go.Proofs.YtldkjkjpaiajlaaGreatDoor

namespace Go.Proofs.YtldkjkjpaiajlaaGreatDoor
open Go

section
variable {P : Program}
/-- One operation (ia) makes the block obj and gives nv of its number. -/
theorem region_new1 {id : Nat} {Q : Exit → Act → World → Prop} {a fr : Act} {w : World} {l : List Oper} (m ia : Nat) (obj : Obj) (nv : Nat → Value) (val : Nat → Value) (hm : P.follows .mixedOrders = true) (hB : splitB3 l.toArray m = true)
    (ht : tidyB (l.take m).toArray = true) (hns : Region.noSelect (l.take m).toArray = true) (hdep : ((List.range m).all fun i => !Region.waitsFor .any (l.take m).toArray i ia) = true) (hia : ia < m) (hml : m ≤ l.length)
    (hfr : frameAll (l.take m).toArray val a m = fr)
    (hal : ∃ o, l[ia]? = some o ∧ ∀ W, (execOp fr.eval o).run P W = .ok (.value (nv W.heap.size)) (W.alloc obj))
    (hstep : ∀ i o W, i < m → i ≠ ia → l[i]? = some o → Only (fun _ => False) w W → opV P o fr.eval W (fun v W' => v = val i ∧ Only (fun _ => False) W W'))
    (hend : ∀ g W, w.heap.size ≤ g → W.heap[g]? = some obj → Only (fun _ => False) w W → wpList P l.toArray Q (l.drop m) (frameAll (l.take m).toArray (updF val ia (nv g)) a m) W) :
    (Code.region id l.toArray true).wp P Q a w := by
  have hsz : (l.take m).toArray.size = m := by simp; omega
  have hget : ∀ i, i < m → (l.take m).toArray[i]? = l[i]? := fun i hi => by
    rw [List.getElem?_toArray, List.getElem?_take, if_pos hi]
  refine wp_region_split3 m hm hB ?_
  refine wpAny_by_facts a { w with drawn := w.drawn + 1 } (fun i v W => if i = ia then ∃ g, v = nv g ∧ w.heap.size ≤ g ∧ W.heap[g]? = some obj else v = val i) (fun _ _ _ _ => True) ht hns ?_ ?_ ?_
  · intro i v W W' hF hO
    by_cases hi : i = ia
    · rw [if_pos hi] at hF ⊢
      obtain ⟨g, e, h1, h2⟩ := hF
      exact ⟨g, e, h1, by rw [hO.block g (Array.getElem?_eq_some_iff.1 h2).1 (fun h => h)]; exact h2⟩
    · rw [if_neg hi] at hF ⊢
      exact hF
  · intro i o f W ho hO hW
    have hi : i < m := by have := (Array.getElem?_eq_some_iff.1 ho).1; rw [hsz] at this; exact this
    have hO' : Only (fun _ => False) w W := ((Only.refl _ w).drew).trans hO
    obtain ⟨hg, hback, hdst, hlook⟩ := tidy_spec ht ho
    have hev : ∀ x ∈ o.op.operands, (frameAll (l.take m).toArray f a m).eval x = fr.eval x := fun x hx => by
      rw [← hfr]
      refine frameAll_eval m fun j d hj hd hxd => ?_
      subst hxd
      have hwt := hlook j d hd (by
        unfold Oper.looksAt
        exact List.mem_append_left _ (List.mem_filterMap.2 ⟨.tmp d, by simpa using hx, rfl⟩))
      have hF := hW j hwt
      have hja : j ≠ ia := fun e => by
        have := List.all_eq_true.1 hdep i (List.mem_range.2 hi)
        rw [← e, hwt] at this
        cases this
      rw [if_neg hja] at hF
      exact hF
    by_cases hie : i = ia
    · subst hie
      obtain ⟨oa, hoa, hrun⟩ := hal
      rw [hget i hi, hoa] at ho
      cases ho
      rw [hsz]
      refine opV_congr (Region.noSelect_spec hns i _ · · (by rw [hget i hi]; exact hoa)) hev (opV_of_value (hrun W) ⟨(Only.refl _ W).alloc _, ?_, fun _ _ _ _ => ⟨trivial, trivial⟩⟩)
      rw [if_pos rfl]
      exact ⟨W.heap.size, rfl, hO'.size, (MapKept.heap_alloc W obj).1⟩
    · have h1 := hstep i o W hi hie (by rw [← hget i hi]; exact ho) hO'
      rw [hsz]
      exact opV_congr (Region.noSelect_spec hns i o · · ho) hev (opV_mono h1 fun v W' hh => ⟨hh.2, by rw [if_neg hie]; exact hh.1, fun _ _ _ _ => ⟨trivial, trivial⟩⟩)
  · intro f W hO hF _
    have hO' : Only (fun _ => False) w W := ((Only.refl _ w).drew).trans hO
    have h0 := hF ia (by rw [hsz]; exact hia)
    rw [if_pos rfl] at h0
    obtain ⟨g, e, h1, h2⟩ := h0
    rw [hsz, frameAll_congr (g := updF val ia (nv g)) m (fun i hi => by
      by_cases hie : i = ia
      · subst hie; rw [updF_same]; exact e
      · have := hF i (by rw [hsz]; exact hi)
        rw [if_neg hie] at this
        rw [updF_ne hie]
        exact this)]
    exact hend g W h1 h2 hO'
/-- No operation of the head makes a block: one value each. -/
theorem region_val {id : Nat} {Q : Exit → Act → World → Prop} {a fr : Act} {w : World} {l : List Oper} (m : Nat) (val : Nat → Value) (hm : P.follows .mixedOrders = true) (hB : splitB3 l.toArray m = true)
    (ht : tidyB (l.take m).toArray = true) (hns : Region.noSelect (l.take m).toArray = true) (hml : m ≤ l.length)
    (hfr : frameAll (l.take m).toArray val a m = fr)
    (hstep : ∀ i o W, i < m → l[i]? = some o → Only (fun _ => False) w W → opV P o fr.eval W (fun v W' => v = val i ∧ Only (fun _ => False) W W'))
    (hend : ∀ W, Only (fun _ => False) w W → wpList P l.toArray Q (l.drop m) fr W) :
    (Code.region id l.toArray true).wp P Q a w := by
  have hsz : (l.take m).toArray.size = m := by simp; omega
  have hget : ∀ i, i < m → (l.take m).toArray[i]? = l[i]? := fun i hi => by
    rw [List.getElem?_toArray, List.getElem?_take, if_pos hi]
  refine wp_region_split3 m hm hB ?_
  refine wpAny_by_facts a { w with drawn := w.drawn + 1 } (fun i v _ => v = val i) (fun _ _ _ _ => True) ht hns ?_ ?_ ?_
  · intro i v W W' hF _
    exact hF
  · intro i o f W ho hO hW
    have hi : i < m := by have := (Array.getElem?_eq_some_iff.1 ho).1; rw [hsz] at this; exact this
    have hO' : Only (fun _ => False) w W := ((Only.refl _ w).drew).trans hO
    obtain ⟨hg, hback, hdst, hlook⟩ := tidy_spec ht ho
    have hev : ∀ x ∈ o.op.operands, (frameAll (l.take m).toArray f a m).eval x = fr.eval x := fun x hx => by
      rw [← hfr]
      refine frameAll_eval m fun j d hj hd hxd => ?_
      subst hxd
      exact hW j (hlook j d hd (by
        unfold Oper.looksAt
        exact List.mem_append_left _ (List.mem_filterMap.2 ⟨.tmp d, by simpa using hx, rfl⟩)))
    have h1 := hstep i o W hi (by rw [← hget i hi]; exact ho) hO'
    rw [hsz]
    exact opV_congr (Region.noSelect_spec hns i o · · ho) hev (opV_mono h1 fun v W' hh => ⟨hh.2, hh.1, fun _ _ _ _ => ⟨trivial, trivial⟩⟩)
  · intro f W hO hF _
    have hO' : Only (fun _ => False) w W := ((Only.refl _ w).drew).trans hO
    rw [hsz, frameAll_congr (g := val) m (fun i hi => hF i (by rw [hsz]; exact hi)), hfr]
    exact hend W hO'
/-- append to an empty row without room: a new row. -/
theorem opV_append_new {o : Oper} {ρ : Operand → Value} {W : World} {K : Value → World → Prop} (s x : Operand) (t : TypeId) (ho : o.op = .call { callee := .builtin .append, args := #[s, x], argTypes := #[t, t] })
    (e : TypeId) (i : TypeInfo) (z : Value) (size bytes : Nat) (ht : P.underlying t = some (.slice e)) (hi : P.info? e = some i) (hz : i.zero = some z) (hsize : i.size = size) (hby : i.bytes = bytes) (hzs : z.cells.size = size) (hsz : 0 < size)
    (g0 : Nat) (hs : ρ s = .slice (some ⟨g0, 0, none⟩) 0 0) (h0 : W.heap[g0]? = some (.cells #[] e (0, 0)))
    (ad : Addr) (m c : Nat) (news : List Value) (hx : ρ x = .slice (some ad) m c) (hl : news.length = m * size) (hnews : ∀ j u, news[j]? = some u → W.cell? (ad.add j) = some u) (h1 : ∀ u ∈ news, u.oneCell' = true)
    (hm : 0 < m) (h63 : m ≤ maxLen) (hbytes : m * bytes ≤ 140737488355328)
    (h : ∀ v' W', W'.ownsRow W.heap.size e size v' m news → Only (fun _ => False) W W' → K v' W') : opV P o ρ W K := by
  have hlt := (Array.getElem?_eq_some_iff.1 h0).1
  have hown : W.ownsRow 0 e size (.slice (some ⟨g0, 0, none⟩) 0 0) 0 [] := ⟨by simp, .inr ⟨g0, 0, #[], rfl, Nat.zero_le _, h0, Nat.le_refl _, Nat.zero_le _, by simp, by simp⟩⟩
  obtain ⟨v1, w1, hr1, ho1, hg1, -⟩ := run_append_own (P := P) W 0 t o.type e i z size bytes ht hi hz hsize hby hzs hsz _ 0 [] hown ad m c news hl hnews h1 (by rw [Nat.zero_add]; exact h63) (by rw [Nat.zero_add]; exact hbytes) (Nat.zero_le _)
  have hr2 := run_append_grow (P := P) W t o.type e i z ht hi hz ⟨g0, 0, none⟩ 0 0 [] (by simp) (fun j v hv => by simp at hv) ad m c news (by rw [hsize]; exact hl) hnews (by omega) (by simp only [maxLen] at h63; omega) (growslice_fits (by omega) (by rw [Nat.zero_add, hby]; exact hbytes))
  rw [hr1] at hr2
  simp only [Result.ok.injEq] at hr2
  obtain ⟨e1, e2⟩ := hr2
  have hO : Only (fun _ => False) W w1 := by
    rw [e2]
    exact ((Only.refl _ W).drew).alloc _
  refine opV_of_value (v := v1) (w' := w1) ?_ (h v1 w1 ?_ hO)
  · unfold execOp
    simp only [ho, resolve, invoke, builtin, Sem.run_bind, Sem.run_pure, Result.andThen_ok, List.map_toArray, List.map_cons, List.map_nil, hs, hx, hr1]
  · rw [Nat.zero_add, List.nil_append] at ho1
    refine ⟨ho1.1, ?_⟩
    rcases ho1.2 with hh | ⟨g, cap, cur, q1, q2, q3⟩
    · exact .inl hh
    · refine .inr ⟨g, cap, cur, q1, ?_, q3⟩
      rw [e1] at q1
      simp only [Value.slice.injEq, Option.some.injEq, Addr.mk.injEq, and_true] at q1
      omega
end
end Go.Proofs.YtldkjkjpaiajlaaGreatDoor
