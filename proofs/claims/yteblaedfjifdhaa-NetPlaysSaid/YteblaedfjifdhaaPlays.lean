/-
  A net and the reference's net that have been called alike: what holds of both.
-/
import Derived.Test.YteblaedfjifdhaaRef3
import Derived.Test.YteblaedfjifdhaaActs
namespace Go.Proofs.Yteblaedfjifdhaa
open Go.RowKit

structure Same (l : List Tr) (N : NS) (R : RS) : Prop where
  nodes : N.nodes = R.nodes
  s : N.s = R.s
  sl : N.s = scriptOf l
  sent : N.sent = R.sent
  perm : N.L.Perm R.L
  grs : ∀ k, 0 ≤ k → k < N.nodes → N.gr k = rgr R.gs k
  good : Good N

theorem same_new (l : List Tr) (nodes : Int) : Same l (newNS nodes (scriptOf l)) (newRS nodes (scriptOf l)) :=
  ⟨rfl, rfl, rfl, rfl, List.Perm.refl _, fun k _ _ => by simp [newNS, newRS, rgr], good_new _ _⟩
theorem rtr_lost (s : List Tr) (k : Nat) : (trOf s k).lost = (rtr s k).lost := by unfold trOf rtr; split <;> rfl
theorem rtr_copies (s : List Tr) (k : Nat) : (trOf s k).copies = min (max (rtr s k).copies 1) 8 := by unfold trOf rtr; split <;> rfl
theorem rtr_delay (s : List Tr) (k : Nat) : (trOf s k).delay = max (rtr s k).delay 0 := by unfold trOf rtr; split <;> rfl
theorem Same.drop {l : List Tr} {N : NS} {R : RS} (h : Same l N R) (fr tt : Int) : dropB N fr tt = rdropB R fr tt := by
  unfold dropB rdropB
  rw [rtr_lost, h.s, h.sent]
  cases (rtr R.s R.sent).lost
  · by_cases h1 : 0 ≤ tt ∧ tt < N.nodes
    · have e1 : nodeB N.nodes tt = true := by unfold nodeB; simp [h1]
      have e2 : decide (tt < 0) = false := decide_eq_false (by omega)
      have e3 : decide (R.nodes ≤ tt) = false := decide_eq_false (by rw [← h.nodes]; omega)
      rw [e1, e2, e3]
      by_cases h2 : 0 ≤ fr ∧ fr < N.nodes
      · have e4 : nodeB N.nodes fr = true := by unfold nodeB; simp [h2]
        have e5 : decide (0 ≤ fr) = true := decide_eq_true h2.1
        have e6 : decide (fr < R.nodes) = true := decide_eq_true (by rw [← h.nodes]; exact h2.2)
        rw [e4, e5, e6, h.grs fr h2.1 h2.2, h.grs tt h1.1 h1.2]
        rfl
      · have e4 : nodeB N.nodes fr = false := by unfold nodeB; simp; omega
        have e5 : (decide (0 ≤ fr) && decide (fr < R.nodes)) = false := by rw [← h.nodes]; exact e4
        rw [e4, e5]
        rfl
    · have e1 : nodeB N.nodes tt = false := by unfold nodeB; simp; omega
      have e2 : (decide (tt < 0) || decide (R.nodes ≤ tt)) = true := by rw [← h.nodes]; simp; omega
      rw [e1]
      simp only [Bool.false_or, Bool.not_false, Bool.true_or]
      rw [e2]; rfl
  · simp
theorem copies_perm {l : List Tr} {N : NS} {R : RS} (h : Same l N R) (now fr tt : Int) (tx : ByteArray) (j : Nat) : (copiesTo N now fr tt tx j).Perm (rcopiesTo R now fr tt tx j) := by
  induction j with
  | zero => exact List.Perm.refl _
  | succ j ih =>
    have e : mkCopy N now fr tt tx j = rcopy R now fr tt tx j := by unfold mkCopy rcopy; rw [rtr_delay, h.s, h.sent]
    rw [copiesTo, rcopiesTo, e]
    exact (ih.cons _).trans (List.perm_append_comm (l₁ := [rcopy R now fr tt tx j]))
theorem Same.send {l : List Tr} {N : NS} {R : RS} (h : Same l N R) (now fr tt : Int) (tx : ByteArray) : Same l (sendN N now fr tt tx) (rsendR R now fr tt tx) := by
  have hg := good_send h.good now fr tt tx
  have hd := h.drop fr tt
  have hc : (trOf N.s N.sent).copies.toNat = rmany R := by unfold rmany; rw [rtr_copies, h.s, h.sent]
  unfold sendN at hg ⊢
  unfold rsendR
  rw [hd] at hg ⊢
  cases hx : rdropB R fr tt
  · rw [hx] at hg
    simp only [Bool.false_eq_true, if_false] at hg ⊢
    refine ⟨h.nodes, h.s, h.sl, by simp [h.sent], ?_, h.grs, hg⟩
    simp only
    refine (insAll_perm _ _).trans ?_
    rw [copiesOf, hc]
    exact (List.perm_append_comm).trans (h.perm.append (copies_perm h now fr tt tx _))
  · rw [hx] at hg
    simp only [if_true] at hg ⊢
    exact ⟨h.nodes, h.s, h.sl, by simp [h.sent], h.perm, h.grs, hg⟩
theorem Same.part {l : List Tr} {N : NS} {R : RS} (h : Same l N R) (zs : List Int) : Same l { N with gr := grTo N.nodes zs zs.length } { R with gs := zs } := by
  refine ⟨h.nodes, h.s, h.sl, h.sent, h.perm, fun k h0 h1 => ?_, good_part h.good _⟩
  simp only at h1 ⊢
  unfold grTo rgr
  split
  · rfl
  · rename_i hn
    have : zs.length ≤ k.toNat := by omega
    simp [List.getD, List.getElem?_eq_none this]
theorem Same.next {l : List Tr} {N : NS} {R : RS} (h : Same l N R) {y x : Wt} {M L' : List Wt} (hL : N.L = y :: M) (hp : R.L.Perm (x :: L')) (hm : ∀ z ∈ L', ltB z x = false) : x = y ∧ Same l (nextN N) { R with L := L' } := by
  have hs := h.good.sorted
  have hq := h.perm.trans hp
  rw [hL] at hs hq
  obtain ⟨rfl, hM⟩ := least_of hs hq hm
  refine ⟨rfl, h.nodes, h.s, h.sl, h.sent, ?_, h.grs, good_next h.good⟩
  unfold nextN
  rw [hL]; exact hM
theorem Same.delay {l : List Tr} {N : NS} {R : RS} (h : Same l N R) : (rtr R.s R.sent).delay ≤ 10000000 := by
  have h1 := trOf_delay (l := l) R.sent
  rw [← h.sl, h.s, rtr_delay] at h1
  omega
theorem Same.may {l : List Tr} {N : NS} {R : RS} (h : Same l N R) (now fr tt : Int) (h1 : -10000000 ≤ now) (h2 : now ≤ 10000000) : MaySend N now fr tt := by
  refine .inr ⟨h1, h2, ?_⟩
  rw [h.sl]
  have := trOf_delay (l := l) N.sent
  omega

/-- The net and the reference's net side by side in memory, with other blocks beside them. -/
structure Duo (w0 w : World) (F : Nat → Prop) (b : Nat) (N : NS) (G : Nat → Prop) (c : Nat) (R : RS) (A : List (Nat × Obj)) : Prop where
  one : Own w0 w F b N A
  ref : RefAt w G c R
  new : ∀ k, G k → w0.heap.size ≤ k
  dis : ∀ k, F k → ¬ G k
  apart : ∀ t o, (t, o) ∈ A → ¬ G t

section
variable {w0 w w' : World} {F G : Nat → Prop} {b c : Nat} {N : NS} {R : RS} {A : List (Nat × Obj)}
theorem Duo.left {N' : NS} (h : Duo w0 w F b N G c R A) (hl : NLeft w F b N' w') (hG : Good N') : ∃ F', Duo w0 w' F' b N' G c R A := by
  obtain ⟨F0, q1, q2, q3⟩ := hl
  obtain ⟨F', h1⟩ := h.one.step ⟨F0, q1, q2, q3⟩ hG
  have hlt := h.ref.lt
  refine ⟨F0, ⟨?_, h.ref.frame q3 (fun k hk hf => h.dis k hf hk), h.new, ?_, h.apart⟩⟩
  · refine ⟨q1, hG, fun k hk => ?_, h1.only, fun t o ht => ⟨fun hf => ?_, (h1.apart t o ht).2⟩⟩
    · rcases q2 k hk with h' | h'
      · exact h.one.new k h'
      · have := h.one.only.size; omega
    · obtain ⟨ha, hb⟩ := h.one.apart t o ht
      rcases q2 t hf with h' | h'
      · exact ha h'
      · have := (Array.getElem?_eq_some_iff.1 hb).1; omega
  · intro k hk hg
    rcases q2 k hk with h' | h'
    · exact h.dis k h' hg
    · have := hlt k hg; omega
theorem Duo.right {R' : RS} (h : Duo w0 w F b N G c R A) (hl : RLeft w G c R' w') : ∃ G', Duo w0 w' F b N G' c R' A := by
  obtain ⟨G', q1, q2, q3⟩ := hl
  have hltF := h.one.net.lt
  refine ⟨G', ⟨h.one.other h.new q3 (fun k hg hf => h.dis k hf hg) h.apart, q1, fun k hk => ?_, fun k hf hg => ?_, fun t o ht hg => ?_⟩⟩
  · rcases q2 k hk with h' | h'
    · exact h.new k h'
    · have := h.one.only.size; omega
  · rcases q2 k hg with h' | h'
    · exact h.dis k hf h'
    · have := hltF k hf; omega
  · rcases q2 t hg with h' | h'
    · exact h.apart t o ht h'
    · have := (Array.getElem?_eq_some_iff.1 (h.one.apart t o ht).2).1; omega
theorem Duo.quiet (h : Duo w0 w F b N G c R A) (hO : Only (fun _ => False) w w') : Duo w0 w' F b N G c R A :=
  ⟨h.one.quiet hO, h.ref.frame hO (fun _ _ h => h), h.new, h.dis, h.apart⟩
theorem Duo.more (h : Duo w0 w F b N G c R A) (o : Obj) : Duo w0 (w.alloc o) F b N G c R ((w.heap.size, o) :: A) := by
  have h2 := h.quiet ((Only.refl _ w).alloc o)
  refine ⟨h.one.more o, h2.ref, h.new, h.dis, fun t o' ht => ?_⟩
  rcases List.mem_cons.1 ht with e | e
  · cases e
    intro hg
    have := h.ref.lt _ hg
    omega
  · exact h.apart t o' e
theorem Duo.forget (h : Duo w0 w F b N G c R A) : Duo w0 w F b N G c R [] := ⟨h.one.forget, h.ref, h.new, h.dis, fun _ _ h => by cases h⟩
theorem Own.duo (h : Own w0 w F b N A) (h1 : RefAt w' G c R) (h2 : ∀ k, G k → w.heap.size ≤ k) (h3 : Only (fun _ => False) w w') : Duo w0 w' F b N G c R A := by
  refine ⟨h.quiet h3, h1, fun k hk => ?_, fun k hf hg => ?_, fun t o ht hg => ?_⟩
  · have := h2 k hk; have := h.only.size; omega
  · have := h.net.lt k hf; have := h2 k hg; omega
  · have := (Array.getElem?_eq_some_iff.1 (h.apart t o ht).2).1; have := h2 t hg; omega
end

theorem GrsAt.ints {w w' : World} {gv : Value} {zs : List Int} (h : GrsAt w gv zs) (hO : Only (fun _ => False) w w') : IntsAt w' gv zs := by
  rcases h.form with ⟨rfl, rfl⟩ | ⟨a, c, rfl, hc⟩
  · exact .inl ⟨_, _, rfl, rfl⟩
  · by_cases h0 : 0 < zs.length
    · obtain ⟨b, off, rfl, hb, hj⟩ := hc h0
      exact .inr ⟨b, off, c, rfl, Nat.lt_of_lt_of_le hb hO.size, fun j hlt => hO.cell (hj j hlt) (fun h => h)⟩
    · have : zs = [] := List.eq_nil_of_length_eq_zero (by omega)
      subst this
      exact .inl ⟨_, _, rfl, rfl⟩
theorem rpart_any (G : Nat → Prop) (c : Nat) (R : RS) (gv : Value) (zs : List Int) (w w0 : World) (h : RefAt w G c R) (hg : GrsAt w0 gv zs) (hO : Only (fun _ => False) w0 w) :
    Calls Try.prog 18 #[.pointer (some ⟨c, 0, none⟩), gv] w fun e w' => e = .returned (.tuple #[]) ∧ RLeft w G c { R with gs := zs } w' := by
  rcases hg.form with ⟨rfl, rfl⟩ | ⟨a, cc, rfl, hc⟩
  · exact rpart_nil G c R w h
  · refine rpart_some G c R w h a cc zs (fun j u hu => ?_) hg.size
    have hj : j < zs.length := by rw [← irow_length]; exact (List.getElem?_eq_some_iff.1 hu).1
    obtain ⟨b, off, rfl, hb, hjj⟩ := hc (by omega)
    rw [irow_get zs j hj] at hu
    cases hu
    rw [addr_add]
    exact hO.cell (hjj j hj) (fun h => h)
/-- The block of groups that came in is no net's. -/
theorem GrsAt.far {w : World} {gv : Value} {zs : List Int} (h : GrsAt w gv zs) {F : Nat → Prop} (hF : ∀ k, F k → w.heap.size ≤ k) (hz : 0 < zs.length) : ∀ k, gv.ownBlock = some k → ¬ F k := by
  rcases h.form with ⟨rfl, rfl⟩ | ⟨a, c, rfl, hc⟩
  · simp at hz
  · obtain ⟨b, off, rfl, hb, hj⟩ := hc hz
    intro k e hf
    simp only [Value.ownBlock, Option.some.injEq] at e
    have := hF k hf
    omega
end Go.Proofs.Yteblaedfjifdhaa
