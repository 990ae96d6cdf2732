/-
  The walk of Send.
-/
import Derived.Test.YteblaedfjifdhaaNet2
namespace Go.Proofs.Yteblaedfjifdhaa
open Go.RowKit

theorem send_nilptr (now : Int) (x : Wt) (w : World) :
    Calls Try.prog 15 #[.pointer none, .int .i64 now, x.msg] w fun e w' => e = .returned (.tuple #[]) ∧ Only (fun _ => False) w w' := by
  unfold Wt.msg
  go_enter Try.func15, Try.ntmps15
  go_wp2
  exact bodyPost_ret (results_none rfl _ _ _) rfl ⟨rfl, (Only.refl _ w).alloc _⟩

/-- Is a message dropped? -/
def dropB (N : NS) (fr to : Int) : Bool := (trOf N.s N.sent).lost || !nodeB N.nodes to || (nodeB N.nodes fr && N.gr fr != N.gr to)

/-- The parts of a net, with its queue's value and its row named. -/
structure Parts (w : World) (F : Nat → Prop) (b : Nat) (N : NS) (sv : Value) (gm : Option Nat) (v : Value) (q : List Wt) : Prop where
  hq : QueueAt w b 4 (netCells N sv gm v) 56 v q
  hp : q.Perm N.L
  hs : ScriptAt w sv N.s
  hg : GroupsAt w gm N.gr
  h1 : F b
  h2 : ∀ k, v.ownBlock = some k → F k
  h3 : ∀ k, sv.ownBlock = some k → F k ∧ k ≠ b ∧ v.ownBlock ≠ some k
  h4 : ∀ k, gm = some k → F k ∧ k ≠ b ∧ v.ownBlock ≠ some k
  h5 : ∀ k, F k → k < w.heap.size
theorem NetAt.parts {w : World} {F : Nat → Prop} {b : Nat} {N : NS} (h : NetAt w F b N) : ∃ sv gm v q, Parts w F b N sv gm v q := by
  obtain ⟨sv, gm, v, q, hq, hp, hs, hg, h1, h2, h3, h4, h5⟩ := h
  exact ⟨sv, gm, v, q, hq, hp, hs, hg, h1, h2, h3, h4, h5⟩
theorem Parts.net {w : World} {F : Nat → Prop} {b : Nat} {N : NS} {sv : Value} {gm : Option Nat} {v : Value} {q : List Wt} (h : Parts w F b N sv gm v q) : NetAt w F b N :=
  ⟨sv, gm, v, q, h.hq, h.hp, h.hs, h.hg, h.h1, h.h2, h.h3, h.h4, h.h5⟩
theorem Parts.frame {S F : Nat → Prop} {w w' : World} {b : Nat} {N : NS} {sv : Value} {gm : Option Nat} {v : Value} {q : List Wt} (h : Parts w F b N sv gm v q) (hO : Only S w w') (hS : ∀ k, F k → ¬ S k) : Parts w' F b N sv gm v q :=
  ⟨h.hq.frame hO (hS b h.h1) (fun k e => hS k (h.h2 k e)), h.hp, hO.owns h.hs (fun k e => hS k (h.h3 k e).1), h.hg.frame hO (fun k e => hS k (h.h4 k e).1), h.h1, h.h2, h.h3, h.h4,
    fun k hk => Nat.lt_of_lt_of_le (h.h5 k hk) hO.size⟩
/-- n.sent++. -/
theorem Parts.sent {F : Nat → Prop} {w : World} {b : Nat} {N : NS} {sv : Value} {gm : Option Nat} {v : Value} {q : List Wt} (h : Parts w F b N sv gm v q) :
    Parts (w.setCell ⟨b, 3, none⟩ (.int .i64 ((N.sent : Int) + 1))) F b { N with sent := N.sent + 1 } sv gm v q := by
  have hO : Only (fun k => k = b) w (w.setCell ⟨b, 3, none⟩ (.int .i64 ((N.sent : Int) + 1))) := (Only.refl (fun k => k = b) w).setCell (.inl rfl) _
  refine ⟨⟨?_, rfl, hO.owns h.hq.own (fun k e e' => h.hq.ne (by rw [e, e'])), h.hq.ne, h.hq.heap, h.hq.len⟩, h.hp, hO.owns h.hs (fun k e => (h.h3 k e).2.1), h.hg.frame hO (fun k e => (h.h4 k e).2.1), h.h1, h.h2, h.h3, h.h4, ?_⟩
  · rw [heap_setCell_same w b 3 _ 56 _ h.hq.blk]; rfl
  · intro k hk; have := h.h5 k hk; simpa using this
theorem Parts.cells {F : Nat → Prop} {w : World} {b : Nat} {N : NS} {sv : Value} {gm : Option Nat} {v : Value} {q : List Wt} (h : Parts w F b N sv gm v q) :
    w.cell? ⟨b, 0, none⟩ = some (.int .i64 N.nodes) ∧ w.cell? ⟨b, 1, none⟩ = some sv ∧ w.cell? ⟨b, 2, none⟩ = some (.map gm) ∧ w.cell? ⟨b, 3, none⟩ = some (.int .i64 N.sent) ∧ w.cell? ⟨b, 4, none⟩ = some v := by
  have hb := h.hq.blk
  refine ⟨?_, ?_, ?_, ?_, ?_⟩ <;> rw [cell_of_row w b _ _ 56 (0, 0) hb] <;> rfl

/-- The state in which Send asks whether the message is dropped: the net has counted it; the message lies in a block of its own. -/
structure Mid (w w3 : World) (F : Nat → Prop) (b : Nat) (N : NS) (sv : Value) (gm : Option Nat) (v : Value) (q : List Wt) (msg : Array Value) : Prop where
  parts : Parts w3 F b { N with sent := N.sent + 1 } sv gm v q
  msg : w3.heap[w.heap.size]? = some (.cells msg 31 (0, 0))
  only : Only (fun k => k = b) w w3

theorem mid_of {w w3 : World} {F : Nat → Prop} {b : Nat} {N : NS} {sv : Value} {gm : Option Nat} {v : Value} {q : List Wt} {msg : Array Value} (h : Parts w F b N sv gm v q)
    (hO : Only (fun _ => False) ((w.setCell ⟨b, 3, none⟩ (.int .i64 ((N.sent : Int) + 1))).alloc (.cells msg 31)) w3) : Mid w w3 F b N sv gm v q msg := by
  have e : (w.setCell ⟨b, 3, none⟩ (.int .i64 ((N.sent : Int) + 1))).heap.size = w.heap.size := by simp
  have h1 := heap_alloc_new (w.setCell ⟨b, 3, none⟩ (.int .i64 ((N.sent : Int) + 1))) (.cells msg 31)
  rw [e] at h1
  refine ⟨(h.sent.frame ((Only.refl (fun _ => False) _).alloc _) (fun _ _ h => h)).frame hO (fun _ _ h => h), ?_, ?_⟩
  · rw [hO.block w.heap.size (by simp) (fun h => h)]; exact h1
  · exact (((Only.refl (fun k => k = b) w).setCell (.inl rfl) _).alloc _).trans' hO (fun _ _ h => h.elim)

theorem Mid.cells {w w3 : World} {F : Nat → Prop} {b : Nat} {N : NS} {sv : Value} {gm : Option Nat} {v : Value} {q : List Wt} {fr to : Int} {tx : ByteArray} (h : Mid w w3 F b N sv gm v q #[.int .i64 fr, .int .i64 to, .string tx]) :
    w3.cell? ⟨w.heap.size, 0, none⟩ = some (.int .i64 fr) ∧ w3.cell? ⟨w.heap.size, 1, none⟩ = some (.int .i64 to) ∧ w3.cell? ⟨w.heap.size, 2, none⟩ = some (.string tx) ∧ w.heap.size < w3.heap.size := by
  refine ⟨?_, ?_, ?_, (Array.getElem?_eq_some_iff.1 h.msg).1⟩ <;> rw [cell_of_row w3 _ _ _ 31 (0, 0) h.msg] <;> rfl

set_option maxHeartbeats 1000000 in
theorem send_drop (F : Nat → Prop) (b : Nat) (N : NS) (now : Int) (fr to : Int) (tx : ByteArray) (w : World) (h : NetAt w F b N) (hs1 : N.sent < 1000000) (hd : dropB N fr to = true) 
    (wf1 : (Lit.int .i64 fr).wf = true) (wf2 : (Lit.int .i64 to).wf = true) :
    Calls Try.prog 15 #[.pointer (some ⟨b, 0, none⟩), .int .i64 now, .agg #[.int .i64 fr, .int .i64 to, .string tx]] w fun e w' => e = .returned (.tuple #[]) ∧ NLeft w F b { N with sent := N.sent + 1 } w' := by
  obtain ⟨sv, gm, v, q, hP⟩ := h.parts
  have hbl := hP.h5 b hP.h1
  obtain ⟨-, -, -, c3, -⟩ := hP.cells
  have f3 := frozen_of_row w b 3 _ 56 hP.hq.blk
  go_enter Try.func15, Try.ntmps15
  go_wp2_with fail
  have hPs := (hP.sent.frame ((Only.refl (fun _ => False) _).alloc (.cells #[.int .i64 fr, .int .i64 to, .string tx] 31)) (fun _ _ h => h))
  refine (trouble_any b N.sent sv N.s _ (by omega) hPs.cells.2.1 hPs.hs).mono ?_
  rintro e w3 ⟨rfl, hO⟩
  have hM := mid_of hP hO
  clear hPs hO c3 f3
  obtain ⟨n0, n1, n2, n3, n4⟩ := hM.parts.cells
  obtain ⟨m0, m1, m2, hsz⟩ := hM.cells
  have hbl3 : b < w3.heap.size := hM.parts.h5 b hP.h1
  have hgr := hM.parts.hg
  have hlk1 := fun nq => GroupsAt.look (w := (w3.alloc (.cells #[.bool (trOf N.s N.sent).lost, .int .i64 (trOf N.s N.sent).copies, .int .i64 (trOf N.s N.sent).delay] 44)).drewN nq) (hgr.frame (((Only.refl (fun _ => False) w3).alloc _).drewN nq) (fun _ _ h => h)) fr wf1
  have hlk2 := fun nq => GroupsAt.look (w := (w3.alloc (.cells #[.bool (trOf N.s N.sent).lost, .int .i64 (trOf N.s N.sent).copies, .int .i64 (trOf N.s N.sent).delay] 44)).drewN nq) (hgr.frame (((Only.refl (fun _ => False) w3).alloc _).drewN nq) (fun _ _ h => h)) to wf2
  have fin : ∀ nq A, NLeft w F b { N with sent := N.sent + 1 } ((w3.alloc A).drewN nq) := fun nq A =>
    ⟨F, (hM.parts.frame (((Only.refl (fun _ => False) w3).alloc A).drewN nq) (fun _ _ h => h)).net, fun k hk => .inl hk, ((hM.only.mono (fun k _ e => by rw [e]; exact hP.h1)).alloc A).drewN nq⟩
  have HF := Lib.hid fin
  have HD := Lib.hid hd
  unfold dropB at hd
  have n0' := fun nq => ((((Only.refl (fun _ => False) w3).alloc (.cells #[.bool (trOf N.s N.sent).lost, .int .i64 (trOf N.s N.sent).copies, .int .i64 (trOf N.s N.sent).delay] 44)).drewN nq).cell n0 (fun h => h))
  have N0 := Lib.hid n0'
  clear n0'
  generalize trOf N.s N.sent = t at *
  clear n1 n3 n4 fin hgr
  obtain ⟨l, cp, dl⟩ := t
  unfold Tr.val
  dsimp only at hlk1 hlk2 hd
  cases l
  · cases hto : nodeB N.nodes to
    · clear hd
      go_wp2_with fail
      go_quiet (first | (go_at_call_of 25 (Value.int IntKind.i64 to); exact quiet_left (isNode_is b N.nodes to _ _ (N0.out _) hto)) | (go_at_call_of 25 (Value.int IntKind.i64 fr); exact quiet_left (isNode_is b N.nodes fr _ _ (N0.out _) hfr)))
      go_wp2
      exact bodyPost_ret (results_none rfl _ _ _) rfl ⟨rfl, HF.out _ _⟩
    · have hfr : nodeB N.nodes fr = true := by cases hx : nodeB N.nodes fr <;> simp_all
      have hgg : (N.gr fr != N.gr to) = true := by simp_all
      clear hd
      go_wp2_with fail
      go_quiet (first | (go_at_call_of 25 (Value.int IntKind.i64 to); exact quiet_left (isNode_is b N.nodes to _ _ (N0.out _) hto)) | (go_at_call_of 25 (Value.int IntKind.i64 fr); exact quiet_left (isNode_is b N.nodes fr _ _ (N0.out _) hfr)))
      go_wp2
      exact bodyPost_ret (results_none rfl _ _ _) rfl ⟨rfl, HF.out _ _⟩
  · clear hd
    go_wp2_with fail
    go_quiet (fail)
    go_wp2
    exact bodyPost_ret (results_none rfl _ _ _) rfl ⟨rfl, HF.out _ _⟩
end Go.Proofs.Yteblaedfjifdhaa
