/-
  The walk of Send where the message is not dropped.
-/
import Derived.Test.YteblaedfjifdhaaSend
namespace Go.Proofs.Yteblaedfjifdhaa
open Go.RowKit

theorem NLeft.trans {w w1 w2 : World} {F F1 : Nat → Prop} {b : Nat} {N2 : NS} (hF : ∀ k, F1 k → F k ∨ w.heap.size ≤ k) (hO : Only F w w1) (h : NLeft w1 F1 b N2 w2) : NLeft w F b N2 w2 := by
  obtain ⟨F2, h2, hF2, hO2⟩ := h
  refine ⟨F2, h2, fun k hk => ?_, hO.trans' hO2 fun i hi h => ?_⟩
  · rcases hF2 k hk with h | h
    · exact hF k h
    · right; have := hO.size; omega
  · rcases hF i h with h | h
    · exact h
    · omega
theorem push_left {w w' : World} {F : Nat → Prop} {b : Nat} {N : NS} {sv : Value} {gm : Option Nat} {v : Value} {q : List Wt} {x : Wt} (h : Parts w F b N sv gm v q)
    (hl : QLeft w b 4 (netCells N sv gm v) 56 v (fun r => r.Perm (x :: q)) w') : NLeft w F b { N with L := x :: N.L } w' := by
  obtain ⟨v', r, hp, hq, hat, hO⟩ := hl
  exact NetAt.left_of (N' := { N with L := x :: N.L }) (T := fun _ => False) (B := w.heap.size) hq h.hs h.hg h.h1 h.h2 h.h3 h.h4 h.h5 hat (fun _ h => h.elim) hO (Only.refl _ _) (Nat.le_refl _) (hp.trans (h.hp.cons x))

/-- Copy j of a message. -/
def mkCopy (N : NS) (now fr to : Int) (tx : ByteArray) (j : Nat) : Wt := ⟨fr, to, tx, now + (trOf N.s N.sent).delay + j, N.sent⟩
def copiesTo (N : NS) (now fr to : Int) (tx : ByteArray) : Nat → List Wt
  | 0 => []
  | j + 1 => mkCopy N now fr to tx j :: copiesTo N now fr to tx j
def copiesOf (N : NS) (now fr to : Int) (tx : ByteArray) : List Wt := copiesTo N now fr to tx (trOf N.s N.sent).copies.toNat

theorem trOf_bd (s : List Tr) (k : Nat) : 1 ≤ (trOf s k).copies ∧ (trOf s k).copies ≤ 8 ∧ 0 ≤ (trOf s k).delay := by
  unfold trOf; split
  · simp
  · simp only; omega
theorem copiesTo_length (N : NS) (now fr to : Int) (tx : ByteArray) (j : Nat) : (copiesTo N now fr to tx j).length = j := by
  induction j with
  | zero => rfl
  | succ j ih => simp [copiesTo, ih]

/-- The state at the head of a round of Send's loop. -/
structure Sending (w w4 wr : World) (F : Nat → Prop) (b : Nat) (N' : NS) (msg tb : Array Value) (m3 : Nat) : Prop where
  net : NLeft w4 F b N' wr
  msg : wr.heap[w.heap.size]? = some (.cells msg 31 (0, 0))
  tb : wr.heap[m3]? = some (.cells tb 44 (0, 0))

theorem Sending.step {w w4 wr w5 : World} {F F1 : Nat → Prop} {b : Nat} {N' N2 : NS} {msg tb : Array Value} {m3 : Nat} (h : Sending w w4 wr F b N' msg tb m3)
   (hF : ∀ k, F1 k → F k ∨ w4.heap.size ≤ k) (hF0 : ∀ k, F k → k < w.heap.size) (h3 : w.heap.size < m3) (h34 : m3 < w4.heap.size) (hO : Only F w4 wr) (hn : NLeft wr F1 b N2 w5) : Sending w w4 w5 F b N2 msg tb m3 := by
  have hno : ∀ m, w.heap.size ≤ m → m < w4.heap.size → ¬ F1 m := by
    intro m hm1 hm2 h
    rcases hF m h with h | h
    · have := hF0 m h; omega
    · omega
  have hn2 := hn.trans hF hO
  obtain ⟨F2, h2, hF2, hO2⟩ := hn
  have hs := hO.size
  exact ⟨hn2, by rw [hO2.block _ (by omega) (hno _ (Nat.le_refl _) (by omega))]; exact h.msg, by rw [hO2.block _ (by omega) (hno _ (by omega) h34)]; exact h.tb⟩

set_option maxHeartbeats 1000000 in
theorem send_keep (F : Nat → Prop) (b : Nat) (N : NS) (now : Int) (fr to : Int) (tx : ByteArray) (w : World) (h : NetAt w F b N) (hs1 : N.sent < 1000000) (hd : dropB N fr to = false) (hlen : N.L.length < 900000)
    (hn1 : -10000000 ≤ now) (hn2 : now ≤ 10000000) (hdl : (trOf N.s N.sent).delay ≤ 10000000)
    (wf1 : (Lit.int .i64 fr).wf = true) (wf2 : (Lit.int .i64 to).wf = true) :
    Calls Try.prog 15 #[.pointer (some ⟨b, 0, none⟩), .int .i64 now, .agg #[.int .i64 fr, .int .i64 to, .string tx]] w fun e w' => e = .returned (.tuple #[]) ∧ NLeft w F b { N with sent := N.sent + 1, L := copiesOf N now fr to tx ++ N.L } w' := by
  obtain ⟨sv, gm, v, q, hP⟩ := h.parts
  have hbl := hP.h5 b hP.h1
  obtain ⟨-, -, -, c3, -⟩ := hP.cells
  have f3 := frozen_of_row w b 3 _ 56 hP.hq.blk
  go_enter Try.func15, Try.ntmps15
  go_wp2_with fail
  have hPs := (hP.sent.frame ((Only.refl (fun _ => False) _).alloc (.cells #[.int .i64 fr, .int .i64 to, .string tx] 31)) (fun _ _ h => h))
  refine (trouble_any b N.sent sv N.s _ (by omega) hPs.cells.2.1 hPs.hs).mono ?_
  rintro e w3 ⟨rfl, hO⟩
  have hM := mid_of hP hO
  clear hPs hO c3 f3
  obtain ⟨n0, n1, n2, n3, n4⟩ := hM.parts.cells
  obtain ⟨m0, m1, m2, hsz⟩ := hM.cells
  have hbl3 : b < w3.heap.size := hM.parts.h5 b hP.h1
  have hgr := hM.parts.hg
  have hlk1 := fun nq => GroupsAt.look (w := (w3.alloc (.cells #[.bool (trOf N.s N.sent).lost, .int .i64 (trOf N.s N.sent).copies, .int .i64 (trOf N.s N.sent).delay] 44)).drewN nq) (hgr.frame (((Only.refl (fun _ => False) w3).alloc _).drewN nq) (fun _ _ h => h)) fr wf1
  have hlk2 := fun nq => GroupsAt.look (w := (w3.alloc (.cells #[.bool (trOf N.s N.sent).lost, .int .i64 (trOf N.s N.sent).copies, .int .i64 (trOf N.s N.sent).delay] 44)).drewN nq) (hgr.frame (((Only.refl (fun _ => False) w3).alloc _).drewN nq) (fun _ _ h => h)) to wf2
  have HM := Lib.hid hM
  have HP := Lib.hid hP
  have n0' := fun nq => ((((Only.refl (fun _ => False) w3).alloc (.cells #[.bool (trOf N.s N.sent).lost, .int .i64 (trOf N.s N.sent).copies, .int .i64 (trOf N.s N.sent).delay] 44)).drewN nq).cell n0 (fun h => h))
  have N0 := Lib.hid n0'
  clear n0'
  have HW := Lib.hid (heap_alloc_new w3 (.cells #[.bool (trOf N.s N.sent).lost, .int .i64 (trOf N.s N.sent).copies, .int .i64 (trOf N.s N.sent).delay] 44))
  obtain ⟨tb1, tb2, tb3⟩ := trOf_bd N.s N.sent
  have hC : ∀ j, mkCopy N now fr to tx j = ⟨fr, to, tx, now + (trOf N.s N.sent).delay + j, N.sent⟩ := fun _ => rfl
  have HC := Lib.hid hC
  have hCO : copiesOf N now fr to tx = copiesTo N now fr to tx (trOf N.s N.sent).copies.toNat := rfl
  have HCO := Lib.hid hCO
  clear hC hCO
  unfold dropB at hd
  generalize trOf N.s N.sent = t at *
  clear n1 n3 n4 hgr
  obtain ⟨l, cp, dl⟩ := t
  unfold Tr.val
  dsimp only at hlk1 hlk2 hd HW HC tb1 tb2 tb3 hdl HCO
  obtain ⟨c, rfl⟩ := Int.eq_ofNat_of_zero_le (show 0 ≤ cp by omega)
  have hl : l = false := by simp_all
  subst hl
  have hto : nodeB N.nodes to = true := by simp_all
  cases hfr : nodeB N.nodes fr
  · clear hd
    go_wp2_with fail
    go_quiet (first | (go_at_call_of 25 (Value.int IntKind.i64 to); exact quiet_left (isNode_is b N.nodes to _ _ (N0.out _) hto)) | (go_at_call_of 25 (Value.int IntKind.i64 fr); exact quiet_left (isNode_is b N.nodes fr _ _ (N0.out _) hfr)))
    go_wp2_with fail
    generalize hw4 : (w3.alloc (Obj.cells #[Value.bool false, Value.int IntKind.i64 ↑c, Value.int IntKind.i64 dl] 44)).drewN nq = w4
    have hP4 : Parts w4 F b { N with sent := N.sent + 1 } sv gm v q := by
      rw [← hw4]; exact HM.out.parts.frame (((Only.refl (fun _ => False) w3).alloc _).drewN _) (fun _ _ h => h)
    have hsz4 : w3.heap.size < w4.heap.size := by rw [← hw4]; simp
    have hO4 : Only F w w4 := by rw [← hw4]; exact ((HM.out.only.mono (fun k _ e => by rw [e]; exact HP.out.h1)).alloc _).drewN _
    have hS4 : Sending w w4 w4 F b { N with sent := N.sent + 1, L := copiesTo N now fr to tx 0 ++ N.L } #[.int .i64 fr, .int .i64 to, .string tx] #[.bool false, .int .i64 c, .int .i64 dl] w3.heap.size := by
      refine ⟨⟨F, hP4.net, fun k hk => .inl hk, Only.refl _ _⟩, ?_, ?_⟩
      · rw [← hw4]; exact (Below.heap_alloc w3 _ _ hsz).trans HM.out.msg
      · rw [← hw4]; exact HW.out
    clear hw4 hlk1 hlk2 n0 m0 m1 m2 N0 n2 HW
    go_loopw [60] (fun vj wr => ∃ k : Nat, vj = .int .i64 k ∧ k ≤ c ∧ Sending w w4 wr F b { N with sent := N.sent + 1, L := copiesTo N now fr to tx k ++ N.L } #[.int .i64 fr, .int .i64 to, .string tx] #[.bool false, .int .i64 c, .int .i64 dl] w3.heap.size) (fun vj _ => c - (intOf vj).toNat)
    case atStart => exact ⟨0, rfl, Nat.zero_le _, hS4⟩
    case round =>
      obtain ⟨k, rfl, hk, hS⟩ := hrel
      obtain ⟨F1, hN1, hF1, hO1⟩ := hS.net
      by_cases hlt : k < c
      · obtain ⟨sv1, gm1, v1, q1, hP1⟩ := hN1.parts
        have e0 := cell_of_row wr w.heap.size 0 _ 31 (0, 0) hS.msg
        have e1 := cell_of_row wr w.heap.size 1 _ 31 (0, 0) hS.msg
        have e2 := cell_of_row wr w.heap.size 2 _ 31 (0, 0) hS.msg
        have e3 := cell_of_row wr w3.heap.size 2 _ 44 (0, 0) hS.tb
        simp at e0 e1 e2 e3
        have hql : q1.length < 1000000 := by
          rw [hP1.hp.length_eq]; simp [copiesTo_length]; omega
        go_wp2_with fail
        refine (hpush_any b 4 _ 56 v1 q1 ⟨fr, to, tx, now + dl + k, N.sent⟩ wr hP1.hq hql).mono ?_
        rintro e w5 ⟨rfl, hQL⟩
        have hN5 := push_left hP1 hQL
        have hS5 := hS.step hF1 HP.out.h5 hsz hsz4 hO1 hN5
        have HS5 := Lib.hid hS5
        clear hS5 hN5 hQL e0 e1 e2 e3
        go_wp2
        go_roundw
        case rel => exact ⟨k + 1, by go_num, by omega, by have := HS5.out; rw [← HC.out k] at this; exact this⟩
        case measure => simp [intOf]; omega
      · have hkc : k = c := by omega
        go_wp2
        go_end0
        refine ⟨rfl, NLeft.trans (fun k hk => .inl hk) hO4 ?_⟩
        have := hS.net
        rw [HCO.out]
        simpa [hkc] using this
  · have hgg : (N.gr fr != N.gr to) = false := by simp_all
    clear hd
    go_wp2_with fail
    go_quiet (first | (go_at_call_of 25 (Value.int IntKind.i64 to); exact quiet_left (isNode_is b N.nodes to _ _ (N0.out _) hto)) | (go_at_call_of 25 (Value.int IntKind.i64 fr); exact quiet_left (isNode_is b N.nodes fr _ _ (N0.out _) hfr)))
    go_wp2_with fail
    generalize hw4 : (w3.alloc (Obj.cells #[Value.bool false, Value.int IntKind.i64 ↑c, Value.int IntKind.i64 dl] 44)).drewN nq = w4
    have hP4 : Parts w4 F b { N with sent := N.sent + 1 } sv gm v q := by
      rw [← hw4]; exact HM.out.parts.frame (((Only.refl (fun _ => False) w3).alloc _).drewN _) (fun _ _ h => h)
    have hsz4 : w3.heap.size < w4.heap.size := by rw [← hw4]; simp
    have hO4 : Only F w w4 := by rw [← hw4]; exact ((HM.out.only.mono (fun k _ e => by rw [e]; exact HP.out.h1)).alloc _).drewN _
    have hS4 : Sending w w4 w4 F b { N with sent := N.sent + 1, L := copiesTo N now fr to tx 0 ++ N.L } #[.int .i64 fr, .int .i64 to, .string tx] #[.bool false, .int .i64 c, .int .i64 dl] w3.heap.size := by
      refine ⟨⟨F, hP4.net, fun k hk => .inl hk, Only.refl _ _⟩, ?_, ?_⟩
      · rw [← hw4]; exact (Below.heap_alloc w3 _ _ hsz).trans HM.out.msg
      · rw [← hw4]; exact HW.out
    clear hw4 hlk1 hlk2 n0 m0 m1 m2 N0 n2 HW
    go_loopw [60] (fun vj wr => ∃ k : Nat, vj = .int .i64 k ∧ k ≤ c ∧ Sending w w4 wr F b { N with sent := N.sent + 1, L := copiesTo N now fr to tx k ++ N.L } #[.int .i64 fr, .int .i64 to, .string tx] #[.bool false, .int .i64 c, .int .i64 dl] w3.heap.size) (fun vj _ => c - (intOf vj).toNat)
    case atStart => exact ⟨0, rfl, Nat.zero_le _, hS4⟩
    case round =>
      obtain ⟨k, rfl, hk, hS⟩ := hrel
      obtain ⟨F1, hN1, hF1, hO1⟩ := hS.net
      by_cases hlt : k < c
      · obtain ⟨sv1, gm1, v1, q1, hP1⟩ := hN1.parts
        have e0 := cell_of_row wr w.heap.size 0 _ 31 (0, 0) hS.msg
        have e1 := cell_of_row wr w.heap.size 1 _ 31 (0, 0) hS.msg
        have e2 := cell_of_row wr w.heap.size 2 _ 31 (0, 0) hS.msg
        have e3 := cell_of_row wr w3.heap.size 2 _ 44 (0, 0) hS.tb
        simp at e0 e1 e2 e3
        have hql : q1.length < 1000000 := by
          rw [hP1.hp.length_eq]; simp [copiesTo_length]; omega
        go_wp2_with fail
        refine (hpush_any b 4 _ 56 v1 q1 ⟨fr, to, tx, now + dl + k, N.sent⟩ wr hP1.hq hql).mono ?_
        rintro e w5 ⟨rfl, hQL⟩
        have hN5 := push_left hP1 hQL
        have hS5 := hS.step hF1 HP.out.h5 hsz hsz4 hO1 hN5
        have HS5 := Lib.hid hS5
        clear hS5 hN5 hQL e0 e1 e2 e3
        go_wp2
        go_roundw
        case rel => exact ⟨k + 1, by go_num, by omega, by have := HS5.out; rw [← HC.out k] at this; exact this⟩
        case measure => simp [intOf]; omega
      · have hkc : k = c := by omega
        go_wp2
        go_end0
        refine ⟨rfl, NLeft.trans (fun k hk => .inl hk) hO4 ?_⟩
        have := hS.net
        rw [HCO.out]
        simpa [hkc] using this
end Go.Proofs.Yteblaedfjifdhaa
