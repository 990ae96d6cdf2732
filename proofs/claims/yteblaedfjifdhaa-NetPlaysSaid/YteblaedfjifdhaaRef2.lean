/-
  The walk of the reference's Send.
-/
import Derived.Test.YteblaedfjifdhaaRef1
import Derived.Deep.RegionHeld3
import Derived.IntWalk
import Derived.Deep.DeepCutAuto
import Derived.Test.YteblaedfjifdhaaSplit
namespace Go.Proofs.Yteblaedfjifdhaa
open Go.RowKit

/-- The trouble of a message, by the reference. -/
def rtr (s : List Tr) (k : Nat) : Tr := if s.length = 0 then ⟨false, 1, 1⟩ else tel s (k % s.length)
/-- Is a message dropped by the reference? -/
def rdropB (R : RS) (fr tt : Int) : Bool := (rtr R.s R.sent).lost || decide (tt < 0) || decide (R.nodes ≤ tt) || (decide (0 ≤ fr) && decide (fr < R.nodes) && (rgr R.gs fr != rgr R.gs tt))
def rcopy (R : RS) (now fr tt : Int) (tx : ByteArray) (j : Nat) : Wt := ⟨fr, tt, tx, now + max (rtr R.s R.sent).delay 0 + j, R.sent⟩
def rcopiesTo (R : RS) (now fr tt : Int) (tx : ByteArray) : Nat → List Wt
  | 0 => []
  | j + 1 => rcopiesTo R now fr tt tx j ++ [rcopy R now fr tt tx j]
def rmany (R : RS) : Nat := (min (max (rtr R.s R.sent).copies 1) 8).toNat
theorem rcopiesTo_length (R : RS) (now fr tt : Int) (tx : ByteArray) (j : Nat) : (rcopiesTo R now fr tt tx j).length = j := by
  induction j with
  | zero => rfl
  | succ j ih => simp [rcopiesTo, ih]

/-- Send has laid the message and its trouble into blocks of their own. -/
structure RPre (w wx : World) (F : Nat → Prop) (b : Nat) (R : RS) (sv lv gv : Value) (msg : Array Value) (t : Tr) : Prop where
  ref : RefIs wx F b R sv lv gv
  msg : wx.heap[w.heap.size]? = some (.cells msg 31 (0, 0))
  tb : wx.heap[w.heap.size + 1]? = some (.cells #[.bool t.lost, .int .i64 t.copies, .int .i64 t.delay] 44 (0, 0))
  only : Only (fun k => k = b) w wx

theorem rpre_of {w : World} {F : Nat → Prop} {b : Nat} {R : RS} {sv lv gv : Value} (h : RefIs w F b R sv lv gv) (msg : Array Value) (t : Tr) :
    RPre w ((w.alloc (.cells msg 31)).alloc (.cells #[.bool t.lost, .int .i64 t.copies, .int .i64 t.delay] 44)) F b R sv lv gv msg t := by
  refine ⟨h.frame (((Only.refl (fun _ => False) w).alloc _).alloc _) (fun _ _ h => h), ?_, ?_, ((Only.refl _ w).alloc _).alloc _⟩
  · rw [Below.heap_alloc _ _ _ (by simp)]; exact heap_alloc_new w _
  · have := heap_alloc_new (w.alloc (.cells msg 31)) (.cells #[.bool t.lost, .int .i64 t.copies, .int .i64 t.delay] 44)
    rw [World.size_alloc] at this; exact this
theorem RPre.drew {w wx : World} {F : Nat → Prop} {b : Nat} {R : RS} {sv lv gv : Value} {msg : Array Value} {t : Tr} (h : RPre w wx F b R sv lv gv msg t) : RPre w wx.drew F b R sv lv gv msg t :=
  ⟨h.ref.frame ((Only.refl (fun _ => False) wx).drew) (fun _ _ h => h), h.msg, h.tb, h.only.drew⟩
theorem RPre.drewN {w wx : World} {F : Nat → Prop} {b : Nat} {R : RS} {sv lv gv : Value} {msg : Array Value} {t : Tr} (h : RPre w wx F b R sv lv gv msg t) (n : Nat) : RPre w (wx.drewN n) F b R sv lv gv msg t :=
  ⟨h.ref.frame ((Only.refl (fun _ => False) wx).drewN n) (fun _ _ h => h), h.msg, h.tb, h.only.drewN n⟩
theorem RPre.cells {w wx : World} {F : Nat → Prop} {b : Nat} {R : RS} {sv lv gv : Value} {fr tt : Int} {tx : ByteArray} {t : Tr} (h : RPre w wx F b R sv lv gv #[.int .i64 fr, .int .i64 tt, .string tx] t) :
    wx.cell? ⟨w.heap.size, 0, none⟩ = some (.int .i64 fr) ∧ wx.cell? ⟨w.heap.size, 1, none⟩ = some (.int .i64 tt) ∧ wx.cell? ⟨w.heap.size, 2, none⟩ = some (.string tx) ∧
    wx.cell? ⟨w.heap.size + 1, 0, none⟩ = some (.bool t.lost) ∧ wx.cell? ⟨w.heap.size + 1, 1, none⟩ = some (.int .i64 t.copies) ∧ wx.cell? ⟨w.heap.size + 1, 2, none⟩ = some (.int .i64 t.delay) ∧ w.heap.size + 1 < wx.heap.size := by
  refine ⟨?_, ?_, ?_, ?_, ?_, ?_, (Array.getElem?_eq_some_iff.1 h.tb).1⟩
  · rw [cell_of_row wx _ _ _ 31 (0, 0) h.msg]; rfl
  · rw [cell_of_row wx _ _ _ 31 (0, 0) h.msg]; rfl
  · rw [cell_of_row wx _ _ _ 31 (0, 0) h.msg]; rfl
  · rw [cell_of_row wx _ _ _ 44 (0, 0) h.tb]; rfl
  · rw [cell_of_row wx _ _ _ 44 (0, 0) h.tb]; rfl
  · rw [cell_of_row wx _ _ _ 44 (0, 0) h.tb]; rfl
/-- n.Sent++. -/
theorem RPre.sent {w wx : World} {F : Nat → Prop} {b : Nat} {R : RS} {sv lv gv : Value} {msg : Array Value} {t : Tr} (h : RPre w wx F b R sv lv gv msg t) (hlt : b < w.heap.size) :
    RPre w (wx.setCell ⟨b, 3, none⟩ (.int .i64 ((R.sent : Int) + 1))) F b { R with sent := R.sent + 1 } sv lv gv msg t := by
  have hO : Only (fun k => k = b) wx (wx.setCell ⟨b, 3, none⟩ (.int .i64 ((R.sent : Int) + 1))) := (Only.refl (fun k => k = b) wx).setCell (.inl rfl) _
  have hm := (Array.getElem?_eq_some_iff.1 h.msg).1
  have ht := (Array.getElem?_eq_some_iff.1 h.tb).1
  refine ⟨⟨?_, hO.owns h.ref.scr (fun k e => (h.ref.fs k e).2.1), hO.owns h.ref.cps (fun k e => (h.ref.fl k e).2), hO.owns h.ref.grs (fun k e => (h.ref.fg k e).2.1), h.ref.fb, h.ref.fs, h.ref.fl, h.ref.fg, ?_⟩, ?_, ?_, h.only.trans hO⟩
  · rw [heap_setCell_same wx b 3 _ 67 _ h.ref.blk]; rfl
  · intro k hk; have := h.ref.lt k hk; simpa using this
  · rw [hO.block _ hm (by omega)]; exact h.msg
  · rw [hO.block _ ht (by omega)]; exact h.tb

def rsendR (R : RS) (now fr tt : Int) (tx : ByteArray) : RS :=
  if rdropB R fr tt then { R with sent := R.sent + 1 } else { R with sent := R.sent + 1, L := R.L ++ rcopiesTo R now fr tt tx (rmany R) }

theorem Try.info78 : (Try.prog.info? 78).map (fun i => (i.zero, i.size, i.bytes)) = some (some (.agg #[.int .i64 0, .int .i64 0, .string ByteArray.empty, .int .i64 0, .int .i64 0]), 5, 48) := by kernel_rfl

/-- The state at the head of a round of the reference's Send. -/
structure RSending (w wr : World) (F : Nat → Prop) (b : Nat) (R' : RS) (sv gv : Value) (msg : Array Value) (t : Tr) : Prop where
  ref : ∃ F' lv, RefIs wr F' b R' sv lv gv ∧ ∀ k, F' k → F k ∨ w.heap.size + 2 ≤ k
  msg : wr.heap[w.heap.size]? = some (.cells msg 31 (0, 0))
  tb : wr.heap[w.heap.size + 1]? = some (.cells #[.bool t.lost, .int .i64 t.copies, .int .i64 t.delay] 44 (0, 0))
  only : Only F w wr
theorem RPre.sending {w wx : World} {F : Nat → Prop} {b : Nat} {R : RS} {sv lv gv : Value} {msg : Array Value} {t : Tr} (h : RPre w wx F b R sv lv gv msg t) : RSending w wx F b R sv gv msg t :=
  ⟨⟨F, lv, h.ref, fun _ hk => .inl hk⟩, h.msg, h.tb, h.only.mono (fun k _ e => by rw [e]; exact h.ref.fb)⟩
theorem RSending.left {w wx : World} {F : Nat → Prop} {b : Nat} {R : RS} {sv gv : Value} {msg : Array Value} {t : Tr} (h : RSending w wx F b R sv gv msg t) : RLeft w F b R wx := by
  obtain ⟨F', lv, hr, hF⟩ := h.ref
  exact ⟨F', ⟨sv, lv, gv, hr⟩, fun k hk => (hF k hk).imp id (fun h => by omega), h.only⟩
/-- n.L = append(n.L, x), behind it. -/
theorem RSending.more {w wr w1 : World} {F : Nat → Prop} {b : Nat} {R : RS} {sv lv gv : Value} {msg : Array Value} {t : Tr} {F' : Nat → Prop} {A : Obj} {x : Wt} {g cap : Nat} (h : RSending w wr F b R sv gv msg t) (hr : RefIs wr F' b R sv lv gv)
    (hF : ∀ k, F' k → F k ∨ w.heap.size + 2 ≤ k) (hF0 : ∀ k, F k → k < w.heap.size)
    (hown : w1.ownsRow 0 78 5 (.slice (some ⟨g, 0, none⟩) (R.L.length + 1) cap) (R.L.length + 1) (row R.L ++ x.cells)) (hg : ((wr.alloc A).drew).grownBy w1 lv.ownBlock) (hat : lv.ownBlock = some g ∨ g = wr.heap.size + 1) (hlt : g < w1.heap.size) :
    RSending w (w1.setCell ⟨b, 2, none⟩ (.slice (some ⟨g, 0, none⟩) (R.L.length + 1) cap)) F b { R with L := R.L ++ [x] } sv gv msg t := by
  have hO1 : Only (fun k => lv.ownBlock = some k) wr w1 := (((Only.refl _ wr).alloc A).drew).grown hg (fun k e _ => e)
  have hOb : Only (fun k => k = b) w1 (w1.setCell ⟨b, 2, none⟩ (.slice (some ⟨g, 0, none⟩) (R.L.length + 1) cap)) := (Only.refl (fun k => k = b) w1).setCell (.inl rfl) _
  have hbF : F' b := hr.fb
  have hbl := hr.lt b hbF
  have hlb : lv.ownBlock ≠ some b := fun e => (hr.fl b e).2 rfl
  have hmsg := (Array.getElem?_eq_some_iff.1 h.msg).1
  have htb := (Array.getElem?_eq_some_iff.1 h.tb).1
  have hs1 := hO1.size
  have hgne : g ≠ b := by
    rcases hat with e | e
    · exact (hr.fl g e).2
    · omega
  have hblk1 : w1.heap[b]? = some (.cells (refCells R sv lv gv) 67 (0, 0)) := by rw [hO1.block b hbl hlb]; exact hr.blk
  have nF : ∀ m, w.heap.size ≤ m → m < w.heap.size + 2 → ¬ F' m := fun m h1 h2 hf => by
    rcases hF m hf with h | h
    · have := hF0 m h; omega
    · omega
  refine ⟨⟨fun k => F' k ∨ k = g, .slice (some ⟨g, 0, none⟩) (R.L.length + 1) cap, ⟨?_, hOb.owns (hO1.owns hr.scr (fun k e => (hr.fs k e).2.2)) (fun k e => (hr.fs k e).2.1), ?_, hOb.owns (hO1.owns hr.grs (fun k e => (hr.fg k e).2.2)) (fun k e => (hr.fg k e).2.1), .inl hbF, fun k e => ?_, fun k e => ?_, fun k e => ?_, ?_⟩, ?_⟩, ?_, ?_, ?_⟩
  · rw [heap_setCell_same w1 b 2 _ 67 _ hblk1]; rfl
  · have := hOb.owns hown (fun k e e' => by simp [Value.ownBlock] at e; omega)
    show World.ownsRow _ 0 78 5 _ _ (row (R.L ++ [x]))
    rw [row_append, row_one, List.length_append]
    exact this
  · obtain ⟨p, q, r⟩ := hr.fs k e
    refine ⟨.inl p, q, fun e' => ?_⟩
    simp only [Value.ownBlock, Option.some.injEq] at e'
    rcases hat with h' | h'
    · exact r (by rw [h', e'])
    · have := hr.lt k p; omega
  · simp only [Value.ownBlock, Option.some.injEq] at e
    exact ⟨.inr e.symm, by omega⟩
  · obtain ⟨p, q, r⟩ := hr.fg k e
    refine ⟨.inl p, q, fun e' => ?_⟩
    simp only [Value.ownBlock, Option.some.injEq] at e'
    rcases hat with h' | h'
    · exact r (by rw [h', e'])
    · have := hr.lt k p; omega
  · rintro k (hk | hk)
    · have := hr.lt k hk; have := hOb.size; omega
    · have := hOb.size; omega
  · rintro k (hk | hk)
    · exact hF k hk
    · rcases hat with e | e
      · rw [hk]; exact hF g (hr.fl g e).1
      · right; omega
  · rw [hOb.block _ (by omega) (by intro e; exact nF b (by omega) (by omega) hbF), hO1.block _ hmsg (fun e => nF _ (by omega) (by omega) (hr.fl _ e).1)]; exact h.msg
  · rw [hOb.block _ (by omega) (by intro e; exact nF b (by omega) (by omega) hbF), hO1.block _ htb (fun e => nF _ (by omega) (by omega) (hr.fl _ e).1)]; exact h.tb
  · refine (h.only.trans' hO1 (fun i hi e => ?_)).trans' hOb (fun i hi e => ?_)
    · rcases hF i (hr.fl i e).1 with h | h
      · exact h
      · omega
    · rw [e]; rcases hF b hbF with h | h
      · exact h
      · omega

theorem news1 (w : World) (cs : List Value) (T : TypeId) : ∀ j u, cs[j]? = some u → ((w.alloc (.cells cs.toArray T)).drew).cell? ((⟨w.heap.size, 0, none⟩ : Addr).add j) = some u := by
  have h : ((w.alloc (.cells cs.toArray T)).drew).heap[w.heap.size]? = some (.cells cs.toArray T) := heap_alloc_new w (.cells cs.toArray T)
  intro j u hu
  exact World.news_of_block h j u (by simpa using hu)
theorem one_later' (w : World) (A : Obj) {p : Addr} {v : Value} (hc : w.cell? p = some v) : ((w.alloc A).drew).cell? p = some v :=
  (((Below.refl _ w).alloc (Nat.le_refl _) A).cell (World.block_lt_of_cell? w _ hc)).trans hc
theorem one_later (w : World) (A : Obj) {p : Addr} {v : Value} (hc : w.cell? p = some v) (hf : w.frozen? p = false) :
    ((w.alloc A).drew).cell? p = some v ∧ ((w.alloc A).drew).frozen? p = false ∧ p.block < ((w.alloc A).drew).heap.size := by
  have hb := (Below.refl _ w).alloc (Nat.le_refl _) A
  have hlt := World.block_lt_of_cell? w _ hc
  exact ⟨(hb.cell hlt).trans hc, (hb.frozen hlt).trans hf, Nat.lt_of_lt_of_le hlt hb.size⟩

set_option maxRecDepth 100000 in
set_option maxHeartbeats 4000000 in
theorem rsend_is (F : Nat → Prop) (b : Nat) (R : RS) (now : Int) (fr tt : Int) (tx : ByteArray) (w : World) (sv lv gv : Value) (h : RefIs w F b R sv lv gv) (hs1 : R.sent < 1000000) (hll : R.L.length ≤ 1000000) (hn1 : -10000000 ≤ now) (hn2 : now ≤ 10000000) (hdl : (rtr R.s R.sent).delay ≤ 10000000) :
    Calls Try.prog 16 #[.pointer (some ⟨b, 0, none⟩), .int .i64 now, .agg #[.int .i64 fr, .int .i64 tt, .string tx]] w fun e w' => e = .returned (.tuple #[]) ∧ RLeft w F b (rsendR R now fr tt tx) w' := by
  have hbl := h.lt b h.fb
  obtain ⟨c0, c1, c2, c3, c4⟩ := h.cells
  obtain ⟨sa, sc, rfl⟩ := slice_of_own h.scr
  have HR := Lib.hid h
  have HP := Lib.hid (rpre_of h #[.int .i64 fr, .int .i64 tt, .string tx])
  clear h
  go_enter Try.func16, Try.ntmps16
  go_upto_if 15 with (fail)
  go_cut [15] (fun _ wx => RPre w wx F b R (.slice sa R.s.length sc) lv gv #[.int .i64 fr, .int .i64 tt, .string tx] (rtr R.s R.sent))
  case first =>
    by_cases h0 : R.s.length = 0
    · have H0 := Lib.hid (show rtr R.s R.sent = ⟨false, 1, 1⟩ by unfold rtr; rw [if_pos h0])
      have hlen : ¬ 0 < R.s.length := by omega
      clear h0
      go_wp2_with fail
      go_meet
      rw [H0.out]
      exact HP.out ⟨false, 1, 1⟩
    · obtain ⟨g, cp, hsl', _, _⟩ := HR.out.scr.form (by omega)
      simp only [Value.slice.injEq, true_and] at hsl'
      obtain ⟨rfl, rfl⟩ := hsl'
      have hn : 0 < R.s.length := by omega
      have hmod : R.sent % R.s.length < R.s.length := Nat.mod_lt _ hn
      have hcell : ∀ j, j < 3 → w.cell? ⟨g, R.sent % R.s.length * 3 + j, none⟩ = (tel R.s (R.sent % R.s.length)).cells[j]? := fun j hj => by
        rw [HR.out.scr.cellAt _ (by omega), trow_get R.s _ j hmod hj]
      have e0 := hcell 0 (by omega)
      have e1 := hcell 1 (by omega)
      have e2 := hcell 2 (by omega)
      simp only [Tr.cells, List.getElem?_cons_zero, List.getElem?_cons_succ, Nat.add_zero] at e0 e1 e2
      have H0 := Lib.hid (show rtr R.s R.sent = tel R.s (R.sent % R.s.length) by unfold rtr; rw [if_neg h0])
      have hnb : ((R.s.length : Int) == 0) = false := beq_eq_false_iff_ne.2 (by omega)
      have hgl : g < w.heap.size := World.block_lt_of_cell? w _ e0
      generalize tel R.s (R.sent % R.s.length) = t at *
      obtain ⟨lo, cp, dl⟩ := t
      dsimp only at e0 e1 e2
      clear hcell h0
      go_wp2_with fail
      go_region
      all_goals
        go_wp2_with fail
        go_meet
        rw [H0.out]
        exact (HP.out ⟨lo, cp, dl⟩).drew
  case rest =>
    clear c0 c1 c2 c3 c4 HP
    have HC := Lib.hid hcut
    clear hcut
    obtain ⟨c0, c1, c2, c3, c4⟩ := HC.out.ref.cells
    have hbl' := HC.out.ref.lt b HC.out.ref.fb
    have f3 := frozen_of_row wc b 3 _ 67 HC.out.ref.blk
    go_upto_region 6 with (fail)
    go_cut [83] (fun v wx => v = .bool (rdropB R fr tt) ∧ RPre w wx F b { R with sent := R.sent + 1 } (.slice sa R.s.length sc) lv gv #[.int .i64 fr, .int .i64 tt, .string tx] (rtr R.s R.sent))
    case first =>
      have hs := HC.out.sent hbl
      generalize wc.setCell ⟨b, 3, none⟩ (.int .i64 ((R.sent : Int) + 1)) = wd at *
      clear c0 c1 c2 c3 c4 f3 hbl' HC
      obtain ⟨m0, m1, m2, t0, t1, t2, hsz⟩ := hs.cells
      obtain ⟨n0, n1, n2, n3, n4⟩ := hs.ref.cells
      have hbl' := hs.ref.lt b hs.ref.fb
      have HN := Lib.hid (fun nq => hs.ref.frame ((Only.refl (fun _ => False) wd).drewN nq) (fun _ _ h => h))
      have HS := Lib.hid hs
      obtain ⟨g1, hg1⟩ : ∃ g1, rgr R.gs fr = g1 := ⟨_, rfl⟩
      obtain ⟨g2, hg2⟩ : ∃ g2, rgr R.gs tt = g2 := ⟨_, rfl⟩
      have HD := Lib.hid (show rdropB R fr tt = ((rtr R.s R.sent).lost || decide (tt < 0) || decide (R.nodes ≤ tt) || (decide (0 ≤ fr) && decide (fr < R.nodes) && (g1 != g2))) by unfold rdropB; rw [hg1, hg2])
      have HG1 := Lib.hid hg1
      have HG2 := Lib.hid hg2
      clear hs hg1 hg2
      generalize rtr R.s R.sent = t at *
      obtain ⟨lo, cp, dl⟩ := t
      dsimp only at t0 t1 t2
      cases lo
      · by_cases b1 : tt < 0
        · have d1 : decide (tt < 0) = true := decide_eq_true b1
          go_quiet (first | (go_at_call_of 27 (Value.int IntKind.i64 fr); exact quiet_left (group_is F b _ _ _ _ fr g1 _ (HN.out _) f0 HG1.out)) | (go_at_call_of 27 (Value.int IntKind.i64 tt); exact quiet_left (group_is F b _ _ _ _ tt g2 _ (HN.out _) (by omega) HG2.out)))
          go_wp2
          go_meet
          refine ⟨?_, HS.out.drewN _⟩
          rw [HD.out]
          simp [*]
        · have d1 : decide (tt < 0) = false := decide_eq_false b1
          by_cases b2 : R.nodes ≤ tt
          · have d2 : decide (R.nodes ≤ tt) = true := decide_eq_true b2
            go_quiet (first | (go_at_call_of 27 (Value.int IntKind.i64 fr); exact quiet_left (group_is F b _ _ _ _ fr g1 _ (HN.out _) f0 HG1.out)) | (go_at_call_of 27 (Value.int IntKind.i64 tt); exact quiet_left (group_is F b _ _ _ _ tt g2 _ (HN.out _) (by omega) HG2.out)))
            go_wp2
            go_meet
            refine ⟨?_, HS.out.drewN _⟩
            rw [HD.out]
            simp [*]
          · have d2 : decide (R.nodes ≤ tt) = false := decide_eq_false b2
            by_cases f0 : 0 ≤ fr
            · have d3 : decide (0 ≤ fr) = true := decide_eq_true f0
              by_cases f1 : fr < R.nodes
              · have d4 : decide (fr < R.nodes) = true := decide_eq_true f1
                cases hg : (g1 != g2)
                · go_quiet (first | (go_at_call_of 27 (Value.int IntKind.i64 fr); exact quiet_left (group_is F b _ _ _ _ fr g1 _ (HN.out _) f0 HG1.out)) | (go_at_call_of 27 (Value.int IntKind.i64 tt); exact quiet_left (group_is F b _ _ _ _ tt g2 _ (HN.out _) (by omega) HG2.out)))
                  go_wp2
                  go_meet
                  refine ⟨?_, HS.out.drewN _⟩
                  rw [HD.out]
                  simp [*]
                · go_quiet (first | (go_at_call_of 27 (Value.int IntKind.i64 fr); exact quiet_left (group_is F b _ _ _ _ fr g1 _ (HN.out _) f0 HG1.out)) | (go_at_call_of 27 (Value.int IntKind.i64 tt); exact quiet_left (group_is F b _ _ _ _ tt g2 _ (HN.out _) (by omega) HG2.out)))
                  go_wp2
                  go_meet
                  refine ⟨?_, HS.out.drewN _⟩
                  rw [HD.out]
                  simp [*]
              · have d4 : decide (fr < R.nodes) = false := decide_eq_false f1
                go_quiet (first | (go_at_call_of 27 (Value.int IntKind.i64 fr); exact quiet_left (group_is F b _ _ _ _ fr g1 _ (HN.out _) f0 HG1.out)) | (go_at_call_of 27 (Value.int IntKind.i64 tt); exact quiet_left (group_is F b _ _ _ _ tt g2 _ (HN.out _) (by omega) HG2.out)))
                go_wp2
                go_meet
                refine ⟨?_, HS.out.drewN _⟩
                rw [HD.out]
                simp [*]
            · have d3 : decide (0 ≤ fr) = false := decide_eq_false f0
              go_quiet (first | (go_at_call_of 27 (Value.int IntKind.i64 fr); exact quiet_left (group_is F b _ _ _ _ fr g1 _ (HN.out _) f0 HG1.out)) | (go_at_call_of 27 (Value.int IntKind.i64 tt); exact quiet_left (group_is F b _ _ _ _ tt g2 _ (HN.out _) (by omega) HG2.out)))
              go_wp2
              go_meet
              refine ⟨?_, HS.out.drewN _⟩
              rw [HD.out]
              simp [*]
      · go_quiet (first | (go_at_call_of 27 (Value.int IntKind.i64 fr); exact quiet_left (group_is F b _ _ _ _ fr g1 _ (HN.out _) f0 HG1.out)) | (go_at_call_of 27 (Value.int IntKind.i64 tt); exact quiet_left (group_is F b _ _ _ _ tt g2 _ (HN.out _) (by omega) HG2.out)))
        go_wp2
        go_meet
        refine ⟨?_, HS.out.drewN _⟩
        rw [HD.out]
        simp [*]
    case rest =>
      obtain ⟨rfl, hS⟩ := hcut
      clear c0 c1 c2 c3 c4 f3 hbl' HC
      cases hd : rdropB R fr tt
      · have HF := Lib.hid (show rsendR R now fr tt tx = { R with sent := R.sent + 1, L := R.L ++ rcopiesTo R now fr tt tx (rmany R) } by unfold rsendR; rw [hd]; rfl)
        have HS := Lib.hid hS.sending
        have hbd : 1 ≤ rmany R ∧ rmany R ≤ 8 := by unfold rmany; omega
        have HM := Lib.hid (show ((rmany R : Nat) : Int) = min (max (rtr R.s R.sent).copies 1) 8 by unfold rmany; omega)
        have HC := Lib.hid (fun j => show rcopy R now fr tt tx j = ⟨fr, tt, tx, now + max (rtr R.s R.sent).delay 0 + j, R.sent⟩ from rfl)
        obtain ⟨M1, M2⟩ := hbd
        clear hS hd
        generalize rtr R.s R.sent = t at *
        obtain ⟨lo, cp, dl⟩ := t
        dsimp only at hdl
        generalize hM : rmany R = M at *
        clear hM
        obtain ⟨i0, hi, hz0, hz1, hz2⟩ := info_parts Try.info78
        go_wp2_with fail
        go_loopw [8] (fun vj wr => ∃ k : Nat, vj = .int .i64 k ∧ k ≤ M ∧ RSending w wr F b { R with sent := R.sent + 1, L := R.L ++ rcopiesTo R now fr tt tx k } (.slice sa R.s.length sc) gv #[.int .i64 fr, .int .i64 tt, .string tx] ⟨lo, cp, dl⟩) (fun vj _ => M - (intOf vj).toNat)
        case atStart => exact ⟨0, rfl, Nat.zero_le _, by simpa [rcopiesTo] using HS.out⟩
        case round =>
          clear HS
          obtain ⟨k, rfl, hk, hS⟩ := hrel
          obtain ⟨F', lv', hr, hF'⟩ := hS.ref
          have e0 := cell_of_row wr w.heap.size 0 _ 31 (0, 0) hS.msg
          have e1 := cell_of_row wr w.heap.size 1 _ 31 (0, 0) hS.msg
          have e2 := cell_of_row wr w.heap.size 2 _ 31 (0, 0) hS.msg
          have e3 := cell_of_row wr (w.heap.size + 1) 1 _ 44 (0, 0) hS.tb
          have e4 := cell_of_row wr (w.heap.size + 1) 2 _ 44 (0, 0) hS.tb
          simp at e0 e1 e2 e3 e4
          have hsz := (Array.getElem?_eq_some_iff.1 hS.tb).1
          obtain ⟨c0, c1, c2, c3, c4⟩ := hr.cells
          have hblr := hr.lt b hr.fb
          have f2 := frozen_of_row wr b 2 _ 67 hr.blk
          have HR2 := Lib.hid hr
          have HF2 := Lib.hid hF'
          have HS2 := Lib.hid hS
          clear hS hr hF' c0 c1 c3 c4
          have hcp : (cp < 1 ∧ M ≤ 1) ∨ (1 ≤ cp ∧ cp ≤ 8 ∧ (M : Int) ≤ cp ∧ cp ≤ M) ∨ (8 < cp ∧ 8 ≤ M) := by have := HM.out; omega
          obtain ⟨LL, hLL⟩ : ∃ LL, R.L ++ rcopiesTo R now fr tt tx k = LL := ⟨_, rfl⟩
          have hLm : LL.length ≤ 1000010 := by rw [← hLL, List.length_append, rcopiesTo_length]; omega
          have HW := Lib.hid (show wr.ownsRow 0 78 5 lv' LL.length (row LL) by rw [← hLL]; exact HR2.out.cps)
          have HLL := Lib.hid hLL
          have hlb : lv'.ownBlock ≠ some b := fun e => (HR2.out.fl b e).2 rfl
          clear hLL
          go_upto_region 8 with (fail)
          go_cut [89] (fun v wx => v = .bool (decide (k < M)) ∧ wx = wr)
          case first =>
            rcases hcp with ⟨p1, p2⟩ | ⟨p1, p2, p3, p4⟩ | ⟨p1, p2⟩
            all_goals
              go_wp2
              go_meet
              refine ⟨congrArg Value.bool ?_, rfl⟩
              rw [Bool.eq_iff_iff, decide_eq_true_iff, decide_eq_true_iff]
              omega
          case rest =>
            obtain ⟨rfl, rfl⟩ := hcut
            clear hcp
            by_cases hlt : k < M
            · obtain ⟨TM, hTM⟩ : ∃ TM, IntKind.i64.wrap (IntKind.i64.wrap (now + if dl < 0 then 0 else dl) + ↑k) = TM := ⟨_, rfl⟩
              have hH0 : some w.heap.size ≠ lv'.ownBlock := fun e => by
                rcases HF2.out _ (HR2.out.fl _ e.symm).1 with h | h
                · have := HR.out.lt _ h; omega
                · omega
              have hH1 : some (w.heap.size + 1) ≠ lv'.ownBlock := fun e => by
                rcases HF2.out _ (HR2.out.fl _ e.symm).1 with h | h
                · have := HR.out.lt _ h; omega
                · omega
              go_upto_region 10 with (fail)
              refine wp_region_split 17 (by kernel_rfl) (by kernel_rfl) (wpAny_of_held (S := fun w' => w'.cell? ⟨b, 2, none⟩ = some lv' ∧ w'.cell? ⟨w.heap.size, 0, none⟩ = some (.int .i64 fr) ∧ w'.cell? ⟨w.heap.size, 1, none⟩ = some (.int .i64 tt) ∧ w'.cell? ⟨w.heap.size, 2, none⟩ = some (.string tx) ∧ w'.cell? ⟨w.heap.size + 1, 2, none⟩ = some (.int .i64 dl)) _ _ _ _ ?_)
              simp only [List.take_succ_cons, List.take_zero]
              change wpAnyH _ _ _ _ _ _ _ _ wc.drew
              have hHeld : wc.drew.cell? ⟨b, 2, none⟩ = some lv' ∧ wc.drew.cell? ⟨w.heap.size, 0, none⟩ = some (.int .i64 fr) ∧ wc.drew.cell? ⟨w.heap.size, 1, none⟩ = some (.int .i64 tt) ∧ wc.drew.cell? ⟨w.heap.size, 2, none⟩ = some (.string tx) ∧ wc.drew.cell? ⟨w.heap.size + 1, 2, none⟩ = some (.int .i64 dl) := ⟨c2, e0, e1, e2, e4⟩
              refine' wpAnyH_take (i := 0) (v := _) rfl (by kernel_rfl) (by kernel_rfl) (by kernel_rfl) (fun _ _ _ h => h) (Or.inl ⟨by rfl, ?hy0⟩) hHeld ?r0
              case hy0 => (intro w hSw; obtain ⟨s0, s1, s2, s3, s4⟩ := hSw; go_simp; with_reducible rfl)
              simp only [Act.put, List.getElem_toArray, List.getElem_cons_zero, List.setIfInBounds_toArray, List.set_cons_zero, List.set_cons_succ]
              refine' wpAnyH_take (i := 1) (v := _) rfl (by kernel_rfl) (by kernel_rfl) (by kernel_rfl) (fun _ _ _ h => h) (Or.inl ⟨by rfl, ?hy1⟩) hHeld ?r1
              case hy1 => (intro w hSw; obtain ⟨s0, s1, s2, s3, s4⟩ := hSw; go_simp; with_reducible rfl)
              simp only [Act.put, List.getElem_toArray, List.getElem_cons_zero, List.getElem_cons_succ, List.setIfInBounds_toArray, List.set_cons_zero, List.set_cons_succ]
              refine' wpAnyH_take (i := 2) (v := _) rfl (by kernel_rfl) (by kernel_rfl) (by kernel_rfl) (fun _ _ _ h => h) (Or.inl ⟨by rfl, ?hy2⟩) hHeld ?r2
              case hy2 => (intro w hSw; obtain ⟨s0, s1, s2, s3, s4⟩ := hSw; go_simp; with_reducible rfl)
              simp only [Act.put, List.getElem_toArray, List.getElem_cons_zero, List.getElem_cons_succ, List.setIfInBounds_toArray, List.set_cons_zero, List.set_cons_succ]
              refine' wpAnyH_take (i := 3) (v := _) rfl (by kernel_rfl) (by kernel_rfl) (by kernel_rfl) (fun _ _ _ h => h) (Or.inl ⟨by rfl, ?hy3⟩) hHeld ?r3
              case hy3 => (intro w hSw; obtain ⟨s0, s1, s2, s3, s4⟩ := hSw; go_simp; with_reducible rfl)
              simp only [Act.put, List.getElem_toArray, List.getElem_cons_zero, List.getElem_cons_succ, List.setIfInBounds_toArray, List.set_cons_zero, List.set_cons_succ]
              refine' wpAnyH_take (i := 4) (v := _) rfl (by kernel_rfl) (by kernel_rfl) (by kernel_rfl) (fun _ _ _ h => h) (Or.inl ⟨by rfl, ?hy4⟩) hHeld ?r4
              case hy4 => (intro w hSw; obtain ⟨s0, s1, s2, s3, s4⟩ := hSw; go_simp; with_reducible rfl)
              simp only [Act.put, List.getElem_toArray, List.getElem_cons_zero, List.getElem_cons_succ, List.setIfInBounds_toArray, List.set_cons_zero, List.set_cons_succ]
              refine' wpAnyH_take (i := 5) (v := _) rfl (by kernel_rfl) (by kernel_rfl) (by kernel_rfl) (fun _ _ _ h => h) (Or.inl ⟨by rfl, ?hy5⟩) hHeld ?r5
              case hy5 => (intro w hSw; obtain ⟨s0, s1, s2, s3, s4⟩ := hSw; go_simp; with_reducible rfl)
              simp only [Act.put, List.getElem_toArray, List.getElem_cons_zero, List.getElem_cons_succ, List.setIfInBounds_toArray, List.set_cons_zero, List.set_cons_succ]
              refine' wpAnyH_take (i := 6) (v := _) rfl (by kernel_rfl) (by kernel_rfl) (by kernel_rfl) (fun _ _ _ h => h) (Or.inl ⟨by rfl, ?hy6⟩) hHeld ?r6
              case hy6 => (intro w hSw; obtain ⟨s0, s1, s2, s3, s4⟩ := hSw; go_simp; with_reducible rfl)
              simp only [Act.put, List.getElem_toArray, List.getElem_cons_zero, List.getElem_cons_succ, List.setIfInBounds_toArray, List.set_cons_zero, List.set_cons_succ]
              refine' wpAnyH_take (i := 7) (v := _) rfl (by kernel_rfl) (by kernel_rfl) (by kernel_rfl) (fun _ _ _ h => h) (Or.inl ⟨by rfl, ?hy7⟩) hHeld ?r7
              case hy7 => (intro w hSw; obtain ⟨s0, s1, s2, s3, s4⟩ := hSw; go_simp; with_reducible rfl)
              simp only [Act.put, List.getElem_toArray, List.getElem_cons_zero, List.getElem_cons_succ, List.setIfInBounds_toArray, List.set_cons_zero, List.set_cons_succ]
              refine' wpAnyH_take (i := 8) (v := _) rfl (by kernel_rfl) (by kernel_rfl) (by kernel_rfl) (fun _ _ _ h => h) (Or.inl ⟨by rfl, ?hy8⟩) hHeld ?r8
              case hy8 => (intro w hSw; obtain ⟨s0, s1, s2, s3, s4⟩ := hSw; go_simp; with_reducible rfl)
              simp only [Act.put, List.getElem_toArray, List.getElem_cons_zero, List.getElem_cons_succ, List.setIfInBounds_toArray, List.set_cons_zero, List.set_cons_succ]
              refine' wpAnyH_take (i := 9) (v := _) rfl (by kernel_rfl) (by kernel_rfl) (by kernel_rfl) (fun _ _ _ h => h) (Or.inl ⟨by rfl, ?hy9⟩) hHeld ?r9
              case hy9 => (intro w hSw; obtain ⟨s0, s1, s2, s3, s4⟩ := hSw; go_simp; with_reducible rfl)
              simp only [Act.put, List.getElem_toArray, List.getElem_cons_zero, List.getElem_cons_succ, List.setIfInBounds_toArray, List.set_cons_zero, List.set_cons_succ]
              refine' wpAnyH_take (i := 10) (v := _) rfl (by kernel_rfl) (by kernel_rfl) (by kernel_rfl) (fun _ _ _ h => h) (Or.inl ⟨by rfl, ?hy10⟩) hHeld ?r10
              case hy10 => (intro w hSw; obtain ⟨s0, s1, s2, s3, s4⟩ := hSw; go_simp; with_reducible rfl)
              simp only [Act.put, List.getElem_toArray, List.getElem_cons_zero, List.getElem_cons_succ, List.setIfInBounds_toArray, List.set_cons_zero, List.set_cons_succ]
              refine' wpAnyH_take (i := 11) (v := _) rfl (by kernel_rfl) (by kernel_rfl) (by kernel_rfl) (fun _ _ _ h => h) (Or.inl ⟨by rfl, ?hy11⟩) hHeld ?r11
              case hy11 => (intro w hSw; obtain ⟨s0, s1, s2, s3, s4⟩ := hSw; go_simp; with_reducible rfl)
              simp only [Act.put, List.getElem_toArray, List.getElem_cons_zero, List.getElem_cons_succ, List.setIfInBounds_toArray, List.set_cons_zero, List.set_cons_succ]
              refine' wpAnyH_take (i := 12) (v := _) rfl (by kernel_rfl) (by kernel_rfl) (by kernel_rfl) (fun _ _ _ h => h) (Or.inl ⟨by rfl, ?hy12⟩) hHeld ?r12
              case hy12 => (intro w hSw; obtain ⟨s0, s1, s2, s3, s4⟩ := hSw; go_simp; with_reducible rfl)
              simp only [Act.put, List.getElem_toArray, List.getElem_cons_zero, List.getElem_cons_succ, List.setIfInBounds_toArray, List.set_cons_zero, List.set_cons_succ]
              refine' wpAnyH_take (i := 13) (v := _) rfl (by kernel_rfl) (by kernel_rfl) (by kernel_rfl) (fun _ _ _ h => h) (Or.inl ⟨by rfl, ?hy13⟩) hHeld ?r13
              case hy13 => (intro w hSw; obtain ⟨s0, s1, s2, s3, s4⟩ := hSw; go_simp; with_reducible rfl)
              simp only [Act.put, List.getElem_toArray, List.getElem_cons_zero, List.getElem_cons_succ, List.setIfInBounds_toArray, List.set_cons_zero, List.set_cons_succ]
              refine' wpAnyH_take (i := 14) (v := _) rfl (by kernel_rfl) (by kernel_rfl) (by kernel_rfl) (fun _ _ _ h => h) (Or.inl ⟨by rfl, ?hy14⟩) hHeld ?r14
              case hy14 => (intro w hSw; obtain ⟨s0, s1, s2, s3, s4⟩ := hSw; go_simp; with_reducible rfl)
              simp only [Act.put, List.getElem_toArray, List.getElem_cons_zero, List.getElem_cons_succ, List.setIfInBounds_toArray, List.set_cons_zero, List.set_cons_succ]
              refine wpAnyH_ready (rs := [15]) (by kernel_rfl) (by simp) ?_
              refine AllReadyH.cons rfl (fun K hK => ?_) AllReadyH.nil
              go_simp
              refine hK.out _ _ ⟨one_later' wc _ c2, one_later' wc _ e0, one_later' wc _ e1, one_later' wc _ e2, one_later' wc _ e4⟩ (fun hHeld => ?_)
              clear hK K
              refine wpAnyH_ready (rs := [16]) (by kernel_rfl) (by simp) ?_
              refine AllReadyH.cons rfl (fun K hK => ?_) AllReadyH.nil
              refine step_append_lies _ rfl _ _ 65 rfl 0 78 i0 _ 5 48 Try.underlying65 hi hz0 hz1 hz2 rfl (by decide) lv' LL.length (row LL) rfl (owns_drew (HW.out.alloc _)) ⟨wc.heap.size, 0, none⟩ 1 1 (Wt.cells ⟨fr, tt, tx, TM, R.sent⟩) rfl rfl (by exact news1 wc _ _) (Wt.one _) (by decide) (Nat.le_trans (Nat.succ_le_succ hLm) (by decide)) (by omega) (Nat.zero_le _) _ rfl ?_
              intro g cap w1 hown1 hgrow hat hlt1
              have c1 := hgrow.cell (one_later wc _ c2 f2).1 (Ne.symm hlb)
              have f1 := (hgrow.frozen_far ⟨b, 2, none⟩ (one_later wc _ c2 f2).2.2 (Ne.symm hlb)).trans (one_later wc _ c2 f2).2.1
              refine hK.out _ _ ⟨c1, hgrow.cell (one_later' wc _ e0) hH0, hgrow.cell (one_later' wc _ e1) hH0, hgrow.cell (one_later' wc _ e2) hH0, hgrow.cell (one_later' wc _ e4) hH1⟩ (fun hHeld => ?_)
              clear hK K
              refine wpAnyH_done (by kernel_rfl) ?_ _
              simp only [headPost, Act.put, List.getElem_toArray, List.getElem_cons_zero, List.getElem_cons_succ, List.setIfInBounds_toArray, List.set_cons_zero, List.set_cons_succ, List.drop_succ_cons, List.drop_zero]
              have hbl1 : b < w1.heap.size := by
                have := hgrow.size; simp at this; omega
              have hat' : lv'.ownBlock = some g ∨ g = wc.heap.size + 1 := by simpa using hat
              have HM3 := Lib.hid (HS2.out.more (x := ⟨fr, tt, tx, TM, R.sent⟩) HR2.out HF2.out HR.out.lt (by rw [HLL.out]; exact hown1) hgrow hat' hlt1)
              have HTM := Lib.hid (show TM = now + max dl 0 + k by
                have hx : (if dl < 0 then 0 else dl) = max dl 0 := by split <;> omega
                rw [← hTM, hx, IntWalk.i64_in (now + max dl 0) (by omega), IntWalk.i64_in _ (by omega)])
              clear hTM hown1 hgrow hat hat' hHeld HW e0 e1 e2 e3 e4 c2 f2
              go_wp2
              go_roundw
              case rel =>
                refine ⟨k + 1, by go_num, by omega, ?_⟩
                have h3 := HM3.out
                rw [HTM.out] at h3
                rw [show rcopiesTo R now fr tt tx (k + 1) = rcopiesTo R now fr tt tx k ++ [rcopy R now fr tt tx k] from rfl, ← List.append_assoc, HC.out k]
                simpa [HLL.out] using h3
              case measure => simp [intOf]; omega
            · have hkm : k = M := by omega
              have HS3 := Lib.hid (show RSending w wc F b { R with sent := R.sent + 1, L := R.L ++ rcopiesTo R now fr tt tx M } (.slice sa R.s.length sc) gv #[.int .i64 fr, .int .i64 tt, .string tx] ⟨lo, cp, dl⟩ by rw [← hkm]; exact HS2.out)
              clear hkm HS2
              go_wp2
              go_end0
              rw [HF.out]
              exact ⟨rfl, HS3.out.left⟩
      · have HF := Lib.hid (show rsendR R now fr tt tx = { R with sent := R.sent + 1 } by unfold rsendR; rw [hd]; rfl)
        have HS := Lib.hid hS
        clear hS hd
        go_wp2
        refine bodyPost_ret (results_none rfl _ _ _) rfl ⟨rfl, ?_⟩
        rw [HF.out]
        exact HS.out.sending.left
end Go.Proofs.Yteblaedfjifdhaa
