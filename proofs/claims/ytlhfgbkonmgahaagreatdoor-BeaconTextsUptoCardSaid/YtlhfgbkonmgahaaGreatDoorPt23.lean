/-
  The listed variables of the library's readers; strconv.Atoi.
  The program's reader of a partial: the number behind a word (beacon.Read$1).
  The program's reader of a partial (beacon.Read).
  The walk of the law BeaconTexts.
-/
import Derived.Test.YtlhfgbkonmgahaaGreatDoorPt19
import Derived.Test.YtlhfgbkonmgahaaGreatDoorShelfT
import Derived.OneCell
import Derived.Test.YtlhfgbkonmgahaaGreatDoorPt18
namespace Go.Proofs.YtlhfgbkonmgahaaGreatDoor
open Go.RowKit

/-- The listed variables, those of the library's readers too. -/
structure GlobT (w : World) : Prop where
  glob : Glob w
  syn : ∃ te pe, w.cell? ⟨1, 0, none⟩ = some (.iface te pe)
  ran : ∃ te pe, w.cell? ⟨2, 0, none⟩ = some (.iface te pe)
  len : ∃ m, w.cell? ⟨5, 0, none⟩ = some (.int .i64 m)
theorem GlobT.only {a b : World} (h : GlobT a) (hO : Only (fun _ => False) a b) : GlobT b := by
  obtain ⟨h1, ⟨t1, p1, h2⟩, ⟨t2, p2, h3⟩, ⟨m, h4⟩⟩ := h
  exact ⟨h1.only hO, ⟨t1, p1, hO.cell h2 id⟩, ⟨t2, p2, hO.cell h3 id⟩, ⟨m, hO.cell h4 id⟩⟩
theorem bytesW_only (w : World) (e : TypeId) (s : ByteArray) : Only (fun _ => False) w (Lib.bytesWorld w e s) :=
  ⟨rfl, rfl, rfl, by rw [Lib.bytesWorld_size]; omega, fun k hk _ => Lib.bytesWorld_at_old w e s k hk⟩
theorem atoi_R64 {l : List UInt8} {v : Int} (h : Lib.atoiAll l = .ok v) : R64 v := by
  cases l with
  | nil => cases h
  | cons c r =>
    unfold Lib.atoiAll at h
    dsimp only at h
    split at h
    · cases h
    · cases h
    · split at h
      · cases h
      · split at h
        · cases h
        · injection h with h
          rw [← h]
          unfold R64
          split <;> omega
def AtR (s : ByteArray) (w w' : World) (e : Ending) : Prop :=
  (∃ v, e = .returned (.tuple #[.int .i64 v, .nilIface]) ∧ Lib.atoiAll s.data.toList = .ok v ∧ Only (fun _ => False) w w') ∨
  (∃ v t p, e = .returned (.tuple #[.int .i64 v, .iface t p]) ∧ (∀ u, Lib.atoiAll s.data.toList ≠ .ok u) ∧ Only (fun _ => False) w w')
theorem atoi_any (s : ByteArray) (w : World) (hs : s.size ≤ 281474976710656) (hG : GlobT w) : Calls Tryz.prog 62 #[.string s] w fun e w' => AtR s w w' e := by
  obtain ⟨_, ⟨t1, p1, h2⟩, ⟨t2, p2, h3⟩, _⟩ := hG
  cases h : Lib.atoiAll s.data.toList with
  | ok v =>
    refine (Tryz.strconv_Atoi_ok s (by omega) v h w).mono fun e w' hw => .inl ⟨v, hw.1, h, ?_⟩
    rcases hw.2 with hw | ⟨t, hw⟩
    · rw [hw]; exact Only.refl _ _
    · rw [hw]; exact bytesW_only _ _ _
  | «syntax» =>
    refine (Tryz.strconv_Atoi_syntax s hs h _ w h2 (.inr ⟨_, _, rfl⟩)).mono fun e w' hw => ?_
    obtain ⟨N, he, _, _, hb⟩ := hw
    exact .inr ⟨_, _, _, he, (fun u hu => by rw [h] at hu; cases hu), Only.ofBelow hb _⟩
  | range =>
    refine (Tryz.strconv_Atoi_range s hs h _ w h3 (.inr ⟨_, _, rfl⟩)).mono fun e w' hw => ?_
    obtain ⟨N, he, _, _, hb⟩ := hw
    exact .inr ⟨_, _, _, he, (fun u hu => by rw [h] at hu; cases hu), Only.ofBelow hb _⟩
end Go.Proofs.YtlhfgbkonmgahaaGreatDoor

namespace Go.Proofs.YtlhfgbkonmgahaaGreatDoor
open Go.RowKit

def BnR (P : ByteArray) (ob : Nat) (b : Bool) (w w' : World) (e : Ending) : Prop := ∃ v b', e = .returned (.int .i64 v) ∧ Only (fun k => k = ob) w w' ∧ w'.heap[ob]? = some (.cells #[.bool b'] 4 (0, 0)) ∧
  ((∃ u, Lib.atoiAll P.data.toList = .ok u) → Lib.atoiAll P.data.toList = .ok v ∧ b' = b) ∧ (b' = true → b = true ∧ ∃ u, Lib.atoiAll P.data.toList = .ok u)
set_option maxHeartbeats 2000000 in
set_option maxRecDepth 100000 in
theorem bnum_any (pb ob g n i : Nat) (ii : Int) (P : ByteArray) (b : Bool) (w : World) (hii : ii = i) (hi : i < n) (hs : P.size ≤ 281474976710656) (hG : GlobT w)
    (hp : w.cell? ⟨pb, 0, none⟩ = some (.slice (some ⟨g, 0, none⟩) n n)) (hc : w.cell? ⟨g, i, none⟩ = some (.string P)) (ho : w.heap[ob]? = some (.cells #[.bool b] 4 (0, 0))) :
    Calls Tryz.prog 61 #[.int .i64 ii, .pointer (some ⟨pb, 0, none⟩), .pointer (some ⟨ob, 0, none⟩)] w fun e w' => BnR P ob b w w' e := by
  have i1 : 0 ≤ ii := by omega
  have i2 : ii < n := by omega
  have i3 : ii.toNat = i := by omega
  have HAT := Lib.hid (atoi_any P w hs hG)
  have hg := World.block_lt_of_cell? _ _ hc
  have HBX := Lib.hid ho
  clear ho
  go_enter Tryz.func61, Tryz.ntmps61
  go_wp2_with fail
  refine HAT.out.mono ?_
  rintro e w2 (⟨v, rfl, hv, hO⟩ | ⟨v, t, p, rfl, hv, hO⟩)
  · have HV := Lib.hid hv
    have HO := Lib.hid (hO.mono (T := fun k => k = ob) (fun i _ h => h.elim))
    have HC := Lib.hid (row_still hO HBX.out)
    clear hO hv
    go_wp2
    go_ret
    exact ⟨v, b, rfl, HO.out, HC.out, fun _ => ⟨HV.out, rfl⟩, fun e => ⟨e, v, HV.out⟩⟩
  · have HV := Lib.hid hv
    have HO := Lib.hid (hO.mono (T := fun k => k = ob) (fun i _ h => h.elim))
    have hbx := row_still hO HBX.out
    have HC := Lib.hid hbx
    have hcell : _ = some (Value.bool b) := cell_of_row _ _ 0 _ _ _ hbx
    have hfz : w2.frozen? ⟨ob, 0, none⟩ = false := by simp [World.frozen?, hbx]
    clear hO hv hbx
    go_wp2
    go_ret
    exact ⟨v, false, rfl, HO.out.setCell (.inl rfl) _, one_setCell HC.out, fun ⟨u, hu⟩ => absurd hu (HV.out u), fun e => by cases e⟩
end Go.Proofs.YtlhfgbkonmgahaaGreatDoor

namespace Go.Proofs.YtlhfgbkonmgahaaGreatDoor
open Go.RowKit

theorem split_le : ∀ (k : Nat) (s l : List UInt8), l ∈ Lib.splitK [32] 0 k s → l.length ≤ s.length
  | 0, s, l, h => by
    have := List.mem_singleton.1 h
    rw [this]
    exact Nat.le_refl _
  | k + 1, s, l, h => by
    rw [Lib.splitK] at h
    split at h
    · have := List.mem_singleton.1 h
      rw [this]
      exact Nat.le_refl _
    · rcases List.mem_cons.1 h with h | h
      · rw [h, List.length_take]
        omega
      · have := split_le k _ l h
        rw [List.length_drop] at this
        omega
theorem words_le (s P : ByteArray) (h : P ∈ wordsB s) : P.size ≤ s.size := by
  have h1 : P.data.toList ∈ (wordsB s).map (·.data.toList) := List.mem_map_of_mem h
  unfold wordsB at h1
  rw [Lib.splitB_data] at h1
  have := split_le _ _ _ h1
  have e1 : P.data.toList.length = P.size := Array.length_toList
  have e2 : s.data.toList.length = s.size := Array.length_toList
  omega
theorem words_no {s : ByteArray} (h : (wordsB s).length ≠ 4) (q : Pt4) : s ≠ textP q := by
  intro e
  have := congrArg List.length (words_textP q)
  rw [← e, List.length_map] at this
  exact h this
theorem bytes4_of {l : List ByteArray} (h : l.length = 4) : ∃ a b c d, l = [a, b, c, d] := by
  match l, h with
  | [a, b, c, d], _ => exact ⟨a, b, c, d, rfl⟩
theorem words_ok {s P0 P1 P2 P3 : ByteArray} (h : wordsB s = [P0, P1, P2, P3]) {q : Pt4} (hq : P4ok q) (e : s = textP q) :
    Lib.atoiAll P0.data.toList = .ok q.1 ∧ Lib.atoiAll P1.data.toList = .ok q.2.1 ∧ Lib.atoiAll P2.data.toList = .ok q.2.2.1 ∧ Lib.atoiAll P3.data.toList = .ok q.2.2.2 := by
  have h1 := words_textP q
  rw [← e, h] at h1
  simp only [lst4, List.map_cons, List.map_nil, List.cons.injEq, and_true] at h1
  obtain ⟨e0, e1, e2, e3⟩ := h1
  obtain ⟨q0, q1, q2, q3⟩ := hq
  rw [e0, e1, e2, e3]
  exact ⟨atoi_itoa q0, atoi_itoa q1, atoi_itoa q2, atoi_itoa q3⟩
set_option maxHeartbeats 4000000 in
set_option maxRecDepth 100000 in
theorem bread_any (s : ByteArray) (w : World) (hs : s.size < 4294967281) (hG : GlobT w) :
    Calls Tryz.prog 29 #[.string s] w fun e w' => ReadsR s w w' e := by
  have HG := Lib.hid hG
  obtain ⟨m, hm⟩ := hG.len
  have hA := (Only.refl (fun _ => False) w).alloc (.cells #[.int .i64 0, .int .i64 0, .int .i64 0, .int .i64 0] 30)
  have HZ := Lib.hid (heap_alloc_last w (.cells #[.int .i64 0, .int .i64 0, .int .i64 0, .int .i64 0] 30))
  have HSP := Lib.hid (Tryz.strings_Split s ⟨#[32]⟩ m _ hs (hA.cell hm id) (by decide))
  have HA := Lib.hid hA
  have HWL := Lib.hid (wordsB_len s)
  have hcl : Lib.countB s ⟨#[32]⟩ + 1 ≤ 4294967282 := by
    have := Lib.countB_le ⟨#[32]⟩ (by decide) s.size s (Nat.le_refl _)
    omega
  clear hA hm
  go_enter Tryz.func29, Tryz.ntmps29
  go_wp2_with fail
  refine HSP.out.mono ?_
  rintro e w2 ⟨rfl, hw2⟩
  have hx1 := heap_alloc_last (w.alloc (.cells #[.int .i64 0, .int .i64 0, .int .i64 0, .int .i64 0] 30)) (.cells ((wordsB s).map Value.string).toArray 9)
  have hx2 := (Only.refl (fun _ => False) (w.alloc (.cells #[.int .i64 0, .int .i64 0, .int .i64 0, .int .i64 0] 30))).alloc (.cells ((wordsB s).map Value.string).toArray 9)
  rw [show (w.alloc (.cells #[.int .i64 0, .int .i64 0, .int .i64 0, .int .i64 0] 30)).alloc (.cells ((wordsB s).map Value.string).toArray 9) = w2 from hw2.symm] at hx1 hx2
  rw [World.size_alloc] at hx1 ⊢
  have HR2 := Lib.hid hx1
  have HZ2 := Lib.hid (row_still hx2 HZ.out)
  have HO2 := Lib.hid (HA.out.trans hx2)
  have HL2 := Lib.hid hx2
  have HG2 := Lib.hid (HG.out.only HO2.out)
  clear hw2 hx1 hx2 HA HZ HSP
  obtain ⟨n, hn⟩ : ∃ n, n = Lib.countB s ⟨#[32]⟩ + 1 := ⟨_, rfl⟩
  rw [← hn] at HWL hcl ⊢
  clear hn
  by_cases h4 : (wordsB s).length = 4
  · obtain ⟨P0, P1, P2, P3, hP⟩ := bytes4_of h4
    have hn4 : n = 4 := by rw [← HWL.out]; exact h4
    subst hn4
    have HP := Lib.hid hP
    have l0 := words_le s P0 (by rw [hP]; simp)
    have l1 := words_le s P1 (by rw [hP]; simp)
    have l2 := words_le s P2 (by rw [hP]; simp)
    have l3 := words_le s P3 (by rw [hP]; simp)
    have hr2 := HR2.out
    rw [hP] at hr2
    have HR4 := Lib.hid (show w2.heap[w.heap.size + 1]? = some (.cells #[.string P0, .string P1, .string P2, .string P3] 9 (0, 0)) from hr2)
    clear hP hr2 h4 HR2
    have hp4 := row_still ((Only.refl (fun _ => False) (w2.alloc (.cells #[.slice (some ⟨w.heap.size + 1, 0, none⟩) 4 4] 68))).alloc (.cells #[.bool true] 4)) (heap_alloc_last w2 (.cells #[.slice (some ⟨w.heap.size + 1, 0, none⟩) 4 4] 68))
    have hk4 := heap_alloc_last (w2.alloc (.cells #[.slice (some ⟨w.heap.size + 1, 0, none⟩) 4 4] 68)) (.cells #[.bool true] 4)
    rw [World.size_alloc] at hk4
    have HB0 := Lib.hid hk4
    have HPC := Lib.hid (show ((w2.alloc (.cells #[.slice (some ⟨w.heap.size + 1, 0, none⟩) 4 4] 68)).alloc (.cells #[.bool true] 4)).cell? ⟨w2.heap.size, 0, none⟩ = some (.slice (some ⟨w.heap.size + 1, 0, none⟩) 4 4) from cell_of_row _ _ 0 _ _ _ hp4)
    have HQ0 := Lib.hid (((Only.refl (fun _ => False) w2).alloc (.cells #[.slice (some ⟨w.heap.size + 1, 0, none⟩) 4 4] 68)).alloc (.cells #[.bool true] 4))
    have HOB0 := Lib.hid (Only.refl (fun k => k = w2.heap.size + 1) ((w2.alloc (.cells #[.slice (some ⟨w.heap.size + 1, 0, none⟩) 4 4] 68)).alloc (.cells #[.bool true] 4)))
    have hlt2 : w.heap.size + 1 < w2.heap.size := (Array.getElem?_eq_some_iff.1 HR4.out).1
    clear hp4 hk4
    go_wp2_with fail
    generalize ((w2.alloc (.cells #[.slice (some ⟨w.heap.size + 1, 0, none⟩) 4 4] 68)).alloc (.cells #[.bool true] 4)) = u0 at *
    have c0 : u0.cell? ⟨w.heap.size + 1, 0, none⟩ = some (.string P0) := cell_of_row _ _ 0 _ _ _ (row_still HQ0.out HR4.out)
    with_reducible refine (bnum_any w2.heap.size (w2.heap.size + 1) (w.heap.size + 1) 4 0 0 P0 true u0 rfl (by decide) (by omega) (HG2.out.only HQ0.out) (HOB0.out.cell HPC.out (by show ¬ w2.heap.size = w2.heap.size + 1; omega)) c0 HB0.out).mono ?_
    rintro e u1 ⟨v0, b1, rfl, hO1, hb1, hy0, hn0⟩
    have HQ1 := Lib.hid (HQ0.out.trans' hO1 (fun j hj e => by omega))
    have HOB1 := Lib.hid (HOB0.out.trans hO1)
    have HB1 := Lib.hid hb1
    have HY0 := Lib.hid hy0
    have HN0 := Lib.hid hn0
    clear c0 hO1 hb1 hy0 hn0
    go_wp2_with fail
    have c1 : u1.cell? ⟨w.heap.size + 1, 1, none⟩ = some (.string P1) := cell_of_row _ _ 1 _ _ _ (row_still HQ1.out HR4.out)
    with_reducible refine (bnum_any w2.heap.size (w2.heap.size + 1) (w.heap.size + 1) 4 1 1 P1 b1 u1 rfl (by decide) (by omega) (HG2.out.only HQ1.out) (HOB1.out.cell HPC.out (by show ¬ w2.heap.size = w2.heap.size + 1; omega)) c1 HB1.out).mono ?_
    rintro e u2 ⟨v1, b2, rfl, hO2, hb2, hy1, hn1⟩
    have HQ2 := Lib.hid (HQ1.out.trans' hO2 (fun j hj e => by omega))
    have HOB2 := Lib.hid (HOB1.out.trans hO2)
    have HB2 := Lib.hid hb2
    have HY1 := Lib.hid hy1
    have HN1 := Lib.hid hn1
    clear c1 hO2 hb2 hy1 hn1
    go_wp2_with fail
    have c2 : u2.cell? ⟨w.heap.size + 1, 2, none⟩ = some (.string P2) := cell_of_row _ _ 2 _ _ _ (row_still HQ2.out HR4.out)
    with_reducible refine (bnum_any w2.heap.size (w2.heap.size + 1) (w.heap.size + 1) 4 2 2 P2 b2 u2 rfl (by decide) (by omega) (HG2.out.only HQ2.out) (HOB2.out.cell HPC.out (by show ¬ w2.heap.size = w2.heap.size + 1; omega)) c2 HB2.out).mono ?_
    rintro e u3 ⟨v2, b3, rfl, hO3, hb3, hy2, hn2⟩
    have HQ3 := Lib.hid (HQ2.out.trans' hO3 (fun j hj e => by omega))
    have HOB3 := Lib.hid (HOB2.out.trans hO3)
    have HB3 := Lib.hid hb3
    have HY2 := Lib.hid hy2
    have HN2 := Lib.hid hn2
    clear c2 hO3 hb3 hy2 hn2
    go_wp2_with fail
    have c3 : u3.cell? ⟨w.heap.size + 1, 3, none⟩ = some (.string P3) := cell_of_row _ _ 3 _ _ _ (row_still HQ3.out HR4.out)
    with_reducible refine (bnum_any w2.heap.size (w2.heap.size + 1) (w.heap.size + 1) 4 3 3 P3 b3 u3 rfl (by decide) (by omega) (HG2.out.only HQ3.out) (HOB3.out.cell HPC.out (by show ¬ w2.heap.size = w2.heap.size + 1; omega)) c3 HB3.out).mono ?_
    rintro e u4 ⟨v3, b4, rfl, hO4, hb4, hy3, hn3⟩
    have HQ4 := Lib.hid (HQ3.out.trans' hO4 (fun j hj e => by omega))
    have HOB4 := Lib.hid (HOB3.out.trans hO4)
    have HB4 := Lib.hid hb4
    have HY3 := Lib.hid hy3
    have HN3 := Lib.hid hn3
    clear c3 hO4 hb4 hy3 hn3
    have HB := Lib.hid (show b4 = true → (∃ u, Lib.atoiAll P0.data.toList = .ok u) ∧ (∃ u, Lib.atoiAll P1.data.toList = .ok u) ∧ (∃ u, Lib.atoiAll P2.data.toList = .ok u) ∧ (∃ u, Lib.atoiAll P3.data.toList = .ok u) from fun h => by
      obtain ⟨h3, x3⟩ := HN3.out h
      obtain ⟨h2, x2⟩ := HN2.out h3
      obtain ⟨h1, x1⟩ := HN1.out h2
      exact ⟨(HN0.out h1).2, x1, x2, x3⟩)
    have HA4 := Lib.hid ((Only.refl (fun _ => False) u4).alloc (.cells #[.int .i64 v0, .int .i64 v1, .int .i64 v2, .int .i64 v3] 30))
    have HZ4 := Lib.hid (row_still (HQ4.out.trans HA4.out) HZ2.out)
    have HP4 := Lib.hid (heap_alloc_last u4 (.cells #[.int .i64 v0, .int .i64 v1, .int .i64 v2, .int .i64 v3] 30))
    have HW4 := Lib.hid (HO2.out.trans (HQ4.out.trans HA4.out))
    have hbx := row_still HA4.out HB4.out
    cases b4
    · have HE := Lib.hid (reads_no (s := s) (fun q hq e => by
        obtain ⟨a0, a1, a2, a3⟩ := words_ok HP.out hq e
        have e0 := (HY0.out ⟨_, a0⟩).2
        have e1 := (HY1.out ⟨_, a1⟩).2
        have e2 := (HY2.out ⟨_, a2⟩).2
        have e3 := (HY3.out ⟨_, a3⟩).2
        rw [e2, e1, e0] at e3
        cases e3))
      have hcb : _ = some (Value.bool false) := cell_of_row _ _ 0 _ _ _ hbx
      clear hbx
      go_wp2_with (first | (refine wpList_store_row rfl 30 _ _ rfl w.heap.size #[.int .i64 0, .int .i64 0, .int .i64 0, .int .i64 0] rfl rfl 30 _ HZ4.out Tryz.infoPt rfl (pt_one _ _ _ _) ?_))
      all_goals (exact bodyPost_ret (v := .tuple #[.agg #[.int .i64 0, .int .i64 0, .int .i64 0, .int .i64 0], .bool false]) (results_cell_tmp (p := 2) (q := 3) rfl _ _ w.heap.size 30 #[.int .i64 0, .int .i64 0, .int .i64 0, .int .i64 0] (0, 0) _ rfl (setRow_heap _ _ _ _ _ _ HZ4.out) Tryz.underlying30 rfl Tryz.infoPt _ rfl) rfl ⟨_, _, _, _, _, rfl, HE.out, HW4.out.setRow (Nat.le_refl _) _⟩)
    · have hcb : _ = some (Value.bool true) := cell_of_row _ _ 0 _ _ _ hbx
      clear hbx
      obtain ⟨x0, x1, x2, x3⟩ := HB.out rfl
      have y0 := (HY0.out x0).1
      have y1 := (HY1.out x1).1
      have y2 := (HY2.out x2).1
      have y3 := (HY3.out x3).1
      have r0 := atoi_R64 y0
      have r1 := atoi_R64 y1
      have r2 := atoi_R64 y2
      have r3 := atoi_R64 y3
      have HTX := Lib.hid (fun W (hG : Glob W) => btext_any v0 v1 v2 v3 W r0 r1 r2 r3 hG)
      have HG4 := Lib.hid (HG.out.only HW4.out)
      by_cases hts : textP (v0, v1, v2, v3) = s
      · have HE := Lib.hid (reads_yes ⟨hts.symm, r0, r1, r2, r3⟩)
        rw [hts] at HTX
        have q1 : (s.toList != s.toList) = false := by simp
        clear hts x0 x1 x2 x3 y0 y1 y2 y3 r0 r1 r2 r3
        go_wp2_with fail
        refine (HTX.out _ HG4.out.glob).mono ?_
        rintro e w6 ⟨rfl, hO6⟩
        have HZ6 := Lib.hid (row_still hO6 HZ4.out)
        have HP6 := Lib.hid (row_still hO6 HP4.out)
        have HW6 := Lib.hid (HW4.out.trans hO6)
        clear hO6 hcb
        go_wp2_with (first | (refine wpList_load_row rfl 30 _ rfl u4.heap.size rfl 30 #[.int .i64 v0, .int .i64 v1, .int .i64 v2, .int .i64 v3] (0, 0) _ HP6.out Tryz.underlying30 rfl Tryz.infoPt ?_) | (refine wpList_store_row rfl 30 _ _ rfl w.heap.size #[.int .i64 v0, .int .i64 v1, .int .i64 v2, .int .i64 v3] rfl rfl 30 _ HZ6.out Tryz.infoPt rfl (pt_one _ _ _ _) ?_))
        all_goals (exact bodyPost_ret (v := .tuple #[.agg #[.int .i64 v0, .int .i64 v1, .int .i64 v2, .int .i64 v3], .bool true]) (results_cell_tmp (p := 2) (q := 3) rfl _ _ w.heap.size 30 #[.int .i64 v0, .int .i64 v1, .int .i64 v2, .int .i64 v3] (0, 0) _ rfl (setRow_heap _ _ _ _ _ _ HZ6.out) Tryz.underlying30 rfl Tryz.infoPt _ rfl) rfl ⟨_, _, _, _, _, rfl, HE.out, HW6.out.setRow (Nat.le_refl _) _⟩)
      · have HE := Lib.hid (reads_no (s := s) (fun q hq e => by
          obtain ⟨a0, a1, a2, a3⟩ := words_ok HP.out hq e
          rw [y0] at a0
          rw [y1] at a1
          rw [y2] at a2
          rw [y3] at a3
          injection a0 with a0
          injection a1 with a1
          injection a2 with a2
          injection a3 with a3
          refine hts ?_
          rw [e, a0, a1, a2, a3]))
        have q1 : ((textP (v0, v1, v2, v3)).toList != s.toList) = true := by
          rw [bne, Bool.not_eq_true', Bool.eq_false_iff]
          exact fun e => hts (tl_iff.1 e)
        have q2 : ((textP (v0, v1, v2, v3)).toList == s.toList) = false := by
          rw [Bool.eq_false_iff]
          exact fun e => hts (tl_iff.1 e)
        have q3 : ¬ (textP (v0, v1, v2, v3)).toList = s.toList := fun e => hts (tl_iff.1 (beq_iff_eq.2 e))
        clear hts x0 x1 x2 x3 y0 y1 y2 y3 r0 r1 r2 r3
        generalize textP (v0, v1, v2, v3) = T at *
        go_wp2_with fail
        refine (HTX.out _ HG4.out.glob).mono ?_
        rintro e w6 ⟨rfl, hO6⟩
        have HZ6 := Lib.hid (row_still hO6 HZ4.out)
        have HW6 := Lib.hid (HW4.out.trans hO6)
        clear hO6 hcb
        go_wp2_with (first | (refine wpList_store_row rfl 30 _ _ rfl w.heap.size #[.int .i64 0, .int .i64 0, .int .i64 0, .int .i64 0] rfl rfl 30 _ HZ6.out Tryz.infoPt rfl (pt_one _ _ _ _) ?_))
        all_goals (exact bodyPost_ret (v := .tuple #[.agg #[.int .i64 0, .int .i64 0, .int .i64 0, .int .i64 0], .bool false]) (results_cell_tmp (p := 2) (q := 3) rfl _ _ w.heap.size 30 #[.int .i64 0, .int .i64 0, .int .i64 0, .int .i64 0] (0, 0) _ rfl (setRow_heap _ _ _ _ _ _ HZ6.out) Tryz.underlying30 rfl Tryz.infoPt _ rfl) rfl ⟨_, _, _, _, _, rfl, HE.out, HW6.out.setRow (Nat.le_refl _) _⟩)
  · have h5 : ¬ (n : Int) = 4 := by have := HWL.out; omega
    have h6 : ((n : Int) == 4) = false := by rw [beq_eq_false_iff_ne]; exact h5
    have HE := Lib.hid (reads_no (s := s) (fun q _ => words_no h4 q))
    have HW3 := Lib.hid (row_still ((Only.refl (fun _ => False) w2).alloc (.cells #[.slice (some ⟨w.heap.size + 1, 0, none⟩) n n] 68)) HZ2.out)
    have HO3 := Lib.hid (HO2.out.alloc (.cells #[.slice (some ⟨w.heap.size + 1, 0, none⟩) n n] 68))
    clear h4
    go_wp2_with (first | (refine wpList_store_row rfl 30 _ _ rfl w.heap.size #[.int .i64 0, .int .i64 0, .int .i64 0, .int .i64 0] rfl rfl 30 _ HW3.out Tryz.infoPt rfl (pt_one _ _ _ _) ?_))
    all_goals (exact bodyPost_ret (v := .tuple #[.agg #[.int .i64 0, .int .i64 0, .int .i64 0, .int .i64 0], .bool false]) (results_cell_tmp (p := 2) (q := 3) rfl _ _ w.heap.size 30 #[.int .i64 0, .int .i64 0, .int .i64 0, .int .i64 0] (0, 0) _ rfl (setRow_heap _ _ _ _ _ _ HW3.out) Tryz.underlying30 rfl Tryz.infoPt _ rfl) rfl ⟨_, _, _, _, _, rfl, HE.out, HO3.out.setRow (Nat.le_refl _) _⟩)
end Go.Proofs.YtlhfgbkonmgahaaGreatDoor

namespace Go.Proofs.YtlhfgbkonmgahaaGreatDoor
open Go.RowKit

theorem bytesW_frozen (w : World) (e : TypeId) (s : ByteArray) (j : Nat) (hj : j < s.size) : (Lib.bytesWorld w e s).frozen? ⟨w.heap.size, j, none⟩ = false := by
  have : s.size ≤ (Lib.bytesCells w e s).size := by
    unfold Lib.bytesCells
    rw [Array.size_append, Array.size_map]
    show s.data.size ≤ _
    omega
  simp [World.frozen?, Lib.bytesWorld_at_new]
  omega
theorem eightT_of {W : World} {g N : Nat} {t0 t1 t2 t3 t4 t5 t6 t7 : ByteArray} {T : TypeId} (h : W.heap[g]? = some (.cells #[.string t0, .string t1, .string t2, .string t3, .string t4, .string t5, .string t6, .string t7] T (0, 0)))
    (h0 : t0.size ≤ N) (h1 : t1.size ≤ N) (h2 : t2.size ≤ N) (h3 : t3.size ≤ N) (h4 : t4.size ≤ N) (h5 : t5.size ≤ N) (h6 : t6.size ≤ N) (h7 : t7.size ≤ N) : ∀ k, k < 8 → ∃ t : ByteArray, W.cell? ⟨g, k, none⟩ = some (.string t) ∧ t.size ≤ N
  | 0, _ => ⟨_, cell_of_row _ _ 0 _ _ _ h, h0⟩
  | 1, _ => ⟨_, cell_of_row _ _ 1 _ _ _ h, h1⟩
  | 2, _ => ⟨_, cell_of_row _ _ 2 _ _ _ h, h2⟩
  | 3, _ => ⟨_, cell_of_row _ _ 3 _ _ _ h, h3⟩
  | 4, _ => ⟨_, cell_of_row _ _ 4 _ _ _ h, h4⟩
  | 5, _ => ⟨_, cell_of_row _ _ 5 _ _ _ h, h5⟩
  | 6, _ => ⟨_, cell_of_row _ _ 6 _ _ _ h, h6⟩
  | 7, _ => ⟨_, cell_of_row _ _ 7 _ _ _ h, h7⟩
theorem reads_text {x v c z a b d e : Int} {k : Bool} (hp : P4ok (x, v, c, z)) (h : ReadsP (textP (x, v, c, z)) (a, b, d, e) k) : x = a ∧ v = b ∧ c = d ∧ z = e ∧ true = k := by
  obtain ⟨h1, h2⟩ := reads_same h (reads_yes ⟨rfl, hp⟩)
  simp only [Prod.mk.injEq] at h1
  exact ⟨h1.1.symm, h1.2.1.symm, h1.2.2.1.symm, h1.2.2.2.symm, h2.symm⟩
set_option maxRecDepth 100000 in
set_option maxHeartbeats 8000000 in
theorem bt_walk (x v c z q0 q1 : Int) (raw : ByteArray) (w : World) (hp : P4ok (x, v, c, z)) (hraw : raw.size ≤ 2000000) (hq0 : 0 ≤ q0 ∧ q0 ≤ 65535) (hq1 : 0 ≤ q1 ∧ q1 ≤ 65535) (hG : GlobT w) :
    Calls Tryz.prog 8 #[.agg #[.int .i64 x, .int .i64 v, .int .i64 c, .int .i64 z], .string raw, .agg #[.int .u16 q0, .int .u16 q1]] w fun e w' => e = .returned (.bool true) ∧ Below w.heap.size w w' := by
  have hA := ((Only.refl (fun _ => False) w).alloc (.cells #[.int .i64 x, .int .i64 v, .int .i64 c, .int .i64 z] 30)).alloc (.cells #[.int .u16 q0, .int .u16 q1] 64)
  have hz0 := row_still ((Only.refl (fun _ => False) (w.alloc (.cells #[.int .i64 x, .int .i64 v, .int .i64 c, .int .i64 z] 30))).alloc (.cells #[.int .u16 q0, .int .u16 q1] 64)) (heap_alloc_last w (.cells #[.int .i64 x, .int .i64 v, .int .i64 c, .int .i64 z] 30))
  have hz1 := heap_alloc_last (w.alloc (.cells #[.int .i64 x, .int .i64 v, .int .i64 c, .int .i64 z] 30)) (.cells #[.int .u16 q0, .int .u16 q1] 64)
  simp only [World.size_alloc] at hz1
  have HA := Lib.hid hA
  have HZ0 := Lib.hid hz0
  have HZ1 := Lib.hid hz1
  have HGW := Lib.hid (fun W (hO : Only (fun _ => False) w W) => hG.only hO)
  obtain ⟨p0, p1, p2, p3⟩ := hp
  have HPO := Lib.hid (show P4ok (x, v, c, z) from ⟨p0, p1, p2, p3⟩)
  have HTX := Lib.hid (fun W (hG : Glob W) => btext_any x v c z W p0 p1 p2 p3 hG)
  have HRT := Lib.hid (fun W => rtext9_any x v c z W p0 p1 p2 p3)
  clear hA hz0 hz1 hG p0 p1 p2 p3
  go_enter Tryz.func8, Tryz.ntmps8
  go_wp2_with fail
  refine (sanity9_any _ (HGW.out _ HA.out).glob).mono ?_
  rintro e w1 ⟨rfl, hO1⟩
  have HO1 := Lib.hid (HA.out.trans hO1)
  have HZ0 := Lib.hid (row_still hO1 HZ0.out)
  have HZ1 := Lib.hid (row_still hO1 HZ1.out)
  clear hO1 HA
  go_wp2_with (refine wpList_load_row rfl 30 _ rfl w.heap.size rfl 30 #[.int .i64 x, .int .i64 v, .int .i64 c, .int .i64 z] (0, 0) _ HZ0.out Tryz.underlying30 rfl Tryz.infoPt ?_)
  refine (HTX.out _ (HGW.out _ HO1.out).glob).mono ?_
  rintro e w2 ⟨rfl, hO2⟩
  have HO2 := Lib.hid (HO1.out.trans hO2)
  have HZ0 := Lib.hid (row_still hO2 HZ0.out)
  have HZ1 := Lib.hid (row_still hO2 HZ1.out)
  clear hO2 HO1
  have hts : (textP (x, v, c, z)).size ≤ 88 := by
    have := joinI_len [x, v, c, z] (by intro y hy; simp at hy; obtain ⟨a, b, d, e⟩ := HPO.out; rcases hy with rfl | rfl | rfl | rfl <;> assumption)
    have e : (textP (x, v, c, z)).size = (Lib.join ((decsL [x, v, c, z]).map (·.data.toList)) [32]).length := (Array.length_toList (xs := (textP (x, v, c, z)).data)).symm
    rw [e]
    exact this
  have HRD := Lib.hid (fun W (hG : GlobT W) => bread_any (textP (x, v, c, z)) W (by omega) hG)
  have HRS := Lib.hid (fun (a b d e : Int) (k : Bool) (h : ReadsP (textP (x, v, c, z)) (a, b, d, e) k) => reads_text HPO.out h)
  have hs1 : 1 ≤ (textP (x, v, c, z)).size := by
    rcases Nat.eq_zero_or_pos (textP (x, v, c, z)).size with h | h
    · have h1 := words_textP (x, v, c, z)
      have h2 : (textP (x, v, c, z)) = ⟨#[]⟩ := by
        apply ByteArray.ext
        exact Array.eq_empty_of_size_eq_zero h
      rw [h2] at h1
      have := congrArg List.length h1
      rw [List.length_map, wordsB_len, show Lib.countB ⟨#[]⟩ ⟨#[32]⟩ = 0 from Nat.le_zero.1 (Lib.countB_le ⟨#[32]⟩ (by decide) 0 ⟨#[]⟩ (Nat.le_refl _))] at this
      cases this
    · exact h
  generalize textP (x, v, c, z) = s at *
  go_wp2_with fail
  refine (HRD.out _ (HGW.out _ HO2.out)).mono ?_
  rintro e w3 ⟨a, b, d, e, k, rfl, hr, hO3⟩
  obtain ⟨rfl, rfl, rfl, rfl, rfl⟩ := HRS.out _ _ _ _ _ hr
  have HO3 := Lib.hid (HO2.out.trans hO3)
  have HZ0 := Lib.hid (row_still hO3 HZ0.out)
  have HZ1 := Lib.hid (row_still hO3 HZ1.out)
  have HA4 := Lib.hid ((Only.refl (fun _ => False) w3).alloc (.cells #[.int .i64 x, .int .i64 v, .int .i64 c, .int .i64 z] 30))
  have HX4 := Lib.hid (heap_alloc_last w3 (.cells #[.int .i64 x, .int .i64 v, .int .i64 c, .int .i64 z] 30))
  have HZ0 := Lib.hid (row_still HA4.out HZ0.out)
  have HZ1 := Lib.hid (row_still HA4.out HZ1.out)
  have HO4 := Lib.hid (HO3.out.trans HA4.out)
  clear hO3 HO2 hr HO3 HA4
  go_wp2_with (first | (refine wpList_load_row rfl 30 _ rfl w.heap.size rfl 30 #[.int .i64 x, .int .i64 v, .int .i64 c, .int .i64 z] (0, 0) _ HZ0.out Tryz.underlying30 rfl Tryz.infoPt ?_))
  refine (HRT.out _).mono ?_
  rintro e w5 ⟨rfl, hO5⟩
  have HO5 := Lib.hid (HO4.out.trans hO5)
  have HX5 := Lib.hid (row_still hO5 HX4.out)
  have HZ0 := Lib.hid (row_still hO5 HZ0.out)
  have HZ1 := Lib.hid (row_still hO5 HZ1.out)
  clear hO5 HO4
  have a0 : _ = some (Value.int .i64 x) := cell_of_row _ _ 0 _ _ _ HX5.out
  have b0 : _ = some (Value.int .i64 x) := cell_of_row _ _ 0 _ _ _ HZ0.out
  have a1 : _ = some (Value.int .i64 v) := cell_of_row _ _ 1 _ _ _ HX5.out
  have b1 : _ = some (Value.int .i64 v) := cell_of_row _ _ 1 _ _ _ HZ0.out
  have a2 : _ = some (Value.int .i64 c) := cell_of_row _ _ 2 _ _ _ HX5.out
  have b2 : _ = some (Value.int .i64 c) := cell_of_row _ _ 2 _ _ _ HZ0.out
  have a3 : _ = some (Value.int .i64 z) := cell_of_row _ _ 3 _ _ _ HX5.out
  have b3 : _ = some (Value.int .i64 z) := cell_of_row _ _ 3 _ _ _ HZ0.out
  have q1' : (s.toList != s.toList) = false := by simp
  have hcv := Lib.run_convert_string_bytes (P := Tryz.prog) w5 9 33 5 s Tryz.underlying9 Tryz.underlying33 Tryz.underlying5
  go_upto_region 7 with (first | (refine wpList_load_row rfl 30 _ rfl w.heap.size rfl 30 #[.int .i64 x, .int .i64 v, .int .i64 c, .int .i64 z] (0, 0) _ HZ0.out Tryz.underlying30 rfl Tryz.infoPt ?_) | (refine wpList_load_row rfl 30 _ rfl w3.heap.size rfl 30 #[.int .i64 x, .int .i64 v, .int .i64 c, .int .i64 z] (0, 0) _ HX5.out Tryz.underlying30 rfl Tryz.infoPt ?_))
  obtain ⟨qn, rfl⟩ := Int.eq_ofNat_of_zero_le hq0.1
  obtain ⟨at0, hat⟩ : ∃ k, k = qn % s.size := ⟨_, rfl⟩
  have hal : at0 < s.size := by rw [hat]; exact Nat.mod_lt _ hs1
  have tm : (qn : Int).tmod (s.size : Int) = (at0 : Int) := by rw [hat]; rfl
  have k0 : s.size ≠ 0 := by omega
  have k1 : (s.size : Int) ≠ 0 := by omega
  have HO6 := Lib.hid (bytesW_only w5 5 s)
  have hby := fun j (hj : j < s.size) => Lib.bytesWorld_cell w5 5 s j (by omega)
  have y0 := hby at0 hal
  have y1 := bytesW_frozen w5 5 s at0 hal
  have HBY := Lib.hid hby
  have g0 : _ = some (Value.int .u16 (qn : Int)) := cell_of_row _ _ 0 _ _ _ (row_still HO6.out HZ1.out)
  have g1 : _ = some (Value.int .u16 q1) := cell_of_row _ _ 1 _ _ _ (row_still HO6.out HZ1.out)
  have HW6 := Lib.hid (HO5.out.trans HO6.out)
  have HS6 := Lib.hid (show (Lib.bytesWorld w5 5 s).heap.size = w5.heap.size + 1 from Lib.bytesWorld_size _ _ _)
  obtain ⟨r0, r1⟩ := hq0
  obtain ⟨r2, r3⟩ := hq1
  have i0 : 0 ≤ (at0 : Int) := by omega
  have i1 : (at0 : Int) < s.size := by omega
  clear hby hat hcv q1' a0 a1 a2 a3 b0 b1 b2 b3
  generalize Lib.bytesWorld w5 5 s = w6 at *
  generalize grownCap w5 s.size 0 5 = c5 at *
  generalize hn5 : w5.heap.size = n5 at *
  generalize byteZ s at0 = by0 at *
  go_region
  all_goals (go_upto_region 8 with fail)
  have hb7 : ∀ j, j < s.size → (w6.setCell ⟨n5, at0, none⟩ (.int .u8 (q1 % 256))).drew.cell? ⟨n5, 0 + j, none⟩ = some (.int .u8 (((List.range s.size).map (fun j => if j = at0 then q1 % 256 else byteZ s j)).getD j 0)) := by
    intro j hj
    have e : ((List.range s.size).map (fun j => if j = at0 then q1 % 256 else byteZ s j)).getD j 0 = if j = at0 then q1 % 256 else byteZ s j := by simp [List.getD, hj]
    rw [e, Nat.zero_add]
    by_cases h : j = at0
    · subst h
      rw [if_pos rfl]
      exact World.cell?_setCell_same _ _ _ y0
    · rw [if_neg h]
      exact (World.cell?_setCell_other _ _ _ _ (fun e => h (by cases e; rfl))).trans (HBY.out j hj)
  have hbl : ((List.range s.size).map (fun j => if j = at0 then q1 % 256 else byteZ s j)).length = s.size := by simp
  generalize (List.range s.size).map (fun j => if j = at0 then q1 % 256 else byteZ s j) = bs at *
  have HO67 : Only (fun _ => False) w5 (w6.setCell ⟨n5, at0, none⟩ (.int .u8 (q1 % 256))).drew := (HO6.out.setCell (.inr (by show w5.heap.size ≤ n5; omega)) _).drew
  have HW7 := Lib.hid (HO5.out.trans HO67)
  have ht0 : (strOfNums bs).size = s.size := by rw [strOfNums_size, hbl]
  generalize (w6.setCell ⟨n5, at0, none⟩ (.int .u8 (q1 % 256))).drew = w7 at *
  have HKS := Lib.hid (show ∀ W, Only (fun _ => False) w7 W → (convert 33 9 (.slice (some ⟨n5, 0, none⟩) s.size c5)).run Tryz.prog W = .ok (.string (strOfNums bs)) W ∧ Only (fun _ => False) w7 W from fun W hW =>
    ⟨run_convert_bytes_arg (P := Tryz.prog) W 33 5 Tryz.underlying33 Tryz.underlying5 n5 0 s.size c5 bs hbl (fun j hj => hW.cell (hb7 j (by omega)) id) 9 Tryz.underlying9, hW⟩)
  clear hb7 hbl HO67 y0 y1 HBY
  generalize strOfNums bs = t0 at *
  have j1 : (1 : Int) ≤ s.size := by omega
  have z1 : (s ++ raw).size ≤ 3000000 := by rw [ByteArray.size_append]; omega
  have z2 : ((⟨#[48]⟩ : ByteArray) ++ s).size ≤ 3000000 := by rw [ByteArray.size_append]; show 1 + _ ≤ _; omega
  have z3 : (s ++ (⟨#[32]⟩ : ByteArray)).size ≤ 3000000 := by rw [ByteArray.size_append]; show _ + 1 ≤ _; omega
  have z4 : (s ++ (⟨#[32, 49]⟩ : ByteArray)).size ≤ 3000000 := by rw [ByteArray.size_append]; show _ + 2 ≤ _; omega
  have z5 : (s.extract 1 s.size).size ≤ 3000000 := by rw [ByteArray.size_extract]; omega
  have z6 : ((⟨#[32]⟩ : ByteArray) ++ s).size ≤ 3000000 := by rw [ByteArray.size_append]; show 1 + _ ≤ _; omega
  clear g0 g1 tm k0 k1
  have k1 : ¬ (9223372036854775807 < s.size + raw.size) := by omega
  have k2 : ¬ (9223372036854775807 < 1 + s.size) := by omega
  have k3 : ¬ (9223372036854775807 < s.size + 1) := by omega
  have k4 : ¬ (9223372036854775807 < s.size + 2) := by omega
  go_region_held3 (fun W => (convert 33 9 (.slice (some ⟨n5, 0, none⟩) s.size c5)).run Tryz.prog W = .ok (.string t0) W ∧ Only (fun _ => False) w7 W)
    (with_reducible (first
      | refine HKS.out _ ((Only.refl _ w7).drew)
      | refine HKS.out _ (((Only.refl _ w7).drew).alloc _)
      | refine HKS.out _ (((Only.refl _ w7).alloc _).drew)))
    (fail)
  go_upto_block 9 with fail
  have hz8 := heap_alloc_last w7 (.cells #[.string t0, .string raw, .string (s ++ raw), .string ((⟨#[48]⟩ : ByteArray) ++ s), .string (s ++ (⟨#[32]⟩ : ByteArray)), .string (s ++ (⟨#[32, 49]⟩ : ByteArray)), .string (s.extract 1 s.size), .string ((⟨#[32]⟩ : ByteArray) ++ s)] 9)
  have hA8 := (Only.refl (fun _ => False) w7).alloc (.cells #[.string t0, .string raw, .string (s ++ raw), .string ((⟨#[48]⟩ : ByteArray) ++ s), .string (s ++ (⟨#[32]⟩ : ByteArray)), .string (s ++ (⟨#[32, 49]⟩ : ByteArray)), .string (s.extract 1 s.size), .string ((⟨#[32]⟩ : ByteArray) ++ s)] 9)
  have HT8 := Lib.hid (eightT_of hz8 (by omega) (by omega) z1 z2 z3 z4 z5 z6)
  have HW8 := Lib.hid (HW7.out.trans hA8)
  have hlt8 : w7.heap.size < (w7.alloc (.cells #[.string t0, .string raw, .string (s ++ raw), .string ((⟨#[48]⟩ : ByteArray) ++ s), .string (s ++ (⟨#[32]⟩ : ByteArray)), .string (s ++ (⟨#[32, 49]⟩ : ByteArray)), .string (s.extract 1 s.size), .string ((⟨#[32]⟩ : ByteArray) ++ s)] 9)).heap.size := by rw [World.size_alloc]; exact Nat.lt_succ_self _
  clear hz8 hA8 z1 z2 z3 z4 z5 z6 k1 k2 k3 k4 HKS
  generalize w7.alloc (.cells #[.string t0, .string raw, .string (s ++ raw), .string ((⟨#[48]⟩ : ByteArray) ++ s), .string (s ++ (⟨#[32]⟩ : ByteArray)), .string (s ++ (⟨#[32, 49]⟩ : ByteArray)), .string (s.extract 1 s.size), .string ((⟨#[32]⟩ : ByteArray) ++ s)] 9) = w8 at *
  go_loopw [70] (fun vi wr => ∃ k : Nat, k ≤ 8 ∧ vi = .int .i64 k ∧ Only (fun _ => False) w8 wr) (fun vi _ => 8 - (intOf vi).toNat)
  case atStart => exact ⟨0, Nat.zero_le _, rfl, (Only.refl _ w8).drew⟩
  case round =>
    obtain ⟨k, hk, rfl, hO⟩ := hrel
    by_cases hlt : k < 8
    · obtain ⟨T, hc, hT⟩ := HT8.out k hlt
      have hcr := hO.cell hc id
      have HOr := Lib.hid (HW8.out.trans hO)
      have HO := Lib.hid hO
      have i0 : 0 ≤ (k : Int) := by omega
      have i1 : (k : Int) < 8 := by omega
      have hbl := World.block_lt_of_cell? _ _ hcr
      have HRP := Lib.hid (fun W (hG : GlobT W) => bread_any T W (by omega) hG)
      have HRR := Lib.hid (fun W => rread9_any T W (by omega))
      clear hO hc
      go_wp2_with fail
      refine (HRP.out _ (HGW.out _ HOr.out)).mono ?_
      rintro e w9 ⟨x1, x2, x3, x4, ok1, rfl, hr1, hO9⟩
      have HR1 := Lib.hid hr1
      have HA9 := Lib.hid (hO9.trans ((Only.refl (fun _ => False) w9).alloc (.cells #[.int .i64 x1, .int .i64 x2, .int .i64 x3, .int .i64 x4] 30)))
      have HX9 := Lib.hid (heap_alloc_last w9 (.cells #[.int .i64 x1, .int .i64 x2, .int .i64 x3, .int .i64 x4] 30))
      clear hr1 hO9 hcr
      go_wp2_with fail
      refine (HRR.out _).mono ?_
      rintro e w10 ⟨y1, y2, y3, y4, ok2, rfl, hr2, hO10⟩
      obtain ⟨hxy, hok⟩ := reads_same HR1.out hr2
      simp only [Prod.mk.injEq] at hxy
      obtain ⟨e1, e2, e3, e4⟩ := hxy
      subst e1 e2 e3 e4 hok
      have HA10 := Lib.hid (hO10.trans ((Only.refl (fun _ => False) w10).alloc (.cells #[.int .i64 x1, .int .i64 x2, .int .i64 x3, .int .i64 x4] 30)))
      have HX10 := Lib.hid (row_still HA10.out HX9.out)
      have HY10 := Lib.hid (heap_alloc_last w10 (.cells #[.int .i64 x1, .int .i64 x2, .int .i64 x3, .int .i64 x4] 30))
      have HOZ := Lib.hid (HO.out.trans (HA9.out.trans HA10.out))
      clear hr2 hO10
      have m1 : (ok1 != ok1) = false := by cases ok1 <;> rfl
      have a0 : _ = some (Value.int .i64 x1) := cell_of_row _ _ 0 _ _ _ HX10.out
      have b0 : _ = some (Value.int .i64 x1) := cell_of_row _ _ 0 _ _ _ HY10.out
      have a1 : _ = some (Value.int .i64 x2) := cell_of_row _ _ 1 _ _ _ HX10.out
      have b1 : _ = some (Value.int .i64 x2) := cell_of_row _ _ 1 _ _ _ HY10.out
      have a2 : _ = some (Value.int .i64 x3) := cell_of_row _ _ 2 _ _ _ HX10.out
      have b2 : _ = some (Value.int .i64 x3) := cell_of_row _ _ 2 _ _ _ HY10.out
      have a3 : _ = some (Value.int .i64 x4) := cell_of_row _ _ 3 _ _ _ HX10.out
      have b3 : _ = some (Value.int .i64 x4) := cell_of_row _ _ 3 _ _ _ HY10.out
      clear hlt HRP HRR HR1 HA9 HX9 HA10 HT8
      go_wp2_with fail
      go_roundw
      case rel => exact ⟨k + 1, by omega, by go_num, HOZ.out⟩
      case measure => simp [intOf]; omega
    · obtain rfl : k = 8 := by omega
      have i1 : ¬ ((8 : Nat) : Int) < 8 := by omega
      have HOF := Lib.hid (HW8.out.trans hO)
      clear hO
      go_wp2
      go_ret
      exact ⟨rfl, HOF.out.below (Nat.le_refl _) (fun _ _ h => h)⟩
end Go.Proofs.YtlhfgbkonmgahaaGreatDoor
