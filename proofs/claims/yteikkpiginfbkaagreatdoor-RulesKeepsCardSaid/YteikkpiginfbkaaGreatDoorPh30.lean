/-
  Rules, the reference: Ints, Equal.
-/
import Derived.Test.YteikkpiginfbkaaGreatDoorPh29
import Derived.Test.YteikkpiginfbkaaGreatDoorPh25
namespace Go.Proofs.YteikkpiginfbkaaGreatDoor
open Go.RowKit

theorem ptAt_is (l : List Int) {k : Nat} (h : k < l.length) : ptAt l k = l[k] := by simp [ptAt, List.getD, h]
theorem take_pt {xs ys : List Int} {k : Nat} (h : xs.take k = ys.take k) (h1 : k < xs.length) (h2 : k < ys.length) (he : ptAt xs k = ptAt ys k) : xs.take (k + 1) = ys.take (k + 1) :=
  take_eq_succ h h1 h2 (by rw [← ptAt_is xs h1, ← ptAt_is ys h2]; exact he)
theorem ne_pt {xs ys : List Int} {k : Nat} (he : ptAt xs k ≠ ptAt ys k) : xs ≠ ys := fun e => he (by rw [e])
theorem not_of_ne {a b : Bool} (h : ¬ a = b) : b = !a := by cases a <;> cases b <;> first | rfl | exact absurd rfl h
set_option maxRecDepth 100000 in
set_option maxHeartbeats 4000000 in
theorem rints13_any (a1 a2 : Option Addr) (c1 c2 : Nat) (xs ys : List Int) (bb : Bool) (w : World) (h1 : PtsAt w.heap.size w (.slice a1 xs.length c1) xs) (h2 : PtsAt w.heap.size w (.slice a2 ys.length c2) ys) (hb : bb = true ↔ xs = ys) (_hl1 : xs.length ≤ 1000000) :
    Calls Tryz.prog 40 #[.slice a1 xs.length c1, .slice a2 ys.length c2] w fun e w' => e = .returned (.bool bb) ∧ Only (fun _ => False) w w' := by
  have H1 := Lib.hid h1
  have H2 := Lib.hid h2
  have HB := Lib.hid hb
  clear h1 h2 hb
  go_enter Tryz.func40, Tryz.ntmps40
  by_cases hl : xs.length = ys.length
  · have HLN := Lib.hid hl
    have q1 : ((xs.length : Int) != ys.length) = false := by rw [hl]; simp
    clear hl
    go_wp2_with fail
    go_loopw [5] (fun iv wr => ∃ k : Nat, iv = .int .i64 k ∧ k ≤ xs.length ∧ xs.take k = ys.take k ∧ Only (fun _ => False) w wr) (fun iv _ => xs.length - (intOf iv).toNat)
    case atStart => exact ⟨0, rfl, Nat.zero_le _, rfl, Only.refl _ _⟩
    case round =>
      obtain ⟨k, rfl, hk, htk, hO⟩ := hrel
      have HTK := Lib.hid htk
      have HO := Lib.hid hO
      have HA := Lib.hid (PtsAt.only hO H1.out)
      have HC := Lib.hid (PtsAt.only hO H2.out)
      clear htk hO
      by_cases hlt : k < xs.length
      · have j1 : (k : Int) < xs.length := by omega
        have j2 : 0 ≤ (k : Int) := by omega
        have hlt2 : k < ys.length := by rw [← HLN.out]; exact hlt
        have j3 : (k : Int) < ys.length := by omega
        have HLT := Lib.hid hlt
        obtain ⟨b1, o1, rfl, hb1, _, hq1, hq2, d1⟩ := HA.out.cellAt hlt
        obtain ⟨b2, o2, rfl, hb2, _, hq3, hq4, d2⟩ := HC.out.cellAt hlt2
        have HNX := Lib.hid (fun (he : ptAt xs k = ptAt ys k) => take_pt HTK.out hlt hlt2 he)
        have HNE := Lib.hid (fun (he : ptAt xs k ≠ ptAt ys k) => show bb = false by
          cases hbb : bb with
          | false => rfl
          | true => exact absurd (HB.out.1 hbb) (ne_pt he))
        generalize ptAt xs k = y at *
        generalize ptAt ys k = z at *
        by_cases m : y = z
        · subst m
          have p : (y != y) = false := by simp
          have HG := Lib.hid (HNX.out rfl)
          go_wp2_with fail
          go_quiet (fail)
          go_wp2_with fail
          go_roundw
          case rel => exact ⟨k + 1, by go_num, HLT.out, HG.out, HO.out.drewN _⟩
          case measure => simp [intOf]; have := HLT.out; omega
        · obtain rfl := HNE.out m
          have p : (y != z) = true := bne_iff_ne.2 m
          clear m
          go_wp2_with fail
          go_quiet (fail)
          go_wp2_with fail
          go_ret
          exact ⟨rfl, HO.out.drewN _⟩
      · obtain rfl : k = xs.length := by omega
        have j1 : ¬ (xs.length : Int) < xs.length := by omega
        obtain rfl : bb = true := HB.out.2 (by
          have := HTK.out
          rw [List.take_length] at this
          rw [this, HLN.out, List.take_length])
        go_wp2_with fail
        go_ret
        exact ⟨rfl, HO.out⟩
  · have q1 : ((xs.length : Int) != ys.length) = true := by
      rw [bne_iff_ne]
      omega
    obtain rfl : bb = false := by
      cases hbb : bb with
      | false => rfl
      | true => exact absurd (congrArg List.length (HB.out.1 hbb)) hl
    clear hl
    go_wp2_with fail
    go_ret
    exact ⟨rfl, Only.refl _ _⟩
set_option maxRecDepth 100000 in
set_option maxHeartbeats 100000000 in
theorem requal_any (a b : Dr) (vt vp vq vb ut up uq ub : Value) (bb : Bool) (base1 base2 : Nat) (w : World) (ha : DrOwn base1 w a vt vp vq vb) (hb : DrOwn base2 w b ut up uq ub) (hba : DrB a) (hbb : DrB b) (he : bb = true ↔ a = b) :
    Calls Tryz.prog 17 #[.agg (drCells a vt vp vq vb), .agg (drCells b ut up uq ub)] w fun e w' => e = .returned (.bool bb) ∧ Only (fun _ => False) w w' := by
  obtain ⟨at1, ct, rfl⟩ := slice_of_own ha.tiers
  obtain ⟨ap1, cp, rfl⟩ := slice_of_own ha.places
  obtain ⟨aq1, cq, rfl⟩ := slice_of_own ha.quotas
  obtain ⟨ab1, cb, rfl⟩ := slice_of_own ha.bars
  obtain ⟨bt1, dt, rfl⟩ := slice_of_own hb.tiers
  obtain ⟨bp1, dp, rfl⟩ := slice_of_own hb.places
  obtain ⟨bq1, dq, rfl⟩ := slice_of_own hb.quotas
  obtain ⟨bb1, db, rfl⟩ := slice_of_own hb.bars
  have HA := Lib.hid ha
  have HB := Lib.hid hb
  have HE := Lib.hid he
  have HBA := Lib.hid hba
  have HBB := Lib.hid hbb
  have HY1 := Lib.hid (heap_alloc_last w (.cells (drCells a (.slice at1 a.tiers.length ct) (.slice ap1 a.places.length cp) (.slice aq1 a.quotas.length cq) (.slice ab1 a.barred.length cb)) 33))
  have HY2 := Lib.hid (heap_alloc_last (w.alloc (.cells (drCells a (.slice at1 a.tiers.length ct) (.slice ap1 a.places.length cp) (.slice aq1 a.quotas.length cq) (.slice ab1 a.barred.length cb)) 33)) (.cells (drCells b (.slice bt1 b.tiers.length dt) (.slice bp1 b.places.length dp) (.slice bq1 b.quotas.length dq) (.slice bb1 b.barred.length db)) 33))
  have HO2 := Lib.hid ((Only.refl (fun _ => False) (w.alloc (.cells (drCells a (.slice at1 a.tiers.length ct) (.slice ap1 a.places.length cp) (.slice aq1 a.quotas.length cq) (.slice ab1 a.barred.length cb)) 33))).alloc (.cells (drCells b (.slice bt1 b.tiers.length dt) (.slice bp1 b.places.length dp) (.slice bq1 b.quotas.length dq) (.slice bb1 b.barred.length db)) 33))
  have HO := Lib.hid (((Only.refl (fun _ => False) w).alloc (.cells (drCells a (.slice at1 a.tiers.length ct) (.slice ap1 a.places.length cp) (.slice aq1 a.quotas.length cq) (.slice ab1 a.barred.length cb)) 33)).alloc (.cells (drCells b (.slice bt1 b.tiers.length dt) (.slice bp1 b.places.length dp) (.slice bq1 b.quotas.length dq) (.slice bb1 b.barred.length db)) 33))
  have HZ1 := Lib.hid (row_still HO2.out HY1.out)
  have HZ2 := HY2
  rw [World.size_alloc] at HZ2
  clear ha hb he hba hbb HY1 HY2 HO2
  unfold drCells at *
  go_enter Tryz.func17, Tryz.ntmps17
  go_upto_region 1 with (fail)
  generalize World.alloc (World.alloc w _) _ = w1 at *
  have c0 : w1.cell? ⟨w.heap.size, 0, none⟩ = some (Value.string a.name) := cell_of_row _ _ 0 _ _ _ HZ1.out
  have e0 : w1.cell? ⟨w.heap.size + 1, 0, none⟩ = some (Value.string b.name) := cell_of_row _ _ 0 _ _ _ HZ2.out
  have c1 : w1.cell? ⟨w.heap.size, 1, none⟩ = some (Value.int .i64 a.kind) := cell_of_row _ _ 1 _ _ _ HZ1.out
  have e1 : w1.cell? ⟨w.heap.size + 1, 1, none⟩ = some (Value.int .i64 b.kind) := cell_of_row _ _ 1 _ _ _ HZ2.out
  have c2 : w1.cell? ⟨w.heap.size, 2, none⟩ = some (Value.int .i64 a.round) := cell_of_row _ _ 2 _ _ _ HZ1.out
  have e2 : w1.cell? ⟨w.heap.size + 1, 2, none⟩ = some (Value.int .i64 b.round) := cell_of_row _ _ 2 _ _ _ HZ2.out
  have c3 : w1.cell? ⟨w.heap.size, 3, none⟩ = some (Value.int .i64 a.price) := cell_of_row _ _ 3 _ _ _ HZ1.out
  have e3 : w1.cell? ⟨w.heap.size + 1, 3, none⟩ = some (Value.int .i64 b.price) := cell_of_row _ _ 3 _ _ _ HZ2.out
  have c4 : w1.cell? ⟨w.heap.size, 4, none⟩ = some (Value.int .i64 a.pool) := cell_of_row _ _ 4 _ _ _ HZ1.out
  have e4 : w1.cell? ⟨w.heap.size + 1, 4, none⟩ = some (Value.int .i64 b.pool) := cell_of_row _ _ 4 _ _ _ HZ2.out
  have c5 : w1.cell? ⟨w.heap.size, 5, none⟩ = some (Value.int .i64 a.pick) := cell_of_row _ _ 5 _ _ _ HZ1.out
  have e5 : w1.cell? ⟨w.heap.size + 1, 5, none⟩ = some (Value.int .i64 b.pick) := cell_of_row _ _ 5 _ _ _ HZ2.out
  have c6 : w1.cell? ⟨w.heap.size, 6, none⟩ = some (Value.slice at1 a.tiers.length ct) := cell_of_row _ _ 6 _ _ _ HZ1.out
  have e6 : w1.cell? ⟨w.heap.size + 1, 6, none⟩ = some (Value.slice bt1 b.tiers.length dt) := cell_of_row _ _ 6 _ _ _ HZ2.out
  have c7 : w1.cell? ⟨w.heap.size, 7, none⟩ = some (Value.bool a.roll) := cell_of_row _ _ 7 _ _ _ HZ1.out
  have e7 : w1.cell? ⟨w.heap.size + 1, 7, none⟩ = some (Value.bool b.roll) := cell_of_row _ _ 7 _ _ _ HZ2.out
  have c8 : w1.cell? ⟨w.heap.size, 8, none⟩ = some (Value.slice ap1 a.places.length cp) := cell_of_row _ _ 8 _ _ _ HZ1.out
  have e8 : w1.cell? ⟨w.heap.size + 1, 8, none⟩ = some (Value.slice bp1 b.places.length dp) := cell_of_row _ _ 8 _ _ _ HZ2.out
  have c9 : w1.cell? ⟨w.heap.size, 9, none⟩ = some (Value.int .i64 a.cls) := cell_of_row _ _ 9 _ _ _ HZ1.out
  have e9 : w1.cell? ⟨w.heap.size + 1, 9, none⟩ = some (Value.int .i64 b.cls) := cell_of_row _ _ 9 _ _ _ HZ2.out
  have c10 : w1.cell? ⟨w.heap.size, 10, none⟩ = some (Value.int .i64 a.size) := cell_of_row _ _ 10 _ _ _ HZ1.out
  have e10 : w1.cell? ⟨w.heap.size + 1, 10, none⟩ = some (Value.int .i64 b.size) := cell_of_row _ _ 10 _ _ _ HZ2.out
  have c11 : w1.cell? ⟨w.heap.size, 11, none⟩ = some (Value.slice aq1 a.quotas.length cq) := cell_of_row _ _ 11 _ _ _ HZ1.out
  have e11 : w1.cell? ⟨w.heap.size + 1, 11, none⟩ = some (Value.slice bq1 b.quotas.length dq) := cell_of_row _ _ 11 _ _ _ HZ2.out
  have c12 : w1.cell? ⟨w.heap.size, 12, none⟩ = some (Value.slice ab1 a.barred.length cb) := cell_of_row _ _ 12 _ _ _ HZ1.out
  have e12 : w1.cell? ⟨w.heap.size + 1, 12, none⟩ = some (Value.slice bb1 b.barred.length db) := cell_of_row _ _ 12 _ _ _ HZ2.out
  obtain ⟨r12, hr12⟩ : ∃ r : Bool, r = true ↔ a.barred = b.barred := by
    by_cases h : a.barred = b.barred
    · exact ⟨true, by simp [h]⟩
    · exact ⟨false, by simp [h]⟩
  have HM12 := Lib.hid hr12
  clear hr12
  go_wp2_with fail
  refine (rints13_any _ _ _ _ a.barred b.barred r12 _ (ptsR_of_own (HA.out.only HO.out (fun _ _ h => h)).bars) (ptsR_of_own (HB.out.only HO.out (fun _ _ h => h)).bars) HM12.out HBA.out.2.2.2).mono ?_
  rintro e w2 ⟨rfl, hOn⟩
  have HO := Lib.hid (HO.out.trans hOn)
  have HZ1 := Lib.hid (row_still hOn HZ1.out)
  have HZ2 := Lib.hid (row_still hOn HZ2.out)
  clear hOn c0 e0 c1 e1 c2 e2 c3 e3 c4 e4 c5 e5 c6 e6 c7 e7 c8 e8 c9 e9 c10 e10 c11 e11 c12 e12
  have c0 : w2.cell? ⟨w.heap.size, 0, none⟩ = some (Value.string a.name) := cell_of_row _ _ 0 _ _ _ HZ1.out
  have e0 : w2.cell? ⟨w.heap.size + 1, 0, none⟩ = some (Value.string b.name) := cell_of_row _ _ 0 _ _ _ HZ2.out
  have c1 : w2.cell? ⟨w.heap.size, 1, none⟩ = some (Value.int .i64 a.kind) := cell_of_row _ _ 1 _ _ _ HZ1.out
  have e1 : w2.cell? ⟨w.heap.size + 1, 1, none⟩ = some (Value.int .i64 b.kind) := cell_of_row _ _ 1 _ _ _ HZ2.out
  have c2 : w2.cell? ⟨w.heap.size, 2, none⟩ = some (Value.int .i64 a.round) := cell_of_row _ _ 2 _ _ _ HZ1.out
  have e2 : w2.cell? ⟨w.heap.size + 1, 2, none⟩ = some (Value.int .i64 b.round) := cell_of_row _ _ 2 _ _ _ HZ2.out
  have c3 : w2.cell? ⟨w.heap.size, 3, none⟩ = some (Value.int .i64 a.price) := cell_of_row _ _ 3 _ _ _ HZ1.out
  have e3 : w2.cell? ⟨w.heap.size + 1, 3, none⟩ = some (Value.int .i64 b.price) := cell_of_row _ _ 3 _ _ _ HZ2.out
  have c4 : w2.cell? ⟨w.heap.size, 4, none⟩ = some (Value.int .i64 a.pool) := cell_of_row _ _ 4 _ _ _ HZ1.out
  have e4 : w2.cell? ⟨w.heap.size + 1, 4, none⟩ = some (Value.int .i64 b.pool) := cell_of_row _ _ 4 _ _ _ HZ2.out
  have c5 : w2.cell? ⟨w.heap.size, 5, none⟩ = some (Value.int .i64 a.pick) := cell_of_row _ _ 5 _ _ _ HZ1.out
  have e5 : w2.cell? ⟨w.heap.size + 1, 5, none⟩ = some (Value.int .i64 b.pick) := cell_of_row _ _ 5 _ _ _ HZ2.out
  have c6 : w2.cell? ⟨w.heap.size, 6, none⟩ = some (Value.slice at1 a.tiers.length ct) := cell_of_row _ _ 6 _ _ _ HZ1.out
  have e6 : w2.cell? ⟨w.heap.size + 1, 6, none⟩ = some (Value.slice bt1 b.tiers.length dt) := cell_of_row _ _ 6 _ _ _ HZ2.out
  have c7 : w2.cell? ⟨w.heap.size, 7, none⟩ = some (Value.bool a.roll) := cell_of_row _ _ 7 _ _ _ HZ1.out
  have e7 : w2.cell? ⟨w.heap.size + 1, 7, none⟩ = some (Value.bool b.roll) := cell_of_row _ _ 7 _ _ _ HZ2.out
  have c8 : w2.cell? ⟨w.heap.size, 8, none⟩ = some (Value.slice ap1 a.places.length cp) := cell_of_row _ _ 8 _ _ _ HZ1.out
  have e8 : w2.cell? ⟨w.heap.size + 1, 8, none⟩ = some (Value.slice bp1 b.places.length dp) := cell_of_row _ _ 8 _ _ _ HZ2.out
  have c9 : w2.cell? ⟨w.heap.size, 9, none⟩ = some (Value.int .i64 a.cls) := cell_of_row _ _ 9 _ _ _ HZ1.out
  have e9 : w2.cell? ⟨w.heap.size + 1, 9, none⟩ = some (Value.int .i64 b.cls) := cell_of_row _ _ 9 _ _ _ HZ2.out
  have c10 : w2.cell? ⟨w.heap.size, 10, none⟩ = some (Value.int .i64 a.size) := cell_of_row _ _ 10 _ _ _ HZ1.out
  have e10 : w2.cell? ⟨w.heap.size + 1, 10, none⟩ = some (Value.int .i64 b.size) := cell_of_row _ _ 10 _ _ _ HZ2.out
  have c11 : w2.cell? ⟨w.heap.size, 11, none⟩ = some (Value.slice aq1 a.quotas.length cq) := cell_of_row _ _ 11 _ _ _ HZ1.out
  have e11 : w2.cell? ⟨w.heap.size + 1, 11, none⟩ = some (Value.slice bq1 b.quotas.length dq) := cell_of_row _ _ 11 _ _ _ HZ2.out
  have c12 : w2.cell? ⟨w.heap.size, 12, none⟩ = some (Value.slice ab1 a.barred.length cb) := cell_of_row _ _ 12 _ _ _ HZ1.out
  have e12 : w2.cell? ⟨w.heap.size + 1, 12, none⟩ = some (Value.slice bb1 b.barred.length db) := cell_of_row _ _ 12 _ _ _ HZ2.out
  by_cases m0 : a.name = b.name
  · by_cases m1 : a.kind = b.kind
    · by_cases m2 : a.round = b.round
      · by_cases m3 : a.price = b.price
        · by_cases m4 : a.pool = b.pool
          · by_cases m5 : a.pick = b.pick
            · by_cases m7 : a.roll = b.roll
              · by_cases m9 : a.cls = b.cls
                · by_cases m10 : a.size = b.size
                  · have p0 : (a.name.toList == b.name.toList) = true := by rw [m0]; simp
                    have p1 : (a.kind != b.kind) = false := by rw [m1]; simp
                    have p2 : (a.round != b.round) = false := by rw [m2]; simp
                    have p3 : (a.price != b.price) = false := by rw [m3]; simp
                    have p4 : (a.pool != b.pool) = false := by rw [m4]; simp
                    have p5 : (a.pick != b.pick) = false := by rw [m5]; simp
                    rw [← m7] at e7
                    have p9 : (a.cls != b.cls) = false := by rw [m9]; simp
                    have p10 : (a.size != b.size) = false := by rw [m10]; simp
                    have HH0 := Lib.hid m0
                    clear m0
                    have HH1 := Lib.hid m1
                    clear m1
                    have HH2 := Lib.hid m2
                    clear m2
                    have HH3 := Lib.hid m3
                    clear m3
                    have HH4 := Lib.hid m4
                    clear m4
                    have HH5 := Lib.hid m5
                    clear m5
                    have HH7 := Lib.hid m7
                    clear m7
                    have HH9 := Lib.hid m9
                    clear m9
                    have HH10 := Lib.hid m10
                    clear m10
                    cases r12
                    · have m12 : ¬ a.barred = b.barred := fun h => by have := HM12.out.2 h; cases this
                      obtain rfl : bb = false := by
                        cases hbb : bb with
                        | false => rfl
                        | true => exact absurd (by rw [HE.out.1 hbb]) m12
                      clear m12
                      go_wp2_with fail
                      go_ret
                      exact ⟨rfl, HO.out⟩
                    · have HH12 := Lib.hid (HM12.out.1 rfl)
                      clear HM12
                      by_cases n6 : a.tiers.length = b.tiers.length
                      · have q6 : ((a.tiers.length : Int) != b.tiers.length) = false := by rw [n6]; simp
                        have HN6 := Lib.hid n6
                        clear n6
                        by_cases n8 : a.places.length = b.places.length
                        · have q8 : ((a.places.length : Int) != b.places.length) = false := by rw [n8]; simp
                          have HN8 := Lib.hid n8
                          clear n8
                          by_cases n11 : a.quotas.length = b.quotas.length
                          · have q11 : ((a.quotas.length : Int) != b.quotas.length) = false := by rw [n11]; simp
                            have HN11 := Lib.hid n11
                            clear n11
                            go_wp2_with fail
                            clear c0 e0 c1 e1 c2 e2 c3 e3 c4 e4 c5 e5 c6 e6 c7 e7 c8 e8 c9 e9 c10 e10 c11 e11 c12 e12
                            obtain ⟨W0, hW0⟩ : ∃ W0 : World, W0 = w2 := ⟨_, rfl⟩
                            subst hW0
                            go_loopw [6] (fun iv wr => ∃ k : Nat, iv = .int .i64 k ∧ k ≤ a.tiers.length ∧ a.tiers.take k = b.tiers.take k ∧ Only (fun _ => False) w wr ∧ wr.heap[w.heap.size]? = W0.heap[w.heap.size]? ∧ wr.heap[w.heap.size + 1]? = W0.heap[w.heap.size + 1]?) (fun iv _ => a.tiers.length - (intOf iv).toNat)
                            case atStart => exact ⟨0, rfl, Nat.zero_le _, rfl, HO.out, rfl, rfl⟩
                            case round =>
                              have HZZ1 := HZ1
                              have HZZ2 := HZ2
                              obtain ⟨k, rfl, hk, htk, hO, hz1, hz2⟩ := hrel
                              have HTK := Lib.hid htk
                              have HO := Lib.hid hO
                              have HZ1 := Lib.hid (hz1.trans HZ1.out)
                              have HZ2 := Lib.hid (hz2.trans HZ2.out)
                              have HAA := Lib.hid (HA.out.only hO (fun _ _ h => h))
                              have HCC := Lib.hid (HB.out.only hO (fun _ _ h => h))
                              have hsz1 : w.heap.size < wr.heap.size := (Array.getElem?_eq_some_iff.1 HZ1.out).1
                              clear htk hO hz1 hz2
                              have c6 : wr.cell? ⟨w.heap.size, 6, none⟩ = some (Value.slice at1 a.tiers.length ct) := cell_of_row _ _ 6 _ _ _ HZ1.out
                              have e6 : wr.cell? ⟨w.heap.size + 1, 6, none⟩ = some (Value.slice bt1 b.tiers.length dt) := cell_of_row _ _ 6 _ _ _ HZ2.out
                              by_cases hlt : k < a.tiers.length
                              · have j1 : (k : Int) < a.tiers.length := by omega
                                have j2 : 0 ≤ (k : Int) := by omega
                                have hlt2 : k < b.tiers.length := by rw [← HN6.out]; exact hlt
                                have j3 : (k : Int) < b.tiers.length := by omega
                                have HLT := Lib.hid hlt
                                have hd0 := flat_at (fun x : Int × Int => [Value.int .i64 x.1, Value.int .i64 x.2]) 2 (fun _ => rfl) a.tiers k 0 hlt (by decide)
                                have hd1 := flat_at (fun x : Int × Int => [Value.int .i64 x.1, Value.int .i64 x.2]) 2 (fun _ => rfl) a.tiers k 1 hlt (by decide)
                                obtain ⟨g0, capg0, hvg0, hgg, hc1g, hc2g, d0⟩ := own_cell HAA.out.tiers hd0
                                obtain ⟨g1, capg1, hvg1, _, _, _, d1⟩ := own_cell HAA.out.tiers hd1
                                rw [hvg0] at hvg1
                                simp only [Value.slice.injEq, Option.some.injEq, Addr.mk.injEq, and_true, true_and] at hvg0 hvg1
                                obtain ⟨rfl, rfl⟩ := hvg0
                                obtain ⟨rfl, rfl⟩ := hvg1
                                have hx0 := flat_at (fun x : Int × Int => [Value.int .i64 x.1, Value.int .i64 x.2]) 2 (fun _ => rfl) b.tiers k 0 hlt2 (by decide)
                                have hx1 := flat_at (fun x : Int × Int => [Value.int .i64 x.1, Value.int .i64 x.2]) 2 (fun _ => rfl) b.tiers k 1 hlt2 (by decide)
                                obtain ⟨f0, capf0, hvf0, hgf, hc1f, hc2f, x0⟩ := own_cell HCC.out.tiers hx0
                                obtain ⟨f1, capf1, hvf1, _, _, _, x1⟩ := own_cell HCC.out.tiers hx1
                                rw [hvf0] at hvf1
                                simp only [Value.slice.injEq, Option.some.injEq, Addr.mk.injEq, and_true, true_and] at hvf0 hvf1
                                obtain ⟨rfl, rfl⟩ := hvf0
                                obtain ⟨rfl, rfl⟩ := hvf1
                                have HNX := Lib.hid (fun (he : a.tiers[k] = b.tiers[k]) => take_eq_succ HTK.out hlt hlt2 he)
                                have HNE := Lib.hid (fun (he : a.tiers[k] ≠ b.tiers[k]) => show bb = false by
                                  cases hbb : bb with
                                  | false => rfl
                                  | true => exact absurd (by rw [HE.out.1 hbb]) (ne_at hlt hlt2 he))
                                generalize a.tiers[k] = y at *
                                generalize b.tiers[k] = z at *
                                obtain ⟨ya, yb⟩ := y
                                obtain ⟨za, zb⟩ := z
                                change _ = some (Value.int .i64 ya) at d0
                                change _ = some (Value.int .i64 za) at x0
                                change _ = some (Value.int .i64 yb) at d1
                                change _ = some (Value.int .i64 zb) at x1
                                rw [Nat.add_zero] at d0 x0
                                clear hd0 hx0 hd1 hx1
                                by_cases m0 : ya = za
                                · by_cases m1 : yb = zb
                                  · obtain ⟨rfl, rfl⟩ : ya = za ∧ yb = zb := ⟨m0, m1⟩
                                    clear m0 m1
                                    have p0 : (ya == ya) = true := by simp
                                    have p1 : (yb == yb) = true := by simp
                                    have HG := Lib.hid (HNX.out rfl)
                                    go_wp2_with fail
                                    go_quiet (fail)
                                    go_wp2_with fail
                                    go_roundw
                                    case rel => exact ⟨k + 1, by go_num, HLT.out, HG.out, HO.out.drewN _, HZ1.out.trans HZZ1.out.symm, HZ2.out.trans HZZ2.out.symm⟩
                                    case measure => simp [intOf]; have := HLT.out; omega
                                  · obtain rfl := HNE.out (fun h => m1 (by simpa using congrArg (fun u => u.2) h))
                                    have p0 : (ya == za) = true := by rw [m0]; simp
                                    have p1 : (yb == zb) = false := by simpa using m1
                                    clear m0 m1
                                    go_wp2_with fail
                                    go_quiet (fail)
                                    go_wp2_with fail
                                    go_ret
                                    exact ⟨rfl, HO.out.drewN _⟩
                                · obtain rfl := HNE.out (fun h => m0 (by simpa using congrArg (fun u => u.1) h))
                                  have p0 : (ya == za) = false := by simpa using m0
                                  clear m0
                                  go_wp2_with fail
                                  go_quiet (fail)
                                  go_wp2_with fail
                                  go_ret
                                  exact ⟨rfl, HO.out.drewN _⟩
                              · obtain rfl : k = a.tiers.length := by omega
                                have j1 : ¬ (a.tiers.length : Int) < a.tiers.length := by omega
                                have HH6 := Lib.hid (show a.tiers = b.tiers by
                                  have := HTK.out
                                  rw [List.take_length, HN6.out, List.take_length] at this
                                  exact this)
                                clear hlt hk HTK
                                go_wp2_with fail
                                clear c6 e6
                                obtain ⟨W0, hW0⟩ : ∃ W0 : World, W0 = wr := ⟨_, rfl⟩
                                subst hW0
                                go_loopw [7] (fun iv wr => ∃ k : Nat, iv = .int .i64 k ∧ k ≤ a.places.length ∧ a.places.take k = b.places.take k ∧ Only (fun _ => False) w wr ∧ wr.heap[w.heap.size]? = W0.heap[w.heap.size]? ∧ wr.heap[w.heap.size + 1]? = W0.heap[w.heap.size + 1]?) (fun iv _ => a.places.length - (intOf iv).toNat)
                                case atStart => exact ⟨0, rfl, Nat.zero_le _, rfl, HO.out, rfl, rfl⟩
                                case round =>
                                  have HZZ1 := HZ1
                                  have HZZ2 := HZ2
                                  obtain ⟨k, rfl, hk, htk, hO, hz1, hz2⟩ := hrel
                                  have HTK := Lib.hid htk
                                  have HO := Lib.hid hO
                                  have HZ1 := Lib.hid (hz1.trans HZ1.out)
                                  have HZ2 := Lib.hid (hz2.trans HZ2.out)
                                  have HAA := Lib.hid (HA.out.only hO (fun _ _ h => h))
                                  have HCC := Lib.hid (HB.out.only hO (fun _ _ h => h))
                                  have hsz1 : w.heap.size < wr.heap.size := (Array.getElem?_eq_some_iff.1 HZ1.out).1
                                  clear htk hO hz1 hz2
                                  have c8 : wr.cell? ⟨w.heap.size, 8, none⟩ = some (Value.slice ap1 a.places.length cp) := cell_of_row _ _ 8 _ _ _ HZ1.out
                                  have e8 : wr.cell? ⟨w.heap.size + 1, 8, none⟩ = some (Value.slice bp1 b.places.length dp) := cell_of_row _ _ 8 _ _ _ HZ2.out
                                  by_cases hlt : k < a.places.length
                                  · have j1 : (k : Int) < a.places.length := by omega
                                    have j2 : 0 ≤ (k : Int) := by omega
                                    have hlt2 : k < b.places.length := by rw [← HN8.out]; exact hlt
                                    have j3 : (k : Int) < b.places.length := by omega
                                    have HLT := Lib.hid hlt
                                    have hd0 := flat_at (fun x : ByteArray × Int => [Value.string x.1, Value.int .i64 x.2]) 2 (fun _ => rfl) a.places k 0 hlt (by decide)
                                    have hd1 := flat_at (fun x : ByteArray × Int => [Value.string x.1, Value.int .i64 x.2]) 2 (fun _ => rfl) a.places k 1 hlt (by decide)
                                    obtain ⟨g0, capg0, hvg0, hgg, hc1g, hc2g, d0⟩ := own_cell HAA.out.places hd0
                                    obtain ⟨g1, capg1, hvg1, _, _, _, d1⟩ := own_cell HAA.out.places hd1
                                    rw [hvg0] at hvg1
                                    simp only [Value.slice.injEq, Option.some.injEq, Addr.mk.injEq, and_true, true_and] at hvg0 hvg1
                                    obtain ⟨rfl, rfl⟩ := hvg0
                                    obtain ⟨rfl, rfl⟩ := hvg1
                                    have hx0 := flat_at (fun x : ByteArray × Int => [Value.string x.1, Value.int .i64 x.2]) 2 (fun _ => rfl) b.places k 0 hlt2 (by decide)
                                    have hx1 := flat_at (fun x : ByteArray × Int => [Value.string x.1, Value.int .i64 x.2]) 2 (fun _ => rfl) b.places k 1 hlt2 (by decide)
                                    obtain ⟨f0, capf0, hvf0, hgf, hc1f, hc2f, x0⟩ := own_cell HCC.out.places hx0
                                    obtain ⟨f1, capf1, hvf1, _, _, _, x1⟩ := own_cell HCC.out.places hx1
                                    rw [hvf0] at hvf1
                                    simp only [Value.slice.injEq, Option.some.injEq, Addr.mk.injEq, and_true, true_and] at hvf0 hvf1
                                    obtain ⟨rfl, rfl⟩ := hvf0
                                    obtain ⟨rfl, rfl⟩ := hvf1
                                    have HNX := Lib.hid (fun (he : a.places[k] = b.places[k]) => take_eq_succ HTK.out hlt hlt2 he)
                                    have HNE := Lib.hid (fun (he : a.places[k] ≠ b.places[k]) => show bb = false by
                                      cases hbb : bb with
                                      | false => rfl
                                      | true => exact absurd (by rw [HE.out.1 hbb]) (ne_at hlt hlt2 he))
                                    generalize a.places[k] = y at *
                                    generalize b.places[k] = z at *
                                    obtain ⟨ya, yb⟩ := y
                                    obtain ⟨za, zb⟩ := z
                                    change _ = some (Value.string ya) at d0
                                    change _ = some (Value.string za) at x0
                                    change _ = some (Value.int .i64 yb) at d1
                                    change _ = some (Value.int .i64 zb) at x1
                                    rw [Nat.add_zero] at d0 x0
                                    clear hd0 hx0 hd1 hx1
                                    by_cases m0 : ya = za
                                    · by_cases m1 : yb = zb
                                      · obtain ⟨rfl, rfl⟩ : ya = za ∧ yb = zb := ⟨m0, m1⟩
                                        clear m0 m1
                                        have p0 : (ya.toList == ya.toList) = true := by simp
                                        have p1 : (yb == yb) = true := by simp
                                        have HG := Lib.hid (HNX.out rfl)
                                        go_wp2_with fail
                                        go_quiet (fail)
                                        go_wp2_with fail
                                        go_roundw
                                        case rel => exact ⟨k + 1, by go_num, HLT.out, HG.out, HO.out.drewN _, HZ1.out.trans HZZ1.out.symm, HZ2.out.trans HZZ2.out.symm⟩
                                        case measure => simp [intOf]; have := HLT.out; omega
                                      · obtain rfl := HNE.out (fun h => m1 (by simpa using congrArg (fun u => u.2) h))
                                        have p0 : (ya.toList == za.toList) = true := by rw [m0]; simp
                                        have p1 : (yb == zb) = false := by simpa using m1
                                        clear m0 m1
                                        go_wp2_with fail
                                        go_quiet (fail)
                                        go_wp2_with fail
                                        go_ret
                                        exact ⟨rfl, HO.out.drewN _⟩
                                    · obtain rfl := HNE.out (fun h => m0 (by simpa using congrArg (fun u => u.1) h))
                                      have p0 : (ya.toList == za.toList) = false := by rw [Bool.eq_false_iff]; intro h; exact m0 (tlU_iff.1 h)
                                      clear m0
                                      go_wp2_with fail
                                      go_quiet (fail)
                                      go_wp2_with fail
                                      go_ret
                                      exact ⟨rfl, HO.out.drewN _⟩
                                  · obtain rfl : k = a.places.length := by omega
                                    have j1 : ¬ (a.places.length : Int) < a.places.length := by omega
                                    have HH8 := Lib.hid (show a.places = b.places by
                                      have := HTK.out
                                      rw [List.take_length, HN8.out, List.take_length] at this
                                      exact this)
                                    clear hlt hk HTK
                                    go_wp2_with fail
                                    clear c8 e8
                                    obtain ⟨W0, hW0⟩ : ∃ W0 : World, W0 = wr := ⟨_, rfl⟩
                                    subst hW0
                                    go_loopw [8] (fun iv wr => ∃ k : Nat, iv = .int .i64 k ∧ k ≤ a.quotas.length ∧ a.quotas.take k = b.quotas.take k ∧ Only (fun _ => False) w wr ∧ wr.heap[w.heap.size]? = W0.heap[w.heap.size]? ∧ wr.heap[w.heap.size + 1]? = W0.heap[w.heap.size + 1]?) (fun iv _ => a.quotas.length - (intOf iv).toNat)
                                    case atStart => exact ⟨0, rfl, Nat.zero_le _, rfl, HO.out, rfl, rfl⟩
                                    case round =>
                                      have HZZ1 := HZ1
                                      have HZZ2 := HZ2
                                      obtain ⟨k, rfl, hk, htk, hO, hz1, hz2⟩ := hrel
                                      have HTK := Lib.hid htk
                                      have HO := Lib.hid hO
                                      have HZ1 := Lib.hid (hz1.trans HZ1.out)
                                      have HZ2 := Lib.hid (hz2.trans HZ2.out)
                                      have HAA := Lib.hid (HA.out.only hO (fun _ _ h => h))
                                      have HCC := Lib.hid (HB.out.only hO (fun _ _ h => h))
                                      have hsz1 : w.heap.size < wr.heap.size := (Array.getElem?_eq_some_iff.1 HZ1.out).1
                                      clear htk hO hz1 hz2
                                      have c11 : wr.cell? ⟨w.heap.size, 11, none⟩ = some (Value.slice aq1 a.quotas.length cq) := cell_of_row _ _ 11 _ _ _ HZ1.out
                                      have e11 : wr.cell? ⟨w.heap.size + 1, 11, none⟩ = some (Value.slice bq1 b.quotas.length dq) := cell_of_row _ _ 11 _ _ _ HZ2.out
                                      by_cases hlt : k < a.quotas.length
                                      · have j1 : (k : Int) < a.quotas.length := by omega
                                        have j2 : 0 ≤ (k : Int) := by omega
                                        have hlt2 : k < b.quotas.length := by rw [← HN11.out]; exact hlt
                                        have j3 : (k : Int) < b.quotas.length := by omega
                                        have HLT := Lib.hid hlt
                                        have hd0 := flat_at (fun x : ByteArray × Int × Int => [Value.string x.1, Value.int .i64 x.2.1, Value.int .i64 x.2.2]) 3 (fun _ => rfl) a.quotas k 0 hlt (by decide)
                                        have hd1 := flat_at (fun x : ByteArray × Int × Int => [Value.string x.1, Value.int .i64 x.2.1, Value.int .i64 x.2.2]) 3 (fun _ => rfl) a.quotas k 1 hlt (by decide)
                                        have hd2 := flat_at (fun x : ByteArray × Int × Int => [Value.string x.1, Value.int .i64 x.2.1, Value.int .i64 x.2.2]) 3 (fun _ => rfl) a.quotas k 2 hlt (by decide)
                                        obtain ⟨g0, capg0, hvg0, hgg, hc1g, hc2g, d0⟩ := own_cell HAA.out.quotas hd0
                                        obtain ⟨g1, capg1, hvg1, _, _, _, d1⟩ := own_cell HAA.out.quotas hd1
                                        obtain ⟨g2, capg2, hvg2, _, _, _, d2⟩ := own_cell HAA.out.quotas hd2
                                        rw [hvg0] at hvg1
                                        rw [hvg0] at hvg2
                                        simp only [Value.slice.injEq, Option.some.injEq, Addr.mk.injEq, and_true, true_and] at hvg0 hvg1 hvg2
                                        obtain ⟨rfl, rfl⟩ := hvg0
                                        obtain ⟨rfl, rfl⟩ := hvg1
                                        obtain ⟨rfl, rfl⟩ := hvg2
                                        have hx0 := flat_at (fun x : ByteArray × Int × Int => [Value.string x.1, Value.int .i64 x.2.1, Value.int .i64 x.2.2]) 3 (fun _ => rfl) b.quotas k 0 hlt2 (by decide)
                                        have hx1 := flat_at (fun x : ByteArray × Int × Int => [Value.string x.1, Value.int .i64 x.2.1, Value.int .i64 x.2.2]) 3 (fun _ => rfl) b.quotas k 1 hlt2 (by decide)
                                        have hx2 := flat_at (fun x : ByteArray × Int × Int => [Value.string x.1, Value.int .i64 x.2.1, Value.int .i64 x.2.2]) 3 (fun _ => rfl) b.quotas k 2 hlt2 (by decide)
                                        obtain ⟨f0, capf0, hvf0, hgf, hc1f, hc2f, x0⟩ := own_cell HCC.out.quotas hx0
                                        obtain ⟨f1, capf1, hvf1, _, _, _, x1⟩ := own_cell HCC.out.quotas hx1
                                        obtain ⟨f2, capf2, hvf2, _, _, _, x2⟩ := own_cell HCC.out.quotas hx2
                                        rw [hvf0] at hvf1
                                        rw [hvf0] at hvf2
                                        simp only [Value.slice.injEq, Option.some.injEq, Addr.mk.injEq, and_true, true_and] at hvf0 hvf1 hvf2
                                        obtain ⟨rfl, rfl⟩ := hvf0
                                        obtain ⟨rfl, rfl⟩ := hvf1
                                        obtain ⟨rfl, rfl⟩ := hvf2
                                        have HNX := Lib.hid (fun (he : a.quotas[k] = b.quotas[k]) => take_eq_succ HTK.out hlt hlt2 he)
                                        have HNE := Lib.hid (fun (he : a.quotas[k] ≠ b.quotas[k]) => show bb = false by
                                          cases hbb : bb with
                                          | false => rfl
                                          | true => exact absurd (by rw [HE.out.1 hbb]) (ne_at hlt hlt2 he))
                                        generalize a.quotas[k] = y at *
                                        generalize b.quotas[k] = z at *
                                        obtain ⟨ya, yb, yc⟩ := y
                                        obtain ⟨za, zb, zc⟩ := z
                                        change _ = some (Value.string ya) at d0
                                        change _ = some (Value.string za) at x0
                                        change _ = some (Value.int .i64 yb) at d1
                                        change _ = some (Value.int .i64 zb) at x1
                                        change _ = some (Value.int .i64 yc) at d2
                                        change _ = some (Value.int .i64 zc) at x2
                                        rw [Nat.add_zero] at d0 x0
                                        clear hd0 hx0 hd1 hx1 hd2 hx2
                                        by_cases m0 : ya = za
                                        · by_cases m1 : yb = zb
                                          · by_cases m2 : yc = zc
                                            · obtain ⟨rfl, rfl, rfl⟩ : ya = za ∧ yb = zb ∧ yc = zc := ⟨m0, m1, m2⟩
                                              clear m0 m1 m2
                                              have p0 : (ya.toList == ya.toList) = true := by simp
                                              have p1 : (yb == yb) = true := by simp
                                              have p2 : (yc == yc) = true := by simp
                                              have HG := Lib.hid (HNX.out rfl)
                                              go_wp2_with fail
                                              go_quiet (fail)
                                              go_wp2_with fail
                                              go_roundw
                                              case rel => exact ⟨k + 1, by go_num, HLT.out, HG.out, HO.out.drewN _, HZ1.out.trans HZZ1.out.symm, HZ2.out.trans HZZ2.out.symm⟩
                                              case measure => simp [intOf]; have := HLT.out; omega
                                            · obtain rfl := HNE.out (fun h => m2 (by simpa using congrArg (fun u => u.2.2) h))
                                              have p0 : (ya.toList == za.toList) = true := by rw [m0]; simp
                                              have p1 : (yb == zb) = true := by rw [m1]; simp
                                              have p2 : (yc == zc) = false := by simpa using m2
                                              clear m0 m1 m2
                                              go_wp2_with fail
                                              go_quiet (fail)
                                              go_wp2_with fail
                                              go_ret
                                              exact ⟨rfl, HO.out.drewN _⟩
                                          · obtain rfl := HNE.out (fun h => m1 (by simpa using congrArg (fun u => u.2.1) h))
                                            have p0 : (ya.toList == za.toList) = true := by rw [m0]; simp
                                            have p1 : (yb == zb) = false := by simpa using m1
                                            clear m0 m1
                                            go_wp2_with fail
                                            go_quiet (fail)
                                            go_wp2_with fail
                                            go_ret
                                            exact ⟨rfl, HO.out.drewN _⟩
                                        · obtain rfl := HNE.out (fun h => m0 (by simpa using congrArg (fun u => u.1) h))
                                          have p0 : (ya.toList == za.toList) = false := by rw [Bool.eq_false_iff]; intro h; exact m0 (tlU_iff.1 h)
                                          clear m0
                                          go_wp2_with fail
                                          go_quiet (fail)
                                          go_wp2_with fail
                                          go_ret
                                          exact ⟨rfl, HO.out.drewN _⟩
                                      · obtain rfl : k = a.quotas.length := by omega
                                        have j1 : ¬ (a.quotas.length : Int) < a.quotas.length := by omega
                                        have HH11 := Lib.hid (show a.quotas = b.quotas by
                                          have := HTK.out
                                          rw [List.take_length, HN11.out, List.take_length] at this
                                          exact this)
                                        clear hlt hk HTK
                                        go_wp2_with fail
                                        obtain rfl : bb = true := HE.out.2 (dr_ext HH0.out HH1.out HH2.out HH3.out HH4.out HH5.out HH6.out HH7.out HH8.out HH9.out HH10.out HH11.out HH12.out)
                                        go_ret
                                        exact ⟨rfl, HO.out⟩
                          · have m11 : ¬ a.quotas = b.quotas := fun h => n11 (by rw [h])
                            obtain rfl : bb = false := by
                              cases hbb : bb with
                              | false => rfl
                              | true => exact absurd (by rw [HE.out.1 hbb]) m11
                            have q11 : ((a.quotas.length : Int) != b.quotas.length) = true := by rw [bne_iff_ne]; omega
                            clear n11 m11
                            go_wp2_with fail
                            go_ret
                            exact ⟨rfl, HO.out⟩
                        · have m8 : ¬ a.places = b.places := fun h => n8 (by rw [h])
                          obtain rfl : bb = false := by
                            cases hbb : bb with
                            | false => rfl
                            | true => exact absurd (by rw [HE.out.1 hbb]) m8
                          have q8 : ((a.places.length : Int) != b.places.length) = true := by rw [bne_iff_ne]; omega
                          clear n8 m8
                          go_wp2_with fail
                          go_ret
                          exact ⟨rfl, HO.out⟩
                      · have m6 : ¬ a.tiers = b.tiers := fun h => n6 (by rw [h])
                        obtain rfl : bb = false := by
                          cases hbb : bb with
                          | false => rfl
                          | true => exact absurd (by rw [HE.out.1 hbb]) m6
                        have q6 : ((a.tiers.length : Int) != b.tiers.length) = true := by rw [bne_iff_ne]; omega
                        clear n6 m6
                        go_wp2_with fail
                        go_ret
                        exact ⟨rfl, HO.out⟩
                  · obtain rfl : bb = false := by
                      cases hbb : bb with
                      | false => rfl
                      | true => exact absurd (by rw [HE.out.1 hbb]) m10
                    have p0 : (a.name.toList == b.name.toList) = true := by rw [m0]; simp
                    have p1 : (a.kind != b.kind) = false := by rw [m1]; simp
                    have p2 : (a.round != b.round) = false := by rw [m2]; simp
                    have p3 : (a.price != b.price) = false := by rw [m3]; simp
                    have p4 : (a.pool != b.pool) = false := by rw [m4]; simp
                    have p5 : (a.pick != b.pick) = false := by rw [m5]; simp
                    rw [← m7] at e7
                    have p9 : (a.cls != b.cls) = false := by rw [m9]; simp
                    have p10 : (a.size != b.size) = true := by simpa using m10
                    clear m0 m1 m2 m3 m4 m5 m7 m9 m10
                    go_wp2_with fail
                    go_ret
                    exact ⟨rfl, HO.out⟩
                · obtain rfl : bb = false := by
                    cases hbb : bb with
                    | false => rfl
                    | true => exact absurd (by rw [HE.out.1 hbb]) m9
                  have p0 : (a.name.toList == b.name.toList) = true := by rw [m0]; simp
                  have p1 : (a.kind != b.kind) = false := by rw [m1]; simp
                  have p2 : (a.round != b.round) = false := by rw [m2]; simp
                  have p3 : (a.price != b.price) = false := by rw [m3]; simp
                  have p4 : (a.pool != b.pool) = false := by rw [m4]; simp
                  have p5 : (a.pick != b.pick) = false := by rw [m5]; simp
                  rw [← m7] at e7
                  have p9 : (a.cls != b.cls) = true := by simpa using m9
                  clear m0 m1 m2 m3 m4 m5 m7 m9
                  go_wp2_with fail
                  go_ret
                  exact ⟨rfl, HO.out⟩
              · obtain rfl : bb = false := by
                  cases hbb : bb with
                  | false => rfl
                  | true => exact absurd (by rw [HE.out.1 hbb]) m7
                have p0 : (a.name.toList == b.name.toList) = true := by rw [m0]; simp
                have p1 : (a.kind != b.kind) = false := by rw [m1]; simp
                have p2 : (a.round != b.round) = false := by rw [m2]; simp
                have p3 : (a.price != b.price) = false := by rw [m3]; simp
                have p4 : (a.pool != b.pool) = false := by rw [m4]; simp
                have p5 : (a.pick != b.pick) = false := by rw [m5]; simp
                rw [not_of_ne m7] at e7
                clear m0 m1 m2 m3 m4 m5 m7
                go_wp2_with fail
                go_ret
                exact ⟨rfl, HO.out⟩
            · obtain rfl : bb = false := by
                cases hbb : bb with
                | false => rfl
                | true => exact absurd (by rw [HE.out.1 hbb]) m5
              have p0 : (a.name.toList == b.name.toList) = true := by rw [m0]; simp
              have p1 : (a.kind != b.kind) = false := by rw [m1]; simp
              have p2 : (a.round != b.round) = false := by rw [m2]; simp
              have p3 : (a.price != b.price) = false := by rw [m3]; simp
              have p4 : (a.pool != b.pool) = false := by rw [m4]; simp
              have p5 : (a.pick != b.pick) = true := by simpa using m5
              clear m0 m1 m2 m3 m4 m5
              go_wp2_with fail
              go_ret
              exact ⟨rfl, HO.out⟩
          · obtain rfl : bb = false := by
              cases hbb : bb with
              | false => rfl
              | true => exact absurd (by rw [HE.out.1 hbb]) m4
            have p0 : (a.name.toList == b.name.toList) = true := by rw [m0]; simp
            have p1 : (a.kind != b.kind) = false := by rw [m1]; simp
            have p2 : (a.round != b.round) = false := by rw [m2]; simp
            have p3 : (a.price != b.price) = false := by rw [m3]; simp
            have p4 : (a.pool != b.pool) = true := by simpa using m4
            clear m0 m1 m2 m3 m4
            go_wp2_with fail
            go_ret
            exact ⟨rfl, HO.out⟩
        · obtain rfl : bb = false := by
            cases hbb : bb with
            | false => rfl
            | true => exact absurd (by rw [HE.out.1 hbb]) m3
          have p0 : (a.name.toList == b.name.toList) = true := by rw [m0]; simp
          have p1 : (a.kind != b.kind) = false := by rw [m1]; simp
          have p2 : (a.round != b.round) = false := by rw [m2]; simp
          have p3 : (a.price != b.price) = true := by simpa using m3
          clear m0 m1 m2 m3
          go_wp2_with fail
          go_ret
          exact ⟨rfl, HO.out⟩
      · obtain rfl : bb = false := by
          cases hbb : bb with
          | false => rfl
          | true => exact absurd (by rw [HE.out.1 hbb]) m2
        have p0 : (a.name.toList == b.name.toList) = true := by rw [m0]; simp
        have p1 : (a.kind != b.kind) = false := by rw [m1]; simp
        have p2 : (a.round != b.round) = true := by simpa using m2
        clear m0 m1 m2
        go_wp2_with fail
        go_ret
        exact ⟨rfl, HO.out⟩
    · obtain rfl : bb = false := by
        cases hbb : bb with
        | false => rfl
        | true => exact absurd (by rw [HE.out.1 hbb]) m1
      have p0 : (a.name.toList == b.name.toList) = true := by rw [m0]; simp
      have p1 : (a.kind != b.kind) = true := by simpa using m1
      clear m0 m1
      go_wp2_with fail
      go_ret
      exact ⟨rfl, HO.out⟩
  · obtain rfl : bb = false := by
      cases hbb : bb with
      | false => rfl
      | true => exact absurd (by rw [HE.out.1 hbb]) m0
    have p0 : (a.name.toList == b.name.toList) = false := by rw [Bool.eq_false_iff]; intro h; exact m0 (tlU_iff.1 h)
    clear m0
    go_wp2_with fail
    go_ret
    exact ⟨rfl, HO.out⟩
end Go.Proofs.YteikkpiginfbkaaGreatDoor
