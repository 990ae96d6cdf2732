/-
  Rules, the reference: write (whatever draw it gets).
  Rules, the reference: Print; the laws' same.
  Rules: the laws' same and fails.
-/
import Derived.Test.YteikkpiginfbkaaGreatDoorPh29
import Derived.Test.YteikkpiginfbkaaGreatDoorPh23
import Derived.Test.YteikkpiginfbkaaGreatDoorPh25
import Derived.Test.YteikkpiginfbkaaGreatDoorPh30
namespace Go.Proofs.YteikkpiginfbkaaGreatDoor
open Go.RowKit

theorem st_1 (ls : List (List ByteArray)) (k K x : ByteArray) (hK : K.data.toList = k.data.toList ++ [32]) : arrB (flatL ls) ++ K ++ x ++ ⟨#[10]⟩ = arrB (flatL (ls ++ [[k, x]])) := by
  apply ba_ext
  simp only [app_data, hK]
  show flatL ls ++ _ ++ _ ++ [10] = flatL (ls ++ [[k, x]])
  rw [flatL_app, flatL_one, lineW_cons, lineW_one]
  simp
theorem st_2 (ls : List (List ByteArray)) (k K x y : ByteArray) (hK : K.data.toList = k.data.toList ++ [32]) : arrB (flatL ls) ++ K ++ x ++ ⟨#[32]⟩ ++ y ++ ⟨#[10]⟩ = arrB (flatL (ls ++ [[k, x, y]])) := by
  apply ba_ext
  simp only [app_data, hK]
  show flatL ls ++ _ ++ _ ++ [32] ++ _ ++ [10] = flatL (ls ++ [[k, x, y]])
  rw [flatL_app, flatL_one, lineW_cons, lineW_cons, lineW_one]
  simp
theorem st_3 (ls : List (List ByteArray)) (k K x y z : ByteArray) (hK : K.data.toList = k.data.toList ++ [32]) : arrB (flatL ls) ++ K ++ x ++ ⟨#[32]⟩ ++ y ++ ⟨#[32]⟩ ++ z ++ ⟨#[10]⟩ = arrB (flatL (ls ++ [[k, x, y, z]])) := by
  apply ba_ext
  simp only [app_data, hK]
  show flatL ls ++ _ ++ _ ++ [32] ++ _ ++ [32] ++ _ ++ [10] = flatL (ls ++ [[k, x, y, z]])
  rw [flatL_app, flatL_one, lineW_cons, lineW_cons, lineW_cons, lineW_one]
  simp
theorem st_rp (ls : List (List ByteArray)) (x y : ByteArray) : arrB (flatL ls) ++ ⟨#[114, 111, 117, 110, 100, 32]⟩ ++ x ++ ⟨#[10, 112, 114, 105, 99, 101, 32]⟩ ++ y ++ ⟨#[10]⟩ = arrB (flatL (ls ++ [[kRound, x], [kPrice, y]])) := by
  apply ba_ext
  simp only [app_data]
  show flatL ls ++ _ ++ _ ++ _ ++ _ ++ [10] = flatL (ls ++ [[kRound, x], [kPrice, y]])
  rw [flatL_app, flatL_cons, flatL_one, lineW_cons, lineW_one, lineW_cons, lineW_one]
  simp [show kRound.data.toList = [114, 111, 117, 110, 100] from rfl, show kPrice.data.toList = [112, 114, 105, 99, 101] from rfl]
theorem st_roll (ls : List (List ByteArray)) : arrB (flatL ls) ++ ⟨#[114, 111, 108, 108, 10]⟩ = arrB (flatL (ls ++ [[kRoll]])) := by
  apply ba_ext
  simp only [app_data]
  show flatL ls ++ _ = flatL (ls ++ [[kRoll]])
  rw [flatL_app, flatL_one, lineW_one]
  simp [show kRoll.data.toList = [114, 111, 108, 108] from rfl]
theorem st_draw (n : ByteArray) : (⟨#[100, 114, 97, 119, 32]⟩ : ByteArray) ++ n ++ ⟨#[10]⟩ = arrB (flatL [[kDraw, n]]) := by
  apply ba_ext
  simp only [app_data]
  show _ ++ _ ++ [10] = flatL [[kDraw, n]]
  rw [flatL_one, lineW_cons, lineW_one]
  simp [show kDraw.data.toList = [100, 114, 97, 119] from rfl]
theorem px_take {α : Type} (f : α → List ByteArray) (l : List α) (k : Nat) (P b L : List (List ByteArray)) (h : L = (P ++ l.map f) ++ b) : L = (P ++ (l.take k).map f) ++ ((l.drop k).map f ++ b) := by
  have e : l.map f = (l.take k).map f ++ (l.drop k).map f := by rw [← List.map_append, List.take_append_drop]
  rw [h, e]
  simp only [List.append_assoc]
theorem fl_size (l : List UInt8) : (arrB l).size = l.length := by unfold arrB; simp [ByteArray.size]
theorem ba_len (b : ByteArray) : b.data.toList.length = b.size := Array.length_toList
/-- The numbers of a draw are words of 64 bits. -/
structure Dr64 (d : Dr) : Prop where
  round : R64 d.round
  price : R64 d.price
  pool : R64 d.pool
  pick : R64 d.pick
  cls : R64 d.cls
  size : R64 d.size
  tiers : ∀ x ∈ d.tiers, R64 x.1 ∧ R64 x.2
  places : ∀ x ∈ d.places, R64 x.2
  quotas : ∀ x ∈ d.quotas, R64 x.2.1 ∧ R64 x.2.2
  barred : ∀ x ∈ d.barred, R64 x
theorem dec64_size {z : Int} (h : R64 z) : (decW z).size ≤ 21 := by
  have h1 : z.toNat < 9223372036854775808 := by unfold R64 at h; omega
  have h2 : (decW z).data.toList.length ≤ 20 := by
    rw [dec_data]
    exact (digs_len 19 z.toNat (by simp; omega)).1
  rw [ba_len] at h2
  omega
set_option maxRecDepth 100000 in
set_option maxHeartbeats 100000000 in
theorem rwrite_any (d : Dr) (vt vp vq vb : Value) (base : Nat) (w : World) (hd : DrOwn base w d vt vp vq vb) (hs : Short 1000 21 d) (hi : Dr64 d) (hl : d.tiers.length + d.places.length + d.quotas.length + d.barred.length ≤ 400) :
    Calls Tryz.prog 42 #[.agg (drCells d vt vp vq vb)] w fun e w' => e = .returned (.string (writeB d)) ∧ Only (fun _ => False) w w' := by
  obtain ⟨at1, ct, rfl⟩ := slice_of_own hd.tiers
  obtain ⟨ap1, cp, rfl⟩ := slice_of_own hd.places
  obtain ⟨aq1, cq, rfl⟩ := slice_of_own hd.quotas
  obtain ⟨ab1, cb, rfl⟩ := slice_of_own hd.bars
  have HD := Lib.hid hd
  have HS := Lib.hid hs
  have HI := Lib.hid hi
  have HPX := Lib.hid (show ∀ a b, lnsZ d = a ++ b → (arrB (flatL a)).size ≤ 500000 from fun a b e => by
    have h1 := write_len hs (c := 405) (by omega)
    unfold writeL at h1
    rw [e, flatL_app, List.length_append] at h1
    rw [fl_size]; omega)
  have HZ := Lib.hid (heap_alloc_last w (.cells (drCells d (.slice at1 d.tiers.length ct) (.slice ap1 d.places.length cp) (.slice aq1 d.quotas.length cq) (.slice ab1 d.barred.length cb)) 33))
  have HO := Lib.hid ((Only.refl (fun _ => False) w).alloc (.cells (drCells d (.slice at1 d.tiers.length ct) (.slice ap1 d.places.length cp) (.slice aq1 d.quotas.length cq) (.slice ab1 d.barred.length cb)) 33))
  have hn : d.name.size ≤ 1000 := by have h := hs.name; rwa [ba_len] at h
  clear hd hs hi hl
  go_enter Tryz.func42, Tryz.ntmps42
  go_upto_region 1 with (fail)
  generalize World.alloc w _ = w2 at *
  have HZ2 := Lib.hid HZ.out
  have HD2 := Lib.hid (HD.out.only HO.out (fun _ _ h => h))
  have hlt0 : w.heap.size < w2.heap.size := (Array.getElem?_eq_some_iff.1 HZ2.out).1
  have c0 : w2.cell? ⟨w.heap.size, 0, none⟩ = some (Value.string d.name) := cell_of_row _ _ 0 _ _ _ HZ2.out
  have c1 : w2.cell? ⟨w.heap.size, 1, none⟩ = some (Value.int .i64 d.kind) := cell_of_row _ _ 1 _ _ _ HZ2.out
  have c2 : w2.cell? ⟨w.heap.size, 2, none⟩ = some (Value.int .i64 d.round) := cell_of_row _ _ 2 _ _ _ HZ2.out
  have c3 : w2.cell? ⟨w.heap.size, 3, none⟩ = some (Value.int .i64 d.price) := cell_of_row _ _ 3 _ _ _ HZ2.out
  have c4 : w2.cell? ⟨w.heap.size, 4, none⟩ = some (Value.int .i64 d.pool) := cell_of_row _ _ 4 _ _ _ HZ2.out
  have c5 : w2.cell? ⟨w.heap.size, 5, none⟩ = some (Value.int .i64 d.pick) := cell_of_row _ _ 5 _ _ _ HZ2.out
  have c6 : w2.cell? ⟨w.heap.size, 6, none⟩ = some (Value.slice at1 d.tiers.length ct) := cell_of_row _ _ 6 _ _ _ HZ2.out
  have c7 : w2.cell? ⟨w.heap.size, 7, none⟩ = some (Value.bool d.roll) := cell_of_row _ _ 7 _ _ _ HZ2.out
  have c8 : w2.cell? ⟨w.heap.size, 8, none⟩ = some (Value.slice ap1 d.places.length cp) := cell_of_row _ _ 8 _ _ _ HZ2.out
  have c9 : w2.cell? ⟨w.heap.size, 9, none⟩ = some (Value.int .i64 d.cls) := cell_of_row _ _ 9 _ _ _ HZ2.out
  have c10 : w2.cell? ⟨w.heap.size, 10, none⟩ = some (Value.int .i64 d.size) := cell_of_row _ _ 10 _ _ _ HZ2.out
  have c11 : w2.cell? ⟨w.heap.size, 11, none⟩ = some (Value.slice aq1 d.quotas.length cq) := cell_of_row _ _ 11 _ _ _ HZ2.out
  have c12 : w2.cell? ⟨w.heap.size, 12, none⟩ = some (Value.slice ab1 d.barred.length cb) := cell_of_row _ _ 12 _ _ _ HZ2.out
  have i1 : ¬ (9223372036854775807 < 5 + d.name.size) := by omega
  have i2 : ¬ (9223372036854775807 < 5 + d.name.size + 1) := by omega
  clear hn
  go_upto_block 0 with (fail)
  rw [st_draw]
  clear i1 i2
  go_cut [3] (fun v wx => v = .string (arrB (flatL ([kDraw, d.name] :: kindL d))) ∧ Only (fun _ => False) w2 wx)
  case first =>
    by_cases hk : d.kind = 1
    · have q1 : (d.kind == 1) = true := by rw [hk]; rfl
      have HK := Lib.hid hk
      clear hk
      obtain ⟨s, hs⟩ : ∃ s, arrB (flatL ([[kDraw, d.name]])) = s := ⟨_, rfl⟩
      rw [hs]
      have HSS := Lib.hid hs
      have ns : s.size ≤ 500000 := by rw [← hs]; exact HPX.out [[kDraw, d.name]] _ rfl
      clear hs
      obtain ⟨xa, hxa⟩ : ∃ xa, decW d.pool = xa := ⟨_, rfl⟩
      have nxa : xa.size ≤ 21 := by rw [← hxa]; exact dec64_size HI.out.pool
      have HXxa := Lib.hid hxa
      have HCxa := Lib.hid (fun W => rdec13_any d.pool W HI.out.pool)
      rw [hxa] at HCxa
      clear hxa
      obtain ⟨xb, hxb⟩ : ∃ xb, decW d.pick = xb := ⟨_, rfl⟩
      have nxb : xb.size ≤ 21 := by rw [← hxb]; exact dec64_size HI.out.pick
      have HXxb := Lib.hid hxb
      have HCxb := Lib.hid (fun W => rdec13_any d.pick W HI.out.pick)
      rw [hxb] at HCxb
      clear hxb
      have i1 : ¬ (9223372036854775807 < s.size + 8) := by omega
      have i2 : ¬ (9223372036854775807 < s.size + 8 + xa.size) := by omega
      have i3 : ¬ (9223372036854775807 < s.size + 8 + xa.size + 1) := by omega
      have i4 : ¬ (9223372036854775807 < s.size + 8 + xa.size + 1 + xb.size) := by omega
      have i5 : ¬ (9223372036854775807 < s.size + 8 + xa.size + 1 + xb.size + 1) := by omega
      go_upto_region 4 with (fail)
      have yc4 := fun (d : Nat) (os : Array Obj) => cell_regrown c4 d os
      have yc5 := fun (d : Nat) (os : Array Obj) => cell_regrown c5 d os
      clear c4 c5
      refine wp_region_quiet_below (by kernel_rfl) (by kernel_rfl) ?_
      repeat (go_big_quiet_step ((go_at_call 68; first | exact Calls.regrown_of ((HCxa.out _).mono fun _ _ h => ⟨h.1, h.2.below (Nat.le_refl _) (fun _ _ h => h)⟩) | exact Calls.regrown_of ((HCxb.out _).mono fun _ _ h => ⟨h.1, h.2.below (Nat.le_refl _) (fun _ _ h => h)⟩))))
      refine wpQuiet_nil ?_
      intro wy hw'
      obtain ⟨pq, hw''⟩ := hw'
      have HOy := Lib.hid (Only.ofBelow (below_regrown w2 pq.d pq.os) (fun _ => False))
      rw [← hw''] at HOy
      clear hw'' yc4 yc5
      go_wp2_with fail
      go_meet
      have hk := HK.out
      rw [show kindL d = [[kLottery, decW d.pool, decW d.pick]] by unfold kindL; rw [if_pos hk], ← HSS.out, HXxa.out, HXxb.out]
      exact ⟨by rw [st_2 _ kLottery _ _ _ (by rfl)]; rfl, HOy.out⟩
    · by_cases hk2 : d.kind = 2
      · have hk := hk2
        clear hk2
        have q1 : (d.kind == 1) = false := by rw [hk]; rfl
        have q2 : (d.kind == 2) = true := by rw [hk]; rfl
        have HK := Lib.hid hk
        clear hk
        obtain ⟨s, hs⟩ : ∃ s, arrB (flatL ([[kDraw, d.name]])) = s := ⟨_, rfl⟩
        rw [hs]
        have HSS := Lib.hid hs
        have ns : s.size ≤ 500000 := by rw [← hs]; exact HPX.out [[kDraw, d.name]] _ rfl
        clear hs
        obtain ⟨xa, hxa⟩ : ∃ xa, decW d.cls = xa := ⟨_, rfl⟩
        have nxa : xa.size ≤ 21 := by rw [← hxa]; exact dec64_size HI.out.cls
        have HXxa := Lib.hid hxa
        have HCxa := Lib.hid (fun W => rdec13_any d.cls W HI.out.cls)
        rw [hxa] at HCxa
        clear hxa
        have i1 : ¬ (9223372036854775807 < s.size + 7) := by omega
        have i2 : ¬ (9223372036854775807 < s.size + 7 + xa.size) := by omega
        have i3 : ¬ (9223372036854775807 < s.size + 7 + xa.size + 1) := by omega
        go_wp2_with fail
        refine (HCxa.out _).mono ?_
        rintro e wy ⟨rfl, hOy⟩
        have HOy := Lib.hid hOy
        clear hOy
        go_wp2_with fail
        go_meet
        have hk := HK.out
        rw [show kindL d = [[kBallot, decW d.cls]] by unfold kindL; rw [if_neg (by rw [hk]; decide), if_pos hk], ← HSS.out, HXxa.out]
        exact ⟨by rw [st_1 _ kBallot _ _ (by rfl)]; rfl, HOy.out⟩
      · by_cases hk3 : d.kind = 3
        · have hk := hk3
          clear hk2 hk3
          have q1 : (d.kind == 1) = false := by rw [hk]; rfl
          have q2 : (d.kind == 2) = false := by rw [hk]; rfl
          have q3 : (d.kind == 3) = true := by rw [hk]; rfl
          have HK := Lib.hid hk
          clear hk
          obtain ⟨s, hs⟩ : ∃ s, arrB (flatL ([[kDraw, d.name]])) = s := ⟨_, rfl⟩
          rw [hs]
          have HSS := Lib.hid hs
          have ns : s.size ≤ 500000 := by rw [← hs]; exact HPX.out [[kDraw, d.name]] _ rfl
          clear hs
          obtain ⟨xa, hxa⟩ : ∃ xa, decW d.size = xa := ⟨_, rfl⟩
          have nxa : xa.size ≤ 21 := by rw [← hxa]; exact dec64_size HI.out.size
          have HXxa := Lib.hid hxa
          have HCxa := Lib.hid (fun W => rdec13_any d.size W HI.out.size)
          rw [hxa] at HCxa
          clear hxa
          have i1 : ¬ (9223372036854775807 < s.size + 6) := by omega
          have i2 : ¬ (9223372036854775807 < s.size + 6 + xa.size) := by omega
          have i3 : ¬ (9223372036854775807 < s.size + 6 + xa.size + 1) := by omega
          go_wp2_with fail
          refine (HCxa.out _).mono ?_
          rintro e wy ⟨rfl, hOy⟩
          have HOy := Lib.hid hOy
          clear hOy
          go_wp2_with fail
          go_meet
          have hk := HK.out
          rw [show kindL d = [[kPanel, decW d.size]] by unfold kindL; rw [if_neg (by rw [hk]; decide), if_neg (by rw [hk]; decide), if_pos hk], ← HSS.out, HXxa.out]
          exact ⟨by rw [st_1 _ kPanel _ _ (by rfl)]; rfl, HOy.out⟩
        · have q1 : (d.kind == 1) = false := by simpa using hk
          have q2 : (d.kind == 2) = false := by simpa using hk2
          have q3 : (d.kind == 3) = false := by simpa using hk3
          have HK := Lib.hid (And.intro hk (And.intro hk2 hk3))
          clear hk hk2 hk3
          go_wp2_with fail
          go_meet
          rw [show kindL d = [] by unfold kindL; rw [if_neg HK.out.1, if_neg HK.out.2.1, if_neg HK.out.2.2]]
          exact ⟨rfl, Only.refl _ _⟩
  case rest =>
    obtain ⟨rfl, hO1⟩ := hcut
    have HO1 := Lib.hid hO1
    clear hO1 c0 c1 c2 c3 c4 c5 c6 c7 c8 c9 c10 c11 c12
    have HZ3 := Lib.hid (row_still HO1.out HZ2.out)
    have c2 : wc.cell? ⟨w.heap.size, 2, none⟩ = some (Value.int .i64 d.round) := cell_of_row _ _ 2 _ _ _ HZ3.out
    have c3 : wc.cell? ⟨w.heap.size, 3, none⟩ = some (Value.int .i64 d.price) := cell_of_row _ _ 3 _ _ _ HZ3.out
    have HHE := Lib.hid (show ([kDraw, d.name] :: kindL d) ++ [[kRound, decW d.round], [kPrice, decW d.price]] = headL d from rfl)
    have ns : (arrB (flatL ([kDraw, d.name] :: kindL d))).size ≤ 500000 := HPX.out _ ([[kRound, decW d.round], [kPrice, decW d.price]] ++ restL d) (by unfold lnsZ; rw [← HHE.out, List.append_assoc])
    generalize ([kDraw, d.name] :: kindL d) = l2 at *
    obtain ⟨s, hs⟩ : ∃ s, arrB (flatL l2) = s := ⟨_, rfl⟩
    rw [hs] at ns ⊢
    have HSS := Lib.hid hs
    clear hs
    obtain ⟨xa, hxa⟩ : ∃ xa, decW d.round = xa := ⟨_, rfl⟩
    have nxa : xa.size ≤ 21 := by rw [← hxa]; exact dec64_size HI.out.round
    have HXxa := Lib.hid hxa
    have HCxa := Lib.hid (fun W => rdec13_any d.round W HI.out.round)
    rw [hxa] at HCxa
    clear hxa
    obtain ⟨xb, hxb⟩ : ∃ xb, decW d.price = xb := ⟨_, rfl⟩
    have nxb : xb.size ≤ 21 := by rw [← hxb]; exact dec64_size HI.out.price
    have HXxb := Lib.hid hxb
    have HCxb := Lib.hid (fun W => rdec13_any d.price W HI.out.price)
    rw [hxb] at HCxb
    clear hxb
    have i1 : ¬ (9223372036854775807 < s.size + 6) := by omega
    have i2 : ¬ (9223372036854775807 < s.size + 6 + xa.size) := by omega
    have i3 : ¬ (9223372036854775807 < s.size + 6 + xa.size + 7) := by omega
    have i4 : ¬ (9223372036854775807 < s.size + 6 + xa.size + 7 + xb.size) := by omega
    have i5 : ¬ (9223372036854775807 < s.size + 6 + xa.size + 7 + xb.size + 1) := by omega
    go_upto_region 9 with (fail)
    have yc2 := fun (d : Nat) (os : Array Obj) => cell_regrown c2 d os
    have yc3 := fun (d : Nat) (os : Array Obj) => cell_regrown c3 d os
    clear c2 c3
    refine wp_region_quiet_below (by kernel_rfl) (by kernel_rfl) ?_
    repeat (go_big_quiet_step ((go_at_call 68; first | exact Calls.regrown_of ((HCxa.out _).mono fun _ _ h => ⟨h.1, h.2.below (Nat.le_refl _) (fun _ _ h => h)⟩) | exact Calls.regrown_of ((HCxb.out _).mono fun _ _ h => ⟨h.1, h.2.below (Nat.le_refl _) (fun _ _ h => h)⟩))))
    refine wpQuiet_nil ?_
    intro wy hw'
    obtain ⟨pq, hw''⟩ := hw'
    have HOy := Lib.hid (Only.ofBelow (below_regrown wc pq.d pq.os) (fun _ => False))
    rw [← hw''] at HOy
    clear hw'' yc2 yc3
    have hst : s ++ ⟨#[114, 111, 117, 110, 100, 32]⟩ ++ xa ++ ⟨#[10, 112, 114, 105, 99, 101, 32]⟩ ++ xb ++ ⟨#[10]⟩ = arrB (flatL (headL d)) := by
      rw [← HHE.out, ← HSS.out, HXxa.out, HXxb.out]; exact st_rp _ _ _
    go_upto_block 1 with (fail)
    rw [hst]
    clear hst ns nxa nxb
    clear i1 i2 i3 i4 i5
    have HO1 := Lib.hid (HO1.out.trans HOy.out)
    clear HOy HXxa HXxb HCxa HCxb HSS HHE HZ3
    have HQ1 := Lib.hid (show headL d ++ [] = headL d from List.append_nil _)
    have HPQ := Lib.hid (show ∃ b, lnsZ d = headL d ++ b from ⟨_, rfl⟩)
    generalize wy = wc at *
    clear HPQ HQ1
    have HPQ := Lib.hid (show ∃ b, lnsZ d = (headL d ++ d.tiers.map tierL) ++ b from ⟨rollL d.roll ++ (d.places.map placeL ++ (d.quotas.map quotaL ++ d.barred.map barL)), by unfold lnsZ restL; simp only [List.append_assoc]⟩)
    go_upto_block 1 with (fail)
    go_cut [3] (fun v wx => v = .string (arrB (flatL (headL d ++ d.tiers.map tierL))) ∧ Only (fun _ => False) w2 wx)
    case first =>
      generalize headL d = l0 at *
      go_wp2_with fail
      go_loopw [3, 4] (fun v iv wr => ∃ k : Nat, iv = .int .i64 k ∧ k ≤ d.tiers.length ∧ v = .string (arrB (flatL (l0 ++ (d.tiers.take k).map tierL))) ∧ Only (fun _ => False) w2 wr) (fun _ iv _ => d.tiers.length - (intOf iv).toNat)
      case atStart => exact ⟨0, rfl, Nat.zero_le _, by simp, HO1.out⟩
      case round =>
        obtain ⟨k, rfl, hk, rfl, hO4⟩ := hrel
        have HO4 := Lib.hid hO4
        have HZ4 := Lib.hid (row_still hO4 HZ2.out)
        have HD4 := Lib.hid (HD2.out.only hO4 (fun _ _ h => h))
        clear hO4
        have c6 : wr.cell? ⟨w.heap.size, 6, none⟩ = some (Value.slice at1 d.tiers.length ct) := cell_of_row _ _ 6 _ _ _ HZ4.out
        have ns : (arrB (flatL (l0 ++ (d.tiers.take k).map tierL))).size ≤ 500000 := by obtain ⟨b, hb⟩ := HPQ.out; exact HPX.out _ _ (px_take _ _ k _ _ _ hb)
        by_cases hlt : k < d.tiers.length
        · have HLN := Lib.hid (show l0 ++ (d.tiers.take (k + 1)).map tierL = (l0 ++ (d.tiers.take k).map tierL) ++ [tierL d.tiers[k]] by
            rw [take_snoc hlt, List.map_append, List.append_assoc]; rfl)
          obtain ⟨s, hs⟩ : ∃ s, arrB (flatL (l0 ++ (d.tiers.take k).map tierL)) = s := ⟨_, rfl⟩
          rw [hs] at ns ⊢
          have HSS := Lib.hid hs
          clear hs
          have j1 : (k : Int) < d.tiers.length := by omega
          have j2 : 0 ≤ (k : Int) := by omega
          have h0 := flat_at (fun x : Int × Int => [Value.int .i64 x.1, Value.int .i64 x.2]) 2 (fun _ => rfl) d.tiers k 0 hlt (by decide)
          have h1 := flat_at (fun x : Int × Int => [Value.int .i64 x.1, Value.int .i64 x.2]) 2 (fun _ => rfl) d.tiers k 1 hlt (by decide)
          obtain ⟨g, cap, hv, hg, hc1, hc2, d0⟩ := own_cell HD4.out.tiers h0
          obtain ⟨g1, cap1, hv1, _, _, _, d1⟩ := own_cell HD4.out.tiers h1
          rw [hv] at hv1
          simp only [Value.slice.injEq, Option.some.injEq, Addr.mk.injEq, and_true, true_and] at hv hv1
          obtain ⟨rfl, rfl⟩ := hv
          obtain ⟨rfl, rfl⟩ := hv1
          have hm := List.getElem_mem hlt
          obtain ⟨r1, r2⟩ := HI.out.tiers _ hm
          clear hm h0 h1
          generalize d.tiers[k] = y at *
          obtain ⟨ya, yb⟩ := y
          change _ = some (Value.int .i64 ya) at d0
          change _ = some (Value.int .i64 yb) at d1
          rw [Nat.add_zero] at d0
          change R64 ya at r1
          change R64 yb at r2
          obtain ⟨xa, hxa⟩ : ∃ xa, decW ya = xa := ⟨_, rfl⟩
          have nxa : xa.size ≤ 21 := by rw [← hxa]; exact dec64_size r1
          have HXxa := Lib.hid hxa
          have HCxa := Lib.hid (fun W => rdec13_any ya W r1)
          rw [hxa] at HCxa
          clear hxa
          obtain ⟨xb, hxb⟩ : ∃ xb, decW yb = xb := ⟨_, rfl⟩
          have nxb : xb.size ≤ 21 := by rw [← hxb]; exact dec64_size r2
          have HXxb := Lib.hid hxb
          have HCxb := Lib.hid (fun W => rdec13_any yb W r2)
          rw [hxb] at HCxb
          clear hxb
          have i1 : ¬ (9223372036854775807 < s.size + 5) := by omega
          have i2 : ¬ (9223372036854775807 < s.size + 5 + xa.size) := by omega
          have i3 : ¬ (9223372036854775807 < s.size + 5 + xa.size + 1) := by omega
          have i4 : ¬ (9223372036854775807 < s.size + 5 + xa.size + 1 + xb.size) := by omega
          have i5 : ¬ (9223372036854775807 < s.size + 5 + xa.size + 1 + xb.size + 1) := by omega
          go_upto_region 13 with (fail)
          have yc6 := fun (d : Nat) (os : Array Obj) => cell_regrown c6 d os
          have yd0 := fun (d : Nat) (os : Array Obj) => cell_regrown d0 d os
          have yd1 := fun (d : Nat) (os : Array Obj) => cell_regrown d1 d os
          clear c6 d0 d1
          refine wp_region_quiet_below (by kernel_rfl) (by kernel_rfl) ?_
          repeat (go_big_quiet_step ((go_at_call 68; first | exact Calls.regrown_of ((HCxa.out _).mono fun _ _ h => ⟨h.1, h.2.below (Nat.le_refl _) (fun _ _ h => h)⟩) | exact Calls.regrown_of ((HCxb.out _).mono fun _ _ h => ⟨h.1, h.2.below (Nat.le_refl _) (fun _ _ h => h)⟩))))
          refine wpQuiet_nil ?_
          intro wy hw'
          obtain ⟨pq, hw''⟩ := hw'
          have HOy := Lib.hid (Only.ofBelow (below_regrown wr pq.d pq.os) (fun _ => False))
          rw [← hw''] at HOy
          clear hw'' yc6 yd0 yd1
          go_wp2_with fail
          go_roundw
          case rel =>
            refine ⟨k + 1, by go_num, hlt, ?_, HO4.out.trans HOy.out⟩
            rw [HLN.out]
            show _ = Value.string (arrB (flatL (_ ++ [[kTier, decW ya, decW yb]])))
            rw [HXxa.out, HXxb.out, ← HSS.out]
            exact congrArg Value.string (st_2 _ kTier _ _ _ (by rfl))
          case measure => simp [intOf]; omega
        · obtain rfl : k = d.tiers.length := by omega
          have j1 : ¬ (d.tiers.length : Int) < d.tiers.length := by omega
          rw [List.take_length]
          clear hlt hk ns
          go_wp2_with fail
          go_meet
          exact ⟨rfl, HO4.out⟩
    case rest =>
      obtain ⟨rfl, hO1⟩ := hcut
      have HO1 := Lib.hid hO1
      clear hO1 HPQ
      have HZ3 := Lib.hid (row_still HO1.out HZ2.out)
      have c7 : wc.cell? ⟨w.heap.size, 7, none⟩ = some (Value.bool d.roll) := cell_of_row _ _ 7 _ _ _ HZ3.out
      have ns : (arrB (flatL (headL d ++ d.tiers.map tierL))).size ≤ 500000 := HPX.out _ (rollL d.roll ++ (d.places.map placeL ++ (d.quotas.map quotaL ++ d.barred.map barL))) (by unfold lnsZ restL; simp only [List.append_assoc])
      go_upto_if 86 with (fail)
      go_cut [3] (fun v wx => v = .string (arrB (flatL ((headL d ++ d.tiers.map tierL) ++ rollL d.roll))) ∧ Only (fun _ => False) w2 wx)
      case first =>
        generalize (headL d ++ d.tiers.map tierL) = l0 at *
        cases hro : d.roll
        · rw [hro] at c7
          go_wp2_with fail
          go_meet
          rw [hro]
          exact ⟨by rw [show rollL false = [] from rfl, List.append_nil], HO1.out⟩
        · rw [hro] at c7
          have i1 : ¬ (9223372036854775807 < (arrB (flatL l0)).size + 5) := by omega
          go_wp2_with fail
          go_meet
          rw [hro, st_roll]
          exact ⟨rfl, HO1.out⟩
      case rest =>
        obtain ⟨rfl, hO1⟩ := hcut
        have HO1 := Lib.hid hO1
        clear hO1
        clear HZ3 ns c7
        have HPQ := Lib.hid (show ∃ b, lnsZ d = (((headL d ++ d.tiers.map tierL) ++ rollL d.roll) ++ d.places.map placeL) ++ b from ⟨d.quotas.map quotaL ++ d.barred.map barL, by unfold lnsZ restL; simp only [List.append_assoc]⟩)
        go_upto_block 3 with (fail)
        go_cut [3] (fun v wx => v = .string (arrB (flatL (((headL d ++ d.tiers.map tierL) ++ rollL d.roll) ++ d.places.map placeL))) ∧ Only (fun _ => False) w2 wx)
        case first =>
          generalize ((headL d ++ d.tiers.map tierL) ++ rollL d.roll) = l0 at *
          go_wp2_with fail
          go_loopw [3, 5] (fun v iv wr => ∃ k : Nat, iv = .int .i64 k ∧ k ≤ d.places.length ∧ v = .string (arrB (flatL (l0 ++ (d.places.take k).map placeL))) ∧ Only (fun _ => False) w2 wr) (fun _ iv _ => d.places.length - (intOf iv).toNat)
          case atStart => exact ⟨0, rfl, Nat.zero_le _, by simp, HO1.out⟩
          case round =>
            obtain ⟨k, rfl, hk, rfl, hO4⟩ := hrel
            have HO4 := Lib.hid hO4
            have HZ4 := Lib.hid (row_still hO4 HZ2.out)
            have HD4 := Lib.hid (HD2.out.only hO4 (fun _ _ h => h))
            clear hO4
            have c8 : wr.cell? ⟨w.heap.size, 8, none⟩ = some (Value.slice ap1 d.places.length cp) := cell_of_row _ _ 8 _ _ _ HZ4.out
            have ns : (arrB (flatL (l0 ++ (d.places.take k).map placeL))).size ≤ 500000 := by obtain ⟨b, hb⟩ := HPQ.out; exact HPX.out _ _ (px_take _ _ k _ _ _ hb)
            by_cases hlt : k < d.places.length
            · have HLN := Lib.hid (show l0 ++ (d.places.take (k + 1)).map placeL = (l0 ++ (d.places.take k).map placeL) ++ [placeL d.places[k]] by
                rw [take_snoc hlt, List.map_append, List.append_assoc]; rfl)
              obtain ⟨s, hs⟩ : ∃ s, arrB (flatL (l0 ++ (d.places.take k).map placeL)) = s := ⟨_, rfl⟩
              rw [hs] at ns ⊢
              have HSS := Lib.hid hs
              clear hs
              have j1 : (k : Int) < d.places.length := by omega
              have j2 : 0 ≤ (k : Int) := by omega
              have h0 := flat_at (fun x : ByteArray × Int => [Value.string x.1, Value.int .i64 x.2]) 2 (fun _ => rfl) d.places k 0 hlt (by decide)
              have h1 := flat_at (fun x : ByteArray × Int => [Value.string x.1, Value.int .i64 x.2]) 2 (fun _ => rfl) d.places k 1 hlt (by decide)
              obtain ⟨g, cap, hv, hg, hc1, hc2, d0⟩ := own_cell HD4.out.places h0
              obtain ⟨g1, cap1, hv1, _, _, _, d1⟩ := own_cell HD4.out.places h1
              rw [hv] at hv1
              simp only [Value.slice.injEq, Option.some.injEq, Addr.mk.injEq, and_true, true_and] at hv hv1
              obtain ⟨rfl, rfl⟩ := hv
              obtain ⟨rfl, rfl⟩ := hv1
              have hm := List.getElem_mem hlt
              have r1 := HI.out.places _ hm
              have r0 := (HS.out.places _ hm).1
              clear hm h0 h1
              generalize d.places[k] = y at *
              obtain ⟨yn, ya⟩ := y
              change _ = some (Value.string yn) at d0
              change _ = some (Value.int .i64 ya) at d1
              rw [Nat.add_zero] at d0
              change yn.data.toList.length ≤ 1000 at r0
              rw [ba_len] at r0
              change R64 ya at r1
              obtain ⟨xa, hxa⟩ : ∃ xa, decW ya = xa := ⟨_, rfl⟩
              have nxa : xa.size ≤ 21 := by rw [← hxa]; exact dec64_size r1
              have HXxa := Lib.hid hxa
              have HCxa := Lib.hid (fun W => rdec13_any ya W r1)
              rw [hxa] at HCxa
              clear hxa
              have i1 : ¬ (9223372036854775807 < s.size + 6) := by omega
              have i2 : ¬ (9223372036854775807 < s.size + 6 + yn.size) := by omega
              have i3 : ¬ (9223372036854775807 < s.size + 6 + yn.size + 1) := by omega
              have i4 : ¬ (9223372036854775807 < s.size + 6 + yn.size + 1 + xa.size) := by omega
              have i5 : ¬ (9223372036854775807 < s.size + 6 + yn.size + 1 + xa.size + 1) := by omega
              go_upto_region 19 with (fail)
              have yc8 := fun (d : Nat) (os : Array Obj) => cell_regrown c8 d os
              have yd0 := fun (d : Nat) (os : Array Obj) => cell_regrown d0 d os
              have yd1 := fun (d : Nat) (os : Array Obj) => cell_regrown d1 d os
              clear c8 d0 d1
              refine wp_region_quiet_below (by kernel_rfl) (by kernel_rfl) ?_
              repeat (go_big_quiet_step ((go_at_call 68; first | exact Calls.regrown_of ((HCxa.out _).mono fun _ _ h => ⟨h.1, h.2.below (Nat.le_refl _) (fun _ _ h => h)⟩))))
              refine wpQuiet_nil ?_
              intro wy hw'
              obtain ⟨pq, hw''⟩ := hw'
              have HOy := Lib.hid (Only.ofBelow (below_regrown wr pq.d pq.os) (fun _ => False))
              rw [← hw''] at HOy
              clear hw'' yc8 yd0 yd1
              go_wp2_with fail
              go_roundw
              case rel =>
                refine ⟨k + 1, by go_num, hlt, ?_, HO4.out.trans HOy.out⟩
                rw [HLN.out]
                show _ = Value.string (arrB (flatL (_ ++ [[kPlace, yn, decW ya]])))
                rw [HXxa.out, ← HSS.out]
                exact congrArg Value.string (st_2 _ kPlace _ _ _ (by rfl))
              case measure => simp [intOf]; omega
            · obtain rfl : k = d.places.length := by omega
              have j1 : ¬ (d.places.length : Int) < d.places.length := by omega
              rw [List.take_length]
              clear hlt hk ns
              go_wp2_with fail
              go_meet
              exact ⟨rfl, HO4.out⟩
        case rest =>
          obtain ⟨rfl, hO1⟩ := hcut
          have HO1 := Lib.hid hO1
          clear hO1 HPQ
          have HPQ := Lib.hid (show ∃ b, lnsZ d = ((((headL d ++ d.tiers.map tierL) ++ rollL d.roll) ++ d.places.map placeL) ++ d.quotas.map quotaL) ++ b from ⟨d.barred.map barL, by unfold lnsZ restL; simp only [List.append_assoc]⟩)
          go_upto_block 5 with (fail)
          go_cut [3] (fun v wx => v = .string (arrB (flatL ((((headL d ++ d.tiers.map tierL) ++ rollL d.roll) ++ d.places.map placeL) ++ d.quotas.map quotaL))) ∧ Only (fun _ => False) w2 wx)
          case first =>
            generalize (((headL d ++ d.tiers.map tierL) ++ rollL d.roll) ++ d.places.map placeL) = l0 at *
            go_wp2_with fail
            go_loopw [3, 6] (fun v iv wr => ∃ k : Nat, iv = .int .i64 k ∧ k ≤ d.quotas.length ∧ v = .string (arrB (flatL (l0 ++ (d.quotas.take k).map quotaL))) ∧ Only (fun _ => False) w2 wr) (fun _ iv _ => d.quotas.length - (intOf iv).toNat)
            case atStart => exact ⟨0, rfl, Nat.zero_le _, by simp, HO1.out⟩
            case round =>
              obtain ⟨k, rfl, hk, rfl, hO4⟩ := hrel
              have HO4 := Lib.hid hO4
              have HZ4 := Lib.hid (row_still hO4 HZ2.out)
              have HD4 := Lib.hid (HD2.out.only hO4 (fun _ _ h => h))
              clear hO4
              have c11 : wr.cell? ⟨w.heap.size, 11, none⟩ = some (Value.slice aq1 d.quotas.length cq) := cell_of_row _ _ 11 _ _ _ HZ4.out
              have ns : (arrB (flatL (l0 ++ (d.quotas.take k).map quotaL))).size ≤ 500000 := by obtain ⟨b, hb⟩ := HPQ.out; exact HPX.out _ _ (px_take _ _ k _ _ _ hb)
              by_cases hlt : k < d.quotas.length
              · have HLN := Lib.hid (show l0 ++ (d.quotas.take (k + 1)).map quotaL = (l0 ++ (d.quotas.take k).map quotaL) ++ [quotaL d.quotas[k]] by
                  rw [take_snoc hlt, List.map_append, List.append_assoc]; rfl)
                obtain ⟨s, hs⟩ : ∃ s, arrB (flatL (l0 ++ (d.quotas.take k).map quotaL)) = s := ⟨_, rfl⟩
                rw [hs] at ns ⊢
                have HSS := Lib.hid hs
                clear hs
                have j1 : (k : Int) < d.quotas.length := by omega
                have j2 : 0 ≤ (k : Int) := by omega
                have h0 := flat_at (fun x : ByteArray × Int × Int => [Value.string x.1, Value.int .i64 x.2.1, Value.int .i64 x.2.2]) 3 (fun _ => rfl) d.quotas k 0 hlt (by decide)
                have h1 := flat_at (fun x : ByteArray × Int × Int => [Value.string x.1, Value.int .i64 x.2.1, Value.int .i64 x.2.2]) 3 (fun _ => rfl) d.quotas k 1 hlt (by decide)
                have h2 := flat_at (fun x : ByteArray × Int × Int => [Value.string x.1, Value.int .i64 x.2.1, Value.int .i64 x.2.2]) 3 (fun _ => rfl) d.quotas k 2 hlt (by decide)
                obtain ⟨g, cap, hv, hg, hc1, hc2, d0⟩ := own_cell HD4.out.quotas h0
                obtain ⟨g1, cap1, hv1, _, _, _, d1⟩ := own_cell HD4.out.quotas h1
                obtain ⟨g2, cap2, hv2, _, _, _, d2⟩ := own_cell HD4.out.quotas h2
                rw [hv] at hv1 hv2
                simp only [Value.slice.injEq, Option.some.injEq, Addr.mk.injEq, and_true, true_and] at hv hv1 hv2
                obtain ⟨rfl, rfl⟩ := hv
                obtain ⟨rfl, rfl⟩ := hv1
                obtain ⟨rfl, rfl⟩ := hv2
                have hm := List.getElem_mem hlt
                obtain ⟨r1, r2⟩ := HI.out.quotas _ hm
                have r0 := (HS.out.quotas _ hm).1
                clear hm h0 h1 h2
                generalize d.quotas[k] = y at *
                obtain ⟨yn, ya, yb⟩ := y
                change _ = some (Value.string yn) at d0
                change _ = some (Value.int .i64 ya) at d1
                change _ = some (Value.int .i64 yb) at d2
                rw [Nat.add_zero] at d0
                change yn.data.toList.length ≤ 1000 at r0
                rw [ba_len] at r0
                change R64 ya at r1
                change R64 yb at r2
                obtain ⟨xa, hxa⟩ : ∃ xa, decW ya = xa := ⟨_, rfl⟩
                have nxa : xa.size ≤ 21 := by rw [← hxa]; exact dec64_size r1
                have HXxa := Lib.hid hxa
                have HCxa := Lib.hid (fun W => rdec13_any ya W r1)
                rw [hxa] at HCxa
                clear hxa
                obtain ⟨xb, hxb⟩ : ∃ xb, decW yb = xb := ⟨_, rfl⟩
                have nxb : xb.size ≤ 21 := by rw [← hxb]; exact dec64_size r2
                have HXxb := Lib.hid hxb
                have HCxb := Lib.hid (fun W => rdec13_any yb W r2)
                rw [hxb] at HCxb
                clear hxb
                have i1 : ¬ (9223372036854775807 < s.size + 6) := by omega
                have i2 : ¬ (9223372036854775807 < s.size + 6 + yn.size) := by omega
                have i3 : ¬ (9223372036854775807 < s.size + 6 + yn.size + 1) := by omega
                have i4 : ¬ (9223372036854775807 < s.size + 6 + yn.size + 1 + xa.size) := by omega
                have i5 : ¬ (9223372036854775807 < s.size + 6 + yn.size + 1 + xa.size + 1) := by omega
                have i6 : ¬ (9223372036854775807 < s.size + 6 + yn.size + 1 + xa.size + 1 + xb.size) := by omega
                have i7 : ¬ (9223372036854775807 < s.size + 6 + yn.size + 1 + xa.size + 1 + xb.size + 1) := by omega
                go_upto_region 23 with (fail)
                have yc11 := fun (d : Nat) (os : Array Obj) => cell_regrown c11 d os
                have yd0 := fun (d : Nat) (os : Array Obj) => cell_regrown d0 d os
                have yd1 := fun (d : Nat) (os : Array Obj) => cell_regrown d1 d os
                have yd2 := fun (d : Nat) (os : Array Obj) => cell_regrown d2 d os
                clear c11 d0 d1 d2
                refine wp_region_quiet_below (by kernel_rfl) (by kernel_rfl) ?_
                repeat (go_big_quiet_step ((go_at_call 68; first | exact Calls.regrown_of ((HCxa.out _).mono fun _ _ h => ⟨h.1, h.2.below (Nat.le_refl _) (fun _ _ h => h)⟩) | exact Calls.regrown_of ((HCxb.out _).mono fun _ _ h => ⟨h.1, h.2.below (Nat.le_refl _) (fun _ _ h => h)⟩))))
                refine wpQuiet_nil ?_
                intro wy hw'
                obtain ⟨pq, hw''⟩ := hw'
                have HOy := Lib.hid (Only.ofBelow (below_regrown wr pq.d pq.os) (fun _ => False))
                rw [← hw''] at HOy
                clear hw'' yc11 yd0 yd1 yd2
                go_wp2_with fail
                go_roundw
                case rel =>
                  refine ⟨k + 1, by go_num, hlt, ?_, HO4.out.trans HOy.out⟩
                  rw [HLN.out]
                  show _ = Value.string (arrB (flatL (_ ++ [[kQuota, yn, decW ya, decW yb]])))
                  rw [HXxa.out, HXxb.out, ← HSS.out]
                  exact congrArg Value.string (st_3 _ kQuota _ _ _ _ (by rfl))
                case measure => simp [intOf]; omega
              · obtain rfl : k = d.quotas.length := by omega
                have j1 : ¬ (d.quotas.length : Int) < d.quotas.length := by omega
                rw [List.take_length]
                clear hlt hk ns
                go_wp2_with fail
                go_meet
                exact ⟨rfl, HO4.out⟩
          case rest =>
            obtain ⟨rfl, hO1⟩ := hcut
            have HO1 := Lib.hid hO1
            clear hO1 HPQ
            have HPQ := Lib.hid (show ∃ b, lnsZ d = (((((headL d ++ d.tiers.map tierL) ++ rollL d.roll) ++ d.places.map placeL) ++ d.quotas.map quotaL) ++ d.barred.map barL) ++ b from ⟨[], by unfold lnsZ restL; simp only [List.append_assoc, List.append_nil]⟩)
            go_upto_block 7 with (fail)
            go_cut [3] (fun v wx => v = .string (arrB (flatL (((((headL d ++ d.tiers.map tierL) ++ rollL d.roll) ++ d.places.map placeL) ++ d.quotas.map quotaL) ++ d.barred.map barL))) ∧ Only (fun _ => False) w2 wx)
            case first =>
              generalize ((((headL d ++ d.tiers.map tierL) ++ rollL d.roll) ++ d.places.map placeL) ++ d.quotas.map quotaL) = l0 at *
              go_wp2_with fail
              go_loopw [3, 7] (fun v iv wr => ∃ k : Nat, iv = .int .i64 k ∧ k ≤ d.barred.length ∧ v = .string (arrB (flatL (l0 ++ (d.barred.take k).map barL))) ∧ Only (fun _ => False) w2 wr) (fun _ iv _ => d.barred.length - (intOf iv).toNat)
              case atStart => exact ⟨0, rfl, Nat.zero_le _, by simp, HO1.out⟩
              case round =>
                obtain ⟨k, rfl, hk, rfl, hO4⟩ := hrel
                have HO4 := Lib.hid hO4
                have HZ4 := Lib.hid (row_still hO4 HZ2.out)
                have HD4 := Lib.hid (HD2.out.only hO4 (fun _ _ h => h))
                clear hO4
                have c12 : wr.cell? ⟨w.heap.size, 12, none⟩ = some (Value.slice ab1 d.barred.length cb) := cell_of_row _ _ 12 _ _ _ HZ4.out
                have ns : (arrB (flatL (l0 ++ (d.barred.take k).map barL))).size ≤ 500000 := by obtain ⟨b, hb⟩ := HPQ.out; exact HPX.out _ _ (px_take _ _ k _ _ _ hb)
                by_cases hlt : k < d.barred.length
                · have HLN := Lib.hid (show l0 ++ (d.barred.take (k + 1)).map barL = (l0 ++ (d.barred.take k).map barL) ++ [barL d.barred[k]] by
                    rw [take_snoc hlt, List.map_append, List.append_assoc]; rfl)
                  obtain ⟨s, hs⟩ : ∃ s, arrB (flatL (l0 ++ (d.barred.take k).map barL)) = s := ⟨_, rfl⟩
                  rw [hs] at ns ⊢
                  have HSS := Lib.hid hs
                  clear hs
                  have j1 : (k : Int) < d.barred.length := by omega
                  have j2 : 0 ≤ (k : Int) := by omega
                  have h0 : (irow d.barred)[k]? = some (.int .i64 d.barred[k]) := by unfold irow; simp [hlt]
                  obtain ⟨g, cap, hv, hg, hc1, hc2, d0⟩ := own_cell HD4.out.bars h0
                  simp only [Value.slice.injEq, true_and] at hv
                  obtain ⟨rfl, rfl⟩ := hv
                  have r1 := HI.out.barred _ (List.getElem_mem hlt)
                  clear h0
                  generalize d.barred[k] = ya at *
                  obtain ⟨xa, hxa⟩ : ∃ xa, decW ya = xa := ⟨_, rfl⟩
                  have nxa : xa.size ≤ 21 := by rw [← hxa]; exact dec64_size r1
                  have HXxa := Lib.hid hxa
                  have HCxa := Lib.hid (fun W => rdec13_any ya W r1)
                  rw [hxa] at HCxa
                  clear hxa
                  have i1 : ¬ (9223372036854775807 < s.size + 4) := by omega
                  have i2 : ¬ (9223372036854775807 < s.size + 4 + xa.size) := by omega
                  have i3 : ¬ (9223372036854775807 < s.size + 4 + xa.size + 1) := by omega
                  go_wp2_with fail
                  refine (HCxa.out _).mono ?_
                  rintro e wy ⟨rfl, hOy⟩
                  have HOy := Lib.hid hOy
                  clear hOy
                  go_wp2_with fail
                  go_roundw
                  case rel =>
                    refine ⟨k + 1, by go_num, hlt, ?_, HO4.out.trans HOy.out⟩
                    rw [HLN.out]
                    show _ = Value.string (arrB (flatL (_ ++ [[kBar, decW ya]])))
                    rw [HXxa.out, ← HSS.out]
                    exact congrArg Value.string (st_1 _ kBar _ _ (by rfl))
                  case measure => simp [intOf]; omega
                · obtain rfl : k = d.barred.length := by omega
                  have j1 : ¬ (d.barred.length : Int) < d.barred.length := by omega
                  rw [List.take_length]
                  clear hlt hk ns
                  go_wp2_with fail
                  go_meet
                  exact ⟨rfl, HO4.out⟩
            case rest =>
              obtain ⟨rfl, hO1⟩ := hcut
              have HO1 := Lib.hid hO1
              clear hO1 HPQ
              have hfull : ((((headL d ++ d.tiers.map tierL) ++ rollL d.roll) ++ d.places.map placeL) ++ d.quotas.map quotaL) ++ d.barred.map barL = lnsZ d := by unfold lnsZ restL; simp only [List.append_assoc]
              rw [hfull]
              clear hfull
              go_wp2_with fail
              go_ret
              exact ⟨rfl, HO.out.trans HO1.out⟩
end Go.Proofs.YteikkpiginfbkaaGreatDoor

namespace Go.Proofs.YteikkpiginfbkaaGreatDoor
open Go.RowKit

theorem cells_one (d : Dr) (at1 ap1 aq1 ab1 : Option Addr) (nt ct np cp nq cq nb cb : Nat) : (drCells d (.slice at1 nt ct) (.slice ap1 np cp) (.slice aq1 nq cq) (.slice ab1 nb cb)).all (·.oneCell') = true := by
  simp [drCells, Value.oneCell']
theorem eq_bool (a b : Dr) : ∃ bb : Bool, bb = true ↔ a = b := by
  by_cases h : a = b
  · exact ⟨true, by simp [h]⟩
  · exact ⟨false, by simp [h]⟩
theorem right_DrB {d : Dr} (h : Right d) : DrB d := by
  have h1 := right_many h; have h2 := h.b40
  unfold DrB; omega
theorem write_size {d : Dr} (hs : Short 1000 21 d) (hl : d.tiers.length + d.places.length + d.quotas.length + d.barred.length ≤ 400) : (writeB d).size ≤ 500000 := by
  have h1 := write_len hs (c := 405) (by omega)
  unfold writeB
  rw [show (⟨(writeL d).toArray⟩ : ByteArray).size = (writeL d).length by simp [ByteArray.size]]
  omega
set_option maxRecDepth 100000 in
set_option maxHeartbeats 4000000 in
theorem rprint13_any (d : Dr) (vt vp vq vb : Value) (base : Nat) (w : World) (hd : DrOwn base w d vt vp vq vb) (hs : Short 1000 21 d) (hi : Dr64 d) (hl : d.tiers.length + d.places.length + d.quotas.length + d.barred.length ≤ 400) :
    Calls Tryz.prog 19 #[.agg (drCells d vt vp vq vb)] w fun e w' => e = .returned (.string (printZ d)) ∧ Only (fun _ => False) w w' := by
  obtain ⟨at1, ct, rfl⟩ := slice_of_own hd.tiers
  obtain ⟨ap1, cp, rfl⟩ := slice_of_own hd.places
  obtain ⟨aq1, cq, rfl⟩ := slice_of_own hd.quotas
  obtain ⟨ab1, cb, rfl⟩ := slice_of_own hd.bars
  have HD := Lib.hid hd
  have HZ := Lib.hid (heap_alloc_last w (.cells (drCells d (.slice at1 d.tiers.length ct) (.slice ap1 d.places.length cp) (.slice aq1 d.quotas.length cq) (.slice ab1 d.barred.length cb)) 33))
  have HO := Lib.hid ((Only.refl (fun _ => False) w).alloc (.cells (drCells d (.slice at1 d.tiers.length ct) (.slice ap1 d.places.length cp) (.slice aq1 d.quotas.length cq) (.slice ab1 d.barred.length cb)) 33))
  have HW := Lib.hid (fun W (h : DrOwn base W d (.slice at1 d.tiers.length ct) (.slice ap1 d.places.length cp) (.slice aq1 d.quotas.length cq) (.slice ab1 d.barred.length cb)) => rwrite_any d _ _ _ _ base W h hs hi hl)
  have HSZ := Lib.hid (write_size hs hl)
  have HPY := Lib.hid (show ∀ x : Int × Nat × Dr, x = parseZ (writeB d) → x.1 = 0 → Right x.2.2 ∧ (x.2.2 = d → printZ d = writeB d) from fun x e h => by
    subst e
    exact ⟨(parse_right h).1, fun h2 => by unfold printZ; rw [if_pos (print_yes h h2)]⟩)
  have HPN := Lib.hid (show ∀ x : Int × Nat × Dr, x = parseZ (writeB d) → ¬ (x.1 = 0 ∧ x.2.2 = d) → printZ d = ByteArray.empty from fun x e h => by
    subst e
    unfold printZ
    rw [if_neg (fun hr => h (print_no hr))])
  have HB := Lib.hid (show DrB d by unfold DrB; omega)
  clear hd hs hi hl
  go_enter Tryz.func19, Tryz.ntmps19
  go_upto_region 1 with (fail)
  generalize World.alloc w _ = w1 at *
  have HD1 := Lib.hid (HD.out.only HO.out (fun _ _ h => h))
  have hlt0 : w.heap.size < w1.heap.size := (Array.getElem?_eq_some_iff.1 HZ.out).1
  go_wp2_with (first | (refine wpList_load_row rfl 33 _ rfl w.heap.size rfl 33 (drCells d (.slice at1 d.tiers.length ct) (.slice ap1 d.places.length cp) (.slice aq1 d.quotas.length cq) (.slice ab1 d.barred.length cb)) (0, 0) _ HZ.out Tryz.underlying33 rfl Tryz.infoDr ?_))
  refine (HW.out _ HD1.out).mono ?_
  rintro e w2 ⟨rfl, hO2⟩
  have HO2 := Lib.hid (HO.out.trans hO2)
  have HZ2 := Lib.hid (row_still hO2 HZ.out)
  have HD2 := Lib.hid (HD1.out.only hO2 (fun _ _ h => h))
  clear hO2
  obtain ⟨s, hs⟩ : ∃ s, writeB d = s := ⟨_, rfl⟩
  rw [hs] at HPY HPN HSZ ⊢
  clear hs HW
  go_wp2_with fail
  refine (rparse13_any s w2 (by have := HSZ.out; omega)).mono ?_
  rintro e w3 ⟨ut, up, uq, ub, rfl, hdx, hO3⟩
  have HQY := Lib.hid (HPY.out _ rfl)
  have HQN := Lib.hid (HPN.out _ rfl)
  clear HPY HPN
  generalize parseZ s = q at *
  obtain ⟨err, at0, x⟩ := q
  have hdx : DrOwn w2.heap.size w3 x ut up uq ub := hdx
  obtain ⟨bt1, dt, rfl⟩ := slice_of_own hdx.tiers
  obtain ⟨bp1, dp, rfl⟩ := slice_of_own hdx.places
  obtain ⟨bq1, dq, rfl⟩ := slice_of_own hdx.quotas
  obtain ⟨bb1, db, rfl⟩ := slice_of_own hdx.bars
  have HO3 := Lib.hid (HO2.out.trans hO3)
  have HZ3 := Lib.hid (row_still hO3 HZ2.out)
  have HD3 := Lib.hid (HD2.out.only hO3 (fun _ _ h => h))
  have HX3 := Lib.hid hdx
  have hle3 : w2.heap.size ≤ w3.heap.size := hO3.size
  clear hdx hO3
  go_upto_region 3 with (first | (refine wpList_store_row rfl 33 _ _ rfl w3.heap.size (drCells x (.slice bt1 x.tiers.length dt) (.slice bp1 x.places.length dp) (.slice bq1 x.quotas.length dq) (.slice bb1 x.barred.length db)) rfl rfl 33 _ (heap_alloc_last w3 _) Tryz.infoDr rfl (cells_one _ _ _ _ _ _ _ _ _ _ _ _ _) ?_; rw [World.setRow_alloc_new]))
  have HX4 := Lib.hid (heap_alloc_last w3 (.cells (drCells x (.slice bt1 x.tiers.length dt) (.slice bp1 x.places.length dp) (.slice bq1 x.quotas.length dq) (.slice bb1 x.barred.length db)) 33))
  have HA4 := Lib.hid ((Only.refl (fun _ => False) w3).alloc (.cells (drCells x (.slice bt1 x.tiers.length dt) (.slice bp1 x.places.length dp) (.slice bq1 x.quotas.length dq) (.slice bb1 x.barred.length db)) 33))
  generalize World.alloc w3 _ = w4 at *
  have HO4 := Lib.hid (HO3.out.trans HA4.out)
  have HZ4 := Lib.hid (row_still HA4.out HZ3.out)
  have HD4 := Lib.hid (HD3.out.only HA4.out (fun _ _ h => h))
  have HU4 := Lib.hid (HX3.out.only HA4.out (fun _ _ h => h))
  have hlt4 : w3.heap.size < w4.heap.size := (Array.getElem?_eq_some_iff.1 HX4.out).1
  have hlt5 : w.heap.size < w4.heap.size := (Array.getElem?_eq_some_iff.1 HZ4.out).1
  by_cases he : err = 0
  · subst he
    obtain ⟨bb, hbb⟩ := eq_bool x d
    have HR := Lib.hid (HQY.out rfl)
    have HBB := Lib.hid hbb
    have HEQ := Lib.hid (fun W (h1 : DrOwn w2.heap.size W x (.slice bt1 x.tiers.length dt) (.slice bp1 x.places.length dp) (.slice bq1 x.quotas.length dq) (.slice bb1 x.barred.length db)) (h2 : DrOwn base W d (.slice at1 d.tiers.length ct) (.slice ap1 d.places.length cp) (.slice aq1 d.quotas.length cq) (.slice ab1 d.barred.length cb)) => requal_any x d _ _ _ _ _ _ _ _ bb w2.heap.size base W h1 h2 (right_DrB HR.out.1) HB.out hbb)
    clear hbb
    have e0 : w4.cell? ⟨w3.heap.size, 0, none⟩ = some (Value.string x.name) := cell_of_row _ _ 0 _ _ _ HX4.out
    have e1 : w4.cell? ⟨w3.heap.size, 1, none⟩ = some (Value.int .i64 x.kind) := cell_of_row _ _ 1 _ _ _ HX4.out
    have e2 : w4.cell? ⟨w3.heap.size, 2, none⟩ = some (Value.int .i64 x.round) := cell_of_row _ _ 2 _ _ _ HX4.out
    have e3 : w4.cell? ⟨w3.heap.size, 3, none⟩ = some (Value.int .i64 x.price) := cell_of_row _ _ 3 _ _ _ HX4.out
    have e4 : w4.cell? ⟨w3.heap.size, 4, none⟩ = some (Value.int .i64 x.pool) := cell_of_row _ _ 4 _ _ _ HX4.out
    have e5 : w4.cell? ⟨w3.heap.size, 5, none⟩ = some (Value.int .i64 x.pick) := cell_of_row _ _ 5 _ _ _ HX4.out
    have e6 : w4.cell? ⟨w3.heap.size, 6, none⟩ = some (Value.slice bt1 x.tiers.length dt) := cell_of_row _ _ 6 _ _ _ HX4.out
    have e7 : w4.cell? ⟨w3.heap.size, 7, none⟩ = some (Value.bool x.roll) := cell_of_row _ _ 7 _ _ _ HX4.out
    have e8 : w4.cell? ⟨w3.heap.size, 8, none⟩ = some (Value.slice bp1 x.places.length dp) := cell_of_row _ _ 8 _ _ _ HX4.out
    have e9 : w4.cell? ⟨w3.heap.size, 9, none⟩ = some (Value.int .i64 x.cls) := cell_of_row _ _ 9 _ _ _ HX4.out
    have e10 : w4.cell? ⟨w3.heap.size, 10, none⟩ = some (Value.int .i64 x.size) := cell_of_row _ _ 10 _ _ _ HX4.out
    have e11 : w4.cell? ⟨w3.heap.size, 11, none⟩ = some (Value.slice bq1 x.quotas.length dq) := cell_of_row _ _ 11 _ _ _ HX4.out
    have e12 : w4.cell? ⟨w3.heap.size, 12, none⟩ = some (Value.slice bb1 x.barred.length db) := cell_of_row _ _ 12 _ _ _ HX4.out
    have c0 : w4.cell? ⟨w.heap.size, 0, none⟩ = some (Value.string d.name) := cell_of_row _ _ 0 _ _ _ HZ4.out
    have c1 : w4.cell? ⟨w.heap.size, 1, none⟩ = some (Value.int .i64 d.kind) := cell_of_row _ _ 1 _ _ _ HZ4.out
    have c2 : w4.cell? ⟨w.heap.size, 2, none⟩ = some (Value.int .i64 d.round) := cell_of_row _ _ 2 _ _ _ HZ4.out
    have c3 : w4.cell? ⟨w.heap.size, 3, none⟩ = some (Value.int .i64 d.price) := cell_of_row _ _ 3 _ _ _ HZ4.out
    have c4 : w4.cell? ⟨w.heap.size, 4, none⟩ = some (Value.int .i64 d.pool) := cell_of_row _ _ 4 _ _ _ HZ4.out
    have c5 : w4.cell? ⟨w.heap.size, 5, none⟩ = some (Value.int .i64 d.pick) := cell_of_row _ _ 5 _ _ _ HZ4.out
    have c6 : w4.cell? ⟨w.heap.size, 6, none⟩ = some (Value.slice at1 d.tiers.length ct) := cell_of_row _ _ 6 _ _ _ HZ4.out
    have c7 : w4.cell? ⟨w.heap.size, 7, none⟩ = some (Value.bool d.roll) := cell_of_row _ _ 7 _ _ _ HZ4.out
    have c8 : w4.cell? ⟨w.heap.size, 8, none⟩ = some (Value.slice ap1 d.places.length cp) := cell_of_row _ _ 8 _ _ _ HZ4.out
    have c9 : w4.cell? ⟨w.heap.size, 9, none⟩ = some (Value.int .i64 d.cls) := cell_of_row _ _ 9 _ _ _ HZ4.out
    have c10 : w4.cell? ⟨w.heap.size, 10, none⟩ = some (Value.int .i64 d.size) := cell_of_row _ _ 10 _ _ _ HZ4.out
    have c11 : w4.cell? ⟨w.heap.size, 11, none⟩ = some (Value.slice aq1 d.quotas.length cq) := cell_of_row _ _ 11 _ _ _ HZ4.out
    have c12 : w4.cell? ⟨w.heap.size, 12, none⟩ = some (Value.slice ab1 d.barred.length cb) := cell_of_row _ _ 12 _ _ _ HZ4.out
    go_wp2_with fail
    refine (HEQ.out _ HU4.out HD4.out).mono ?_
    rintro e w5 ⟨rfl, hO5⟩
    have HO5 := Lib.hid (HO4.out.trans hO5)
    clear hO5 HEQ
    cases bb
    · have HE := Lib.hid (HQN.out (fun h => by have := HBB.out.2 h.2; cases this))
      go_wp2_with fail
      go_ret
      exact ⟨by rw [HE.out]; rfl, HO5.out⟩
    · have HE := Lib.hid (HR.out.2 (HBB.out.1 rfl))
      go_wp2_with fail
      go_ret
      exact ⟨by rw [HE.out]; rfl, HO5.out⟩
  · have HE := Lib.hid (HQN.out (fun h => he h.1))
    have q1 : (err != 0) = true := by simpa using he
    clear he
    go_wp2_with fail
    go_ret
    exact ⟨by rw [HE.out]; rfl, HO4.out⟩
end Go.Proofs.YteikkpiginfbkaaGreatDoor

namespace Go.Proofs.YteikkpiginfbkaaGreatDoor
open Go.RowKit

theorem parse_no {s : ByteArray} (h : (parseZ s).1 ≠ 0) : (parseZ s).2.2 = dr0 := by
  unfold parseZ at h ⊢
  by_cases h2 : s.size ≤ 4000
  · rw [if_pos h2] at h ⊢
    by_cases h3 : (runL st0 0 [] s.data.toList).1 = 0
    · rw [if_pos h3] at h; exact absurd rfl h
    · rw [if_neg h3]
  · rw [if_neg h2]
theorem parse_DrB (s : ByteArray) : DrB (parseZ s).2.2 := by
  by_cases h : (parseZ s).1 = 0
  · exact right_DrB (parse_right h).1
  · rw [parse_no h]; exact ⟨by decide, by decide, by decide, by decide⟩
set_option maxRecDepth 100000 in
set_option maxHeartbeats 4000000 in
theorem fails_any (s : ByteArray) (at0 : Nat) (err : Int) (w : World) (hs : s.size ≤ 281474976710656) (hp : (parseZ s).1 = err) (ha : (parseZ s).2.1 = at0) (he : err ≠ 0) (hG : GlobU w) :
    Calls Tryz.prog 27 #[.string s, .int .i64 at0, .int .i64 err] w fun e w' => e = .returned (.bool true) ∧ Only (fun _ => False) w w' := by
  have HX := Lib.hid (show parseZ s = (err, at0, dr0) from by
    have h1 := parse_no (s := s) (by rw [hp]; exact he)
    rw [← hp, ← ha, ← h1])
  have HC := Lib.hid (parse_any s w hs hG.len)
  rw [HX.out] at HC
  clear hp ha he hs hG HX
  go_enter Tryz.func27, Tryz.ntmps27
  go_wp2_with fail
  refine HC.out.mono ?_
  rintro e w3 ⟨vt, vp, vq, vb, rfl, hdx, hO3⟩
  have HO3 := Lib.hid hO3
  clear HC
  have hdx : DrOwn w.heap.size w3 dr0 vt vp vq vb := hdx
  obtain ⟨x, hx⟩ : ∃ x, dr0 = x := ⟨_, rfl⟩
  rw [hx] at hdx
  have HDX := Lib.hid hx
  have hdr : (drCells (err, at0, dr0).2.2 vt vp vq vb) = drCells x vt vp vq vb := by rw [← hx]
  rw [hdr]
  clear hdr hx
  obtain ⟨at1, ct, rfl⟩ := slice_of_own hdx.tiers
  obtain ⟨ap1, cp, rfl⟩ := slice_of_own hdx.places
  obtain ⟨aq1, cq, rfl⟩ := slice_of_own hdx.quotas
  obtain ⟨ab1, cb, rfl⟩ := slice_of_own hdx.bars
  have HD3 := Lib.hid hdx
  clear hdx hO3
  go_upto_region 2 with (first | (refine wpList_store_row rfl 33 _ _ rfl w3.heap.size (drCells x (.slice at1 x.tiers.length ct) (.slice ap1 x.places.length cp) (.slice aq1 x.quotas.length cq) (.slice ab1 x.barred.length cb)) rfl rfl 33 _ (heap_alloc_last w3 _) Tryz.infoDr rfl (cells_one _ _ _ _ _ _ _ _ _ _ _ _ _) ?_; rw [World.setRow_alloc_new]))
  have HZ4 := Lib.hid (heap_alloc_last w3 (.cells (drCells x (.slice at1 x.tiers.length ct) (.slice ap1 x.places.length cp) (.slice aq1 x.quotas.length cq) (.slice ab1 x.barred.length cb)) 33))
  have HA4 := Lib.hid ((Only.refl (fun _ => False) w3).alloc (.cells (drCells x (.slice at1 x.tiers.length ct) (.slice ap1 x.places.length cp) (.slice aq1 x.quotas.length cq) (.slice ab1 x.barred.length cb)) 33))
  generalize World.alloc w3 _ = w4 at *
  obtain ⟨n3, hn3⟩ : ∃ n, w3.heap.size = n := ⟨_, rfl⟩
  rw [hn3] at HZ4 ⊢
  clear hn3
  have HO4 := Lib.hid (HO3.out.trans HA4.out)
  have HD4 := Lib.hid (HD3.out.only HA4.out (fun _ _ h => h))
  have hlt4 : n3 < w4.heap.size := (Array.getElem?_eq_some_iff.1 HZ4.out).1
  clear HO3 HD3 HA4
  have c0 : w4.cell? ⟨n3, 0, none⟩ = some (Value.string x.name) := cell_of_row _ _ 0 _ _ _ HZ4.out
  have c1 : w4.cell? ⟨n3, 1, none⟩ = some (Value.int .i64 x.kind) := cell_of_row _ _ 1 _ _ _ HZ4.out
  have c2 : w4.cell? ⟨n3, 2, none⟩ = some (Value.int .i64 x.round) := cell_of_row _ _ 2 _ _ _ HZ4.out
  have c3 : w4.cell? ⟨n3, 3, none⟩ = some (Value.int .i64 x.price) := cell_of_row _ _ 3 _ _ _ HZ4.out
  have c4 : w4.cell? ⟨n3, 4, none⟩ = some (Value.int .i64 x.pool) := cell_of_row _ _ 4 _ _ _ HZ4.out
  have c5 : w4.cell? ⟨n3, 5, none⟩ = some (Value.int .i64 x.pick) := cell_of_row _ _ 5 _ _ _ HZ4.out
  have c6 : w4.cell? ⟨n3, 6, none⟩ = some (Value.slice at1 x.tiers.length ct) := cell_of_row _ _ 6 _ _ _ HZ4.out
  have c7 : w4.cell? ⟨n3, 7, none⟩ = some (Value.bool x.roll) := cell_of_row _ _ 7 _ _ _ HZ4.out
  have c8 : w4.cell? ⟨n3, 8, none⟩ = some (Value.slice ap1 x.places.length cp) := cell_of_row _ _ 8 _ _ _ HZ4.out
  have c9 : w4.cell? ⟨n3, 9, none⟩ = some (Value.int .i64 x.cls) := cell_of_row _ _ 9 _ _ _ HZ4.out
  have c10 : w4.cell? ⟨n3, 10, none⟩ = some (Value.int .i64 x.size) := cell_of_row _ _ 10 _ _ _ HZ4.out
  have c11 : w4.cell? ⟨n3, 11, none⟩ = some (Value.slice aq1 x.quotas.length cq) := cell_of_row _ _ 11 _ _ _ HZ4.out
  have c12 : w4.cell? ⟨n3, 12, none⟩ = some (Value.slice ab1 x.barred.length cb) := cell_of_row _ _ 12 _ _ _ HZ4.out
  have q1 : ((at0 : Int) == at0) = true := by simp
  have q2 : (err == err) = true := by simp
  go_wp2_with fail
  refine (equal_any x dr0 _ _ _ _ (.slice none 0 0) (.slice none 0 0) (.slice none 0 0) (.slice none 0 0) true w.heap.size 0 w4 HD4.out (dr0_own 0 w4) (by rw [← HDX.out]; exact ⟨by decide, by decide, by decide, by decide⟩) ⟨by decide, by decide, by decide, by decide⟩ (by simp [HDX.out])).mono ?_
  rintro e w7 ⟨rfl, hO7⟩
  have HO7 := Lib.hid (HO4.out.trans hO7)
  clear hO7
  go_wp2_with fail
  go_ret
  exact ⟨rfl, HO7.out⟩
end Go.Proofs.YteikkpiginfbkaaGreatDoor
