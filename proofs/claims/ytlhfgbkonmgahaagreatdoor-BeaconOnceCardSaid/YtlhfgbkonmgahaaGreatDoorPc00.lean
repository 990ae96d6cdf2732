/-
  The reference's Partials: some partials come back.
  The walk of the law BeaconOnce.
-/
import Derived.Test.YtlhfgbkonmgahaaGreatDoorPa21
import Derived.Deep.CutBlock
namespace Go.Proofs.YtlhfgbkonmgahaaGreatDoor
open Go.RowKit

/-- What Partials leaves: a list of its own, of 30 at most. -/
def PpPost (w : World) (e : Ending) (w' : World) : Prop :=
  Only (fun _ => False) w w' ∧ ∃ v L, e = .returned v ∧ w'.ownsRow w.heap.size 30 4 v L.length (prow L) ∧ L.length ≤ 30
/-- At the head of a round: the partials, and the present one in its block. -/
structure PpAt (w wr : World) (v : Value) (L : List Pt4) : Prop where
  own : wr.ownsRow w.heap.size 30 4 v L.length (prow L)
  only : Only (fun _ => False) w wr
theorem PpAt.frame {w wr w2 : World} {v : Value} {L : List Pt4} (h : PpAt w wr v L) (hO : Only (fun _ => False) wr w2) : PpAt w w2 v L := ⟨hO.owns h.own (fun _ _ h => h), h.only.trans hO⟩
theorem PpAt.put {w wr : World} {v : Value} {L : List Pt4} (h : PpAt w wr v L) {nx : Nat} (hn : w.heap.size ≤ nx) (h1 : v.ownBlock ≠ some nx) (o : Nat) (x : Value) : PpAt w (wr.setCell ⟨nx, o, none⟩ x) v L :=
  ⟨ownsRow_setCell_other h.own h1 x, h.only.setCell (.inr hn) x⟩
theorem PpAt.putRow {w wr : World} {v : Value} {L : List Pt4} (h : PpAt w wr v L) {nx : Nat} (hn : w.heap.size ≤ nx) (h1 : v.ownBlock ≠ some nx) (cs : Array Value) : PpAt w (wr.setRow nx cs) v L :=
  have hO : Only (fun i => i = nx) wr (wr.setRow nx cs) := (Only.refl (fun i => i = nx) wr).setRow' rfl cs
  ⟨hO.owns h.own (fun g hg e => h1 (by rw [← e]; exact hg)), h.only.trans' hO (fun i hi e => by omega)⟩
theorem PpAt.add {w wr w1 : World} {v : Value} {L : List Pt4} (h : PpAt w wr v L) {p : Pt4} {k g cap : Nat} (hk : L.length = k)
    (hown : w1.ownsRow w.heap.size 30 4 (.slice (some ⟨g, 0, none⟩) (k + 1) cap) (k + 1) (prow L ++ prow [p])) (hg : wr.grownBy w1 v.ownBlock) : PpAt w w1 (.slice (some ⟨g, 0, none⟩) (k + 1) cap) (L ++ [p]) := by
  subst hk
  have hO : Only (fun i => v.ownBlock = some i) wr w1 := (Only.refl _ _).grown hg (fun i e _ => e)
  exact ⟨by rw [List.length_append, List.length_singleton, prow_append]; exact hown, h.only.trans' hO (fun i hi e => by have := own_low' h.own e; omega)⟩
theorem evS_x (C : List Int) (r : Int) {x : Int} (h1 : 1 ≤ x) (h2 : x ≤ 60) : (evS C r x).1 = x := by rw [evS_parts C r h1 h2]
theorem evalV_b (x y r : Int) : (0 ≤ (evalV x y r).1 ∧ (evalV x y r).1 ≤ 60) ∧ 0 ≤ (evalV x y r).2.2.2 ∧ (evalV x y r).2.2.2 < 1152921504606845789 := by
  unfold evalV
  split
  · next h =>
    obtain ⟨⟨h1, h2⟩, _⟩ := inRng_parts h
    exact ⟨⟨by dsimp only; omega, h2⟩, emod_self_lt _ _ (by decide)⟩
  · exact ⟨⟨by decide, by decide⟩, by decide, by decide⟩
set_option maxRecDepth 100000 in
set_option maxHeartbeats 8000000 in
theorem partials_any (nk : Nat) (ac ak ap : Option Addr) (cc ck cp : Nat) (C K : List Int) (R : List (List Int)) (n nd : Nat) (lv : Value) (pk : List (Int × Int)) (r : Int) (w : World) (hK : KyAt w nk ac ak ap cc ck cp C K R) (ok : PlOk C K R n nd)
    (hL : PksAt w lv pk) (hlp : pk.length ≤ 9223372036854775807) (h0 : -9223372036854775808 ≤ r) (h1 : r ≤ 9223372036854775807) :
    Calls Tryz.prog 16 #[.slice ac C.length cc, .agg #[.slice ak K.length ck, .slice ap R.length cp], .int .i64 r, lv] w (PpPost w) := by
  obtain ⟨p0, hp0, hpz0, hpz1, hpz2⟩ := info_parts Tryz.infoP4
  obtain ⟨al, cl, rfl⟩ := hL.slice
  have hA := (Only.refl (fun _ => False) w).alloc (.cells #[.slice ak K.length ck, .slice ap R.length cp] 41)
  have hz := heap_alloc_last w (.cells #[.slice ak K.length ck, .slice ap R.length cp] 41)
  have HA := Lib.hid hA
  have HK := Lib.hid (hK.only hA)
  have HL := Lib.hid (hL.only hA)
  have HOK := Lib.hid ok
  have hn1 := ok.n1
  have hn2 := ok.n2
  have e0 : _ = some (Value.slice ak K.length ck) := cell_of_row _ _ 0 _ _ _ hz
  have e1 : _ = some (Value.slice ap R.length cp) := cell_of_row _ _ 1 _ _ _ hz
  have lz := own_lt0 hz
  clear hA hz hK hL ok
  go_enter Tryz.func16, Tryz.ntmps16
  go_wp2_with fail
  refine (HK.out.shares HOK.out).mono ?_
  rintro e w1 ⟨hO1, shv, rfl, hown⟩
  have HSH := Lib.hid (HOK.out.share hown)
  obtain ⟨asv, csv, rfl⟩ := slice_of_own hown
  have HO1 := Lib.hid (HA.out.trans hO1)
  have HL1 := Lib.hid (HL.out.only hO1)
  have HEV := Lib.hid (fun x y w => reval9_any x y r w h0 h1)
  have hw1 := HO1.out.size
  clear hO1 hown e0 e1 lz HA HK HL
  go_wp2_with fail
  go_loopw [10, 11] (fun v vi wr => ∃ (k : Nat) (L : List Pt4), L.length = k ∧ k ≤ 30 ∧ k ≤ pk.length ∧ vi = .int .i64 k ∧ PpAt w1 wr v L) (fun _ vi _ => 30 - (intOf vi).toNat)
  case atStart => exact ⟨0, [], rfl, by omega, Nat.zero_le _, rfl, World.ownsRow_nil _ _ _ _, Only.refl _ _⟩
  case round =>
    obtain ⟨k, L, hlk, hk30, hkp, rfl, hP⟩ := hrel
    have HLK := Lib.hid hlk
    have HP := Lib.hid hP
    have i2 : 0 ≤ (k : Int) := by omega
    clear hlk
    by_cases g1 : k < pk.length
    · by_cases g2 : k < 30
      · have i1 : (k : Int) < pk.length := by omega
        have i3 : (k : Int) < 30 := by omega
        obtain ⟨pb, po, rfl, hpb, hpc1, hpc2, ⟨b0, b1⟩, ⟨x0, x1⟩, v0, v1⟩ := (HL1.out.only hP.only).at g1
        generalize (shAt pk k).1 = bx at *
        generalize (shAt pk k).2 = bw at *
        have hjm := Int.emod_nonneg bx (show (n : Int) ≠ 0 by omega)
        have hjl := Int.emod_lt_of_pos bx (show (0 : Int) < n by omega)
        obtain ⟨j, hj⟩ := Int.eq_ofNat_of_zero_le hjm
        rw [hj] at hjl
        have hjn : j < n := by omega
        obtain ⟨sb, so, sc, hv, hsb, hsc1, hsc2, c0, c1⟩ := HSH.out j hjn
        simp only [Value.slice.injEq, true_and] at hv
        obtain ⟨rfl, rfl⟩ := hv
        have d0 := hP.only.cell c0 id
        have d1 := hP.only.cell c1 id
        have hsz := hP.only.size
        have hsb2 : sb < wr.heap.size := by omega
        have i5 : (j : Int) < n := by omega
        have i6 : 0 ≤ (j : Int) := by omega
        generalize hy : valZ C ((j : Int) + 1) = y at *
        have HB1 := Lib.hid (fun (W : World) (hW : Only (fun _ => False) wr W) => hW.cell b1 id)
        clear hP c0 c1 hsb hjm hy b1
        go_upto_region 7 with fail
        have hA2 := (Only.refl (fun _ => False) wr).alloc (.cells #[.int .i64 ((j : Int) + 1), .int .i64 y] 23)
        have HA2 := Lib.hid hA2
        have HS2 := Lib.hid (heap_alloc_last wr (.cells #[.int .i64 ((j : Int) + 1), .int .i64 y] 23))
        have f0 : _ = some (Value.int .i64 ((j : Int) + 1)) := cell_of_row _ _ 0 _ _ _ HS2.out
        have f1 : _ = some (Value.int .i64 y) := cell_of_row _ _ 1 _ _ _ HS2.out
        have ls := own_lt0 HS2.out
        generalize wr.alloc (.cells #[.int .i64 ((j : Int) + 1), .int .i64 y] 23) = w2 at *
        generalize hns : wr.heap.size = ns at *
        have HNS := Lib.hid hns
        have HE1 := Lib.hid (HEV.out ((j : Int) + 1) y w2)
        have HPB := Lib.hid (evalV_b ((j : Int) + 1) y r)
        generalize evalV ((j : Int) + 1) y r = p at *
        obtain ⟨px, pv, pc, pz⟩ := p
        dsimp only at HE1 HPB
        obtain ⟨⟨x0', x1'⟩, z0', z1'⟩ := HPB.out
        clear hA2 d0 d1 hns hsb2
        go_wp2_with fail
        refine HE1.out.mono ?_
        rintro e w3 ⟨rfl, hO3⟩
        have hA4 := hO3.alloc (.cells #[.int .i64 px, .int .i64 pv, .int .i64 pc, .int .i64 pz] 30)
        have HX4 := Lib.hid (heap_alloc_last w3 (.cells #[.int .i64 px, .int .i64 pv, .int .i64 pc, .int .i64 pz] 30))
        have HO4 := Lib.hid (HA2.out.trans hA4)
        have HS4 := Lib.hid (row_still hA4 HS2.out)
        have HP4 := Lib.hid (HP.out.frame HO4.out)
        have hp3 := HP.out.frame (HA2.out.trans hO3)
        have HNX := Lib.hid (show (w1.heap.size ≤ w3.heap.size ∧ u10.ownBlock ≠ some w3.heap.size) from ⟨hp3.only.size, fun e => by have := (own_lt hp3.own e).1; omega⟩)
        have b1 := HB1.out _ HO4.out
        go_upto_region 8 with fail
        generalize w3.alloc (.cells #[.int .i64 px, .int .i64 pv, .int .i64 pc, .int .i64 pz] 30) = w4 at *
        generalize w3.heap.size = nx at *
        have hlp := HO4.out.size
        clear hO3 hA4 hp3 f0 f1 ls HE1 HPB HP HS2
        go_upto_block 2 with fail
        generalize bw % 12 = tm at *
        go_cut [] (fun wx => ∃ q : Pt4, wx.heap[nx]? = some (.cells #[.int .i64 q.1, .int .i64 q.2.1, .int .i64 q.2.2.1, .int .i64 q.2.2.2] 30 (0, 0)) ∧ PpAt w1 wx u10 L)
        case first =>
          have f0 : _ = some (Value.int .i64 ((j : Int) + 1)) := cell_of_row _ _ 0 _ _ _ HS4.out
          have f1 : _ = some (Value.int .i64 y) := cell_of_row _ _ 1 _ _ _ HS4.out
          have ls := own_lt0 HS4.out
          have x0 : _ = some (Value.int .i64 px) := cell_of_row _ _ 0 _ _ _ HX4.out
          have x1 : _ = some (Value.int .i64 pv) := cell_of_row _ _ 1 _ _ _ HX4.out
          have x2 : _ = some (Value.int .i64 pc) := cell_of_row _ _ 2 _ _ _ HX4.out
          have x3 : _ = some (Value.int .i64 pz) := cell_of_row _ _ 3 _ _ _ HX4.out
          have g0 := frozen_of_row _ _ 0 _ _ HX4.out
          have g1' := frozen_of_row _ _ 1 _ _ HX4.out
          have g3 := frozen_of_row _ _ 3 _ _ HX4.out
          have lx := own_lt0 HX4.out
          clear b1
          by_cases t1 : tm = 1
          · subst t1
            have HMU := Lib.hid (fun w => rmul_any pv 4 2305843009213691579 w (by decide) (by decide))
            generalize pv * 4 % 2305843009213691579 = v4 at *
            go_wp2_with fail
            refine (HMU.out _).mono ?_
            rintro e w' ⟨rfl, rfl⟩
            go_wp2_with fail
            go_meet
            exact ⟨(px, v4, pc, pz), heap_setCell_same w4 nx 1 _ _ _ HX4.out, HP4.out.put HNX.out.1 HNX.out.2 1 _⟩
          by_cases t2 : tm = 2
          · subst t2
            go_wp2_with fail
            go_meet
            exact ⟨(px + 1, pv, pc, pz), heap_setCell_same w4 nx 0 _ _ _ HX4.out, HP4.out.put HNX.out.1 HNX.out.2 0 _⟩
          by_cases t3 : tm = 3
          · subst t3
            have HE2 := Lib.hid (fun w => reval9_any ((j : Int) + 1) y (wrap64 (r + 1)) w (by unfold wrap64; omega) (by unfold wrap64; omega))
            generalize evalV ((j : Int) + 1) y (wrap64 (r + 1)) = q at *
            obtain ⟨qx, qv, qc, qz⟩ := q
            dsimp only at HE2
            go_wp2_with fail
            refine (HE2.out _).mono ?_
            rintro e w5 ⟨rfl, hO5⟩
            have HX5 := Lib.hid (row_still hO5 HX4.out)
            have HP5 := Lib.hid (HP4.out.frame hO5)
            clear hO5 f0 f1 ls x0 x1 x2 x3 g0 g1' g3 lx
            go_wp2_with (first | (refine wpList_store_row rfl 30 _ _ rfl nx #[.int .i64 qx, .int .i64 qv, .int .i64 qc, .int .i64 qz] rfl rfl 30 _ HX5.out Tryz.infoPt rfl (pt_one _ _ _ _) ?_))
            go_meet
            exact ⟨(qx, qv, qc, qz), setRow_heap _ _ _ _ _ _ HX5.out, HP5.out.putRow HNX.out.1 HNX.out.2 _⟩
          by_cases t4 : tm = 4
          · subst t4
            have HMD := Lib.hid (fun w => rmod9_any (pz + 1) 1152921504606845789 w (by decide) (by decide))
            generalize (pz + 1) % 1152921504606845789 = z4 at *
            go_wp2_with fail
            refine (HMD.out _).mono ?_
            rintro e w' ⟨rfl, rfl⟩
            go_wp2_with fail
            go_meet
            exact ⟨(px, pv, pc, z4), heap_setCell_same w4 nx 3 _ _ _ HX4.out, HP4.out.put HNX.out.1 HNX.out.2 3 _⟩
          by_cases t5 : tm = 5
          · subst t5
            have HMD := Lib.hid (fun n w => rmod9_any n 1152921504606845789 w (by decide) (by decide))
            have HE2 := Lib.hid (fun y w => reval9_any ((j : Int) + 1) y r w h0 h1)
            have y0 := fun (d : Nat) (os : Array Obj) => cell_regrown f0 d os
            have y1 := fun (d : Nat) (os : Array Obj) => cell_regrown f1 d os
            clear f0 f1 ls x0 x1 x2 x3 g0 g1' g3 lx
            go_upto_region 18 with fail
            refine wp_region_below_split2 9 (by kernel_rfl) (by kernel_rfl) (by kernel_rfl) ?_
            simp only [List.take_succ_cons, List.take_zero, List.drop_succ_cons, List.drop_zero]
            repeat (go_big_quiet_step ((first | (go_at_call 42; exact Calls.regrown_of ((HMD.out _ _).mono fun _ _ h => ⟨h.1, by rw [← h.2]; exact Below.refl _ _⟩)) | (go_at_call 14; exact Calls.regrown_of ((HE2.out _ _).mono fun _ _ h => ⟨h.1, h.2.below (Nat.le_refl _) (fun _ _ h => h)⟩)))))
            refine wpQuiet_nil ?_
            intro w5 hw'
            obtain ⟨pq, hw''⟩ := hw'
            have HO5 := Lib.hid (Only.ofBelow (below_regrown w4 pq.d pq.os) (fun _ => False))
            rw [← hw''] at HO5
            have HX5 := Lib.hid (row_still HO5.out HX4.out)
            have HP5 := Lib.hid (HP4.out.frame HO5.out)
            clear hw'' y0 y1 HO5
            generalize evalV ((j : Int) + 1) (wrap64 (y + 1) % 1152921504606845789) r = q at *
            obtain ⟨qx, qv, qc, qz⟩ := q
            dsimp only
            go_wp2_with (first | (refine wpList_store_row rfl 30 _ _ rfl nx #[.int .i64 qx, .int .i64 qv, .int .i64 qc, .int .i64 qz] rfl rfl 30 _ HX5.out Tryz.infoPt rfl (pt_one _ _ _ _) ?_))
            go_meet
            exact ⟨(qx, qv, qc, qz), setRow_heap _ _ _ _ _ _ HX5.out, HP5.out.putRow HNX.out.1 HNX.out.2 _⟩
          · have q1 : (tm == 1) = false := beq_eq_false_iff_ne.2 t1
            have q2 : (tm == 2) = false := beq_eq_false_iff_ne.2 t2
            have q3 : (tm == 3) = false := beq_eq_false_iff_ne.2 t3
            have q4 : (tm == 4) = false := beq_eq_false_iff_ne.2 t4
            have q5 : (tm == 5) = false := beq_eq_false_iff_ne.2 t5
            clear t1 t2 t3 t4 t5
            go_wp2_with fail
            go_meet
            exact ⟨(px, pv, pc, pz), HX4.out, HP4.out⟩
        case rest =>
          obtain ⟨⟨qx, qv, qc, qz⟩, hx, hP⟩ := hcut
          have HX8 := Lib.hid (show wc.heap[nx]? = some (.cells #[.int .i64 qx, .int .i64 qv, .int .i64 qc, .int .i64 qz] 30 (0, 0)) from hx)
          have HP8 := Lib.hid hP
          have hsz8 := hP.only.size
          clear hx hP b1 HX4 HP4 HS4
          generalize wc = w8 at *
          have x0 : _ = some (Value.int .i64 qx) := cell_of_row _ _ 0 _ _ _ HX8.out
          have x1 : _ = some (Value.int .i64 qv) := cell_of_row _ _ 1 _ _ _ HX8.out
          have x2 : _ = some (Value.int .i64 qc) := cell_of_row _ _ 2 _ _ _ HX8.out
          have x3 : _ = some (Value.int .i64 qz) := cell_of_row _ _ 3 _ _ _ HX8.out
          have lx := own_lt0 HX8.out
          have HOW8 := Lib.hid (show w8.ownsRow w1.heap.size 30 4 u10 k (prow L) by have := HP8.out.own; rw [HLK.out] at this; exact this)
          obtain ⟨a12, c12, rfl⟩ := slice_of_own HOW8.out
          go_wp2_with (at_builtin; refine wpList_append_lies _ rfl _ _ 44 rfl w1.heap.size 30 p0 _ 4 32 Tryz.underlying44 hp0 hpz0 hpz1 hpz2 rfl (by decide) _ k (prow L) rfl (HOW8.out.alloc _) ⟨w8.heap.size, 0, none⟩ 1 1 (prow [(qx, qv, qc, qz)]) rfl rfl (World.news_of_block (cs := #[.int .i64 qx, .int .i64 qv, .int .i64 qc, .int .i64 qz]) (t := 30) (fr := (0, 0)) (heap_alloc_new w8 _)) ?e0 (by decide) ?e1 ?e2 ?e3 _ rfl ?_)
          case e0 => exact p4_one _
          case e1 => unfold maxLen; omega
          case e2 => omega
          case e3 => first | omega | (simp; omega)
          intro g1 cp1 w9 ho1 hg1 ha1 _
          have HP9 := Lib.hid ((HP8.out.frame ((Only.refl (fun _ => False) w8).alloc (.cells #[.int .i64 qx, .int .i64 qv, .int .i64 qc, .int .i64 qz] 30))).add HLK.out ho1 hg1)
          clear ho1 hg1 ha1 x0 x1 x2 x3
          go_wp2
          go_roundw
          case rel => exact ⟨k + 1, _, by rw [List.length_append, HLK.out]; rfl, by omega, by omega, by go_num, HP9.out⟩
          case measure => simp [intOf]; omega
      · have i1 : (k : Int) < pk.length := by omega
        have i3 : ¬ (k : Int) < 30 := by omega
        have d3 : decide ((k : Int) < 30) = false := decide_eq_false i3
        have HPO := Lib.hid (show PpPost w (.returned u10) wr from ⟨HO1.out.trans HP.out.only, u10, L, rfl, own_base HP.out.own hw1, by rw [HLK.out]; omega⟩)
        obtain ⟨av, cvv, rfl⟩ := slice_of_own hP.own
        clear hP
        go_wp2
        go_ret
        exact HPO.out
    · have i1 : ¬ (k : Int) < pk.length := by omega
      have d3 : decide ((k : Int) < pk.length) = false := decide_eq_false i1
      have HPO := Lib.hid (show PpPost w (.returned u10) wr from ⟨HO1.out.trans HP.out.only, u10, L, rfl, own_base HP.out.own hw1, by rw [HLK.out]; omega⟩)
      obtain ⟨av, cvv, rfl⟩ := slice_of_own hP.own
      clear hP
      go_wp2
      go_ret
      exact HPO.out
end Go.Proofs.YtlhfgbkonmgahaaGreatDoor

namespace Go.Proofs.YtlhfgbkonmgahaaGreatDoor
open Go.RowKit

/-- The shares of all points in memory. -/
def ShrAt (W : World) (sv : Value) (C : List Int) (n : Nat) : Prop := ∀ k, k < n → ∃ b off c, sv = .slice (some ⟨b, off, none⟩) n c ∧ b < W.heap.size ∧ n ≤ c ∧ c ≤ 9223372036854775807 ∧ W.cell? ⟨b, off + k * 2, none⟩ = some (.int .i64 ((k : Int) + 1)) ∧ W.cell? ⟨b, off + k * 2 + 1, none⟩ = some (.int .i64 (valZ C ((k : Int) + 1)))
theorem ShrAt.only {A B : World} {sv : Value} {C : List Int} {n : Nat} (h : ShrAt A sv C n) (hO : Only (fun _ => False) A B) : ShrAt B sv C n := fun k hk => by
  obtain ⟨b, off, c, h1, h2, h3, h4, h5, h6⟩ := h k hk
  exact ⟨b, off, c, h1, Nat.lt_of_lt_of_le h2 hO.size, h3, h4, hO.cell h5 id, hO.cell h6 id⟩
theorem prow_one (L : List Pt4) : ∀ u ∈ prow L, u.oneCell' = true := by
  intro u hu
  unfold prow at hu
  rw [List.mem_flatMap] at hu
  obtain ⟨p, _, hp⟩ := hu
  simp only [List.mem_cons, List.not_mem_nil, or_false] at hp
  rcases hp with rfl | rfl | rfl | rfl <;> rfl
theorem p4_news {W : World} {base n g cap : Nat} {L : List Pt4} (h : W.ownsRow base 30 4 (.slice (some ⟨g, 0, none⟩) n cap) n (prow L)) (hl : L.length = n) : ∀ j u, (prow L)[j]? = some u → W.cell? ((⟨g, 0, none⟩ : Addr).add j) = some u := by
  intro j u hu
  have hadd : (⟨g, 0, none⟩ : Addr).add j = ⟨g, j, none⟩ := by unfold Addr.add; split <;> simp_all
  rw [hadd]
  rcases h.2 with ⟨_, h0⟩ | ⟨g', cap', cur, hv, hb, hg, hcap, hcap2, hsz, htk⟩
  · have hL : L = [] := List.eq_nil_of_length_eq_zero (by omega)
    rw [hL] at hu
    simp [prow] at hu
  · simp only [Value.slice.injEq, Option.some.injEq, Addr.mk.injEq, and_true, true_and] at hv
    obtain ⟨rfl, rfl⟩ := hv
    rw [cell_of_row W g j cur _ _ hg]
    have hj := (List.getElem?_eq_some_iff.1 hu).1
    rw [← htk] at hu
    rw [List.getElem?_take_of_lt (by rw [prow_length] at hj; omega)] at hu
    simpa using hu
set_option maxRecDepth 100000 in
set_option maxHeartbeats 8000000 in
theorem bo_walk (sv cv : Value) (ws cs : List Int) (lv : Value) (pk : List (Int × Int)) (q0 q1 : Int) (w : World) (hB : BytsAt w sv ws) (hC : PtsAt w.heap.size w cv cs) (hW : IntsW cs) (hlw : ws.length ≤ 9223372036854775807) (hlc : cs.length ≤ 9223372036854775807) (hL : PksAt w lv pk) (hlp : pk.length ≤ 9223372036854775807) (hq0 : (-9223372036854775808 ≤ q0 ∧ q0 ≤ 9223372036854775807)) (hq1 : (-9223372036854775808 ≤ q1 ∧ q1 ≤ 9223372036854775807)) (hG : Glob w) :
    Calls Tryz.prog 5 #[.agg #[sv, cv], lv, .agg #[.int .i64 q0, .int .i64 q1]] w fun e w' => e = .returned (.bool true) ∧ Below w.heap.size w w' := by
  have hA := ((Only.refl (fun _ => False) w).alloc (.cells #[sv, cv] 36)).alloc (.cells #[.int .i64 q0, .int .i64 q1] 24)
  have hz0 := row_still ((Only.refl (fun _ => False) (w.alloc (.cells #[sv, cv] 36))).alloc (.cells #[.int .i64 q0, .int .i64 q1] 24)) (heap_alloc_last w (.cells #[sv, cv] 36))
  have hz1 := heap_alloc_last (w.alloc (.cells #[sv, cv] 36)) (.cells #[.int .i64 q0, .int .i64 q1] 24)
  simp only [World.size_alloc] at hz1
  have HA := Lib.hid hA
  have HZ0 := Lib.hid hz0
  have HZ1 := Lib.hid hz1
  have HBC := Lib.hid (fun W (hO : Only (fun _ => False) w W) => (⟨hB.only hO, hC.only hO⟩ : BytsAt W sv ws ∧ PtsAt W.heap.size W cv cs))
  have HGW := Lib.hid (fun W (hO : Only (fun _ => False) w W) => hG.only hO)
  have HW := Lib.hid hW
  clear hA hB hC hG hW hz0 hz1
  go_enter Tryz.func5, Tryz.ntmps5
  go_wp2_with fail
  refine (sanity9_any _ (HGW.out _ HA.out)).mono ?_
  rintro e w1 ⟨rfl, hO1⟩
  have HO1 := Lib.hid (HA.out.trans hO1)
  have e0 : _ = some sv := cell_of_row _ _ 0 _ _ _ (row_still hO1 HZ0.out)
  have e1 : _ = some cv := cell_of_row _ _ 1 _ _ _ (row_still hO1 HZ0.out)
  have HZ0 := Lib.hid (row_still hO1 HZ0.out)
  have HZ1 := Lib.hid (row_still hO1 HZ1.out)
  clear hO1 HA
  go_wp2_with fail
  refine (make_any sv cv ws cs w1 (HBC.out _ HO1.out).1 (HBC.out _ HO1.out).2 HW.out hlw hlc).mono ?_
  rintro e w2 ⟨hO2, cv', kv, pv, rfl, hPL⟩
  obtain ⟨ac, ak, ap, cc, ck, cp, rfl, rfl, rfl⟩ := hPL.keys
  have HKY := Lib.hid (ky_start hPL)
  have HOK := Lib.hid (pl_ok ws cs)
  have HO2 := Lib.hid (HO1.out.trans hO2)
  have HZ0 := Lib.hid (row_still (hO2.alloc (.cells #[.slice ak (plK ws cs).length ck, .slice ap (plR ws).length cp] 41)) HZ0.out)
  have HZ1 := Lib.hid (row_still (hO2.alloc (.cells #[.slice ak (plK ws cs).length ck, .slice ap (plR ws).length cp] 41)) HZ1.out)
  have HO3 := Lib.hid (HO2.out.alloc (.cells #[.slice ak (plK ws cs).length ck, .slice ap (plR ws).length cp] 41))
  have HLAW := Lib.hid (fun f M hM => once_law ws cs q0 f M hM)
  clear hPL hO2 HO1 HO2 e0 e1 HBC
  go_wp2_with fail
  generalize w2.alloc (.cells #[.slice ak (plK ws cs).length ck, .slice ap (plR ws).length cp] 41) = w3 at *
  generalize w2.heap.size = nk at *
  generalize plC ws cs = C at *
  generalize plK ws cs = K at *
  generalize plR ws = R at *
  generalize plN ws = n at *
  generalize plD ws = nd at *
  obtain ⟨h0a, h0b⟩ := hq0
  obtain ⟨h1a, h1b⟩ := hq1
  refine (HKY.out.shares HOK.out).mono ?_
  rintro e w4 ⟨hO4, shv, rfl, hown⟩
  have hn1 := HOK.out.n1
  have hn2 := HOK.out.n2
  have hd1 := HOK.out.d1
  have hd2 := HOK.out.d2
  have HCL := Lib.hid HOK.out.cl
  have HKY4 := Lib.hid (HKY.out.only hO4)
  have HO4 := Lib.hid (HO3.out.trans hO4)
  have HZ4 := Lib.hid (row_still hO4 HZ1.out)
  have HSH := Lib.hid (show ShrAt w4 shv C n from HOK.out.share hown)
  have HPK := Lib.hid (fun W (hO : Only (fun _ => False) w W) => hL.only hO)
  obtain ⟨al, cl, hlv⟩ := hL.slice
  obtain ⟨asv, csv, rfl⟩ := slice_of_own hown
  obtain ⟨p0, hp0, hpz0, hpz1, hpz2⟩ := info_parts Tryz.infoP4
  have hmm := Int.emod_nonneg q1 (show (n : Int) ≠ 0 by omega)
  have hml := Int.emod_lt_of_pos q1 (show (0 : Int) < n by omega)
  obtain ⟨f, hf⟩ := Int.eq_ofNat_of_zero_le hmm
  have hfm : q1.tmod n % n = (f : Int) := by
    rw [Int.tmod_def, Int.sub_mul_emod_self_left]
    exact hf
  have hfn : (q1.tmod n + n) % n = (f : Int) := by
    have e := Int.add_mul_emod_self_left (q1.tmod n) n 1
    rw [Int.mul_one] at e
    rw [e]
    exact hfm
  have ht1 := Int.lt_tmod_of_pos q1 (show (0 : Int) < n by omega)
  have ht2 := Int.tmod_lt_of_pos q1 (show (0 : Int) < n by omega)
  have hfl : f < n := by omega
  have f1 : _ = some (Value.int .i64 q1) := cell_of_row _ _ 1 _ _ _ HZ4.out
  have lf := own_lt0 HZ4.out
  have HEV := Lib.hid (fun x w hG => (show Calls Tryz.prog 13 #[.agg #[.int .i64 x, .int .i64 (valZ C x)], .int .i64 q0] w fun e w' => e = .returned (.agg #[.int .i64 (evS C q0 x).1, .int .i64 (evS C q0 x).2.1, .int .i64 (evS C q0 x).2.2.1, .int .i64 (evS C q0 x).2.2.2]) ∧ Only (fun _ => False) w w' from peval_any x (valZ C x) q0 w h0a h0b hG))
  clear hO4 hown HKY HZ0 HZ1 HO3 hL hf hmm hml
  subst hlv
  rw [HCL.out]
  go_upto_block 0 with fail
  first | simp only [hfm] | simp only [hfn] | (simp only [Int.add_emod_right, hfm])
  clear hfm hfn ht1 ht2 f1
  go_cut [11] (fun v11 wx => wx.ownsRow w4.heap.size 30 4 v11 nd (prow ((turnTo n f nd).map (evS C q0))) ∧ Only (fun _ => False) w4 wx)
  case first =>
    go_wp2_with fail
    go_loopw [11, 13] (fun v vi wr => ∃ k : Nat, k ≤ nd ∧ vi = .int .i64 k ∧ wr.ownsRow w4.heap.size 30 4 v k (prow ((turnTo n f k).map (evS C q0))) ∧ Only (fun _ => False) w4 wr) (fun _ vi _ => nd - (intOf vi).toNat)
    case atStart => exact ⟨0, Nat.zero_le _, rfl, World.ownsRow_nil _ _ _ _, Only.refl _ _⟩
    case round =>
      obtain ⟨k, hk, rfl, hown, hO⟩ := hrel
      have HO := Lib.hid hO
      by_cases hlt : k < nd
      · have i1 : (k : Int) < nd := by omega
        have i2 : 0 ≤ (k : Int) := by omega
        have hjn : (f + k) % n < n := Nat.mod_lt _ (by omega)
        have hjj : ((f : Int) + (k : Int)) % (n : Int) = (((f + k) % n : Nat) : Int) := by simp
        have hjt : ((f : Int) + (k : Int)).tmod (n : Int) = (((f + k) % n : Nat) : Int) := by rw [Int.tmod_eq_emod_of_nonneg (by omega)]; exact hjj
        have hnz : ((n : Int) == 0) = false := beq_eq_false_iff_ne.2 (by omega)
        have hn3 : (0 : Int) < n := by omega
        have hn5 : n ≠ 0 := by omega
        have hn6 : (n : Int) ≠ 0 := by omega
        have HTU := Lib.hid (show (turnTo n f (k + 1)).map (evS C q0) = (turnTo n f k).map (evS C q0) ++ [evS C q0 ((((f + k) % n : Nat) : Int) + 1)] by rw [turnTo, List.map_append, List.map_cons, List.map_nil])
        obtain ⟨sb, so, sc, hv, hsb, hsc1, hsc2, c0, c1⟩ := HSH.out _ hjn
        simp only [Value.slice.injEq, true_and] at hv
        obtain ⟨rfl, rfl⟩ := hv
        have z0 : _ = some (Value.int .i64 q0) := cell_of_row _ _ 0 _ _ _ HZ4.out
        have HKS := Lib.hid (show ∀ W, Only (fun _ => False) w4 W → W.cell? ⟨sb, so + (f + k) % n * 2, none⟩ = some (.int .i64 ((((f + k) % n : Nat) : Int) + 1)) ∧ W.cell? ⟨sb, so + (f + k) % n * 2 + 1, none⟩ = some (.int .i64 (valZ C ((((f + k) % n : Nat) : Int) + 1))) ∧ W.cell? ⟨w.heap.size + 1, 0, none⟩ = some (.int .i64 q0) from fun W h => ⟨h.cell c0 id, h.cell c1 id, h.cell z0 id⟩)
        have hsz := hO.size
        have hsb2 : sb < wr.heap.size := by omega
        have hwb2 : w.heap.size + 1 < wr.heap.size := by omega
        have HEJ := Lib.hid (show Calls Tryz.prog 13 #[.agg #[.int .i64 ((((f + k) % n : Nat) : Int) + 1), .int .i64 (valZ C ((((f + k) % n : Nat) : Int) + 1))], .int .i64 q0] wr.drew (fun e w' => e = .returned (.agg #[.int .i64 (evS C q0 ((((f + k) % n : Nat) : Int) + 1)).1, .int .i64 (evS C q0 ((((f + k) % n : Nat) : Int) + 1)).2.1, .int .i64 (evS C q0 ((((f + k) % n : Nat) : Int) + 1)).2.2.1, .int .i64 (evS C q0 ((((f + k) % n : Nat) : Int) + 1)).2.2.2]) ∧ Only (fun _ => False) wr w') from
          (HEV.out ((((f + k) % n : Nat) : Int) + 1) wr.drew (HGW.out _ (HO4.out.trans hO.drew))).mono fun _ _ h => ⟨h.1, ((Only.refl _ wr).drew).trans h.2⟩)
        generalize (f + k) % n = j at *
        generalize valZ C ((j : Int) + 1) = y at *
        generalize evS C q0 ((j : Int) + 1) = p at *
        obtain ⟨px, pv, pc, pz⟩ := p
        dsimp only at HEJ
        generalize (turnTo n f k).map (evS C q0) = L at *
        have HOW := Lib.hid hown
        have i5 : (j : Int) < n := by omega
        have i6 : 0 ≤ (j : Int) := by omega
        have i7 : IntKind.i64.wrap ((f : Int) + k) = (f : Int) + k := IntWalk.i64_in _ (by omega)
        have i8 : 0 ≤ (f : Int) + k := by omega
        obtain ⟨av, cvv, rfl⟩ := slice_of_own hown
        clear hO hown c0 c1 z0 hsb hjn
        obtain ⟨d0, d1, d2⟩ := HKS.out wr HO.out
        go_wp2_with fail
        go_region_held3 (fun w' => w'.cell? ⟨sb, so + j * 2, none⟩ = some (.int .i64 ((j : Int) + 1)) ∧ w'.cell? ⟨sb, so + j * 2 + 1, none⟩ = some (.int .i64 y) ∧ w'.cell? ⟨w.heap.size + 1, 0, none⟩ = some (.int .i64 q0))
          (first
            | with_reducible exact HKS.out _ (HO.out.drew)
            | with_reducible exact HKS.out _ (HO.out.trans hOT)
            | with_reducible exact HKS.out _ ((HO.out.trans hOT).alloc _)
            | with_reducible exact HKS.out _ HO6.out)
          (first
            | (go_at_call 13; refine HEJ.out.mono ?_; rintro e wT ⟨rfl, hOT⟩)
            | (refine step_append_lies _ (by rfl) _ _ 44 (by rfl) w4.heap.size 30 p0 _ 4 32 Tryz.underlying44 hp0 hpz0 hpz1 hpz2 rfl (by decide) (.slice av k cvv) k (prow L) (by rfl) ((hOT.alloc _).owns HOW.out (fun _ _ h => h)) ⟨wT.heap.size, 0, none⟩ 1 1 (prow [(px, pv, pc, pz)]) (by rfl) (by rfl) (World.news_of_block (cs := #[.int .i64 px, .int .i64 pv, .int .i64 pc, .int .i64 pz]) (t := 30) (fr := (0, 0)) (heap_alloc_new wT _)) (p4_one _) (by decide) (by unfold maxLen; omega) (by omega) (by have := hOT.size; rw [World.size_alloc]; omega) _ (by rfl) ?_
               intro g6 cp6 w6 ho6 hg6 ha6 hgl6
               have HO6 := Lib.hid ((HO.out.trans (hOT.alloc _)).grow ((hOT.alloc _).owns HOW.out (fun _ _ h => h)) (Nat.le_refl _) hg6)
               have HOW6 := Lib.hid ho6
               clear ho6 hg6 ha6))
        clear HKS HEJ i7 i8 hjj hjt hnz
        go_wp2
        go_roundw
        case rel => exact ⟨k + 1, by omega, by go_num, by rw [HTU.out, prow_append]; exact HOW6.out, HO6.out⟩
        case measure => simp [intOf]; omega
      · obtain rfl : k = nd := by omega
        have i1 : ¬ (k : Int) < k := by omega
        have HOW := Lib.hid hown
        clear hO hown
        go_wp2_with fail
        go_meet
        exact ⟨HOW.out, HO.out⟩
  case rest =>
    obtain ⟨hown, hO⟩ := hcut
    have HOW := Lib.hid hown
    have HO5 := Lib.hid (HO4.out.trans hO)
    have HKY5 := Lib.hid (HKY4.out.only hO)
    have HZ5 := Lib.hid (row_still hO HZ4.out)
    obtain ⟨av, cvv, rfl⟩ := slice_of_own hown
    generalize wc = w5 at *
    clear hown hO HKY4 HZ4 HSH HO4
    have hc0 : 0 < C.length := by have := HCL.out; omega
    obtain ⟨bc, oc, rfl, hbc, _, hcc1, hcc2, hcell⟩ := HKY5.out.cf.cellAt hc0
    have g0 : w5.cell? ⟨bc, oc, none⟩ = some (.int .i64 (ptAt C 0)) := hcell
    have z0 : _ = some (Value.int .i64 q0) := cell_of_row _ _ 0 _ _ _ HZ5.out
    have y0 := fun (d : Nat) (os : Array Obj) => cell_regrown g0 d os
    have y1 := fun (d : Nat) (os : Array Obj) => cell_regrown z0 d os
    have j1 : 0 < nd := by omega
    obtain ⟨c00, c01⟩ := HOK.out.cb 0
    have HBS := Lib.hid (fun w hG => pbase_any q0 w h0a h0b hG)
    have HPW := Lib.hid (fun w => pow_any (baseZ q0) (ptAt C 0) 2305843009213691579 w (by decide) (by decide) c00 (by omega))
    have HW0 := Lib.hid (show powM (baseZ q0) (ptAt C 0) 2305843009213691579 = wantZ C q0 from rfl)
    rw [HW0.out] at HPW
    have HG5 := Lib.hid (HGW.out _ HO5.out)
    clear hcell g0 z0 hc0
    go_wp2_with fail
    refine wp_region_quiet_below (by kernel_rfl) (by kernel_rfl) ?_
    repeat (go_big_quiet_step ((first | (go_at_call 11; exact Calls.regrown_of ((HBS.out _ (Glob.grown HG5.out _ _)).mono fun _ _ h => ⟨h.1, h.2.below (Nat.le_refl _) (fun _ _ h => h)⟩)) | (go_at_call 20; exact Calls.regrown_of ((HPW.out _).mono fun _ _ h => ⟨h.1, by rw [h.2]; exact (Below.refl _ _).alloc (Nat.le_refl _) _⟩)))))
    refine wpQuiet_nil ?_
    intro w6 hw'
    obtain ⟨pq, hw''⟩ := hw'
    have HO56 := Lib.hid (Only.ofBelow (below_regrown w5 pq.d pq.os) (fun _ => False))
    rw [← hw''] at HO56
    have HO6 := Lib.hid (HO5.out.trans HO56.out)
    have HKY6 := Lib.hid (HKY5.out.only HO56.out)
    have HZ6 := Lib.hid (row_still HO56.out HZ5.out)
    have HOW6 := Lib.hid (HO56.out.owns HOW.out (fun _ _ h => h))
    have k0 : _ = some (Value.slice ak K.length ck) := cell_of_row _ _ 0 _ _ _ HKY6.out.row
    have k1 : _ = some (Value.slice ap R.length cp) := cell_of_row _ _ 1 _ _ _ HKY6.out.row
    have lk := own_lt0 HKY6.out.row
    have z0 : _ = some (Value.int .i64 q0) := cell_of_row _ _ 0 _ _ _ HZ6.out
    have lz := own_lt0 HZ6.out
    have HPA := Lib.hid (partials_any nk (some ⟨bc, oc, none⟩) ak ap cc ck cp C K R n nd (.slice al pk.length cl) pk q0 w6 HKY6.out HOK.out (HPK.out _ HO6.out) hlp h0a h0b)
    rw [HCL.out] at HPA
    clear hw'' y0 y1 HO56 HKY5 HZ5 HG5 HO5 HPW HOW
    go_wp2_with fail
    refine HPA.out.mono ?_
    rintro e w7 ⟨hO7, mv, M, rfl, hown7, hM30⟩
    have HO7 := Lib.hid (HO6.out.trans hO7)
    have HKY7 := Lib.hid (HKY6.out.only hO7)
    have HZ7 := Lib.hid (row_still hO7 HZ6.out)
    have HOW7 := Lib.hid (hO7.owns HOW6.out (fun _ _ h => h))
    have HM7 := Lib.hid hown7
    have hw7 := hO7.size
    have hw46 := HOW6.out
    obtain ⟨amv, cmv, rfl⟩ := slice_of_own hown7
    have HP7 := Lib.hid (p4s_of_own hown7)
    have HO67 := Lib.hid hO7
    clear hO7 hown7 k0 k1 z0 lk lz HPA HOW6 hw46
    go_wp2_with fail
    go_loopw [16] (fun vi wr => ∃ k : Nat, k ≤ M.length ∧ vi = .int .i64 k ∧ (∀ i, i < k → acB (n : Nat) K q0 (p4At M i) = true → (p4At M i).2.1 = powM (baseZ q0) (valZ C (p4At M i).1) 2305843009213691579) ∧ Only (fun _ => False) w7 wr) (fun vi _ => M.length - (intOf vi).toNat)
    case atStart => exact ⟨0, Nat.zero_le _, rfl, fun i hi => by omega, Only.refl _ _⟩
    case round =>
      obtain ⟨k, hk, rfl, hall, hO⟩ := hrel
      have HALL := Lib.hid hall
      have HO := Lib.hid hO
      clear hall
      by_cases hlt : k < M.length
      · have i1 : (k : Int) < M.length := by omega
        have i2 : 0 ≤ (k : Int) := by omega
        obtain ⟨mb, mo, rfl, hmb, hmc1, hmc2, m0, m1, m2, m3⟩ := (HP7.out.only hO).at hlt
        have HKYr := Lib.hid (HKY7.out.only hO)
        have hzr := row_still hO HZ7.out
        have z0 : _ = some (Value.int .i64 q0) := cell_of_row _ _ 0 _ _ _ hzr
        have k0 : _ = some (Value.slice ak K.length ck) := cell_of_row _ _ 0 _ _ _ HKYr.out.row
        have k1 : _ = some (Value.slice ap R.length cp) := cell_of_row _ _ 1 _ _ _ HKYr.out.row
        have HGr := Lib.hid (HGW.out _ (HO7.out.trans hO))
        have HNEW := Lib.hid (fun (h : acB (n : Nat) K q0 (p4At M k) = true → (p4At M k).2.1 = powM (baseZ q0) (valZ C (p4At M k).1) 2305843009213691579) => show ∀ i, i < k + 1 → acB (n : Nat) K q0 (p4At M i) = true → (p4At M i).2.1 = powM (baseZ q0) (valZ C (p4At M i).1) 2305843009213691579 from fun i hi => by
          by_cases e : i = k
          · rw [e]; exact h
          · exact HALL.out i (by omega))
        generalize p4At M k = p at *
        obtain ⟨px, pv, pc, pz⟩ := p
        dsimp only at m0 m1 m2 m3 HNEW
        have HVR := Lib.hid (fun W (hW : Only (fun _ => False) wr W) => (HKYr.out.only hW).rverify HOK.out q0 px pv pc pz h0a h0b)
        have HVL := Lib.hid (fun W (hW : Only (fun _ => False) wr W) => rvalue_any (.slice (some ⟨bc, oc, none⟩) C.length cc) C px W (HKYr.out.only hW).cf (by have := HCL.out; omega))
        obtain ⟨v0, v1⟩ := valZ_bd C px
        have HPX := Lib.hid (fun w => pow_any (baseZ q0) (valZ C px) 2305843009213691579 w (by decide) (by decide) v0 (by have hq : gQ = 1152921504606845789 := rfl; omega))
        rw [HCL.out] at HVL
        generalize hacb : acB (n : Nat) K q0 (px, pv, pc, pz) = ab at *
        generalize valZ C px = vx at *
        generalize baseZ q0 = b at *
        generalize powM b vx 2305843009213691579 = pw at *
        have y0 := fun (d : Nat) (os : Array Obj) => cell_regrown z0 d os
        have y1 := fun (d : Nat) (os : Array Obj) => cell_regrown k0 d os
        have y2 := fun (d : Nat) (os : Array Obj) => cell_regrown k1 d os
        have n0 := fun (d : Nat) (os : Array Obj) => cell_regrown m0 d os
        have n1 := fun (d : Nat) (os : Array Obj) => cell_regrown m1 d os
        have n2 := fun (d : Nat) (os : Array Obj) => cell_regrown m2 d os
        have n3 := fun (d : Nat) (os : Array Obj) => cell_regrown m3 d os
        clear hO hzr z0 k0 k1 m0 m1 m2 m3 v0 v1 hacb
        go_wp2_with fail
        cases ab
        · have HN := Lib.hid (HNEW.out (fun h => by cases h))
          refine wp_region_quiet_below (by kernel_rfl) (by kernel_rfl) ?_
          repeat (go_big_quiet_step ((go_at_call 18; exact Calls.regrown_of ((HVR.out _ (Only.ofBelow (below_regrown _ _ _) _)).mono fun _ _ h => ⟨h.1, h.2.below (Nat.le_refl _) (fun _ _ h => h)⟩))))
          refine wpQuiet_nil ?_
          intro w8 hw'
          obtain ⟨pq, hw''⟩ := hw'
          have HO8 := Lib.hid (HO.out.trans (Only.ofBelow (below_regrown wr pq.d pq.os) (fun _ => False)))
          rw [← hw''] at HO8
          clear hw'' y0 y1 y2 n0 n1 n2 n3
          go_wp2
          go_roundw
          case rel => exact ⟨k + 1, by omega, by go_num, HN.out, HO8.out⟩
          case measure => simp [intOf]; omega
        · by_cases hpw : pv = pw
          · have q1 : (pv != pw) = false := by simp [hpw]
            have HN := Lib.hid (HNEW.out (fun _ => hpw))
            clear hpw
            refine wp_region_quiet_below (by kernel_rfl) (by kernel_rfl) ?_
            repeat (go_big_quiet_step ((first | (go_at_call 18; exact Calls.regrown_of ((HVR.out _ (Only.ofBelow (below_regrown _ _ _) _)).mono fun _ _ h => ⟨h.1, h.2.below (Nat.le_refl _) (fun _ _ h => h)⟩)) | (go_at_call 11; exact Calls.regrown_of ((HBS.out _ (Glob.grown HGr.out _ _)).mono fun _ _ h => ⟨h.1, h.2.below (Nat.le_refl _) (fun _ _ h => h)⟩)) | (go_at_call 21; exact Calls.regrown_of ((HVL.out _ (Only.ofBelow (below_regrown _ _ _) _)).mono fun _ _ h => ⟨h.1, by obtain ⟨q, hq⟩ := h.2; rw [hq]; exact ((Only.refl (fun _ => False) _).drewN q).below (Nat.le_refl _) (fun _ _ h => h)⟩)) | (go_at_call 20; exact Calls.regrown_of ((HPX.out _).mono fun _ _ h => ⟨h.1, by rw [h.2]; exact (Below.refl _ _).alloc (Nat.le_refl _) _⟩)))))
            refine wpQuiet_nil ?_
            intro w8 hw'
            obtain ⟨pq, hw''⟩ := hw'
            have HO8 := Lib.hid (HO.out.trans (Only.ofBelow (below_regrown wr pq.d pq.os) (fun _ => False)))
            rw [← hw''] at HO8
            clear hw'' y0 y1 y2 n0 n1 n2 n3
            go_wp2
            go_roundw
            case rel => exact ⟨k + 1, by omega, by go_num, HN.out, HO8.out⟩
            case measure => simp [intOf]; omega
          · have q1 : (pv != pw) = true := by simp [hpw]
            clear hpw
            refine wp_region_quiet_below (by kernel_rfl) (by kernel_rfl) ?_
            repeat (go_big_quiet_step ((first | (go_at_call 18; exact Calls.regrown_of ((HVR.out _ (Only.ofBelow (below_regrown _ _ _) _)).mono fun _ _ h => ⟨h.1, h.2.below (Nat.le_refl _) (fun _ _ h => h)⟩)) | (go_at_call 11; exact Calls.regrown_of ((HBS.out _ (Glob.grown HGr.out _ _)).mono fun _ _ h => ⟨h.1, h.2.below (Nat.le_refl _) (fun _ _ h => h)⟩)) | (go_at_call 21; exact Calls.regrown_of ((HVL.out _ (Only.ofBelow (below_regrown _ _ _) _)).mono fun _ _ h => ⟨h.1, by obtain ⟨q, hq⟩ := h.2; rw [hq]; exact ((Only.refl (fun _ => False) _).drewN q).below (Nat.le_refl _) (fun _ _ h => h)⟩)) | (go_at_call 20; exact Calls.regrown_of ((HPX.out _).mono fun _ _ h => ⟨h.1, by rw [h.2]; exact (Below.refl _ _).alloc (Nat.le_refl _) _⟩)))))
            refine wpQuiet_nil ?_
            intro w8 hw'
            obtain ⟨pq, hw''⟩ := hw'
            have HO8 := Lib.hid (HO7.out.trans (HO.out.trans (Only.ofBelow (below_regrown wr pq.d pq.os) (fun _ => False))))
            rw [← hw''] at HO8
            clear hw'' y0 y1 y2 n0 n1 n2 n3
            go_wp2
            go_ret
            exact ⟨rfl, HO8.out.below (Nat.le_refl _) (fun _ _ h => h)⟩
      · obtain rfl : k = M.length := by omega
        have i1 : ¬ (M.length : Int) < M.length := by omega
        have HMM := Lib.hid (show ∀ p ∈ M, acB (n : Nat) K q0 p = true → p.2.1 = powM (baseZ q0) (valZ C p.1) 2305843009213691579 from fun p hp => by
          obtain ⟨i, hi, rfl⟩ := List.mem_iff_getElem.1 hp
          have := HALL.out i hi
          simpa [p4At, List.getD, hi] using this)
        obtain ⟨⟨bad, hb1⟩, hb2⟩ := HLAW.out f M HMM.out
        have HB1 := Lib.hid hb1
        have HB2 := Lib.hid hb2
        have HKYr := Lib.hid (HKY7.out.only hO)
        have HZr := Lib.hid (row_still hO HZ7.out)
        have HOWr := Lib.hid (hO.owns HOW7.out (fun _ _ h => h))
        have HMr := Lib.hid (hO.owns HM7.out (fun _ _ h => h))
        have HOr := Lib.hid (HO7.out.trans hO)
        have HO6r := Lib.hid (HO67.out.trans hO)
        have hwr := hO.size
        have hAL : ((turnTo n f nd).map (evS C q0)).length = nd := by rw [List.length_map, turnTo_len]
        have HAL := Lib.hid hAL
        clear hAL hb1 hb2 hO HALL HMM HLAW HKY7 HZ7 HOW7 HM7 HO7 hk hlt HP7
        generalize (turnTo n f nd).map (evS C q0) = A at *
        generalize wantZ C q0 = wz at *
        have HCA := Lib.hid (fun W (hW : Only (fun _ => False) wr W) => (HKYr.out.only hW).combine HOK.out q0 (.slice av nd cvv) A (by have := p4s_of_own (l := A) (by rw [HAL.out]; exact HOWr.out); exact this.only hW) (by have := HAL.out; omega) h0a h0b (HGW.out _ (HOr.out.trans hW)))
        rw [HB2.out] at HCA
        have k0 : _ = some (Value.slice ak K.length ck) := cell_of_row _ _ 0 _ _ _ HKYr.out.row
        have k1 : _ = some (Value.slice ap R.length cp) := cell_of_row _ _ 1 _ _ _ HKYr.out.row
        have lk := own_lt0 HKYr.out.row
        have z0 : _ = some (Value.int .i64 q0) := cell_of_row _ _ 0 _ _ _ HZr.out
        have lz := own_lt0 HZr.out
        go_wp2_with fail
        refine (HCA.out _ (Only.refl _ _)).mono ?_
        rintro e w8 ⟨u, rfl, hown8, hO8⟩
        obtain ⟨au, cu, rfl⟩ := slice_of_own hown8
        have HKY8 := Lib.hid (HKYr.out.only hO8)
        have HOW8 := Lib.hid (hO8.owns HOWr.out (fun _ _ h => h))
        have HM8 := Lib.hid (hO8.owns HMr.out (fun _ _ h => h))
        have HO8 := Lib.hid (HOr.out.trans hO8)
        have HZ8 := Lib.hid (row_still hO8 HZr.out)
        have hw8 := hO8.size
        obtain ⟨ga, cga, hga⟩ : ∃ g c, Value.slice av nd cvv = .slice (some ⟨g, 0, none⟩) nd c := by
          rcases HOW8.out.2 with ⟨_, h0⟩ | ⟨g, cap, cur, hv, _⟩
          · omega
          · exact ⟨g, cap, hv⟩
        simp only [Value.slice.injEq, true_and] at hga
        obtain ⟨rfl, rfl⟩ := hga
        have HO68 := Lib.hid (HO6r.out.trans hO8)
        have hw68 := HO68.out.size
        have HNEW := Lib.hid (p4_news (L := A) (((Only.refl (fun _ => False) w8).drew).owns HOW8.out (fun _ _ h => h)) HAL.out)
        have e0 : _ = some (Value.slice ak K.length ck) := cell_of_row _ _ 0 _ _ _ HKY6.out.row
        have e1 : _ = some (Value.slice ap R.length cp) := cell_of_row _ _ 1 _ _ _ HKY6.out.row
        have e2 : _ = some (Value.int .i64 q0) := cell_of_row _ _ 0 _ _ _ HZ6.out
        have lk8 := own_lt0 HKY8.out.row
        have lz8 := own_lt0 HZ8.out
        have HKS := Lib.hid (show ∀ W, Only (fun _ => False) w6 W → W.cell? ⟨nk, 0, none⟩ = some (.slice ak K.length ck) ∧ W.cell? ⟨nk, 1, none⟩ = some (.slice ap R.length cp) ∧ W.cell? ⟨w.heap.size + 1, 0, none⟩ = some (.int .i64 q0) from fun W h => ⟨h.cell e0 id, h.cell e1 id, h.cell e2 id⟩)
        have HCB := Lib.hid (fun (W : World) (bv : Value) (hW : Only (fun _ => False) w6 W) (hb : W.ownsRow w6.heap.size 30 4 bv (M.length + nd) (prow M ++ prow A)) => show Calls Tryz.prog 22 #[.agg #[.slice ak K.length ck, .slice ap R.length cp], .int .i64 q0, bv] W (fun e wT => (∃ v, e = .returned (.tuple #[.int .i64 wz, v, .int .i64 0])) ∧ Only (fun _ => False) W wT) from by
          have hl : (M ++ A).length = M.length + nd := by rw [List.length_append, HAL.out]
          have := (HKY6.out.only hW).combine HOK.out q0 bv (M ++ A) (p4s_of_own (l := M ++ A) (by rw [hl, prow_append]; exact hb)) (by omega) h0a h0b (HGW.out _ (HO6.out.trans hW))
          rw [HB1.out] at this
          exact this.mono fun e wT ⟨v, he, _, hO⟩ => ⟨⟨v, he⟩, hO⟩)
        clear e0 e1 e2 hown8 hO8 k0 k1 z0 lk lz HCA HKYr HOWr HMr HOr HZr
        obtain ⟨e0, e1, e2⟩ := HKS.out w8 HO68.out
        go_upto_region 18 with fail
        go_cut [20, 22] (fun v20 v22 wx => v20 = .int .i64 wz ∧ v22 = .int .i64 0 ∧ Only (fun _ => False) w wx)
        case first =>
          go_region_held3 (fun w' => w'.cell? ⟨nk, 0, none⟩ = some (.slice ak K.length ck) ∧ w'.cell? ⟨nk, 1, none⟩ = some (.slice ap R.length cp) ∧ w'.cell? ⟨w.heap.size + 1, 0, none⟩ = some (.int .i64 q0))
            (first
              | with_reducible exact HKS.out _ (HO68.out.drew)
              | with_reducible exact HKS.out _ HO9.out
              | with_reducible exact HKS.out _ (HO9.out.trans hO10))
            (first
              | (go_at_call 22; refine (HCB.out _ _ HO9.out HOW9.out).mono ?_; rintro e w10 ⟨⟨u2, rfl⟩, hO10⟩)
              | (refine step_append_lies _ (by rfl) _ _ 44 (by rfl) w6.heap.size 30 p0 _ 4 32 Tryz.underlying44 hp0 hpz0 hpz1 hpz2 rfl (by decide) (.slice amv M.length cmv) M.length (prow M) (by rfl) (((Only.refl (fun _ => False) w8).drew).owns HM8.out (fun _ _ h => h)) ⟨ga, 0, none⟩ nd cvv (prow A) (by rfl) (by rw [prow_length, HAL.out]) HNEW.out (prow_one A) (by omega) (by unfold maxLen; omega) (by omega) (by show w6.heap.size ≤ w8.heap.size; omega) _ (by rfl) ?_
                 intro g9 cp9 w9 ho9 hg9 ha9 hgl9
                 have HO9 := Lib.hid ((HO68.out.drew).grow (((Only.refl (fun _ => False) w8).drew).owns HM8.out (fun _ _ h => h)) (Nat.le_refl _) hg9)
                 have HOW9 := Lib.hid ho9
                 clear ho9 hg9 ha9))
          clear HKS
          go_wp2_with fail
          go_meet
          exact ⟨rfl, rfl, HO6.out.trans (HO9.out.trans hO10)⟩
        case rest =>
          obtain ⟨rfl, rfl, hO⟩ := hcut
          have HO11 := Lib.hid hO
          have qz : (wz == wz) = true := by simp
          clear hO
          go_wp2
          go_ret
          exact ⟨rfl, HO11.out.below (Nat.le_refl _) (fun _ _ h => h)⟩
end Go.Proofs.YtlhfgbkonmgahaaGreatDoor
