/-
  The reference's Partials: some partials come back.
  The walk of the law BeaconVerifies.
-/
import Derived.Test.YtlhfgbkonmgahaaGreatDoorPa21
import Derived.Deep.CutBlock
namespace Go.Proofs.YtlhfgbkonmgahaaGreatDoor
open Go.RowKit

/-- What Partials leaves: a list of its own, of 30 at most. -/
def PpPost (w : World) (e : Ending) (w' : World) : Prop :=
  Only (fun _ => False) w w' ∧ ∃ v L, e = .returned v ∧ w'.ownsRow w.heap.size 30 4 v L.length (prow L) ∧ L.length ≤ 30
/-- At the head of a round: the partials, and the present one in its block. -/
structure PpAt (w wr : World) (v : Value) (L : List Pt4) : Prop where
  own : wr.ownsRow w.heap.size 30 4 v L.length (prow L)
  only : Only (fun _ => False) w wr
theorem PpAt.frame {w wr w2 : World} {v : Value} {L : List Pt4} (h : PpAt w wr v L) (hO : Only (fun _ => False) wr w2) : PpAt w w2 v L := ⟨hO.owns h.own (fun _ _ h => h), h.only.trans hO⟩
theorem PpAt.put {w wr : World} {v : Value} {L : List Pt4} (h : PpAt w wr v L) {nx : Nat} (hn : w.heap.size ≤ nx) (h1 : v.ownBlock ≠ some nx) (o : Nat) (x : Value) : PpAt w (wr.setCell ⟨nx, o, none⟩ x) v L :=
  ⟨ownsRow_setCell_other h.own h1 x, h.only.setCell (.inr hn) x⟩
theorem PpAt.putRow {w wr : World} {v : Value} {L : List Pt4} (h : PpAt w wr v L) {nx : Nat} (hn : w.heap.size ≤ nx) (h1 : v.ownBlock ≠ some nx) (cs : Array Value) : PpAt w (wr.setRow nx cs) v L :=
  have hO : Only (fun i => i = nx) wr (wr.setRow nx cs) := (Only.refl (fun i => i = nx) wr).setRow' rfl cs
  ⟨hO.owns h.own (fun g hg e => h1 (by rw [← e]; exact hg)), h.only.trans' hO (fun i hi e => by omega)⟩
theorem PpAt.add {w wr w1 : World} {v : Value} {L : List Pt4} (h : PpAt w wr v L) {p : Pt4} {k g cap : Nat} (hk : L.length = k)
    (hown : w1.ownsRow w.heap.size 30 4 (.slice (some ⟨g, 0, none⟩) (k + 1) cap) (k + 1) (prow L ++ prow [p])) (hg : wr.grownBy w1 v.ownBlock) : PpAt w w1 (.slice (some ⟨g, 0, none⟩) (k + 1) cap) (L ++ [p]) := by
  subst hk
  have hO : Only (fun i => v.ownBlock = some i) wr w1 := (Only.refl _ _).grown hg (fun i e _ => e)
  exact ⟨by rw [List.length_append, List.length_singleton, prow_append]; exact hown, h.only.trans' hO (fun i hi e => by have := own_low' h.own e; omega)⟩
theorem evS_x (C : List Int) (r : Int) {x : Int} (h1 : 1 ≤ x) (h2 : x ≤ 60) : (evS C r x).1 = x := by rw [evS_parts C r h1 h2]
theorem evalV_b (x y r : Int) : (0 ≤ (evalV x y r).1 ∧ (evalV x y r).1 ≤ 60) ∧ 0 ≤ (evalV x y r).2.2.2 ∧ (evalV x y r).2.2.2 < 1152921504606845789 := by
  unfold evalV
  split
  · next h =>
    obtain ⟨⟨h1, h2⟩, _⟩ := inRng_parts h
    exact ⟨⟨by dsimp only; omega, h2⟩, emod_self_lt _ _ (by decide)⟩
  · exact ⟨⟨by decide, by decide⟩, by decide, by decide⟩
set_option maxRecDepth 100000 in
set_option maxHeartbeats 8000000 in
theorem partials_any (nk : Nat) (ac ak ap : Option Addr) (cc ck cp : Nat) (C K : List Int) (R : List (List Int)) (n nd : Nat) (lv : Value) (pk : List (Int × Int)) (r : Int) (w : World) (hK : KyAt w nk ac ak ap cc ck cp C K R) (ok : PlOk C K R n nd)
    (hL : PksAt w lv pk) (hlp : pk.length ≤ 9223372036854775807) (h0 : -9223372036854775808 ≤ r) (h1 : r ≤ 9223372036854775807) :
    Calls Tryz.prog 16 #[.slice ac C.length cc, .agg #[.slice ak K.length ck, .slice ap R.length cp], .int .i64 r, lv] w (PpPost w) := by
  have := hlp
  obtain ⟨p0, hp0, hpz0, hpz1, hpz2⟩ := info_parts Tryz.infoP4
  obtain ⟨al, cl, rfl⟩ := hL.slice
  have hA := (Only.refl (fun _ => False) w).alloc (.cells #[.slice ak K.length ck, .slice ap R.length cp] 41)
  have hz := heap_alloc_last w (.cells #[.slice ak K.length ck, .slice ap R.length cp] 41)
  have HA := Lib.hid hA
  have HK := Lib.hid (hK.only hA)
  have HL := Lib.hid (hL.only hA)
  have HOK := Lib.hid ok
  have hn1 := ok.n1
  have hn2 := ok.n2
  have e0 : _ = some (Value.slice ak K.length ck) := cell_of_row _ _ 0 _ _ _ hz
  have e1 : _ = some (Value.slice ap R.length cp) := cell_of_row _ _ 1 _ _ _ hz
  have lz := own_lt0 hz
  clear hA hz hK hL ok
  go_enter Tryz.func16, Tryz.ntmps16
  go_wp2_with fail
  refine (HK.out.shares HOK.out).mono ?_
  rintro e w1 ⟨hO1, shv, rfl, hown⟩
  have HSH := Lib.hid (HOK.out.share hown)
  obtain ⟨asv, csv, rfl⟩ := slice_of_own hown
  have HO1 := Lib.hid (HA.out.trans hO1)
  have HL1 := Lib.hid (HL.out.only hO1)
  have HEV := Lib.hid (fun x y w => reval9_any x y r w h0 h1)
  have hw1 := HO1.out.size
  clear hO1 hown e0 e1 lz HA HK HL
  go_wp2_with fail
  go_loopw [10, 11] (fun v vi wr => ∃ (k : Nat) (L : List Pt4), L.length = k ∧ k ≤ 30 ∧ k ≤ pk.length ∧ vi = .int .i64 k ∧ PpAt w1 wr v L) (fun _ vi _ => 30 - (intOf vi).toNat)
  case atStart => exact ⟨0, [], rfl, by omega, Nat.zero_le _, rfl, World.ownsRow_nil _ _ _ _, Only.refl _ _⟩
  case round =>
    obtain ⟨k, L, hlk, hk30, hkp, rfl, hP⟩ := hrel
    have HLK := Lib.hid hlk
    have HP := Lib.hid hP
    have i2 : 0 ≤ (k : Int) := by omega
    clear hlk
    by_cases g1 : k < pk.length
    · by_cases g2 : k < 30
      · have i1 : (k : Int) < pk.length := by omega
        have i3 : (k : Int) < 30 := by omega
        obtain ⟨pb, po, rfl, hpb, hpc1, hpc2, ⟨b0, b1⟩, ⟨x0, x1⟩, v0, v1⟩ := (HL1.out.only hP.only).at g1
        generalize (shAt pk k).1 = bx at *
        generalize (shAt pk k).2 = bw at *
        have hjm := Int.emod_nonneg bx (show (n : Int) ≠ 0 by omega)
        have hjl := Int.emod_lt_of_pos bx (show (0 : Int) < n by omega)
        obtain ⟨j, hj⟩ := Int.eq_ofNat_of_zero_le hjm
        rw [hj] at hjl
        have hjn : j < n := by omega
        obtain ⟨sb, so, sc, hv, hsb, hsc1, hsc2, c0, c1⟩ := HSH.out j hjn
        simp only [Value.slice.injEq, true_and] at hv
        obtain ⟨rfl, rfl⟩ := hv
        have d0 := hP.only.cell c0 id
        have d1 := hP.only.cell c1 id
        have hsz := hP.only.size
        have hsb2 : sb < wr.heap.size := by omega
        have i5 : (j : Int) < n := by omega
        have i6 : 0 ≤ (j : Int) := by omega
        generalize hy : valZ C ((j : Int) + 1) = y at *
        have HB1 := Lib.hid (fun (W : World) (hW : Only (fun _ => False) wr W) => hW.cell b1 id)
        clear hP c0 c1 hsb hjm hy b1
        go_upto_region 7 with fail
        have hA2 := (Only.refl (fun _ => False) wr).alloc (.cells #[.int .i64 ((j : Int) + 1), .int .i64 y] 23)
        have HA2 := Lib.hid hA2
        have HS2 := Lib.hid (heap_alloc_last wr (.cells #[.int .i64 ((j : Int) + 1), .int .i64 y] 23))
        have f0 : _ = some (Value.int .i64 ((j : Int) + 1)) := cell_of_row _ _ 0 _ _ _ HS2.out
        have f1 : _ = some (Value.int .i64 y) := cell_of_row _ _ 1 _ _ _ HS2.out
        have ls := own_lt0 HS2.out
        generalize wr.alloc (.cells #[.int .i64 ((j : Int) + 1), .int .i64 y] 23) = w2 at *
        generalize hns : wr.heap.size = ns at *
        have HNS := Lib.hid hns
        have HE1 := Lib.hid (HEV.out ((j : Int) + 1) y w2)
        have HPB := Lib.hid (evalV_b ((j : Int) + 1) y r)
        generalize evalV ((j : Int) + 1) y r = p at *
        obtain ⟨px, pv, pc, pz⟩ := p
        dsimp only at HE1 HPB
        obtain ⟨⟨x0', x1'⟩, z0', z1'⟩ := HPB.out
        clear hA2 d0 d1 hns hsb2
        go_wp2_with fail
        refine HE1.out.mono ?_
        rintro e w3 ⟨rfl, hO3⟩
        have hA4 := hO3.alloc (.cells #[.int .i64 px, .int .i64 pv, .int .i64 pc, .int .i64 pz] 30)
        have HX4 := Lib.hid (heap_alloc_last w3 (.cells #[.int .i64 px, .int .i64 pv, .int .i64 pc, .int .i64 pz] 30))
        have HO4 := Lib.hid (HA2.out.trans hA4)
        have HS4 := Lib.hid (row_still hA4 HS2.out)
        have HP4 := Lib.hid (HP.out.frame HO4.out)
        have hp3 := HP.out.frame (HA2.out.trans hO3)
        have HNX := Lib.hid (show (w1.heap.size ≤ w3.heap.size ∧ u10.ownBlock ≠ some w3.heap.size) from ⟨hp3.only.size, fun e => by have := (own_lt hp3.own e).1; omega⟩)
        have b1 := HB1.out _ HO4.out
        go_upto_region 8 with fail
        generalize w3.alloc (.cells #[.int .i64 px, .int .i64 pv, .int .i64 pc, .int .i64 pz] 30) = w4 at *
        generalize w3.heap.size = nx at *
        have hlp := HO4.out.size
        clear hO3 hA4 hp3 f0 f1 ls HE1 HPB HP HS2
        go_upto_block 2 with fail
        generalize bw % 12 = tm at *
        go_cut [] (fun wx => ∃ q : Pt4, wx.heap[nx]? = some (.cells #[.int .i64 q.1, .int .i64 q.2.1, .int .i64 q.2.2.1, .int .i64 q.2.2.2] 30 (0, 0)) ∧ PpAt w1 wx u10 L)
        case first =>
          have f0 : _ = some (Value.int .i64 ((j : Int) + 1)) := cell_of_row _ _ 0 _ _ _ HS4.out
          have f1 : _ = some (Value.int .i64 y) := cell_of_row _ _ 1 _ _ _ HS4.out
          have ls := own_lt0 HS4.out
          have x0 : _ = some (Value.int .i64 px) := cell_of_row _ _ 0 _ _ _ HX4.out
          have x1 : _ = some (Value.int .i64 pv) := cell_of_row _ _ 1 _ _ _ HX4.out
          have x2 : _ = some (Value.int .i64 pc) := cell_of_row _ _ 2 _ _ _ HX4.out
          have x3 : _ = some (Value.int .i64 pz) := cell_of_row _ _ 3 _ _ _ HX4.out
          have g0 := frozen_of_row _ _ 0 _ _ HX4.out
          have g1' := frozen_of_row _ _ 1 _ _ HX4.out
          have g3 := frozen_of_row _ _ 3 _ _ HX4.out
          have lx := own_lt0 HX4.out
          clear b1
          by_cases t1 : tm = 1
          · subst t1
            have HMU := Lib.hid (fun w => rmul_any pv 4 2305843009213691579 w (by decide) (by decide))
            generalize pv * 4 % 2305843009213691579 = v4 at *
            go_wp2_with fail
            refine (HMU.out _).mono ?_
            rintro e w' ⟨rfl, rfl⟩
            go_wp2_with fail
            go_meet
            exact ⟨(px, v4, pc, pz), heap_setCell_same w4 nx 1 _ _ _ HX4.out, HP4.out.put HNX.out.1 HNX.out.2 1 _⟩
          by_cases t2 : tm = 2
          · subst t2
            go_wp2_with fail
            go_meet
            exact ⟨(px + 1, pv, pc, pz), heap_setCell_same w4 nx 0 _ _ _ HX4.out, HP4.out.put HNX.out.1 HNX.out.2 0 _⟩
          by_cases t3 : tm = 3
          · subst t3
            have HE2 := Lib.hid (fun w => reval9_any ((j : Int) + 1) y (wrap64 (r + 1)) w (by unfold wrap64; omega) (by unfold wrap64; omega))
            generalize evalV ((j : Int) + 1) y (wrap64 (r + 1)) = q at *
            obtain ⟨qx, qv, qc, qz⟩ := q
            dsimp only at HE2
            go_wp2_with fail
            refine (HE2.out _).mono ?_
            rintro e w5 ⟨rfl, hO5⟩
            have HX5 := Lib.hid (row_still hO5 HX4.out)
            have HP5 := Lib.hid (HP4.out.frame hO5)
            clear hO5 f0 f1 ls x0 x1 x2 x3 g0 g1' g3 lx
            go_wp2_with (first | (refine wpList_store_row rfl 30 _ _ rfl nx #[.int .i64 qx, .int .i64 qv, .int .i64 qc, .int .i64 qz] rfl rfl 30 _ HX5.out Tryz.infoPt rfl (pt_one _ _ _ _) ?_))
            go_meet
            exact ⟨(qx, qv, qc, qz), setRow_heap _ _ _ _ _ _ HX5.out, HP5.out.putRow HNX.out.1 HNX.out.2 _⟩
          by_cases t4 : tm = 4
          · subst t4
            have HMD := Lib.hid (fun w => rmod9_any (pz + 1) 1152921504606845789 w (by decide) (by decide))
            generalize (pz + 1) % 1152921504606845789 = z4 at *
            go_wp2_with fail
            refine (HMD.out _).mono ?_
            rintro e w' ⟨rfl, rfl⟩
            go_wp2_with fail
            go_meet
            exact ⟨(px, pv, pc, z4), heap_setCell_same w4 nx 3 _ _ _ HX4.out, HP4.out.put HNX.out.1 HNX.out.2 3 _⟩
          by_cases t5 : tm = 5
          · subst t5
            have HMD := Lib.hid (fun n w => rmod9_any n 1152921504606845789 w (by decide) (by decide))
            have HE2 := Lib.hid (fun y w => reval9_any ((j : Int) + 1) y r w h0 h1)
            have y0 := fun (d : Nat) (os : Array Obj) => cell_regrown f0 d os
            have y1 := fun (d : Nat) (os : Array Obj) => cell_regrown f1 d os
            clear f0 f1 ls x0 x1 x2 x3 g0 g1' g3 lx
            go_upto_region 18 with fail
            refine wp_region_below_split2 9 (by kernel_rfl) (by kernel_rfl) (by kernel_rfl) ?_
            simp only [List.take_succ_cons, List.take_zero, List.drop_succ_cons, List.drop_zero]
            repeat (go_big_quiet_step ((first | (go_at_call 42; exact Calls.regrown_of ((HMD.out _ _).mono fun _ _ h => ⟨h.1, by rw [← h.2]; exact Below.refl _ _⟩)) | (go_at_call 14; exact Calls.regrown_of ((HE2.out _ _).mono fun _ _ h => ⟨h.1, h.2.below (Nat.le_refl _) (fun _ _ h => h)⟩)))))
            refine wpQuiet_nil ?_
            intro w5 hw'
            obtain ⟨pq, hw''⟩ := hw'
            have HO5 := Lib.hid (Only.ofBelow (below_regrown w4 pq.d pq.os) (fun _ => False))
            rw [← hw''] at HO5
            have HX5 := Lib.hid (row_still HO5.out HX4.out)
            have HP5 := Lib.hid (HP4.out.frame HO5.out)
            clear hw'' y0 y1 HO5
            generalize evalV ((j : Int) + 1) (wrap64 (y + 1) % 1152921504606845789) r = q at *
            obtain ⟨qx, qv, qc, qz⟩ := q
            dsimp only
            go_wp2_with (first | (refine wpList_store_row rfl 30 _ _ rfl nx #[.int .i64 qx, .int .i64 qv, .int .i64 qc, .int .i64 qz] rfl rfl 30 _ HX5.out Tryz.infoPt rfl (pt_one _ _ _ _) ?_))
            go_meet
            exact ⟨(qx, qv, qc, qz), setRow_heap _ _ _ _ _ _ HX5.out, HP5.out.putRow HNX.out.1 HNX.out.2 _⟩
          · have q1 : (tm == 1) = false := beq_eq_false_iff_ne.2 t1
            have q2 : (tm == 2) = false := beq_eq_false_iff_ne.2 t2
            have q3 : (tm == 3) = false := beq_eq_false_iff_ne.2 t3
            have q4 : (tm == 4) = false := beq_eq_false_iff_ne.2 t4
            have q5 : (tm == 5) = false := beq_eq_false_iff_ne.2 t5
            clear t1 t2 t3 t4 t5
            go_wp2_with fail
            go_meet
            exact ⟨(px, pv, pc, pz), HX4.out, HP4.out⟩
        case rest =>
          obtain ⟨⟨qx, qv, qc, qz⟩, hx, hP⟩ := hcut
          have HX8 := Lib.hid (show wc.heap[nx]? = some (.cells #[.int .i64 qx, .int .i64 qv, .int .i64 qc, .int .i64 qz] 30 (0, 0)) from hx)
          have HP8 := Lib.hid hP
          have hsz8 := hP.only.size
          clear hx hP b1 HX4 HP4 HS4
          generalize wc = w8 at *
          have x0 : _ = some (Value.int .i64 qx) := cell_of_row _ _ 0 _ _ _ HX8.out
          have x1 : _ = some (Value.int .i64 qv) := cell_of_row _ _ 1 _ _ _ HX8.out
          have x2 : _ = some (Value.int .i64 qc) := cell_of_row _ _ 2 _ _ _ HX8.out
          have x3 : _ = some (Value.int .i64 qz) := cell_of_row _ _ 3 _ _ _ HX8.out
          have lx := own_lt0 HX8.out
          have HOW8 := Lib.hid (show w8.ownsRow w1.heap.size 30 4 u10 k (prow L) by have := HP8.out.own; rw [HLK.out] at this; exact this)
          obtain ⟨a12, c12, rfl⟩ := slice_of_own HOW8.out
          go_wp2_with (at_builtin; refine wpList_append_lies _ rfl _ _ 44 rfl w1.heap.size 30 p0 _ 4 32 Tryz.underlying44 hp0 hpz0 hpz1 hpz2 rfl (by decide) _ k (prow L) rfl (HOW8.out.alloc _) ⟨w8.heap.size, 0, none⟩ 1 1 (prow [(qx, qv, qc, qz)]) rfl rfl (World.news_of_block (cs := #[.int .i64 qx, .int .i64 qv, .int .i64 qc, .int .i64 qz]) (t := 30) (fr := (0, 0)) (heap_alloc_new w8 _)) ?e0 (by decide) ?e1 ?e2 ?e3 _ rfl ?_)
          case e0 => exact p4_one _
          case e1 => unfold maxLen; omega
          case e2 => omega
          case e3 => first | omega | (simp; omega)
          intro g1 cp1 w9 ho1 hg1 ha1 _
          have HP9 := Lib.hid ((HP8.out.frame ((Only.refl (fun _ => False) w8).alloc (.cells #[.int .i64 qx, .int .i64 qv, .int .i64 qc, .int .i64 qz] 30))).add HLK.out ho1 hg1)
          clear ho1 hg1 ha1 x0 x1 x2 x3
          go_wp2
          go_roundw
          case rel => exact ⟨k + 1, _, by rw [List.length_append, HLK.out]; rfl, by omega, by omega, by go_num, HP9.out⟩
          case measure => simp [intOf]; omega
      · have i1 : (k : Int) < pk.length := by omega
        have i3 : ¬ (k : Int) < 30 := by omega
        have d3 : decide ((k : Int) < 30) = false := decide_eq_false i3
        have HPO := Lib.hid (show PpPost w (.returned u10) wr from ⟨HO1.out.trans HP.out.only, u10, L, rfl, own_base HP.out.own hw1, by rw [HLK.out]; omega⟩)
        obtain ⟨av, cvv, rfl⟩ := slice_of_own hP.own
        clear hP
        go_wp2
        go_ret
        exact HPO.out
    · have i1 : ¬ (k : Int) < pk.length := by omega
      have d3 : decide ((k : Int) < pk.length) = false := decide_eq_false i1
      have HPO := Lib.hid (show PpPost w (.returned u10) wr from ⟨HO1.out.trans HP.out.only, u10, L, rfl, own_base HP.out.own hw1, by rw [HLK.out]; omega⟩)
      obtain ⟨av, cvv, rfl⟩ := slice_of_own hP.own
      clear hP
      go_wp2
      go_ret
      exact HPO.out
end Go.Proofs.YtlhfgbkonmgahaaGreatDoor

namespace Go.Proofs.YtlhfgbkonmgahaaGreatDoor
open Go.RowKit

theorem pts_news {W : World} {b off c m : Nat} {K : List Int} (h : PtsAt W.heap.size W (.slice (some ⟨b, off, none⟩) m c) K) : ∀ j u, (irow K)[j]? = some u → W.cell? ((⟨b, off, none⟩ : Addr).add j) = some u := by
  intro j u hu
  have hadd : (⟨b, off, none⟩ : Addr).add j = ⟨b, off + j, none⟩ := by unfold Addr.add; split <;> simp_all
  rw [hadd]
  have hj : j < K.length := by have := (List.getElem?_eq_some_iff.1 hu).1; simpa [irow] using this
  obtain ⟨b', o', hv, _, _, _, _, hc⟩ := h.cellAt hj
  obtain ⟨rfl, rfl⟩ : b = b' ∧ off = o' := by simpa using hv
  rw [hc, ← hu, irow_get K j hj]
/-- Keys whose lists lie in memory. -/
def KvAt (W : World) (cv pv : Value) : Prop := ∃ (ak ap : Option Addr) (ck cp : Nat) (K : List Int) (R : List (List Int)), cv = .slice ak K.length ck ∧ pv = .slice ap R.length cp ∧ PtsAt W.heap.size W (.slice ak K.length ck) K ∧ GridAt W (.slice ap R.length cp) R ∧ (∀ k, k ≤ R.length → gridTo R k ≤ 1000000) ∧ K.length ≤ 1000000
theorem KvAt.only {A B : World} {cv pv : Value} (h : KvAt A cv pv) (hO : Only (fun _ => False) A B) : KvAt B cv pv := by
  obtain ⟨ak, ap, ck, cp, K, R, h1, h2, h3, h4, h5, h6⟩ := h
  exact ⟨ak, ap, ck, cp, K, R, h1, h2, h3.only hO, h4.only hO, h5, h6⟩
theorem kv_nil (W : World) : KvAt W (.slice none 0 0) (.slice none 0 0) := by
  refine ⟨none, none, 0, 0, [], [], rfl, rfl, .inl ⟨_, _, rfl, rfl⟩, .inl ⟨_, _, rfl, rfl⟩, fun k hk => ?_, by decide⟩
  obtain rfl : k = 0 := by simpa using hk
  exact Nat.zero_le _
theorem kv_four {W : World} {g : Nat} {T : TypeId} {c0 p0 c1 p1 c2 p2 c3 p3 : Value} (h : W.heap[g]? = some (.cells #[c0, p0, c1, p1, c2, p2, c3, p3] T (0, 0))) (k0 : KvAt W c0 p0) (k1 : KvAt W c1 p1) (k2 : KvAt W c2 p2) (k3 : KvAt W c3 p3) :
    ∀ t, t < 4 → ∃ cv pv, W.cell? ⟨g, t * 2, none⟩ = some cv ∧ W.cell? ⟨g, t * 2 + 1, none⟩ = some pv ∧ KvAt W cv pv
  | 0, _ => ⟨c0, p0, cell_of_row _ _ 0 _ _ _ h, cell_of_row _ _ 1 _ _ _ h, k0⟩
  | 1, _ => ⟨c1, p1, cell_of_row _ _ 2 _ _ _ h, cell_of_row _ _ 3 _ _ _ h, k1⟩
  | 2, _ => ⟨c2, p2, cell_of_row _ _ 4 _ _ _ h, cell_of_row _ _ 5 _ _ _ h, k2⟩
  | 3, _ => ⟨c3, p3, cell_of_row _ _ 6 _ _ _ h, cell_of_row _ _ 7 _ _ _ h, k3⟩
theorem grid_drop {W : World} {b off cp m : Nat} {R : List (List Int)} (h : GridAt W (.slice (some ⟨b, off, none⟩) R.length cp) R) (hm : R.length = m + 1) : GridAt W (.slice (some ⟨b, off + 1, none⟩) m (cp - 1)) (R.drop 1) := by
  rcases h with ⟨_, _, _, h0⟩ | ⟨b', o', c', hv, hb, h1, h2, hc⟩
  · rw [h0] at hm; simp at hm
  · simp only [Value.slice.injEq, Option.some.injEq, Addr.mk.injEq, and_true, true_and] at hv
    obtain ⟨⟨rfl, rfl⟩, rfl⟩ := hv
    have hl : (R.drop 1).length = m := by rw [List.length_drop]; omega
    refine .inr ⟨b, off + 1, cp - 1, by rw [hl], hb, by omega, by omega, fun j hj => ?_⟩
    obtain ⟨u, hu, hp⟩ := hc (j + 1) (by omega)
    refine ⟨u, by rw [show off + 1 + j = off + (j + 1) by omega]; exact hu, ?_⟩
    have : (R.drop 1).getD j [] = R.getD (j + 1) [] := by simp [List.getD]
    rw [this]; exact hp
theorem gridTo_drop (R : List (List Int)) : ∀ k, gridTo (R.drop 1) k + (R.getD 0 []).length = gridTo R (k + 1)
  | 0 => by simp [gridTo]
  | k + 1 => by
    have ih := gridTo_drop R k
    have : (R.drop 1).getD k [] = R.getD (k + 1) [] := by simp [List.getD]
    rw [gridTo, this, gridTo, ← ih]
    omega
set_option maxRecDepth 100000 in
set_option maxHeartbeats 8000000 in
theorem bv_walk (sv cv : Value) (ws cs : List Int) (lv : Value) (pk : List (Int × Int)) (q0 q1 q2 q3 q4 q5 : Int) (w : World) (hB : BytsAt w sv ws) (hC : PtsAt w.heap.size w cv cs) (hW : IntsW cs) (hlw : ws.length ≤ 9223372036854775807) (hlc : cs.length ≤ 9223372036854775807) (hL : PksAt w lv pk) (hlp : pk.length ≤ 9223372036854775807) (hq0 : (-9223372036854775808 ≤ q0 ∧ q0 ≤ 9223372036854775807)) (hG : Glob w) :
    Calls Tryz.prog 4 #[.agg #[sv, cv], lv, .agg #[.int .i64 q0, .int .i64 q1, .int .i64 q2, .int .i64 q3, .int .i64 q4, .int .i64 q5]] w fun e w' => e = .returned (.bool true) ∧ Below w.heap.size w w' := by
  have hA := ((Only.refl (fun _ => False) w).alloc (.cells #[sv, cv] 36)).alloc (.cells #[.int .i64 q0, .int .i64 q1, .int .i64 q2, .int .i64 q3, .int .i64 q4, .int .i64 q5] 38)
  have hz0 := row_still ((Only.refl (fun _ => False) (w.alloc (.cells #[sv, cv] 36))).alloc (.cells #[.int .i64 q0, .int .i64 q1, .int .i64 q2, .int .i64 q3, .int .i64 q4, .int .i64 q5] 38)) (heap_alloc_last w (.cells #[sv, cv] 36))
  have hz1 := heap_alloc_last (w.alloc (.cells #[sv, cv] 36)) (.cells #[.int .i64 q0, .int .i64 q1, .int .i64 q2, .int .i64 q3, .int .i64 q4, .int .i64 q5] 38)
  simp only [World.size_alloc] at hz1
  have HA := Lib.hid hA
  have HZ0 := Lib.hid hz0
  have HZ1 := Lib.hid hz1
  have HBC := Lib.hid (fun W (hO : Only (fun _ => False) w W) => (⟨hB.only hO, hC.only hO⟩ : BytsAt W sv ws ∧ PtsAt W.heap.size W cv cs))
  have HGW := Lib.hid (fun W (hO : Only (fun _ => False) w W) => hG.only hO)
  have HW := Lib.hid hW
  clear hA hB hC hG hW hz0 hz1
  go_enter Tryz.func4, Tryz.ntmps4
  go_wp2_with fail
  refine (sanity9_any _ (HGW.out _ HA.out)).mono ?_
  rintro e w1 ⟨rfl, hO1⟩
  have HO1 := Lib.hid (HA.out.trans hO1)
  have e0 : _ = some sv := cell_of_row _ _ 0 _ _ _ (row_still hO1 HZ0.out)
  have e1 : _ = some cv := cell_of_row _ _ 1 _ _ _ (row_still hO1 HZ0.out)
  have HZ0 := Lib.hid (row_still hO1 HZ0.out)
  have HZ1 := Lib.hid (row_still hO1 HZ1.out)
  clear hO1 HA
  go_wp2_with fail
  refine (make_any sv cv ws cs w1 (HBC.out _ HO1.out).1 (HBC.out _ HO1.out).2 HW.out hlw hlc).mono ?_
  rintro e w2 ⟨hO2, cv', kv, pv, rfl, hPL⟩
  obtain ⟨ac, ak, ap, cc, ck, cp, rfl, rfl, rfl⟩ := hPL.keys
  have HKY := Lib.hid (ky_start hPL)
  have HOK := Lib.hid (pl_ok ws cs)
  have HO2 := Lib.hid (HO1.out.trans hO2)
  have HZ0 := Lib.hid (row_still (hO2.alloc (.cells #[.slice ak (plK ws cs).length ck, .slice ap (plR ws).length cp] 41)) HZ0.out)
  have HZ1 := Lib.hid (row_still (hO2.alloc (.cells #[.slice ak (plK ws cs).length ck, .slice ap (plR ws).length cp] 41)) HZ1.out)
  have HO3 := Lib.hid (HO2.out.alloc (.cells #[.slice ak (plK ws cs).length ck, .slice ap (plR ws).length cp] 41))
  clear hPL hO2 HO1 HO2 e0 e1 HBC
  go_wp2_with fail
  generalize w2.alloc (.cells #[.slice ak (plK ws cs).length ck, .slice ap (plR ws).length cp] 41) = w3 at *
  generalize w2.heap.size = nk at *
  generalize plC ws cs = C at *
  generalize plK ws cs = K at *
  generalize plR ws = R at *
  generalize plN ws = n at *
  generalize plD ws = nd at *
  obtain ⟨h0a, h0b⟩ := hq0
  have hn1 := HOK.out.n1
  have hn2 := HOK.out.n2
  have hd1 := HOK.out.d1
  have hd2 := HOK.out.d2
  have HKL := Lib.hid HOK.out.kl
  have HPA := Lib.hid (fun W (hW : Only (fun _ => False) w3 W) => show Calls Tryz.prog 16 #[.slice ac C.length cc, .agg #[.slice ak K.length ck, .slice ap R.length cp], .int .i64 q0, lv] W (fun e wP => (∃ v L, e = .returned v ∧ wP.ownsRow w3.heap.size 30 4 v L.length (prow L) ∧ L.length ≤ 30) ∧ Only (fun _ => False) W wP ∧ Only (fun _ => False) w3 wP) from
    (partials_any nk ac ak ap cc ck cp C K R n nd lv pk q0 W (HKY.out.only hW) HOK.out (hL.only (HO3.out.trans hW)) hlp h0a h0b).mono fun e wP ⟨hO, v, L, he, hown, hl⟩ => ⟨⟨v, L, he, own_base hown hW.size, hl⟩, hO, hW.trans hO⟩)
  have k0 : _ = some (Value.slice ak K.length ck) := cell_of_row _ _ 0 _ _ _ HKY.out.row
  have k1 : _ = some (Value.slice ap R.length cp) := cell_of_row _ _ 1 _ _ _ HKY.out.row
  have z0 : _ = some (Value.int .i64 q0) := cell_of_row _ _ 0 _ _ _ HZ1.out
  have z2 : _ = some (Value.int .i64 q2) := cell_of_row _ _ 2 _ _ _ HZ1.out
  have z3 : _ = some (Value.int .i64 q3) := cell_of_row _ _ 3 _ _ _ HZ1.out
  have z4 : _ = some (Value.int .i64 q4) := cell_of_row _ _ 4 _ _ _ HZ1.out
  have z5 : _ = some (Value.int .i64 q5) := cell_of_row _ _ 5 _ _ _ HZ1.out
  have lk := own_lt0 HKY.out.row
  have lz := own_lt0 HZ1.out
  obtain ⟨p0, hp0, hpz0, hpz1, hpz2⟩ := info_parts Tryz.infoP4
  obtain ⟨t0, ht0, htz0, htz1, htz2⟩ := info_parts Tryz.infoI
  have HKS := Lib.hid (show ∀ W, Only (fun _ => False) w3 W → W.cell? ⟨nk, 0, none⟩ = some (.slice ak K.length ck) ∧ W.cell? ⟨nk, 1, none⟩ = some (.slice ap R.length cp) ∧ W.cell? ⟨w.heap.size + 1, 0, none⟩ = some (.int .i64 q0) ∧ W.cell? ⟨w.heap.size + 1, 2, none⟩ = some (.int .i64 q2) ∧ W.cell? ⟨w.heap.size + 1, 3, none⟩ = some (.int .i64 q3) ∧ W.cell? ⟨w.heap.size + 1, 4, none⟩ = some (.int .i64 q4) ∧ W.cell? ⟨w.heap.size + 1, 5, none⟩ = some (.int .i64 q5) from fun W h => ⟨h.cell k0 id, h.cell k1 id, h.cell z0 id, h.cell z2 id, h.cell z3 id, h.cell z4 id, h.cell z5 id⟩)
  clear hL HZ0
  go_cut [10] (fun v10 wx => ∃ L : List Pt4, wx.ownsRow w3.heap.size 30 4 v10 L.length (prow L) ∧ L.length ≤ 31 ∧ Only (fun _ => False) w3 wx)
  case first =>
    go_region_held3 (fun w' => w'.cell? ⟨nk, 0, none⟩ = some (.slice ak K.length ck) ∧ w'.cell? ⟨nk, 1, none⟩ = some (.slice ap R.length cp) ∧ w'.cell? ⟨w.heap.size + 1, 0, none⟩ = some (.int .i64 q0) ∧ w'.cell? ⟨w.heap.size + 1, 2, none⟩ = some (.int .i64 q2) ∧ w'.cell? ⟨w.heap.size + 1, 3, none⟩ = some (.int .i64 q3) ∧ w'.cell? ⟨w.heap.size + 1, 4, none⟩ = some (.int .i64 q4) ∧ w'.cell? ⟨w.heap.size + 1, 5, none⟩ = some (.int .i64 q5))
      (first
        | with_reducible exact HKS.out _ ((Only.refl _ w3).drew)
        | with_reducible exact HKS.out _ hP3
        | with_reducible exact HKS.out _ (hP3.alloc _)
        | with_reducible exact HKS.out _ HO9.out
        | with_reducible exact HKS.out _ (((Only.refl _ w3).drew).alloc _)
        | with_reducible exact HKS.out _ (((Only.refl _ w3).alloc _).drew))
      (first
        | (go_at_call 16; refine (HPA.out _ (by first | exact (Only.refl _ w3).drew | exact ((Only.refl _ w3).alloc _).drew | exact ((Only.refl _ w3).drew).alloc _)).mono ?_; rintro e wP ⟨⟨mv, M, rfl, hownP, hM30⟩, hOP, hP3⟩; obtain ⟨amv, cmv, rfl⟩ := slice_of_own hownP)
        | (refine step_append_lies _ (by rfl) _ _ 44 (by rfl) w3.heap.size 30 p0 _ 4 32 Tryz.underlying44 hp0 hpz0 hpz1 hpz2 rfl (by decide) (.slice amv M.length cmv) M.length (prow M) (by rfl) (((Only.refl (fun _ => False) wP).alloc _).owns hownP (fun _ _ h => h)) ⟨wP.heap.size, 0, none⟩ 1 1 (prow [(q2, q3, q4, q5)]) (by rfl) (by rfl) (World.news_of_block (cs := #[.int .i64 q2, .int .i64 q3, .int .i64 q4, .int .i64 q5]) (t := 30) (fr := (0, 0)) (heap_alloc_new wP _)) (p4_one _) (by decide) (by unfold maxLen; omega) (by omega) (by have := hP3.size; rw [World.size_alloc]; omega) _ (by rfl) ?_
           intro g9 cp9 w9 ho9 hg9 ha9 hgl9
           have HO9 := Lib.hid ((hP3.alloc (.cells #[.int .i64 q2, .int .i64 q3, .int .i64 q4, .int .i64 q5] 30)).grow (((Only.refl (fun _ => False) wP).alloc _).owns hownP (fun _ _ h => h)) (Nat.le_refl _) hg9)
           have HOW9 := Lib.hid ho9
           clear ho9 hg9 ha9)
        | (refine step_append_lies _ (by rfl) _ _ 44 (by rfl) w3.heap.size 30 p0 _ 4 32 Tryz.underlying44 hp0 hpz0 hpz1 hpz2 rfl (by decide) (.slice amv M.length cmv) M.length (prow M) (by rfl) hownP ⟨w3.heap.size, 0, none⟩ 1 1 (prow [(q2, q3, q4, q5)]) (by rfl) (by rfl) (World.news_of_block (cs := #[.int .i64 q2, .int .i64 q3, .int .i64 q4, .int .i64 q5]) (t := 30) (fr := (0, 0)) (row_still hOP (heap_alloc_new w3 _))) (p4_one _) (by decide) (by unfold maxLen; omega) (by omega) (by have := hP3.size; omega) _ (by rfl) ?_
           intro g9 cp9 w9 ho9 hg9 ha9 hgl9
           have HO9 := Lib.hid (hP3.grow hownP (Nat.le_refl _) hg9)
           have HOW9 := Lib.hid ho9
           clear ho9 hg9 ha9))
    all_goals (clear HKS)
    all_goals (go_wp2_with fail)
    all_goals (go_meet)
    all_goals (exact ⟨M ++ [(q2, q3, q4, q5)], by rw [List.length_append, prow_append]; exact HOW9.out, by rw [List.length_append]; simp only [List.length_cons, List.length_nil]; omega, HO9.out⟩)
  case rest =>
    obtain ⟨L, hown, hl31, hO⟩ := hcut
    have HOW4 := Lib.hid hown
    have HO4 := Lib.hid (HO3.out.trans hO)
    have HKY4 := Lib.hid (HKY.out.only hO)
    have HZ4 := Lib.hid (row_still hO HZ1.out)
    have hrl : 0 < R.length := by
      rcases Nat.eq_zero_or_pos R.length with h | h
      · have := HOK.out.num
        unfold gridN at this
        rw [h] at this
        simp [gridTo] at this
        omega
      · exact h
    have hkl0 : 0 < K.length := by have := HKL.out; omega
    obtain ⟨kb, ko, rfl, hkb, _, hkc1, hkc2, _⟩ := HKY4.out.cm.cellAt hkl0
    obtain ⟨rb, ro, _, _, rfl, hrb, hrc1, hrc2, _⟩ := grid_row HKY4.out.gr hrl
    obtain ⟨a10, c10, rfl⟩ := slice_of_own hown
    have hw34 := hO.size
    generalize wc = w4 at *
    have hk60 : K.length ≤ 60 := by have := HKL.out; omega
    have e0 : _ = some (Value.slice (some ⟨kb, ko, none⟩) K.length ck) := cell_of_row _ _ 0 _ _ _ HKY4.out.row
    have e1 : _ = some (Value.slice (some ⟨rb, ro, none⟩) R.length cp) := cell_of_row _ _ 1 _ _ _ HKY4.out.row
    have lk4 := own_lt0 HKY4.out.row
    clear hown hO k0 k1 z0 z2 z3 z4 z5 lk lz HKS HPA HKY HZ1 HO3
    go_upto_region 5 with fail
    have hA5 := (Only.refl (fun _ => False) w4).alloc (.cells #[.slice (some ⟨kb, ko, none⟩) K.length ck, .slice (some ⟨rb, ro, none⟩) R.length cp] 41)
    have HO5 := Lib.hid (HO4.out.trans hA5)
    have HKY5 := Lib.hid (HKY4.out.only hA5)
    have HZ5 := Lib.hid (row_still hA5 HZ4.out)
    have HOW5 := Lib.hid (hA5.owns HOW4.out (fun _ _ h => h))
    have HN5 := Lib.hid (heap_alloc_last w4 (.cells #[.slice (some ⟨kb, ko, none⟩) K.length ck, .slice (some ⟨rb, ro, none⟩) R.length cp] 41))
    have HA5 := Lib.hid hA5
    clear hA5 e0 e1 lk4 hkb hrb
    generalize w4.alloc (.cells #[.slice (some ⟨kb, ko, none⟩) K.length ck, .slice (some ⟨rb, ro, none⟩) R.length cp] 41) = w5 at *
    generalize hneq : w4.heap.size = no at *
    have HNEQ := Lib.hid hneq
    clear hneq
    have lo5 := own_lt0 HN5.out
    have HLO5 := Lib.hid lo5
    have e0 : _ = some (Value.slice (some ⟨kb, ko, none⟩) K.length ck) := cell_of_row _ _ 0 _ _ _ HKY5.out.row
    have lk5 := own_lt0 HKY5.out.row
    have HNW := Lib.hid (pts_news (HKY5.out.only ((Only.refl (fun _ => False) w5).alloc (.cells #[] 3))).cm)
    have HEM := Lib.hid (own_empty w5 w5.heap.size 3 1 (Nat.le_refl _))
    have HN6 := Lib.hid (row_still ((Only.refl (fun _ => False) w5).alloc (.cells #[] 3)) HN5.out)
    go_wp2_with (at_builtin; refine wpList_append_lies _ rfl _ _ 34 rfl w5.heap.size 3 t0 _ 1 8 Tryz.underlying34 ht0 htz0 htz1 htz2 rfl (by decide) _ 0 [] rfl HEM.out ⟨kb, ko, none⟩ K.length ck (irow K) rfl (by simp [irow]) HNW.out (irow_one K) hkl0 ?d1 ?d2 ?d3 _ rfl ?_)
    case d1 => unfold maxLen; omega
    case d2 => omega
    intro g cg w6 ho1 hg1 ha1 hgl
    have hO56 : Only (fun i => i = w5.heap.size) (w5.alloc (.cells #[] 3)) w6 := (Only.refl _ _).grown hg1 (fun i e _ => by simpa [Value.ownBlock] using e.symm)
    have hO6 : Only (fun _ => False) w5 w6 := ((Only.refl (fun _ => False) w5).alloc (.cells #[] 3)).trans' hO56 (fun i hi e => by omega)
    have HO6 := Lib.hid hO6
    have HOW6 := Lib.hid ho1
    have HN7 := Lib.hid (row_still hO6 HN5.out)
    have f0 : _ = some (Value.slice (some ⟨kb, ko, none⟩) K.length ck) := cell_of_row _ _ 0 _ _ _ HN7.out
    have f1 := frozen_of_row _ _ 0 _ _ HN7.out
    have f2 := own_lt0 HN7.out
    clear ho1 hg1 ha1 hO56 hO6 HNW HEM HN6 e0 lk5
    go_upto_region 6 with fail
    have HN8 := Lib.hid (show (w6.setCell ⟨no, 0, none⟩ (.slice (some ⟨g, 0, none⟩) K.length cg)).heap[no]? = some (.cells #[.slice (some ⟨g, 0, none⟩) K.length cg, .slice (some ⟨rb, ro, none⟩) R.length cp] 41 (0, 0)) from heap_setCell_same w6 no 0 _ _ _ HN7.out)
    have hgb : w5.heap.size ≤ g := own_low' HOW6.out rfl
    have HOW8 := Lib.hid (ownsRow_setCell_other (a := ⟨no, 0, none⟩) HOW6.out (show (Value.slice (some ⟨g, 0, none⟩) K.length cg).ownBlock ≠ some no from fun e => by
      have : g = no := by simpa [Value.ownBlock] using e
      omega) (.slice (some ⟨g, 0, none⟩) K.length cg))
    have HO48 := Lib.hid (show Only (fun _ => False) w4 (w6.setCell ⟨no, 0, none⟩ (.slice (some ⟨g, 0, none⟩) K.length cg)) from HA5.out.trans' ((HO6.out.mono (T := fun i => i = no) (fun _ _ h => h.elim)).setCell (p := ⟨no, 0, none⟩) (.inl rfl) _) (fun i hi e => by have := HNEQ.out; omega))
    have hlt0 := (HA5.out).size
    have hs58 := HO6.out.size
    have hg45 : w4.heap.size ≤ w5.heap.size := hlt0
    generalize hw8 : w6.setCell ⟨no, 0, none⟩ (.slice (some ⟨g, 0, none⟩) K.length cg) = w8 at *
    clear hw8 HO6 HOW6 HN7 f0 f1 f2 HO5 HKY5 HZ5 HN5 lo5 hlt0 hs58
    -- region 6
    have hmm := Int.emod_nonneg q1 (show (K.length : Int) ≠ 0 by omega)
    have hml := Int.emod_lt_of_pos q1 (show (0 : Int) < K.length by omega)
    obtain ⟨rr, hrr⟩ := Int.eq_ofNat_of_zero_le hmm
    rw [hrr] at hml
    have hrk : rr < K.length := by omega
    have ht1 := Int.lt_tmod_of_pos q1 (show (0 : Int) < K.length by omega)
    have ht2 := Int.tmod_lt_of_pos q1 (show (0 : Int) < K.length by omega)
    have a1 : IntKind.i64.wrap (q1.tmod K.length + K.length) = q1.tmod K.length + K.length := IntWalk.i64_in _ (by omega)
    have a2 : (q1.tmod K.length + K.length).tmod K.length = (rr : Int) := by
      rw [Int.tmod_eq_emod_of_nonneg (by omega)]
      have e := Int.add_mul_emod_self_left (q1.tmod K.length) K.length 1
      rw [Int.mul_one] at e
      rw [e, Int.tmod_def, Int.sub_mul_emod_self_left]
      exact hrr
    have a3 : (0 : Int) < K.length := by omega
    have a4 : K.length ≠ 0 := by omega
    have a5 : (K.length : Int) ≠ 0 := by omega
    have a6 : 0 ≤ (rr : Int) := by omega
    have hcg : K.length ≤ cg ∧ w8.cell? ⟨g, rr, none⟩ = some (.int .i64 (ptAt K rr)) ∧ w8.frozen? ⟨g, rr, none⟩ = false ∧ g < w8.heap.size ∧ cg ≤ 9223372036854775807 := by
      rcases HOW8.out.2 with ⟨_, h0⟩ | ⟨g', cap', cur, hv, hb, hg, hcap, hcap2, hsz, htk⟩
      · omega
      · simp only [Value.slice.injEq, Option.some.injEq, Addr.mk.injEq, and_true, true_and] at hv
        obtain ⟨rfl, rfl⟩ := hv
        refine ⟨hcap, ?_, frozen_of_row _ _ _ _ _ hg, own_lt0 hg, by unfold maxLen at hcap2; omega⟩
        rw [cell_of_row _ _ rr _ _ _ hg]
        have := irow_get K rr hrk
        rw [← htk, List.getElem?_take_of_lt (by omega)] at this
        simpa using this
    obtain ⟨hc1, hc2, hc3, hc4, hc5⟩ := hcg
    have hzr := row_still HO48.out HZ4.out
    have z1 : _ = some (Value.int .i64 q1) := cell_of_row _ _ 1 _ _ _ hzr
    have z2 : _ = some (Value.int .i64 q2) := cell_of_row _ _ 2 _ _ _ hzr
    have lz := own_lt0 hzr
    have o0 : _ = some (Value.slice (some ⟨g, 0, none⟩) K.length cg) := cell_of_row _ _ 0 _ _ _ HN8.out
    have lo := own_lt0 HN8.out
    clear hmm hrr hzr
    generalize hx : ptAt K rr = x at *
    refine wp_region_quiet_split 22 (by kernel_rfl) (by kernel_rfl) (by kernel_rfl) ?_
    simp only [List.take_succ_cons, List.take_zero, List.drop_succ_cons, List.drop_zero]
    repeat (go_big_quiet_step (fail))
    refine wpQuiet_nil ?_
    intro _ hw'
    obtain ⟨nq, hw''⟩ := hw'
    subst hw''
    go_upto_region 7 with fail
    have hsetl : (K.set rr (wrap64 (x + q2))).length = K.length := List.length_set ..
    have HOW9 := Lib.hid (show ((w8.drewN nq).setCell ⟨g, rr, none⟩ (.int .i64 (wrap64 (x + q2)))).ownsRow w5.heap.size 3 1 (.slice (some ⟨g, 0, none⟩) K.length cg) K.length (irow (K.set rr (wrap64 (x + q2)))) by
      have := own_set' (w := w8.drewN nq) (j := rr) (owns_drewN nq HOW8.out) (.int .i64 (wrap64 (x + q2)))
      unfold irow at this ⊢
      rw [List.map_set]
      exact this)
    have HN9 := Lib.hid (show ((w8.drewN nq).setCell ⟨g, rr, none⟩ (.int .i64 (wrap64 (x + q2)))).heap[no]? = some (.cells #[.slice (some ⟨g, 0, none⟩) K.length cg, .slice (some ⟨rb, ro, none⟩) R.length cp] 41 (0, 0)) by
      rw [heap_setCell_other _ _ _ _ (by show no ≠ g; have := HNEQ.out; have := HLO5.out; omega)]
      exact HN8.out)
    have HO49 := Lib.hid (show Only (fun _ => False) w4 ((w8.drewN nq).setCell ⟨g, rr, none⟩ (.int .i64 (wrap64 (x + q2)))) from (HO48.out.drewN nq).setCell (.inr (by show w4.heap.size ≤ g; omega)) _)
    have HOL := Lib.hid (show ((w8.drewN nq).setCell ⟨g, rr, none⟩ (.int .i64 (wrap64 (x + q2)))).ownsRow w3.heap.size 30 4 (.slice a10 L.length c10) L.length (prow L) from HO49.out.owns HOW4.out (fun _ _ h => h))
    generalize (w8.drewN nq).setCell ⟨g, rr, none⟩ (.int .i64 (wrap64 (x + q2))) = w9 at *
    have HKO := Lib.hid (pts_of_own (zs := K.set rr (wrap64 (x + q2))) (by rw [hsetl]; exact HOW9.out) (by rw [hsetl]; omega))
    have HKOL := Lib.hid hsetl
    generalize K.set rr (wrap64 (x + q2)) = KO at *
    have HKY9 := Lib.hid (HKY4.out.only HO49.out)
    have HZ9 := Lib.hid (row_still HO49.out HZ4.out)
    have e0 : _ = some (Value.slice (some ⟨kb, ko, none⟩) K.length ck) := cell_of_row _ _ 0 _ _ _ HKY9.out.row
    have e1 : _ = some (Value.slice (some ⟨rb, ro, none⟩) R.length cp) := cell_of_row _ _ 1 _ _ _ HKY9.out.row
    have lk9 := own_lt0 HKY9.out.row
    have HKS := Lib.hid (show ∀ W, Only (fun _ => False) w9 W → W.cell? ⟨nk, 0, none⟩ = some (.slice (some ⟨kb, ko, none⟩) K.length ck) ∧ W.cell? ⟨nk, 1, none⟩ = some (.slice (some ⟨rb, ro, none⟩) R.length cp) from fun W h => ⟨h.cell e0 id, h.cell e1 id⟩)
    have r1 : (1 : Int) ≤ R.length := by omega
    have r2 : (0 : Int) ≤ R.length := by omega
    have r3 : 1 ≤ R.length := hrl
    have HRL := Lib.hid hrl
    clear hc1 hc2 hc3 hc4 hc5 z1 z2 lz o0 lo a1 a2 a3 a4 a5 a6 ht1 ht2 hx hsetl hrk hml hrl HOW8 HN8 HO48
    go_cut [12] (fun v12 wx => ∃ (B : Nat) (ap' : Option Addr) (cp' : Nat), v12 = .pointer (some ⟨B, 0, none⟩) ∧ wx.heap[B]? = some (.cells #[.slice (some ⟨kb, ko, none⟩) K.length ck, .slice ap' (R.length - 1) cp'] 41 (0, 0)) ∧ GridAt wx (.slice ap' (R.length - 1) cp') (R.drop 1) ∧ Only (fun _ => False) w9 wx)
    case first =>
      by_cases hcp : cp = 1
      · have hr1 : R.length = 1 := by omega
        have HRD := Lib.hid (show R.drop 1 = [] from List.drop_eq_nil_of_le (by omega))
        have e1 : w9.cell? ⟨nk, 1, none⟩ = some (Value.slice (some ⟨rb, ro, none⟩) 1 1) := by rw [e1, hr1, hcp]
        have HKS := Lib.hid (show ∀ W, Only (fun _ => False) w9 W → W.cell? ⟨nk, 0, none⟩ = some (.slice (some ⟨kb, ko, none⟩) K.length ck) ∧ W.cell? ⟨nk, 1, none⟩ = some (.slice (some ⟨rb, ro, none⟩) 1 1) from fun W h => ⟨h.cell e0 id, h.cell e1 id⟩)
        have HR1 := Lib.hid hr1
        clear hr1 hcp
        go_region_held3 (fun w' => w'.cell? ⟨nk, 0, none⟩ = some (.slice (some ⟨kb, ko, none⟩) K.length ck) ∧ w'.cell? ⟨nk, 1, none⟩ = some (.slice (some ⟨rb, ro, none⟩) 1 1))
          (first
            | with_reducible exact HKS.out _ ((Only.refl _ w9).drew)
            | exact HKS.out _ (((Only.refl _ w9).drew).alloc _)
            | exact HKS.out _ (((Only.refl _ w9).alloc _).drew))
          (fail)
        all_goals (clear HKS)
        all_goals (go_wp2_with fail)
        all_goals go_meet
        all_goals (exact ⟨w9.heap.size, some ⟨rb, ro, none⟩, 0, rfl, by rw [HR1.out]; exact heap_alloc_last w9 _, .inl ⟨_, _, by rw [HR1.out], HRD.out⟩, ((Only.refl _ w9).alloc _).drew⟩)
      · go_region_held3 (fun w' => w'.cell? ⟨nk, 0, none⟩ = some (.slice (some ⟨kb, ko, none⟩) K.length ck) ∧ w'.cell? ⟨nk, 1, none⟩ = some (.slice (some ⟨rb, ro, none⟩) R.length cp))
          (first
            | with_reducible exact HKS.out _ ((Only.refl _ w9).drew)
            | exact HKS.out _ (((Only.refl _ w9).drew).alloc _)
            | exact HKS.out _ (((Only.refl _ w9).alloc _).drew))
          (fail)
        all_goals (clear HKS)
        all_goals (go_wp2_with fail)
        all_goals go_meet
        all_goals (exact ⟨w9.heap.size, _, _, rfl, heap_alloc_last w9 _, ((grid_drop HKY9.out.gr (by omega)).only ((Only.refl (fun _ => False) w9).alloc _)).only ((Only.refl (fun _ => False) _).drew), ((Only.refl _ w9).alloc _).drew⟩)
    case rest =>
      obtain ⟨B, ap', cp', rfl, hB, hGD, hO⟩ := hcut
      have HO10 := Lib.hid (HO49.out.trans hO)
      have HKYa := Lib.hid (HKY9.out.only hO)
      have HZa := Lib.hid (row_still hO HZ9.out)
      have HNa := Lib.hid (row_still hO HN9.out)
      have HBa := Lib.hid hB
      have HLa := Lib.hid (hO.owns HOL.out (fun _ _ h => h))
      have HW10 := Lib.hid (HO4.out.trans HO10.out)
      have hgd : ∀ k, k ≤ (R.drop 1).length → gridTo (R.drop 1) k ≤ 1000000 := fun k hk => by
        rw [List.length_drop] at hk
        have h1 := gridTo_drop R k
        have h2 := HOK.out.grid (k + 1) (by have := HRL.out; omega)
        omega
      have hdl : (R.drop 1).length = R.length - 1 := List.length_drop ..
      have HK0 := Lib.hid (show KvAt wc (.slice (some ⟨kb, ko, none⟩) K.length ck) (.slice (some ⟨rb, ro, none⟩) R.length cp) from ⟨_, _, _, _, K, R, rfl, rfl, HKYa.out.cm, HKYa.out.gr, HOK.out.grid, by omega⟩)
      have HK1 := Lib.hid (show KvAt wc (.slice (some ⟨g, 0, none⟩) K.length cg) (.slice (some ⟨rb, ro, none⟩) R.length cp) from ⟨_, _, _, _, KO, R, by rw [HKOL.out], rfl, by rw [HKOL.out]; exact HKO.out.only hO, HKYa.out.gr, HOK.out.grid, by rw [HKOL.out]; omega⟩)
      have HK2 := Lib.hid (show KvAt wc (.slice (some ⟨kb, ko, none⟩) K.length ck) (.slice ap' (R.length - 1) cp') from ⟨_, _, _, _, K, R.drop 1, rfl, by rw [hdl], HKYa.out.cm, by rw [hdl]; exact hGD, hgd, by omega⟩)
      have HK3 := Lib.hid (kv_nil wc)
      generalize wc = wA at *
      have HP4 := Lib.hid (p4s_of_own HLa.out)
      clear hO hGD hB hgd hdl HO10 HO49 HKY9 HZ9 HN9 HO4 HKY4 HZ4 HOL HKO HKOL HRL e0 e1 lk9 r1 r2 r3 HKS HOW9 HNEQ HLO5 HA5 HOW5 HOW4 hgb
      go_wp2_with fail
      go_loopw [13] (fun vi wr => ∃ k : Nat, k ≤ L.length ∧ vi = .int .i64 k ∧ Only (fun _ => False) wA wr) (fun vi _ => L.length - (intOf vi).toNat)
      case atStart => exact ⟨0, Nat.zero_le _, rfl, Only.refl _ _⟩
      case round =>
        obtain ⟨k, hk, rfl, hO⟩ := hrel
        have HO := Lib.hid hO
        have i2 : 0 ≤ (k : Int) := by omega
        by_cases hlt : k < L.length
        · have i1 : (k : Int) < L.length := by omega
          obtain ⟨lb, lo, rfl, hlb, hlc1, hlc2, m0, m1, m2, m3⟩ := (HP4.out.only hO).at hlt
          have e0 : _ = some (Value.slice (some ⟨kb, ko, none⟩) K.length ck) := cell_of_row _ _ 0 _ _ _ (row_still hO HKYa.out.row)
          have e1 : _ = some (Value.slice (some ⟨rb, ro, none⟩) R.length cp) := cell_of_row _ _ 1 _ _ _ (row_still hO HKYa.out.row)
          have n0 : _ = some (Value.slice (some ⟨g, 0, none⟩) K.length cg) := cell_of_row _ _ 0 _ _ _ (row_still hO HNa.out)
          have n1 : _ = some (Value.slice (some ⟨rb, ro, none⟩) R.length cp) := cell_of_row _ _ 1 _ _ _ (row_still hO HNa.out)
          have b0 : _ = some (Value.slice (some ⟨kb, ko, none⟩) K.length ck) := cell_of_row _ _ 0 _ _ _ (row_still hO HBa.out)
          have b1 : _ = some (Value.slice ap' (R.length - 1) cp') := cell_of_row _ _ 1 _ _ _ (row_still hO HBa.out)
          have l1 := own_lt0 (row_still hO HKYa.out.row)
          have l2 := own_lt0 (row_still hO HNa.out)
          have l3 := own_lt0 (row_still hO HBa.out)
          go_upto_block 2 with fail
          have hAr := (Only.refl (fun _ => False) wr).alloc (.cells #[.slice (some ⟨kb, ko, none⟩) K.length ck, .slice (some ⟨rb, ro, none⟩) R.length cp, .slice (some ⟨g, 0, none⟩) K.length cg, .slice (some ⟨rb, ro, none⟩) R.length cp, .slice (some ⟨kb, ko, none⟩) K.length ck, .slice ap' (R.length - 1) cp', .slice none 0 0, .slice none 0 0] 41)
          have hAW := hO.trans hAr
          have HFO := Lib.hid (kv_four (heap_alloc_last wr (.cells #[.slice (some ⟨kb, ko, none⟩) K.length ck, .slice (some ⟨rb, ro, none⟩) R.length cp, .slice (some ⟨g, 0, none⟩) K.length cg, .slice (some ⟨rb, ro, none⟩) R.length cp, .slice (some ⟨kb, ko, none⟩) K.length ck, .slice ap' (R.length - 1) cp', .slice none 0 0, .slice none 0 0] 41)) (HK0.out.only hAW) (HK1.out.only hAW) (HK2.out.only hAW) (HK3.out.only hAW))
          have HOB := Lib.hid hAW
          have HMS := Lib.hid (show ∀ W, Only (fun _ => False) wr W → W.cell? ⟨lb, lo + k * 4, none⟩ = some (.int .i64 (p4At L k).1) ∧ W.cell? ⟨lb, lo + k * 4 + 1, none⟩ = some (.int .i64 (p4At L k).2.1) ∧ W.cell? ⟨lb, lo + k * 4 + 2, none⟩ = some (.int .i64 (p4At L k).2.2.1) ∧ W.cell? ⟨lb, lo + k * 4 + 3, none⟩ = some (.int .i64 (p4At L k).2.2.2) from fun W h => ⟨h.cell m0 id, h.cell m1 id, h.cell m2 id, h.cell m3 id⟩)
          have HAr := Lib.hid hAr
          clear hAr hAW hO e0 e1 n0 n1 b0 b1 l1 l2 l3 m0 m1 m2 m3 HO
          generalize wr.alloc (.cells #[.slice (some ⟨kb, ko, none⟩) K.length ck, .slice (some ⟨rb, ro, none⟩) R.length cp, .slice (some ⟨g, 0, none⟩) K.length cg, .slice (some ⟨rb, ro, none⟩) R.length cp, .slice (some ⟨kb, ko, none⟩) K.length ck, .slice ap' (R.length - 1) cp', .slice none 0 0, .slice none 0 0] 41) = wB at *
          generalize p4At L k = p at *
          obtain ⟨px, pv, pc, pz⟩ := p
          dsimp only at HMS
          generalize hgr : wr.heap.size = gr at *
          clear hgr
          go_wp2_with fail
          obtain ⟨wo, hwo⟩ : ∃ wo : World, wo = wr := ⟨_, rfl⟩
          subst hwo
          go_loopw [86] (fun vi wr => ∃ t : Nat, t ≤ 4 ∧ vi = .int .i64 t ∧ Only (fun _ => False) wB wr) (fun vi _ => 4 - (intOf vi).toNat)
          case atStart => exact ⟨0, Nat.zero_le _, rfl, Only.refl _ _⟩
          case round =>
            obtain ⟨t, ht, rfl, hO⟩ := hrel
            have HO := Lib.hid hO
            have j2 : 0 ≤ (t : Int) := by omega
            by_cases htl : t < 4
            · have j1 : (t : Int) < 4 := by omega
              obtain ⟨xc, xp, x0', x1', hkv⟩ := HFO.out t htl
              have x0 := hO.cell x0' id
              have x1 := hO.cell x1' id
              have hxb := World.block_lt_of_cell? _ _ x0
              have HKV := Lib.hid (hkv.only hO)
              obtain ⟨xak, xap, xck, xcp, XK, XR, rfl, rfl, hxp, hxg, hxs, hxl⟩ := hkv
              obtain ⟨m0, m1, m2, m3⟩ := HMS.out _ (HAr.out.trans hO)
              have z0 : _ = some (Value.int .i64 q0) := cell_of_row _ _ 0 _ _ _ (row_still (HOB.out.trans hO) HZa.out)
              have HWr := Lib.hid (HW10.out.trans (HOB.out.trans hO))
              clear x0' x1' hO
              have HXP := Lib.hid hxp
              have HXG := Lib.hid hxg
              have HXS := Lib.hid hxs
              clear hxp hxg hxs
              go_upto_region 14 with fail
              have hAx := (Only.refl (fun _ => False) wr).alloc (.cells #[.slice xak XK.length xck, .slice xap XR.length xcp] 41)
              have hzx := heap_alloc_last wr (.cells #[.slice xak XK.length xck, .slice xap XR.length xcp] 41)
              have k0 : _ = some (Value.slice xak XK.length xck) := cell_of_row _ _ 0 _ _ _ hzx
              have k1 : _ = some (Value.slice xap XR.length xcp) := cell_of_row _ _ 1 _ _ _ hzx
              have m0 := hAx.cell m0 id
              have m1 := hAx.cell m1 id
              have m2 := hAx.cell m2 id
              have m3 := hAx.cell m3 id
              have z0 := hAx.cell z0 id
              have HGx := Lib.hid (HGW.out _ (HWr.out.trans hAx))
              have HOx := Lib.hid (HO.out.trans hAx)
              have HXPx := Lib.hid (HXP.out.only HOx.out)
              have HXGx := Lib.hid (HXG.out.only HOx.out)
              have HVB := Lib.hid (fun W (hW : Only (fun _ => False) _ W) => bverify_any xak xap xck xcp XK XR q0 px pv pc pz W (HXPx.out.only hW) (HXGx.out.only hW) HXS.out hxl h0a h0b (HGx.out.only hW))
              have HVR := Lib.hid (fun W (hW : Only (fun _ => False) _ W) => rverify9_any xak xap xck xcp XK XR q0 px pv pc pz W (HXPx.out.only hW) (HXGx.out.only hW) HXS.out hxl h0a h0b)
              generalize (rightKB XR XK && acB (gridN XR : Nat) XK q0 (px, pv, pc, pz)) = bb at *
              have q1 : (bb != bb) = false := by cases bb <;> rfl
              have y0 := fun (d : Nat) (os : Array Obj) => cell_regrown z0 d os
              have y1 := fun (d : Nat) (os : Array Obj) => cell_regrown k0 d os
              have y2 := fun (d : Nat) (os : Array Obj) => cell_regrown k1 d os
              have n0 := fun (d : Nat) (os : Array Obj) => cell_regrown m0 d os
              have n1 := fun (d : Nat) (os : Array Obj) => cell_regrown m1 d os
              have n2 := fun (d : Nat) (os : Array Obj) => cell_regrown m2 d os
              have n3 := fun (d : Nat) (os : Array Obj) => cell_regrown m3 d os
              clear hAx hzx z0 k0 k1 m0 m1 m2 m3 x0 x1
              generalize hwx : wr.alloc (.cells #[.slice xak XK.length xck, .slice xap XR.length xcp] 41) = wx at *
              clear hwx
              refine wp_region_quiet_below (by kernel_rfl) (by kernel_rfl) ?_
              repeat (go_big_quiet_step ((first | (go_at_call 17; exact Calls.regrown_of ((HVB.out _ (Only.ofBelow (below_regrown _ _ _) _)).mono fun _ _ h => ⟨h.1, h.2.below (Nat.le_refl _) (fun _ _ h => h)⟩)) | (go_at_call 18; exact Calls.regrown_of ((HVR.out _ (Only.ofBelow (below_regrown _ _ _) _)).mono fun _ _ h => ⟨h.1, h.2.below (Nat.le_refl _) (fun _ _ h => h)⟩)))))
              refine wpQuiet_nil ?_
              intro w8 hw'
              obtain ⟨pq, hw''⟩ := hw'
              have HO8 := Lib.hid (HOx.out.trans (Only.ofBelow (below_regrown wx pq.d pq.os) (fun _ => False)))
              rw [← hw''] at HO8
              clear hw'' y0 y1 y2 n0 n1 n2 n3
              go_wp2
              go_roundw
              case rel => exact ⟨t + 1, by omega, by go_num, HO8.out⟩
              case measure => simp [intOf]; omega
            · obtain rfl : t = 4 := by omega
              have j1 : ¬ ((4 : Nat) : Int) < 4 := by omega
              have HOX := Lib.hid (HOB.out.trans hO)
              clear hO
              go_wp2
              go_roundw
              case rel => exact ⟨k + 1, by omega, by go_num, HOX.out⟩
              case measure => simp [intOf]; omega
        · obtain rfl : k = L.length := by omega
          have i1 : ¬ (L.length : Int) < L.length := by omega
          have HOF := Lib.hid (HW10.out.trans hO)
          clear hO
          go_wp2
          go_ret
          exact ⟨rfl, HOF.out.below (Nat.le_refl _) (fun _ _ h => h)⟩
end Go.Proofs.YtlhfgbkonmgahaaGreatDoor
