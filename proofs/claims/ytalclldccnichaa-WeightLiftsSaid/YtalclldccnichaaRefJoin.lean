/-
  The reference's Join and Lift.
-/
import Derived.Test.YtalclldccnichaaLaws8
namespace Go.Proofs.Ytalclldccnichaa
open Go.RowKit

set_option maxHeartbeats 400000 in
theorem rcounting_nil (lifted : Bool) (a : Option Addr) (c : Nat) (w : World) :
    Calls Try.prog 47 #[.slice a 0 c, .bool lifted] w fun e w' => e = .returned (.slice none 0 0) ∧ w = w' := by
  go_enter Try.func47, Try.ntmps47
  go_wp2_with fail
  go_loopw [5, 6] (fun v vi wr => v = .slice none 0 0 ∧ vi = .int .i64 0 ∧ w = wr) (fun _ _ _ => 0)
  case atStart => exact ⟨rfl, rfl, rfl⟩
  case round =>
    obtain ⟨rfl, rfl, rfl⟩ := hrel
    go_wp2
    go_ret
    exact ⟨rfl, rfl⟩
theorem rcounting_any (lifted : Bool) (sv : Value) (l : List (Int × Int)) (w : World) (hlen : l.length ≤ 1000000) (hs : ShsAt w sv l) :
    Calls Try.prog 47 #[sv, .bool lifted] w fun e w' => ∃ v, e = .returned v ∧ w'.ownsRow w.heap.size 43 2 v (gdTo (perOf lifted) l l.length).length (srow (gdTo (perOf lifted) l l.length)) ∧ Only (fun _ => False) w w' := by
  rcases hs with ⟨a, c, rfl, rfl⟩ | ⟨b, off, cap, rfl, hb, h1, h2, hc⟩
  · refine (rcounting_nil lifted a c w).mono ?_
    rintro e w' ⟨rfl, rfl⟩
    exact ⟨_, rfl, World.ownsRow_nil _ _ _ _, Only.refl _ _⟩
  · exact rcounting_some lifted b off cap l w hlen h1 h2 hb hc
theorem shAt_take (l : List (Int × Int)) (n j : Nat) (h : j < n) : shAt (l.take n) j = shAt l j := by
  unfold shAt; simp only [List.getD, List.getElem?_take_of_lt h]

set_option maxHeartbeats 1000000 in
theorem rjoin_any (need : Int) (sv : Value) (l : List (Int × Int)) (z : Int) (bb : Bool) (w : World) (hlen : l.length ≤ 1000000) (hneed2 : need ≤ 1000000) (hs : ShsAt w sv l) (hz : joinZ need l = z) (hb : enB insB need l = bb) :
    Calls Try.prog 19 #[.int .i64 need, sv] w fun e w' => e = .returned (.tuple #[.int .i64 z, .bool bb]) ∧ Only (fun _ => False) w w' := by
  have HC := Lib.hid (rcounting_any false sv l w hlen hs)
  have HZ := Lib.hid hz
  obtain ⟨a, n, c, rfl⟩ := hs.slice
  have hgl := gdTo_len insB l l.length
  have hgk := (cntTo_len insB l l.length).2
  have HGL := Lib.hid hgl
  have HFS := Lib.hid (gdTo_fst insB l l.length)
  have HSN := Lib.hid (gdTo_snd insB l l.length)
  have HPO := Lib.hid (show perOf false = insB from rfl)
  clear hz hs
  go_enter Try.func19, Try.ntmps19
  go_wp2_with fail
  refine HC.out.mono ?_
  rintro e w1 ⟨v, rfl, hown, hO⟩
  rw [HPO.out] at hown
  clear HC
  obtain ⟨a1, c1, rfl⟩ := slice_of_own hown
  have HO := Lib.hid hO
  by_cases h1 : need < 1
  · have HBB := Lib.hid (show bb = false by rw [← hb]; unfold enB; rw [decide_eq_false (show ¬ 1 ≤ need by omega)]; rfl)
    have HZZ := Lib.hid (show z = 0 by rw [← HZ.out]; unfold joinZ; rw [hb, HBB.out]; rfl)
    clear hb hown hO hgl hgk
    go_wp2
    go_ret2
    refine ⟨?_, HO.out⟩
    rw [HBB.out, HZZ.out]; rfl
  · by_cases h2 : ((gdTo insB l l.length).length : Int) < need
    · have HBB := Lib.hid (show bb = false by rw [← hb]; unfold enB cntP; rw [← hgl, decide_eq_false (show ¬ need ≤ ((gdTo insB l l.length).length : Int) by omega), Bool.and_false])
      have HZZ := Lib.hid (show z = 0 by rw [← HZ.out]; unfold joinZ; rw [hb, HBB.out]; rfl)
      clear hb hown hO hgl hgk
      generalize (gdTo insB l l.length).length = gn at *
      go_wp2
      go_ret2
      refine ⟨?_, HO.out⟩
      rw [HBB.out, HZZ.out]; rfl
    · have hen : enB insB need l = true := by unfold enB cntP; rw [← hgl, decide_eq_true (show 1 ≤ need by omega), decide_eq_true (show need ≤ ((gdTo insB l l.length).length : Int) by omega)]; rfl
      have HBB := Lib.hid (show bb = true by rw [← hb, hen])
      have HZE := Lib.hid (show shareRZ (((gdTo insB l l.length).take need.toNat).map Prod.fst) (((gdTo insB l l.length).take need.toNat).map Prod.snd) = z by
        rw [List.map_take, List.map_take, HFS.out, HSN.out, ← HZ.out, join_eq need l hen]; rfl)
      have HSE := Lib.hid (show shareB (((gdTo insB l l.length).take need.toNat).map Prod.fst) (((gdTo insB l l.length).take need.toNat).map Prod.snd) = true by
        rw [List.map_take, List.map_take, HFS.out, HSN.out]; exact take_share insB need l hen)
      obtain ⟨m, rfl⟩ : ∃ m : Nat, need = m := ⟨need.toNat, by omega⟩
      simp only [Int.toNat_natCast] at HZE HSE
      rcases shs_of_own hown (by omega) with ⟨_, _, _, hg0⟩ | ⟨gb, goff, gcap, hgv, hgl2, hgc1, hgc2, hgc⟩
      · rw [hg0] at h2; simp at h2; omega
      · simp only [Value.slice.injEq, true_and] at hgv
        obtain ⟨rfl, rfl⟩ := hgv
        have hm : m ≤ (gdTo insB l l.length).length := by omega
        have HGC := Lib.hid (show ∀ j, j < ((gdTo insB l l.length).take m).length → w1.cell? ⟨gb, goff + j * 2, none⟩ = some (.int .i64 (shAt ((gdTo insB l l.length).take m) j).1) ∧ w1.cell? ⟨gb, goff + j * 2 + 1, none⟩ = some (.int .i64 (shAt ((gdTo insB l l.length).take m) j).2) from fun j hj => by
          rw [List.length_take] at hj
          rw [shAt_take _ m j (by omega)]; exact hgc j (by omega))
        have hgn : (gdTo insB l l.length).length ≤ 1000000 := by omega
        have HTL := Lib.hid (show ((gdTo insB l l.length).take m).length = m by rw [List.length_take]; omega)
        have hm0 : 1 ≤ m := by omega
        clear hb hown hO hgl hgk hen hgc h1 h2 HZ HFS HSN HGL
        generalize gdTo insB l l.length = G at *
        generalize G.take m = T at *
        have HSP := Lib.hid (rsplit_some gb goff c1 T w1 (by rw [HTL.out]; omega) (by rw [HTL.out]; omega) hgc2 hgl2 HGC.out)
        rw [HTL.out] at HSP
        go_wp2_with fail
        refine HSP.out.mono ?_
        rintro e w2 ⟨p, q, rfl, hp, hq, hO2⟩
        have HSH := Lib.hid (rshare_any p q _ _ z true w2 (by rw [List.length_map, HTL.out]; omega) hp hq HZE.out HSE.out)
        have HO3 := Lib.hid (HO.out.trans hO2)
        obtain ⟨a3, c3, rfl⟩ := hp.slice
        obtain ⟨a4, c4, rfl⟩ := hq.slice
        clear hp hq hO2 HSP
        simp only [List.length_map] at HSH
        simp only [List.length_map]
        go_wp2_with fail
        refine HSH.out.mono ?_
        rintro e w3 ⟨rfl, hO4⟩
        have HO5 := Lib.hid (HO3.out.trans hO4)
        clear hO4 HSH
        go_wp2
        go_ret2
        refine ⟨?_, HO5.out⟩
        rw [HBB.out]; rfl
set_option maxHeartbeats 1000000 in
theorem rlifted_any (need : Int) (sv : Value) (l : List (Int × Int)) (z : Int) (bb : Bool) (w : World) (hlen : l.length ≤ 1000000) (hneed2 : need ≤ 1000000) (hs : ShsAt w sv l) (hz : liftedZ need l = z) (hb : enB memB need l = bb) :
    Calls Try.prog 20 #[.int .i64 need, sv] w fun e w' => e = .returned (.tuple #[.int .i64 z, .bool bb]) ∧ Only (fun _ => False) w w' := by
  have HC := Lib.hid (rcounting_any true sv l w hlen hs)
  have HZ := Lib.hid hz
  obtain ⟨a, n, c, rfl⟩ := hs.slice
  have hgl := gdTo_len memB l l.length
  have hgk := (cntTo_len memB l l.length).2
  have HGL := Lib.hid hgl
  have HFS := Lib.hid (gdTo_fst memB l l.length)
  have HSN := Lib.hid (gdTo_snd memB l l.length)
  have HPO := Lib.hid (show perOf true = memB from rfl)
  clear hz hs
  go_enter Try.func20, Try.ntmps20
  go_wp2_with fail
  refine HC.out.mono ?_
  rintro e w1 ⟨v, rfl, hown, hO⟩
  rw [HPO.out] at hown
  clear HC
  obtain ⟨a1, c1, rfl⟩ := slice_of_own hown
  have HO := Lib.hid hO
  by_cases h1 : need < 1
  · have HBB := Lib.hid (show bb = false by rw [← hb]; unfold enB; rw [decide_eq_false (show ¬ 1 ≤ need by omega)]; rfl)
    have HZZ := Lib.hid (show z = 0 by rw [← HZ.out]; unfold liftedZ; rw [hb, HBB.out]; rfl)
    clear hb hown hO hgl hgk
    go_wp2
    go_ret2
    refine ⟨?_, HO.out⟩
    rw [HBB.out, HZZ.out]; rfl
  · by_cases h2 : ((gdTo memB l l.length).length : Int) < need
    · have HBB := Lib.hid (show bb = false by rw [← hb]; unfold enB cntP; rw [← hgl, decide_eq_false (show ¬ need ≤ ((gdTo memB l l.length).length : Int) by omega), Bool.and_false])
      have HZZ := Lib.hid (show z = 0 by rw [← HZ.out]; unfold liftedZ; rw [hb, HBB.out]; rfl)
      clear hb hown hO hgl hgk
      generalize (gdTo memB l l.length).length = gn at *
      go_wp2
      go_ret2
      refine ⟨?_, HO.out⟩
      rw [HBB.out, HZZ.out]; rfl
    · have hen : enB memB need l = true := by unfold enB cntP; rw [← hgl, decide_eq_true (show 1 ≤ need by omega), decide_eq_true (show need ≤ ((gdTo memB l l.length).length : Int) by omega)]; rfl
      have HBB := Lib.hid (show bb = true by rw [← hb, hen])
      have HZE := Lib.hid (show liftRTo (((gdTo memB l l.length).take need.toNat).map Prod.fst) (((gdTo memB l l.length).take need.toNat).map Prod.snd) need.toNat = z by
        rw [List.map_take, List.map_take, HFS.out, HSN.out, ← HZ.out, lifted_eq need l hen]; rfl)
      obtain ⟨m, rfl⟩ : ∃ m : Nat, need = m := ⟨need.toNat, by omega⟩
      simp only [Int.toNat_natCast] at HZE
      rcases shs_of_own hown (by omega) with ⟨_, _, _, hg0⟩ | ⟨gb, goff, gcap, hgv, hgl2, hgc1, hgc2, hgc⟩
      · rw [hg0] at h2; simp at h2; omega
      · simp only [Value.slice.injEq, true_and] at hgv
        obtain ⟨rfl, rfl⟩ := hgv
        have hm : m ≤ (gdTo memB l l.length).length := by omega
        have HGC := Lib.hid (show ∀ j, j < ((gdTo memB l l.length).take m).length → w1.cell? ⟨gb, goff + j * 2, none⟩ = some (.int .i64 (shAt ((gdTo memB l l.length).take m) j).1) ∧ w1.cell? ⟨gb, goff + j * 2 + 1, none⟩ = some (.int .i64 (shAt ((gdTo memB l l.length).take m) j).2) from fun j hj => by
          rw [List.length_take] at hj
          rw [shAt_take _ m j (by omega)]; exact hgc j (by omega))
        have hgn : (gdTo memB l l.length).length ≤ 1000000 := by omega
        have HTL := Lib.hid (show ((gdTo memB l l.length).take m).length = m by rw [List.length_take]; omega)
        have hm0 : 1 ≤ m := by omega
        clear hb hown hO hgl hgk hen hgc h1 h2 HZ HFS HSN HGL
        generalize gdTo memB l l.length = G at *
        generalize G.take m = T at *
        have HSP := Lib.hid (rsplit_some gb goff c1 T w1 (by rw [HTL.out]; omega) (by rw [HTL.out]; omega) hgc2 hgl2 HGC.out)
        rw [HTL.out] at HSP
        go_wp2_with fail
        refine HSP.out.mono ?_
        rintro e w2 ⟨p, q, rfl, hp, hq, hO2⟩
        have HFA := Lib.hid (rfactors_any p (T.map Prod.fst) w2 hp (by rw [List.length_map, HTL.out]; omega) (by rw [List.length_map, HTL.out]; omega))
        have HO3 := Lib.hid (HO.out.trans hO2)
        have HQ := Lib.hid hq
        obtain ⟨a3, c3, rfl⟩ := hp.slice
        obtain ⟨a4, c4, rfl⟩ := hq.slice
        clear hp hq hO2 HSP
        simp only [List.length_map] at HFA HQ
        simp only [List.length_map]
        rw [HTL.out] at HFA HQ
        rw [HTL.out]
        go_wp2_with fail
        refine HFA.out.mono ?_
        rintro e w3 ⟨vf, rfl, hF, hO4⟩
        have HO5 := Lib.hid (HO3.out.trans hO4)
        have hQ3 := HQ.out.only hO4
        have HQL := Lib.hid (show (T.map Prod.snd).length = m by rw [List.length_map, HTL.out])
        have hfl : (facs (T.map Prod.fst)).length = m := by unfold facs; rw [facsTo_len, List.length_map, HTL.out]
        have HXL := Lib.hid (show (T.map Prod.fst).length = m by rw [List.length_map, HTL.out])
        clear HQ HFA HO3 hO4
        generalize T.map Prod.fst = zs at *
        generalize T.map Prod.snd = ns at *
        rcases hF with ⟨_, _, _, hf0⟩ | ⟨fb, foff, fcap, rfl, hfb, hfc1, hfc2, hfc⟩
        · rw [hf0] at hfl; simp at hfl; omega
        rcases hQ3 with ⟨_, _, _, hn0⟩ | ⟨nb, noff, ncap, hnv, hnb, hnc1, hnc2, hnc⟩
        · have := HQL.out; rw [hn0] at this; simp at this; omega
        rw [HQL.out] at hnv hnc hnc1
        simp only [Value.slice.injEq, true_and] at hnv
        obtain ⟨rfl, rfl⟩ := hnv
        rw [hfl] at hfc hfc1
        have HFC := Lib.hid (show ∀ j, j < m → w3.cell? ⟨fb, foff + j, none⟩ = some (.int .i64 (facR zs j)) from fun j hj => by rw [hfc j hj]; unfold facs; rw [facsTo_at zs _ j (by rw [HXL.out]; exact hj)])
        have HNC := Lib.hid hnc
        rw [hfl]
        clear hfl hfc hnc
        go_wp2_with fail
        go_loopw [10, 11] (fun vs vj wi => ∃ (j n : Nat), j ≤ m ∧ vj = .int .i64 j ∧ vs = .int .i64 (liftRTo zs ns j) ∧ wi = w3.drewN n) (fun _ vj _ => m - (intOf vj).toNat)
        case atStart => exact ⟨0, 0, Nat.zero_le _, rfl, rfl, rfl⟩
        case round =>
          obtain ⟨j, n, hj, rfl, rfl, rfl⟩ := hrel
          by_cases hjl : j < m
          · have p0 := HFC.out j hjl
            have p1 := HNC.out j hjl
            have HST := Lib.hid (show liftRTo zs ns (j + 1) = liftRTo zs ns j * powM (ptAt ns j) (facR zs j) 2305843009213691579 % 2305843009213691579 from rfl)
            have hfb2 : 0 ≤ facR zs j ∧ facR zs j < 1152921504606845789 := facTo_bd zs j zs.length
            obtain ⟨f0, f1⟩ := hfb2
            generalize facR zs j = f at *
            generalize ptAt ns j = u at *
            generalize liftRTo zs ns j = s at *
            have hf2 : f ≤ 9223372036854775807 := by omega
            go_wp2_with fail
            go_quiet (first
              | (go_at_call 17; exact quiet_add_left (rpow_any u f 2305843009213691579 _ (by decide) (by decide) f0 hf2))
              | (go_at_call 43; exact quiet_add_left (rmul_any s (powM u f 2305843009213691579) 2305843009213691579 _ (by decide) (by decide))))
            go_wp2
            go_roundw
            case rel => exact ⟨j + 1, n + nq, by omega, by go_num, by rw [HST.out], by first | rfl | trivial⟩
            case measure => simp [intOf]; omega
          · obtain rfl : j = m := by omega
            have HO6 := Lib.hid (HO5.out.drewN n)
            clear HO5
            go_wp2
            go_ret2
            refine ⟨?_, HO6.out⟩
            rw [HBB.out, ← HZE.out]; rfl
end Go.Proofs.Ytalclldccnichaa
