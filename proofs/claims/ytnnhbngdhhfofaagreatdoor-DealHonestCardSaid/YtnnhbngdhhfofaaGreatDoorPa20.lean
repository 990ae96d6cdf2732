/-
  The walk of the law DealHonest.
-/
import Derived.Test.YtnnhbngdhhfofaaGreatDoorPa19
import Derived.Test.YtnnhbngdhhfofaaGreatDoorPa18
import Derived.Test.YtnnhbngdhhfofaaGreatDoorPa16
import Derived.Test.YtnnhbngdhhfofaaGreatDoorPa17
namespace Go.Proofs.YtnnhbngdhhfofaaGreatDoor
open Go.RowKit

set_option maxRecDepth 100000 in
set_option maxHeartbeats 8000000 in
theorem hn_walk (sv cv : Value) (S C : List Int) (seed : ByteArray) (ci ck cc cz q0 q1 : Int) (w : World) (hS : PtsAt w.heap.size w sv S) (hC : PtsAt w.heap.size w cv C) (hSl : S.length ≤ 9223372036854775807) (hCl : C.length ≤ 9223372036854775807) (hsd : seed.size ≤ 148000000000000)
    (hG : Glob w) :
    Calls Tryz.prog 3 #[.agg #[sv, cv, .string seed], .agg #[.int .i64 ci, .int .i64 ck, .int .i64 cc, .int .i64 cz], .agg #[.int .i64 q0, .int .i64 q1]] w fun e w' => e = .returned (.bool true) ∧ Below w.heap.size w w' := by
  obtain ⟨i0, hi0, hz0, hz1, hz2⟩ := info_parts Tryz.infoI
  obtain ⟨a0, c0, rfl⟩ := hS.slice
  obtain ⟨a1, c1, rfl⟩ := hC.slice
  have hA := (((Only.refl (fun _ => False) w).alloc (.cells #[.slice a0 S.length c0, .slice a1 C.length c1, .string seed] 24)).alloc (.cells #[.int .i64 ci, .int .i64 ck, .int .i64 cc, .int .i64 cz] 28)).alloc (.cells #[.int .i64 q0, .int .i64 q1] 29)
  have hzp := (Below.heap_alloc ((w.alloc (.cells #[.slice a0 S.length c0, .slice a1 C.length c1, .string seed] 24)).alloc (.cells #[.int .i64 ci, .int .i64 ck, .int .i64 cc, .int .i64 cz] 28)) (.cells #[.int .i64 q0, .int .i64 q1] 29) w.heap.size (by simp; omega)).trans ((Below.heap_alloc (w.alloc (.cells #[.slice a0 S.length c0, .slice a1 C.length c1, .string seed] 24)) (.cells #[.int .i64 ci, .int .i64 ck, .int .i64 cc, .int .i64 cz] 28) w.heap.size (by simp)).trans (heap_alloc_last w _))
  have hzc := (Below.heap_alloc ((w.alloc (.cells #[.slice a0 S.length c0, .slice a1 C.length c1, .string seed] 24)).alloc (.cells #[.int .i64 ci, .int .i64 ck, .int .i64 cc, .int .i64 cz] 28)) (.cells #[.int .i64 q0, .int .i64 q1] 29) (w.alloc (.cells #[.slice a0 S.length c0, .slice a1 C.length c1, .string seed] 24)).heap.size (by simp)).trans (heap_alloc_last (w.alloc (.cells #[.slice a0 S.length c0, .slice a1 C.length c1, .string seed] 24)) _)
  rw [World.size_alloc] at hzc
  have hzq := heap_alloc_last ((w.alloc (.cells #[.slice a0 S.length c0, .slice a1 C.length c1, .string seed] 24)).alloc (.cells #[.int .i64 ci, .int .i64 ck, .int .i64 cc, .int .i64 cz] 28)) (.cells #[.int .i64 q0, .int .i64 q1] 29)
  rw [World.size_alloc, World.size_alloc] at hzq
  have hAs : (((w.alloc (.cells #[.slice a0 S.length c0, .slice a1 C.length c1, .string seed] 24)).alloc (.cells #[.int .i64 ci, .int .i64 ck, .int .i64 cc, .int .i64 cz] 28)).alloc (.cells #[.int .i64 q0, .int .i64 q1] 29)).heap.size = w.heap.size + 3 := by simp
  have HSAN := Lib.hid (sanity7_any _ (hG.only hA))
  have HA := Lib.hid hA
  have HZP := Lib.hid hzp
  have HZQ := Lib.hid hzq
  have HZC := Lib.hid hzc
  have HSZ := Lib.hid hAs
  have HS := Lib.hid hS
  have HC := Lib.hid hC
  have HG := Lib.hid hG
  clear hA hzp hzq hzc hAs hS hC hG
  go_enter Tryz.func3, Tryz.ntmps3
  go_wp2_with fail
  refine HSAN.out.mono ?_
  rintro e w1 ⟨rfl, hO1⟩
  have HO1 := Lib.hid (HA.out.trans hO1)
  have HZP1 := Lib.hid (row_still hO1 HZP.out)
  have HZQ1 := Lib.hid (row_still hO1 HZQ.out)
  have HZC1 := Lib.hid (row_still hO1 HZC.out)
  have hs1 := hO1.size
  have HS1 := Lib.hid (show w.heap.size + 3 ≤ w1.heap.size by rw [← HSZ.out]; exact hs1)
  clear hO1 HSAN HZP HZQ HZC HSZ HA hs1
  go_upto_region 2 with fail
  have p0 : _ = some (Value.slice a0 S.length c0) := cell_of_row _ _ 0 _ _ _ HZP1.out
  have p1 : _ = some (Value.slice a1 C.length c1) := cell_of_row _ _ 1 _ _ _ HZP1.out
  have p2 : _ = some (Value.string seed) := cell_of_row _ _ 2 _ _ _ HZP1.out
  have HKY := Lib.hid (show ∀ w', (w'.cell? ⟨w.heap.size, 0, none⟩ = some (.slice a0 S.length c0) ∧ w'.cell? ⟨w.heap.size, 1, none⟩ = some (.slice a1 C.length c1) ∧ w'.cell? ⟨w.heap.size, 2, none⟩ = some (.string seed) ∧ Only (fun _ => False) w1 w') →
      Calls Tryz.prog 8 #[.agg #[.slice a0 S.length c0, .slice a1 C.length c1, .string seed]] w' (fun e wT => (∃ v, e = .returned v ∧ wT.ownsRow w1.heap.size 3 1 v (keysL S).length (irow (keysL S))) ∧ (wT.cell? ⟨w.heap.size, 0, none⟩ = some (.slice a0 S.length c0) ∧ wT.cell? ⟨w.heap.size, 1, none⟩ = some (.slice a1 C.length c1) ∧ wT.cell? ⟨w.heap.size, 2, none⟩ = some (.string seed) ∧ Only (fun _ => False) w1 wT)) from by
    rintro w' ⟨s0, s1, s2, hO⟩
    refine (keys_any _ _ S seed w' (HS.out.only (HO1.out.trans hO)) ⟨_, _, _, rfl⟩ hSl).mono ?_
    rintro e wT ⟨v, rfl, hv, hT⟩
    exact ⟨⟨v, rfl, own_base hv hO.size⟩, hT.cell s0 (fun h => h), hT.cell s1 (fun h => h), hT.cell s2 (fun h => h), hO.trans hT⟩)
  have HNM := Lib.hid (show ∀ w', (w'.cell? ⟨w.heap.size, 0, none⟩ = some (.slice a0 S.length c0) ∧ w'.cell? ⟨w.heap.size, 1, none⟩ = some (.slice a1 C.length c1) ∧ w'.cell? ⟨w.heap.size, 2, none⟩ = some (.string seed) ∧ Only (fun _ => False) w1 w') →
      Calls Tryz.prog 9 #[.agg #[.slice a0 S.length c0, .slice a1 C.length c1, .string seed]] w' (fun e wT => (∃ v, e = .returned v ∧ wT.ownsRow w'.heap.size 3 1 v (numsL S C).length (irow (numsL S C))) ∧ Only (fun _ => False) w' wT ∧ (wT.cell? ⟨w.heap.size, 0, none⟩ = some (.slice a0 S.length c0) ∧ wT.cell? ⟨w.heap.size, 1, none⟩ = some (.slice a1 C.length c1) ∧ wT.cell? ⟨w.heap.size, 2, none⟩ = some (.string seed) ∧ Only (fun _ => False) w1 wT)) from by
    rintro w' ⟨s0, s1, s2, hO⟩
    refine (nums_any _ _ S C seed w' (HC.out.only (HO1.out.trans hO)) ⟨_, _, rfl⟩ hSl hCl).mono ?_
    rintro e wT ⟨v, rfl, hv, hT⟩
    exact ⟨⟨v, rfl, hv⟩, hT, hT.cell s0 (fun h => h), hT.cell s1 (fun h => h), hT.cell s2 (fun h => h), hO.trans hT⟩)
  have HKS := Lib.hid (show ∀ W, Only (fun _ => False) w1 W → W.cell? ⟨w.heap.size, 0, none⟩ = some (.slice a0 S.length c0) ∧ W.cell? ⟨w.heap.size, 1, none⟩ = some (.slice a1 C.length c1) ∧ W.cell? ⟨w.heap.size, 2, none⟩ = some (.string seed) ∧ Only (fun _ => False) w1 W from fun W h => ⟨h.cell p0 id, h.cell p1 id, h.cell p2 id, h⟩)
  have hK12 : (keysL S).length ≤ 12 := by have := keysL_len S; omega
  have hF12 : (numsL S C).length ≤ 12 := by have := numsL_len S C; omega
  have HKA := Lib.hid (fun k h => keysL_at S k h)
  have HKN := Lib.hid (show (keysL S).length ≤ S.length by rw [keysL_len]; omega)
  generalize keysL S = K at *
  generalize numsL S C = F at *
  go_cut [8, 9] (fun v6 v7 wx => Duo w1 wx w1.heap.size v6 v7 K F)
  case first =>
    go_region_held3 (fun w' => w'.cell? ⟨w.heap.size, 0, none⟩ = some (.slice a0 S.length c0) ∧ w'.cell? ⟨w.heap.size, 1, none⟩ = some (.slice a1 C.length c1) ∧ w'.cell? ⟨w.heap.size, 2, none⟩ = some (.string seed) ∧ Only (fun _ => False) w1 w')
      (first
        | with_reducible exact HKS.out _ ((Only.refl _ w1).drew)
        | with_reducible exact hSK
        | with_reducible exact hSN)
      (first
        | (go_at_call 8; refine (HKY.out _ (by assumption)).mono ?_; rintro e wK ⟨⟨vK, rfl, hvK⟩, hSK⟩)
        | (go_at_call 9; refine (HNM.out _ (by assumption)).mono ?_; rintro e wN ⟨⟨vN, rfl, hvN⟩, hXN, hSN⟩))
    all_goals (clear HKY HNM HKS)
    all_goals (go_wp2_with fail)
    all_goals (go_meet)
    all_goals (exact ⟨hXN.owns hvK (fun _ _ h => h), own_base hvN hSK.2.2.2.size, fun k hk he => by have := (own_lt hvK hk).1; have := (own_lt hvN he).2; omega, hSN.2.2.2, Nat.le_refl _⟩)
  case rest =>
    have HD := Lib.hid hcut
    generalize wc = w2 at *
    clear hcut HKY HNM HKS p0 p1 p2
    have hO2 := HD.out.only
    have HZP2 := Lib.hid (row_still hO2 HZP1.out)
    have HZQ2 := Lib.hid (row_still hO2 HZQ1.out)
    have HZC2 := Lib.hid (row_still hO2 HZC1.out)
    have HO2 := Lib.hid (HO1.out.trans hO2)
    have p2 : _ = some (Value.string seed) := cell_of_row _ _ 2 _ _ _ HZP2.out
    obtain ⟨a6, c6, rfl⟩ := slice_of_own HD.out.pts
    obtain ⟨a7, c7, rfl⟩ := slice_of_own HD.out.num
    have HKP := Lib.hid (fun (w' : World) (hO : Only (fun _ => False) w2 w') => (pts_of_own HD.out.pts (by omega)).only hO)
    have HFP := Lib.hid (fun (w' : World) (hO : Only (fun _ => False) w2 w') => (pts_of_own HD.out.num (by omega)).only hO)
    have HCM := Lib.hid (dealD_cm F K seed (by omega))
    have HBX := Lib.hid (dealD_bx F K seed (by omega))
    have HPD := Lib.hid (fun (w' : World) (hO : Only (fun _ => False) w2 w') => pdeal_any _ _ F K seed w' (HFP.out w' hO) (HKP.out w' hO) (by omega) (by omega) hsd (HG.out.only (HO2.out.trans hO)))
    obtain ⟨ok1, hok1⟩ : ∃ b, dealOk F K = b := ⟨_, rfl⟩
    obtain ⟨d1, hd1⟩ : ∃ d, dealD F K seed = d := ⟨_, rfl⟩
    rw [hok1, hd1] at HPD
    rw [hd1] at HCM HBX
    have HOK := Lib.hid hok1
    have HDD := Lib.hid hd1
    clear hO2 hok1 hd1
    go_wp2_with fail
    refine (HPD.out _ (Only.refl _ _)).mono ?_
    rintro e w3 ⟨hO3, c0d, c2d, rfl, hD3⟩
    have HON3 := Lib.hid (slice_one hD3.cm hD3.bx d1.pt)
    have HFR3 := Lib.hid (And.intro (far_own (lo := w.heap.size + 3) (hi := w3.heap.size) hD3.cm (by have := HD.out.only.size; have := HS1.out; omega) (Nat.le_refl _)) (And.intro (far_own (lo := w.heap.size + 3) (hi := w3.heap.size) hD3.bx (by have := HD.out.only.size; have := HS1.out; omega) (Nat.le_refl _)) (far_own (lo := w.heap.size + 3) (hi := w3.heap.size) HD.out.pts HS1.out hO3.size)))
    have hDA3 := hD3.at (by have := HCM.out; omega) (by have := HBX.out; omega)
    obtain ⟨b0, k0, rfl⟩ := hDA3.cm.slice
    obtain ⟨b2, k2, rfl⟩ := hDA3.bx.slice
    have hO4 := hO3.alloc (.cells #[.slice b0 d1.cm.length k0, .int .i64 d1.pt, .slice b2 d1.bx.length k2] 34)
    have HO4 := Lib.hid hO4
    have HD4 := Lib.hid (hDA3.only ((Only.refl (fun _ => False) w3).alloc (.cells #[.slice b0 d1.cm.length k0, .int .i64 d1.pt, .slice b2 d1.bx.length k2] 34)))
    have HN4 := Lib.hid (heap_alloc_last w3 (.cells #[.slice b0 d1.cm.length k0, .int .i64 d1.pt, .slice b2 d1.bx.length k2] 34))
    have HL3 := Lib.hid hO3.size
    clear hO3 hO4 hD3 hDA3 HPD
    have HSZD := Lib.hid (fun i => show (sAt d1.bx i).size ≤ 9223372036854775807 from HDD.out ▸ dealD_sz F K seed i)
    have HO4b := Lib.hid (HO2.out.trans HO4.out)
    have HZP4 := Lib.hid (row_still HO4.out HZP2.out)
    have HZQ4 := Lib.hid (row_still HO4.out HZQ2.out)
    have HZC4 := Lib.hid (row_still HO4.out HZC2.out)
    have HKP4 := Lib.hid (fun (w' : World) hO => HKP.out w' (HO4.out.trans hO))
    have HG4 := Lib.hid (HG.out.only HO4b.out)
    have HB3 := Lib.hid (show w.heap.size + 3 ≤ w3.heap.size by have := HL3.out; have := HD.out.only.size; have := HS1.out; omega)
    clear HO4 HZP2 HZQ2 HZC2 HKP HFP p2
    have z0 : _ = some (Value.int .i64 ci) := cell_of_row _ _ 0 _ _ _ HZC4.out
    have z1 : _ = some (Value.int .i64 ck) := cell_of_row _ _ 1 _ _ _ HZC4.out
    have z2 : _ = some (Value.int .i64 cc) := cell_of_row _ _ 2 _ _ _ HZC4.out
    have z3 : _ = some (Value.int .i64 cz) := cell_of_row _ _ 3 _ _ _ HZC4.out
    have x0 : _ = some (Value.slice b0 d1.cm.length k0) := cell_of_row _ _ 0 _ _ _ HN4.out
    have x1 : _ = some (Value.int .i64 d1.pt) := cell_of_row _ _ 1 _ _ _ HN4.out
    have x2 : _ = some (Value.slice b2 d1.bx.length k2) := cell_of_row _ _ 2 _ _ _ HN4.out
    cases ok1
    · have HDN := Lib.hid (show d1 = ⟨[], 0, []⟩ by rw [← HDD.out]; unfold dealD; rw [HOK.out]; rfl)
      go_wp2_with (first | (refine wpList_store_row rfl 34 _ _ rfl w3.heap.size #[.slice b0 d1.cm.length k0, .int .i64 d1.pt, .slice b2 d1.bx.length k2] rfl rfl 34 _ (heap_alloc_last w3 _) Tryz.infoDl rfl HON3.out ?_; rw [World.setRow_alloc_new]))
      refine (judge_any a6 b0 b2 c6 k0 k2 K d1 ci ck cc cz _ (HKP4.out _ (Only.refl _ _)) HD4.out HCM.out HBX.out (by omega) HSZD.out HG4.out).mono ?_
      rintro e w5 ⟨rfl, hO5⟩
      have HOF := Lib.hid (HO4b.out.trans hO5)
      have HJN := Lib.hid (show judgeZ K d1 ci ck cc cz = 0 by rw [HDN.out]; exact judge_none _ _ _ _ _)
      clear hO5
      rw [HJN.out]
      go_wp2
      go_ret
      exact ⟨rfl, HOF.out.below (Nat.le_refl _) (fun _ _ h => h)⟩
    · have hok := dealOk_parts HOK.out
      have HDZ := Lib.hid (show d1 = dealZ F K seed by rw [← HDD.out]; unfold dealD; rw [HOK.out]; rfl)
      have HBL := Lib.hid (show d1.bx.length = K.length by rw [HDZ.out]; exact bxTo_len _ _ _ _)
      have hK1 := hok.1
      have HMD := Lib.hid (fun w => rmod1_any q0 K.length w (by omega) (by omega))
      have hk0 := Int.emod_nonneg q0 (show (K.length : Int) ≠ 0 by omega)
      have hk1 := Int.emod_lt_of_pos q0 (show (0 : Int) < K.length by omega)
      obtain ⟨k, hk⟩ := Int.eq_ofNat_of_zero_le hk0
      rw [hk] at HMD hk1
      have HKL := Lib.hid (show k < K.length by omega)
      have e0 : _ = some (Value.int .i64 q0) := cell_of_row _ _ 0 _ _ _ HZQ4.out
      have e1 : _ = some (Value.int .i64 q1) := cell_of_row _ _ 1 _ _ _ HZQ4.out
      clear hok hk0 hk hk1
      go_wp2_with (first | (refine wpList_store_row rfl 34 _ _ rfl w3.heap.size #[.slice b0 d1.cm.length k0, .int .i64 d1.pt, .slice b2 d1.bx.length k2] rfl rfl 34 _ (heap_alloc_last w3 _) Tryz.infoDl rfl HON3.out ?_; rw [World.setRow_alloc_new]))
      refine (HMD.out _).mono ?_
      rintro e w4' ⟨rfl, rfl⟩
      go_wp2_with fail
      have HCQ := Lib.hid (complain_yes b0 b2 k0 k2 d1 q1 k _ HBX.out (by rw [HBL.out]; exact HKL.out) (by rw [HDZ.out]; exact pt_dealt _ _ _) HG4.out)
      refine HCQ.out.mono ?_
      rintro e w5 ⟨rfl, hO5⟩
      generalize seedN d1 q1 = sn1 at *
      generalize pfC (q1 % 1152921504606845789) 4 d1.pt = pc1 at *
      generalize pfZ (q1 % 1152921504606845789) 4 d1.pt = pz1 at *
      have hO6 := hO5.alloc (.cells #[.int .i64 k, .int .i64 sn1, .int .i64 pc1, .int .i64 pz1] 28)
      have HN13 := Lib.hid (heap_alloc_last w5 (.cells #[.int .i64 k, .int .i64 sn1, .int .i64 pc1, .int .i64 pz1] 28))
      have HO6 := Lib.hid (HO4b.out.trans hO6)
      have HZP6 := Lib.hid (row_still hO6 HZP4.out)
      have HZQ6 := Lib.hid (row_still hO6 HZQ4.out)
      have HZC6 := Lib.hid (row_still hO6 HZC4.out)
      have HN6 := Lib.hid (row_still hO6 HN4.out)
      have HD6 := Lib.hid (HD4.out.only hO6)
      have HKP6 := Lib.hid (fun (w' : World) hO => HKP4.out w' (hO6.trans hO))
      have HG6 := Lib.hid (HG4.out.only hO6)
      have HB5 := Lib.hid (show w3.heap.size < w5.heap.size by have := hO5.size; rw [World.size_alloc] at this; omega)
      clear hO5 hO6 HZP4 HZQ4 HZC4 HN4 HD4 HKP4 HG4 HO4b HMD HCQ z0 z1 z2 z3 x0 x1 x2 e0 e1
      go_upto_region 8 with (first | (refine wpList_store_row rfl 28 _ _ rfl w5.heap.size #[.int .i64 k, .int .i64 sn1, .int .i64 pc1, .int .i64 pz1] rfl rfl 28 _ (heap_alloc_last w5 _) Tryz.infoCp rfl (cp_one _ _ _ _) ?_; rw [World.setRow_alloc_new]))
      generalize w5.alloc (.cells #[.int .i64 k, .int .i64 sn1, .int .i64 pc1, .int .i64 pz1] 28) = w6 at *
      generalize w5.heap.size = n13 at *
      generalize w3.heap.size = n10 at *
      have hkS : k < S.length := by have := HKL.out; have := HKN.out; omega
      obtain ⟨sb, so, hse, hsb, hsc1, hsc2, hcell⟩ := (HS.out.only HO6.out).cellAt (k := k) hkS
      cases hse
      have hce := hcell.2
      clear hcell
      have HKA2 := Lib.hid (HKA.out k HKL.out)
      have p0 : _ = some (Value.slice (some ⟨sb, so, none⟩) S.length c0) := cell_of_row _ _ 0 _ _ _ HZP6.out
      have f0 : _ = some (Value.slice b0 d1.cm.length k0) := cell_of_row _ _ 0 _ _ _ HN6.out
      have f1 : _ = some (Value.int .i64 d1.pt) := cell_of_row _ _ 1 _ _ _ HN6.out
      have f2 : _ = some (Value.slice b2 d1.bx.length k2) := cell_of_row _ _ 2 _ _ _ HN6.out
      have HCO := Lib.hid (fun w' hO => complain_yes b0 b2 k0 k2 d1 (ptAt S k) k w' HBX.out (by rw [HBL.out]; exact HKL.out) (by rw [HDZ.out]; exact pt_dealt _ _ _) (HG6.out.only (B := w') hO))
      generalize ptAt S k = sk at *
      generalize hsnk : seedN d1 sk = snk at *
      generalize hpck : pfC (sk % 1152921504606845789) 4 d1.pt = pck at *
      generalize hpzk : pfZ (sk % 1152921504606845789) 4 d1.pt = pzk at *
      have HE := Lib.hid (And.intro hsnk (And.intro hpck hpzk))
      clear hsnk hpck hpzk
      have i3 : (k : Int) < S.length := by omega
      have i4 : 0 ≤ (k : Int) := by omega
      have HPO := Lib.hid (show ∀ w', (w'.cell? ⟨w.heap.size, 0, none⟩ = some (.slice (some ⟨sb, so, none⟩) S.length c0) ∧ w'.cell? ⟨sb, so + k, none⟩ = some (.int .i64 sk) ∧ w'.cell? ⟨n10, 0, none⟩ = some (.slice b0 d1.cm.length k0) ∧ w'.cell? ⟨n10, 1, none⟩ = some (.int .i64 d1.pt) ∧ w'.cell? ⟨n10, 2, none⟩ = some (.slice b2 d1.bx.length k2) ∧ Only (fun _ => False) w6 w') →
          Calls Tryz.prog 13 #[.int .i64 sk, .agg #[.slice b0 d1.cm.length k0, .int .i64 d1.pt, .slice b2 d1.bx.length k2], .int .i64 k] w' (fun e wT => (e = .returned (.agg #[.int .i64 k, .int .i64 snk, .int .i64 pck, .int .i64 pzk]) ∧ Only (fun _ => False) w' wT) ∧ Only (fun _ => False) w6 wT) from by
        rintro w' ⟨_, _, _, _, _, hOw⟩
        exact (HCO.out w' hOw).mono fun e wT h => ⟨h, hOw.trans h.2⟩)
      have HKS := Lib.hid (show ∀ W, Only (fun _ => False) w6 W → W.cell? ⟨w.heap.size, 0, none⟩ = some (.slice (some ⟨sb, so, none⟩) S.length c0) ∧ W.cell? ⟨sb, so + k, none⟩ = some (.int .i64 sk) ∧ W.cell? ⟨n10, 0, none⟩ = some (.slice b0 d1.cm.length k0) ∧ W.cell? ⟨n10, 1, none⟩ = some (.int .i64 d1.pt) ∧ W.cell? ⟨n10, 2, none⟩ = some (.slice b2 d1.bx.length k2) ∧ Only (fun _ => False) w6 W from fun W h => ⟨h.cell p0 id, h.cell hce id, h.cell f0 id, h.cell f1 id, h.cell f2 id, h⟩)
      dsimp only [Act.put]
      go_cut [14] (fun v14 wx => CpMid w6 wx k snk pck pzk v14)
      case first =>
        go_region_held3 (fun w' => w'.cell? ⟨w.heap.size, 0, none⟩ = some (.slice (some ⟨sb, so, none⟩) S.length c0) ∧ w'.cell? ⟨sb, so + k, none⟩ = some (.int .i64 sk) ∧ w'.cell? ⟨n10, 0, none⟩ = some (.slice b0 d1.cm.length k0) ∧ w'.cell? ⟨n10, 1, none⟩ = some (.int .i64 d1.pt) ∧ w'.cell? ⟨n10, 2, none⟩ = some (.slice b2 d1.bx.length k2) ∧ Only (fun _ => False) w6 w')
          (first
            | with_reducible exact HKS.out _ ((Only.refl _ w6).drew)
            | with_reducible exact HKS.out _ hSO
            | with_reducible exact HKS.out _ (hSO.alloc _)
            | with_reducible exact HKS.out _ ((Only.refl _ w6).drew.alloc _)
            | with_reducible exact HKS.out _ (((Only.refl _ w6).alloc _).drew)
            | with_reducible exact HKS.out _ ((((hSO.setCell (.inr hge) _).setCell (.inr hge) _).setCell (.inr hge) _).setCell (.inr hge) _))
          (first
            | (go_at_call 13; refine (HPO.out _ (by assumption)).mono ?_; rintro e wO ⟨⟨rfl, hOO⟩, hSO⟩
               first
                 | (have hBk := dl_blk2D hOO; have hge := Nat.le_refl w6.heap.size; have z0 := cell_of_row _ _ 0 _ _ _ hBk; have z1 := cell_of_row _ _ 1 _ _ _ hBk; have z2 := cell_of_row _ _ 2 _ _ _ hBk; have z3 := cell_of_row _ _ 3 _ _ _ hBk; have g0 := frozen_of_row _ _ 0 _ _ hBk; have g1 := frozen_of_row _ _ 1 _ _ hBk; have g2 := frozen_of_row _ _ 2 _ _ hBk; have g3 := frozen_of_row _ _ 3 _ _ hBk; have lB := own_lt0D hBk)
                 | (have hBk := dl_blkD hOO; have hge := Nat.le_refl w6.heap.size; have z0 := cell_of_row _ _ 0 _ _ _ hBk; have z1 := cell_of_row _ _ 1 _ _ _ hBk; have z2 := cell_of_row _ _ 2 _ _ _ hBk; have z3 := cell_of_row _ _ 3 _ _ _ hBk; have g0 := frozen_of_row _ _ 0 _ _ hBk; have g1 := frozen_of_row _ _ 1 _ _ hBk; have g2 := frozen_of_row _ _ 2 _ _ hBk; have g3 := frozen_of_row _ _ 3 _ _ hBk; have lB := own_lt0D hBk)
                 | skip))
        all_goals (clear HPO HKS HCO)
        all_goals (go_wp2_with fail)
        all_goals (go_meet)
        all_goals first
          | exact cp_end1 hSO
          | exact cp_end2 (Nat.le_refl _) hBk hSO
      case rest =>
        obtain ⟨B, rfl, hBk, hBl, hOx⟩ := hcut
        generalize wc = wx at *
        have HOx := Lib.hid (HO6.out.trans hOx)
        have HZPx := Lib.hid (row_still hOx HZP6.out)
        have HZQx := Lib.hid (row_still hOx HZQ6.out)
        have HZCx := Lib.hid (row_still hOx HZC6.out)
        have HNx := Lib.hid (row_still hOx HN6.out)
        have HN13x := Lib.hid (row_still hOx HN13.out)
        have HDx := Lib.hid (HD6.out.only hOx)
        have HKPx := Lib.hid (fun (w' : World) hO => HKP6.out w' (hOx.trans hO))
        have HGx := Lib.hid (HG6.out.only hOx)
        have HSEx := Lib.hid (hOx.cell hce id)
        have HBLx := Lib.hid (show n13 < B by have := own_lt0D HN13.out; omega)
        have HBx := Lib.hid hBk
        clear hBk hOx HPO HKS HCO hce p0 f0 f1 f2 HZP6 HZQ6 HZC6 HN6 HN13 HD6 HKP6 HG6 HO6 hsb hsc1 hsc2
        have HN15 := Lib.hid (heap_alloc_last wx (.cells #[.int .i64 k, .int .i64 snk, .int .i64 pck, .int .i64 pzk] 28))
        go_upto_region 10 with (first
          | (refine wpList_load_row rfl 28 _ rfl B rfl 28 #[.int .i64 k, .int .i64 snk, .int .i64 pck, .int .i64 pzk] (0, 0) _ HBx.out Tryz.underlying28 rfl Tryz.infoCp ?_)
          | (refine wpList_store_row rfl 28 _ _ rfl wx.heap.size #[.int .i64 k, .int .i64 snk, .int .i64 pck, .int .i64 pzk] rfl rfl 28 _ (heap_alloc_last wx _) Tryz.infoCp rfl (cp_one _ _ _ _) ?_; rw [World.setRow_alloc_new]))
        dsimp only [Act.put]
        have hOa := (Only.refl (fun _ => False) wx).alloc (.cells #[.int .i64 k, .int .i64 snk, .int .i64 pck, .int .i64 pzk] 28)
        have HO7 := Lib.hid (HOx.out.trans hOa)
        have HZP7 := Lib.hid (row_still hOa HZPx.out)
        have HZQ7 := Lib.hid (row_still hOa HZQx.out)
        have HZC7 := Lib.hid (row_still hOa HZCx.out)
        have HN7 := Lib.hid (row_still hOa HNx.out)
        have HN137 := Lib.hid (row_still hOa HN13x.out)
        have HB7 := Lib.hid (row_still hOa HBx.out)
        have HD7 := Lib.hid (HDx.out.only hOa)
        have HKP7 := Lib.hid (fun (w' : World) hO => HKPx.out w' (hOa.trans hO))
        have HG7 := Lib.hid (HGx.out.only hOa)
        have HSE7 := Lib.hid (hOa.cell HSEx.out id)
        have HBL7 := Lib.hid (show B < wx.heap.size from own_lt0D HBx.out)
        clear hOa HZPx HZQx HZCx HNx HN13x HBx HDx HKPx HGx HSEx HOx
        generalize wx.alloc (.cells #[.int .i64 k, .int .i64 snk, .int .i64 pck, .int .i64 pzk] 28) = w7 at *
        generalize wx.heap.size = n15 at *
        have e1 : _ = some (Value.int .i64 q1) := cell_of_row _ _ 1 _ _ _ HZQ7.out
        have e2 : _ = some (Value.int .i64 snk) := cell_of_row _ _ 1 _ _ _ HB7.out
        have y0 := fun (d : Nat) (os : Array Obj) => cell_regrown e1 d os
        have y1 := fun (d : Nat) (os : Array Obj) => cell_regrown e2 d os
        clear e1 e2
        have HMA := Lib.hid (fun w => rmadeZ_any q1 w)
        generalize madeZ q1 = mz at *
        have HMU := Lib.hid (fun w => rmul_any snk mz 2305843009213691579 w (by decide) (by decide))
        generalize snk * mz % 2305843009213691579 = bk at *
        refine wp_region_below_split2 7 (by kernel_rfl) (by kernel_rfl) (by kernel_rfl) ?_
        simp only [List.take_succ_cons, List.take_zero, List.drop_succ_cons, List.drop_zero]
        repeat (go_big_quiet_step ((first | (go_at_call 15; exact Calls.regrown_of ((HMA.out _).mono fun _ _ h => ⟨h.1, by rw [← h.2]; exact Below.refl _ _⟩)) | (go_at_call 14; exact Calls.regrown_of ((HMU.out _).mono fun _ _ h => ⟨h.1, by rw [← h.2]; exact Below.refl _ _⟩)))))
        refine wpQuiet_nil ?_
        intro w8 hw'
        obtain ⟨pq, hw''⟩ := hw'
        have HO78 := Lib.hid (Only.ofBelow (below_regrown w7 pq.d pq.os) (fun _ => False))
        rw [← hw''] at HO78
        clear hw'' y0 y1
        have HO8 := Lib.hid (HO7.out.trans HO78.out)
        have HZP8 := Lib.hid (row_still HO78.out HZP7.out)
        have HZC8 := Lib.hid (row_still HO78.out HZC7.out)
        have HN8 := Lib.hid (row_still HO78.out HN7.out)
        have HN138 := Lib.hid (row_still HO78.out HN137.out)
        have HB8 := Lib.hid (row_still HO78.out HB7.out)
        have HN158 := Lib.hid (row_still HO78.out HN15.out)
        have HD8 := Lib.hid (HD7.out.only HO78.out)
        have HKP8 := Lib.hid (fun (w' : World) hO => HKP7.out w' (HO78.out.trans hO))
        have HG8 := Lib.hid (HG7.out.only HO78.out)
        have HSE8 := Lib.hid (HO78.out.cell HSE7.out id)
        clear HZP7 HZQ7 HZC7 HN7 HN137 HB7 HN15 HD7 HKP7 HG7 HSE7 HO7 HMA HMU HO78
        have b1 : _ = some (Value.int .i64 snk) := cell_of_row _ _ 1 _ _ _ HN158.out
        have b2f := frozen_of_row _ _ 1 _ _ HN158.out
        have c0' : _ = some (Value.int .i64 ci) := cell_of_row _ _ 0 _ _ _ HZC8.out
        have c0f := frozen_of_row _ _ 0 _ _ HZC8.out
        go_upto_region 12 with fail
        have hn1 : n15 ≠ w.heap.size + 1 := by have := HBL7.out; have := HBLx.out; have := HB5.out; have := HB3.out; omega
        have HIN := Lib.hid (show w.heap.size + 3 ≤ n10 ∧ n10 < n13 ∧ n13 < B ∧ B < n15 ∧ n15 < w8.heap.size from ⟨HB3.out, HB5.out, HBLx.out, HBL7.out, own_lt0D HN158.out⟩)
        have HO9 := Lib.hid (show Only (fun _ => False) w ((w8.setCell ⟨n15, 1, none⟩ (.int .i64 bk)).setCell ⟨w.heap.size + 1, 0, none⟩ (.int .i64 k)) from (HO8.out.setCell (.inr (by have := HIN.out; show w.heap.size ≤ n15; omega)) _).setCell (.inr (by show w.heap.size ≤ w.heap.size + 1; omega)) _)
        have hO89 : Only (fun b => b = n15 ∨ b = w.heap.size + 1) w8 ((w8.setCell ⟨n15, 1, none⟩ (.int .i64 bk)).setCell ⟨w.heap.size + 1, 0, none⟩ (.int .i64 k)) := ((Only.refl _ w8).setCell (.inl (.inl rfl)) _).setCell (.inl (.inr rfl)) _
        have HZC9 := Lib.hid (show ((w8.setCell ⟨n15, 1, none⟩ (.int .i64 bk)).setCell ⟨w.heap.size + 1, 0, none⟩ (.int .i64 k)).heap[w.heap.size + 1]? = some (.cells #[.int .i64 k, .int .i64 ck, .int .i64 cc, .int .i64 cz] 28 (0, 0)) from heap_setCell_same _ _ 0 _ _ _ ((Below.heap_setCell _ _ _ _ (Ne.symm hn1)).trans HZC8.out))
        have HN159 := Lib.hid (show ((w8.setCell ⟨n15, 1, none⟩ (.int .i64 bk)).setCell ⟨w.heap.size + 1, 0, none⟩ (.int .i64 k)).heap[n15]? = some (.cells #[.int .i64 k, .int .i64 bk, .int .i64 pck, .int .i64 pzk] 28 (0, 0)) from (Below.heap_setCell _ _ _ _ hn1).trans (heap_setCell_same _ _ 1 _ _ _ HN158.out))
        have hfn : ∀ b, w.heap.size + 3 ≤ b → b < n10 → ¬ (b = n15 ∨ b = w.heap.size + 1) := by have := HIN.out; intro b h1 h2 h3; omega
        have HZP9 := Lib.hid (row_far hO89 HZP8.out (by have := HIN.out; omega))
        have HN9 := Lib.hid (row_far hO89 HN8.out (by have := HIN.out; omega))
        have HN139 := Lib.hid (row_far hO89 HN138.out (by have := HIN.out; omega))
        have HB9 := Lib.hid (row_far hO89 HB8.out (by have := HIN.out; omega))
        have HD9 := Lib.hid (show DlAt _ _ _ _ _ from ⟨pts_far hO89 HFR3.out.1 hfn HD8.out.cm, HD8.out.pt, strs_far hO89 HFR3.out.2.1 hfn HD8.out.bx⟩)
        have HKP9 := Lib.hid (pts_far hO89 HFR3.out.2.2 hfn (HKP8.out _ (Only.refl _ _)))
        have hsbl := pts_block HS.out (show 0 < S.length by omega)
        have HSE9 := Lib.hid (hO89.cell HSE8.out (by have := HIN.out; show ¬ (sb = n15 ∨ sb = w.heap.size + 1); omega))
        clear hO89 hfn hn1 HZC8 HN158 HZP8 HN8 HN138 HB8 HD8 HKP8 HSE8 HG8 HO8 HFR3 b1 b2f c0' c0f HB3 HB5 HBLx HBL7
        generalize (w8.setCell ⟨n15, 1, none⟩ (.int .i64 bk)).setCell ⟨w.heap.size + 1, 0, none⟩ (.int .i64 k) = w9 at *
        go_wp2_with (first
          | (refine wpList_load_row rfl 28 _ rfl (w.heap.size + 1) rfl 28 #[.int .i64 k, .int .i64 ck, .int .i64 cc, .int .i64 cz] (0, 0) _ HZC9.out Tryz.underlying28 rfl Tryz.infoCp ?_)
          | (refine wpList_load_row rfl 28 _ rfl n13 rfl 28 #[.int .i64 k, .int .i64 sn1, .int .i64 pc1, .int .i64 pz1] (0, 0) _ HN139.out Tryz.underlying28 rfl Tryz.infoCp ?_)
          | (refine wpList_load_row rfl 28 _ rfl B rfl 28 #[.int .i64 k, .int .i64 snk, .int .i64 pck, .int .i64 pzk] (0, 0) _ HB9.out Tryz.underlying28 rfl Tryz.infoCp ?_)
          | (refine wpList_load_row rfl 28 _ rfl n15 rfl 28 #[.int .i64 k, .int .i64 bk, .int .i64 pck, .int .i64 pzk] (0, 0) _ HN159.out Tryz.underlying28 rfl Tryz.infoCp ?_))
        have hO10 := (Only.refl (fun _ => False) w9).alloc (.cells #[.int .i64 k, .int .i64 ck, .int .i64 cc, .int .i64 cz, .int .i64 k, .int .i64 sn1, .int .i64 pc1, .int .i64 pz1, .int .i64 k, .int .i64 snk, .int .i64 pck, .int .i64 pzk, .int .i64 k, .int .i64 bk, .int .i64 pck, .int .i64 pzk] 28)
        have HO10 := Lib.hid (HO9.out.trans hO10)
        have HXC := Lib.hid (fun W (hW : Only (fun _ => False) (w9.alloc (.cells #[.int .i64 k, .int .i64 ck, .int .i64 cc, .int .i64 cz, .int .i64 k, .int .i64 sn1, .int .i64 pc1, .int .i64 pz1, .int .i64 k, .int .i64 snk, .int .i64 pck, .int .i64 pzk, .int .i64 k, .int .i64 bk, .int .i64 pck, .int .i64 pzk] 28)) W) j hj => cp_cells (k := k) (a := ck) (b := sn1) (c := snk) (d := bk) (f := pick4 cc pc1 pck pck) (g := pick4 cz pz1 pzk pzk) (row_still hW (heap_alloc_last w9 _)) j hj)
        have HNX := Lib.hid (own_lt0D (heap_alloc_last w9 (.cells #[.int .i64 k, .int .i64 ck, .int .i64 cc, .int .i64 cz, .int .i64 k, .int .i64 sn1, .int .i64 pc1, .int .i64 pz1, .int .i64 k, .int .i64 snk, .int .i64 pck, .int .i64 pzk, .int .i64 k, .int .i64 bk, .int .i64 pck, .int .i64 pzk] 28)))
        have HZP10 := Lib.hid (row_still hO10 HZP9.out)
        have HN10 := Lib.hid (row_still hO10 HN9.out)
        have HB10 := Lib.hid (row_still hO10 HB9.out)
        have HD10 := Lib.hid (HD9.out.only hO10)
        have HKP10 := Lib.hid (HKP9.out.only hO10)
        have HSE10 := Lib.hid (hO10.cell HSE9.out id)
        have HG10 := Lib.hid (HG.out.only HO10.out)
        clear hO10 HO9 HZC9 HN159 HZP9 HN9 HN139 HB9 HD9 HKP9 HSE9 HIN hsbl
        generalize w9.alloc (.cells #[.int .i64 k, .int .i64 ck, .int .i64 cc, .int .i64 cz, .int .i64 k, .int .i64 sn1, .int .i64 pc1, .int .i64 pz1, .int .i64 k, .int .i64 snk, .int .i64 pck, .int .i64 pzk, .int .i64 k, .int .i64 bk, .int .i64 pck, .int .i64 pzk] 28) = w10 at *
        generalize w9.heap.size = n16 at *
        generalize pick4 ck sn1 snk bk = fk at *
        generalize pick4 cc pc1 pck pck = fc at *
        generalize pick4 cz pz1 pzk pzk = fz at *
        have HJO := Lib.hid (show ∀ key c z, judgeZ K d1 k key c z = 1 → key ≠ snk ∧ verB 4 (ptAt K k) d1.pt key c z = true from by
          intro key c z hj
          have e1 := HE.out.1
          have e2 := HKA2.out
          have e3 := HDZ.out
          have e4 := judge_other (seed := seed) (s := sk) HOK.out HKL.out e2 (by rw [← e3]; exact hj)
          rw [← e3, e1] at e4
          exact e4)
        have HJ2 := Lib.hid (show judgeZ K d1 k snk pck pzk = 2 from by
          have e3 := HDZ.out
          have e4 := judge_own (seed := seed) (s := sk) HOK.out HKL.out HKA2.out
          rw [← e3] at e4
          have e5 := HE.out
          rw [e5.1, e5.2.1, e5.2.2] at e4
          exact e4)
        have HSH := Lib.hid (fun W => (rshared_any (.slice b0 d1.cm.length k0) (.slice b2 d1.bx.length k2) d1.pt sk W ⟨_, _, _, rfl⟩ ⟨_, _, _, rfl⟩))
        rw [show powM d1.pt (sk % 1152921504606845789) 2305843009213691579 = snk from HE.out.1] at HSH
        obtain ⟨kb, ko, hke, hkb, hkl0, hkc1, hkc2, hkcell⟩ := HKP10.out.cellAt (k := k) HKL.out
        cases hke
        have HKC := Lib.hid hkcell
        have HKB := Lib.hid hkb
        have hcap : K.length ≤ c6 := hkc1
        have hcap2 : c6 ≤ 9223372036854775807 := hkc2
        have i5 : (k : Int) < K.length := by have := HKL.out; omega
        have HJA := Lib.hid (fun W (hW : Only (fun _ => False) w10 W) key c z => judge_any (some ⟨kb, ko, none⟩) b0 b2 c6 k0 k2 K d1 k key c z W (HKP10.out.only hW) (HD10.out.only hW) HCM.out HBX.out (by omega) HSZD.out (HG10.out.only hW))
        clear hkcell hkb hkl0 hkc1 hkc2 HE HKA2 HKA HDD
        go_loopw [76] (fun v wr => ∃ j : Nat, j ≤ 4 ∧ v = .int .i64 j ∧ Only (fun _ => False) w10 wr) (fun v _ => 4 - (intOf v).toNat)
        case atStart => exact ⟨0, by omega, rfl, Only.refl _ _⟩
        case round =>
          obtain ⟨j, hj, rfl, hO⟩ := hrel
          by_cases hlt : j < 4
          · obtain ⟨x0, x1, x2, x3⟩ := HXC.out wr hO j hlt
            have HNX2 := Lib.hid (Nat.lt_of_lt_of_le HNX.out hO.size)
            generalize fk j = xk at *
            generalize fc j = xc at *
            generalize fz j = xz at *
            have j2 : (j : Int) < 4 := by omega
            have j3 : 0 ≤ (j : Int) := by omega
            have HOa := Lib.hid (hO.alloc (.cells #[.int .i64 k, .int .i64 xk, .int .i64 xc, .int .i64 xz] 28))
            have HXa := Lib.hid (heap_alloc_last wr (.cells #[.int .i64 k, .int .i64 xk, .int .i64 xc, .int .i64 xz] 28))
            clear hO hj
            go_upto_region 15 with fail
            generalize wr.alloc (.cells #[.int .i64 k, .int .i64 xk, .int .i64 xc, .int .i64 xz] 28) = wa at *
            generalize wr.heap.size = nX at *
            clear x0 x1 x2 x3
            have HNa := Lib.hid (row_still HOa.out HN10.out)
            have s0 : _ = some (Value.int .i64 xk) := cell_of_row _ _ 1 _ _ _ HXa.out
            have s1 : _ = some (Value.int .i64 xc) := cell_of_row _ _ 2 _ _ _ HXa.out
            have s2 : _ = some (Value.int .i64 xz) := cell_of_row _ _ 3 _ _ _ HXa.out
            have s3 : _ = some (Value.slice (some ⟨sb, so, none⟩) S.length c0) := cell_of_row _ _ 0 _ _ _ (row_still HOa.out HZP10.out)
            have s4 := HOa.out.cell HSE10.out id
            have s5 : _ = some (Value.slice b0 d1.cm.length k0) := cell_of_row _ _ 0 _ _ _ HNa.out
            have s6 : _ = some (Value.int .i64 d1.pt) := cell_of_row _ _ 1 _ _ _ HNa.out
            have s7 : _ = some (Value.slice b2 d1.bx.length k2) := cell_of_row _ _ 2 _ _ _ HNa.out
            have s8 := HOa.out.cell HKC.out id
            obtain ⟨J, hJ⟩ : ∃ J, judgeZ K d1 k xk xc xz = J := ⟨_, rfl⟩
            have HJB := Lib.hid (fun W hW => HJA.out W hW xk xc xz)
            rw [hJ] at HJB
            have HJF := Lib.hid (fun h : J = 1 => HJO.out xk xc xz (hJ.trans h))
            clear hJ
            generalize ptAt K k = kk at *
            obtain ⟨vv, hvv⟩ : ∃ vv, verB 4 kk d1.pt xk xc xz = vv := ⟨_, rfl⟩
            have HVR := Lib.hid (fun W => rverify_any 4 kk d1.pt xk xc xz W)
            rw [hvv] at HVR HJF
            clear hvv
            go_cut [18] (fun v18 wx => Forged J wa wx v18)
            case first =>
              have y0 := fun (d : Nat) (os : Array Obj) => cell_regrown s0 d os
              have y1 := fun (d : Nat) (os : Array Obj) => cell_regrown s1 d os
              have y2 := fun (d : Nat) (os : Array Obj) => cell_regrown s2 d os
              have y3 := fun (d : Nat) (os : Array Obj) => cell_regrown s3 d os
              have y4 := fun (d : Nat) (os : Array Obj) => cell_regrown s4 d os
              have y5 := fun (d : Nat) (os : Array Obj) => cell_regrown s5 d os
              have y6 := fun (d : Nat) (os : Array Obj) => cell_regrown s6 d os
              have y7 := fun (d : Nat) (os : Array Obj) => cell_regrown s7 d os
              have y8 := fun (d : Nat) (os : Array Obj) => cell_regrown s8 d os
              clear s0 s1 s2 s3 s4 s5 s6 s7 s8
              by_cases hx : xk = snk
              · have HJN := Lib.hid (show ¬ J = 1 from fun h => (HJF.out h).1 hx)
                have q1 : (xk == snk) = true := by rw [hx]; simp
                have q2 : (xk != snk) = false := by rw [hx]; simp
                clear hx HJF
                refine wp_region_quiet_below (by kernel_rfl) (by kernel_rfl) ?_
                repeat (go_big_quiet_step ((first | (go_at_call 16; exact Calls.regrown_of ((HSH.out _).mono fun _ _ h => ⟨h.1, h.2.below (Nat.le_refl _) (fun _ _ h => h)⟩)) | (go_at_call 17; exact Calls.regrown_of ((HVR.out _).mono fun _ _ h => ⟨h.1, h.2.below (Nat.le_refl _) (fun _ _ h => h)⟩)))))
                refine wpQuiet_nil ?_
                intro wy hw'
                obtain ⟨pq, hw''⟩ := hw'
                have HOy := Lib.hid (Only.ofBelow (below_regrown wa pq.d pq.os) (fun _ => False))
                rw [← hw''] at HOy
                clear hw'' y0 y1 y2 y3 y4 y5 y6 y7 y8
                go_wp2_with fail
                go_meet
                exact ⟨false, rfl, fun h => (HJN.out h).elim, HOy.out⟩
              · have q1 : (xk == snk) = false := by simpa using hx
                have q2 : (xk != snk) = true := by simpa using hx
                clear hx
                refine wp_region_quiet_below (by kernel_rfl) (by kernel_rfl) ?_
                repeat (go_big_quiet_step ((first | (go_at_call 16; exact Calls.regrown_of ((HSH.out _).mono fun _ _ h => ⟨h.1, h.2.below (Nat.le_refl _) (fun _ _ h => h)⟩)) | (go_at_call 17; exact Calls.regrown_of ((HVR.out _).mono fun _ _ h => ⟨h.1, h.2.below (Nat.le_refl _) (fun _ _ h => h)⟩)))))
                refine wpQuiet_nil ?_
                intro wy hw'
                obtain ⟨pq, hw''⟩ := hw'
                have HOy := Lib.hid (Only.ofBelow (below_regrown wa pq.d pq.os) (fun _ => False))
                rw [← hw''] at HOy
                clear hw'' y0 y1 y2 y3 y4 y5 y6 y7 y8
                go_wp2_with fail
                go_meet
                exact ⟨vv, rfl, fun h => (HJF.out h).2, HOy.out⟩
            case rest =>
              obtain ⟨bb, rfl, hbb, hOx⟩ := hcut
              generalize wc = wx at *
              have HBBx := Lib.hid hbb
              have HOx := Lib.hid (HOa.out.trans hOx)
              have HNx := Lib.hid (row_still hOx HNa.out)
              have HXx := Lib.hid (row_still hOx HXa.out)
              clear hbb hOx s0 s1 s2 s3 s4 s5 s6 s7 s8 HSH HVR HJF HXa HNa HOa
              go_wp2_with (first
                | (refine wpList_load_row rfl 34 _ rfl n10 rfl 34 #[.slice b0 d1.cm.length k0, .int .i64 d1.pt, .slice b2 d1.bx.length k2] (0, 0) _ HNx.out Tryz.underlying34 rfl Tryz.infoDj ?_)
                | (refine wpList_load_row rfl 28 _ rfl nX rfl 28 #[.int .i64 k, .int .i64 xk, .int .i64 xc, .int .i64 xz] (0, 0) _ HXx.out Tryz.underlying28 rfl Tryz.infoCp ?_))
              refine (HJB.out _ HOx.out).mono ?_
              rintro e wz ⟨rfl, hOz⟩
              have HOz := Lib.hid (HOx.out.trans hOz)
              clear hOz HJB HNx HXx HOx
              by_cases hJ1 : J = 1
              · obtain rfl := HBBx.out hJ1
                have q1 : (J == 1) = true := by rw [hJ1]; rfl
                clear hJ1
                go_wp2
                go_roundw
                case rel => exact ⟨j + 1, by omega, by go_num, HOz.out⟩
                case measure => simp [intOf]; omega
              · have q1 : (J == 1) = false := by simpa using hJ1
                clear hJ1
                go_wp2
                go_roundw
                case rel => exact ⟨j + 1, by omega, by go_num, HOz.out⟩
                case measure => simp [intOf]; omega
          · obtain rfl : j = 4 := by omega
            have HOw := Lib.hid hO
            have HNw := Lib.hid (row_still hO HN10.out)
            have HBw := Lib.hid (row_still hO HB10.out)
            have s0 : _ = some (Value.slice b0 d1.cm.length k0) := cell_of_row _ _ 0 _ _ _ HNw.out
            have s1 : _ = some (Value.int .i64 d1.pt) := cell_of_row _ _ 1 _ _ _ HNw.out
            have s2 : _ = some (Value.slice b2 d1.bx.length k2) := cell_of_row _ _ 2 _ _ _ HNw.out
            have s3 : _ = some (Value.int .i64 k) := cell_of_row _ _ 0 _ _ _ HBw.out
            have s4 : _ = some (Value.int .i64 snk) := cell_of_row _ _ 1 _ _ _ HBw.out
            have s5 : _ = some (Value.int .i64 pck) := cell_of_row _ _ 2 _ _ _ HBw.out
            have s6 : _ = some (Value.int .i64 pzk) := cell_of_row _ _ 3 _ _ _ HBw.out
            clear hO hj hlt
            go_wp2_with fail
            refine (HJA.out _ HOw.out snk pck pzk).mono ?_
            rintro e wz ⟨rfl, hOz⟩
            have HOz := Lib.hid (HO10.out.trans (HOw.out.trans hOz))
            clear hOz
            rw [HJ2.out]
            go_wp2
            go_ret
            exact ⟨rfl, HOz.out.below (Nat.le_refl _) (fun _ _ h => h)⟩
end Go.Proofs.YtnnhbngdhhfofaaGreatDoor
