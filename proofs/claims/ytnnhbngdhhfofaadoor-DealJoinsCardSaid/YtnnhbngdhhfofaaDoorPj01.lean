/-
  The walk of the law DealJoins.
-/
import Derived.Test.YtnnhbngdhhfofaaDoorPd16
import Derived.Test.YtnnhbngdhhfofaaDoorPj00
import Derived.Test.YtnnhbngdhhfofaaDoorPd10
import Derived.Test.YtnnhbngdhhfofaaDoorPd02
namespace Go.Proofs.YtnnhbngdhhfofaaDoor
open Go.RowKit

set_option maxRecDepth 100000 in
set_option maxHeartbeats 8000000 in
theorem dj_walk (sv cv : Value) (S C : List Int) (seed : ByteArray) (fi : Int) (w : World) (hS : PtsAt w.heap.size w sv S) (hC : PtsAt w.heap.size w cv C) (hSl : S.length ≤ 9223372036854775807) (hCl : C.length ≤ 9223372036854775807) (hsd : seed.size ≤ 148000000000000)
    (hf0 : 0 ≤ fi) (hf1 : fi ≤ 255) (hG : Glob w) :
    Calls Tryd.prog 3 #[.agg #[sv, cv, .string seed], .int .u8 fi] w fun e w' => e = .returned (.bool true) ∧ Below w.heap.size w w' := by
  obtain ⟨i0, hi0, hz0, hz1, hz2⟩ := info_parts Tryd.infoI
  obtain ⟨a0, c0, rfl⟩ := hS.slice
  obtain ⟨a1, c1, rfl⟩ := hC.slice
  have hA := (Only.refl (fun _ => False) w).alloc (.cells #[.slice a0 S.length c0, .slice a1 C.length c1, .string seed] 24)
  have hzp := heap_alloc_last w (.cells #[.slice a0 S.length c0, .slice a1 C.length c1, .string seed] 24)
  have hAs : (w.alloc (.cells #[.slice a0 S.length c0, .slice a1 C.length c1, .string seed] 24)).heap.size = w.heap.size + 1 := by simp
  have HSAN := Lib.hid (sanity7_any _ (hG.only hA))
  have HA := Lib.hid hA
  have HZP := Lib.hid hzp
  have HSZ := Lib.hid hAs
  have HS := Lib.hid hS
  have HC := Lib.hid hC
  have HG := Lib.hid hG
  clear hA hzp hAs hS hC hG
  go_enter Tryd.func3, Tryd.ntmps3
  go_wp2_with fail
  refine HSAN.out.mono ?_
  rintro e w1 ⟨rfl, hO1⟩
  have HO1 := Lib.hid (HA.out.trans hO1)
  have HZP1 := Lib.hid (row_still hO1 HZP.out)
  have hs1 := hO1.size
  have HS1 := Lib.hid (show w.heap.size + 1 ≤ w1.heap.size by rw [← HSZ.out]; exact hs1)
  clear hO1 HSAN HZP HSZ HA hs1
  go_upto_region 2 with fail
  have p0 : _ = some (Value.slice a0 S.length c0) := cell_of_row _ _ 0 _ _ _ HZP1.out
  have p1 : _ = some (Value.slice a1 C.length c1) := cell_of_row _ _ 1 _ _ _ HZP1.out
  have p2 : _ = some (Value.string seed) := cell_of_row _ _ 2 _ _ _ HZP1.out
  have HKY := Lib.hid (show ∀ w', (w'.cell? ⟨w.heap.size, 0, none⟩ = some (.slice a0 S.length c0) ∧ w'.cell? ⟨w.heap.size, 1, none⟩ = some (.slice a1 C.length c1) ∧ w'.cell? ⟨w.heap.size, 2, none⟩ = some (.string seed) ∧ Only (fun _ => False) w1 w') →
      Calls Tryd.prog 7 #[.agg #[.slice a0 S.length c0, .slice a1 C.length c1, .string seed]] w' (fun e wT => (∃ v, e = .returned v ∧ wT.ownsRow w1.heap.size 3 1 v (keysL S).length (irow (keysL S))) ∧ (wT.cell? ⟨w.heap.size, 0, none⟩ = some (.slice a0 S.length c0) ∧ wT.cell? ⟨w.heap.size, 1, none⟩ = some (.slice a1 C.length c1) ∧ wT.cell? ⟨w.heap.size, 2, none⟩ = some (.string seed) ∧ Only (fun _ => False) w1 wT)) from by
    rintro w' ⟨s0, s1, s2, hO⟩
    refine (keys_any _ _ S seed w' (HS.out.only (HO1.out.trans hO)) ⟨_, _, _, rfl⟩ hSl).mono ?_
    rintro e wT ⟨v, rfl, hv, hT⟩
    exact ⟨⟨v, rfl, own_base hv hO.size⟩, hT.cell s0 (fun h => h), hT.cell s1 (fun h => h), hT.cell s2 (fun h => h), hO.trans hT⟩)
  have HNM := Lib.hid (show ∀ w', (w'.cell? ⟨w.heap.size, 0, none⟩ = some (.slice a0 S.length c0) ∧ w'.cell? ⟨w.heap.size, 1, none⟩ = some (.slice a1 C.length c1) ∧ w'.cell? ⟨w.heap.size, 2, none⟩ = some (.string seed) ∧ Only (fun _ => False) w1 w') →
      Calls Tryd.prog 8 #[.agg #[.slice a0 S.length c0, .slice a1 C.length c1, .string seed]] w' (fun e wT => (∃ v, e = .returned v ∧ wT.ownsRow w'.heap.size 3 1 v (numsL S C).length (irow (numsL S C))) ∧ Only (fun _ => False) w' wT ∧ (wT.cell? ⟨w.heap.size, 0, none⟩ = some (.slice a0 S.length c0) ∧ wT.cell? ⟨w.heap.size, 1, none⟩ = some (.slice a1 C.length c1) ∧ wT.cell? ⟨w.heap.size, 2, none⟩ = some (.string seed) ∧ Only (fun _ => False) w1 wT)) from by
    rintro w' ⟨s0, s1, s2, hO⟩
    refine (nums_any _ _ S C seed w' (HC.out.only (HO1.out.trans hO)) ⟨_, _, rfl⟩ hSl hCl).mono ?_
    rintro e wT ⟨v, rfl, hv, hT⟩
    exact ⟨⟨v, rfl, hv⟩, hT, hT.cell s0 (fun h => h), hT.cell s1 (fun h => h), hT.cell s2 (fun h => h), hO.trans hT⟩)
  have HKS := Lib.hid (show ∀ W, Only (fun _ => False) w1 W → W.cell? ⟨w.heap.size, 0, none⟩ = some (.slice a0 S.length c0) ∧ W.cell? ⟨w.heap.size, 1, none⟩ = some (.slice a1 C.length c1) ∧ W.cell? ⟨w.heap.size, 2, none⟩ = some (.string seed) ∧ Only (fun _ => False) w1 W from fun W h => ⟨h.cell p0 id, h.cell p1 id, h.cell p2 id, h⟩)
  have hK12 : (keysL S).length ≤ 12 := by have := keysL_len S; omega
  have hF12 : (numsL S C).length ≤ 12 := by have := numsL_len S C; omega
  have HKK := Lib.hid (show ∀ j, j < (keysL S).length → j < S.length ∧ ptAt (keysL S) j = powM 4 (ptAt S j % 1152921504606845789) 2305843009213691579 from fun j hj => by
    rw [keysL_len] at hj
    have h1 : j < (S.take 12).length := by rw [List.length_take]; omega
    refine ⟨by omega, ?_⟩
    unfold keysL
    rw [map_ptAt powF4 _ j h1, ptAt_take S 12 j (by omega)]
    rfl)
  have HFB := Lib.hid (show ∀ j, 0 ≤ ptAt (numsL S C) j ∧ ptAt (numsL S C) j < 1152921504606845789 from fun j => resF_bd _ j)
  generalize keysL S = K at *
  generalize numsL S C = F at *
  go_cut [6, 7] (fun v6 v7 wx => Duo w1 wx w1.heap.size v6 v7 K F)
  case first =>
    go_region_held3 (fun w' => w'.cell? ⟨w.heap.size, 0, none⟩ = some (.slice a0 S.length c0) ∧ w'.cell? ⟨w.heap.size, 1, none⟩ = some (.slice a1 C.length c1) ∧ w'.cell? ⟨w.heap.size, 2, none⟩ = some (.string seed) ∧ Only (fun _ => False) w1 w')
      (first
        | with_reducible exact HKS.out _ ((Only.refl _ w1).drew)
        | with_reducible exact hSK
        | with_reducible exact hSN)
      (first
        | (go_at_call 7; refine (HKY.out _ (by assumption)).mono ?_; rintro e wK ⟨⟨vK, rfl, hvK⟩, hSK⟩)
        | (go_at_call 8; refine (HNM.out _ (by assumption)).mono ?_; rintro e wN ⟨⟨vN, rfl, hvN⟩, hXN, hSN⟩))
    all_goals (clear HKY HNM HKS)
    all_goals (go_wp2_with fail)
    all_goals (go_meet)
    all_goals (exact ⟨hXN.owns hvK (fun _ _ h => h), own_base hvN hSK.2.2.2.size, fun k hk he => by have := (own_lt hvK hk).1; have := (own_lt hvN he).2; omega, hSN.2.2.2, Nat.le_refl _⟩)
  case rest =>
    have HD := Lib.hid hcut
    generalize wc = w2 at *
    clear hcut HKY HNM HKS p0 p1 p2
    have hO2 := HD.out.only
    have HZP2 := Lib.hid (row_still hO2 HZP1.out)
    have HO2 := Lib.hid (HO1.out.trans hO2)
    have p2 : _ = some (Value.string seed) := cell_of_row _ _ 2 _ _ _ HZP2.out
    obtain ⟨a6, c6, rfl⟩ := slice_of_own HD.out.pts
    obtain ⟨a7, c7, rfl⟩ := slice_of_own HD.out.num
    have HKP := Lib.hid (fun (w' : World) (hO : Only (fun _ => False) w2 w') => (pts_of_own HD.out.pts (by omega)).only hO)
    have HFP := Lib.hid (fun (w' : World) (hO : Only (fun _ => False) w2 w') => (pts_of_own HD.out.num (by omega)).only hO)
    have HCM := Lib.hid (dealD_cm F K seed (by omega))
    have HBX := Lib.hid (dealD_bx F K seed (by omega))
    have HPD := Lib.hid (fun (w' : World) (hO : Only (fun _ => False) w2 w') => pdeal_any _ _ F K seed w' (HFP.out w' hO) (HKP.out w' hO) (by omega) (by omega) hsd (HG.out.only (HO2.out.trans hO)))
    obtain ⟨ok1, hok1⟩ : ∃ b, dealOk F K = b := ⟨_, rfl⟩
    obtain ⟨d1, hd1⟩ : ∃ d, dealD F K seed = d := ⟨_, rfl⟩
    rw [hok1, hd1] at HPD
    rw [hd1] at HCM HBX
    have HOK := Lib.hid hok1
    have HDD := Lib.hid hd1
    clear hO2 hok1 hd1
    go_wp2_with fail
    refine (HPD.out _ (Only.refl _ _)).mono ?_
    rintro e w3 ⟨hO3, c0d, c2d, rfl, hD3⟩
    have HON3 := Lib.hid (slice_one hD3.cm hD3.bx d1.pt)
    have hDA3 := hD3.at (by have := HCM.out; omega) (by have := HBX.out; omega)
    obtain ⟨b0, k0, rfl⟩ := hDA3.cm.slice
    obtain ⟨b2, k2, rfl⟩ := hDA3.bx.slice
    have hO4 := hO3.alloc (.cells #[.slice b0 d1.cm.length k0, .int .i64 d1.pt, .slice b2 d1.bx.length k2] 29)
    have HO4 := Lib.hid hO4
    have HD4 := Lib.hid (hDA3.only ((Only.refl (fun _ => False) w3).alloc (.cells #[.slice b0 d1.cm.length k0, .int .i64 d1.pt, .slice b2 d1.bx.length k2] 29)))
    have HN4 := Lib.hid (heap_alloc_last w3 (.cells #[.slice b0 d1.cm.length k0, .int .i64 d1.pt, .slice b2 d1.bx.length k2] 29))
    have HL3 := Lib.hid hO3.size
    clear hO3 hO4 hD3 hDA3 HPD
    cases ok1
    · have HOF := Lib.hid (HO2.out.trans HO4.out)
      clear HDD HD4 HN4 HOK HO4 HCM HBX HL3
      go_wp2_with (first | (refine wpList_store_row rfl 29 _ _ rfl w3.heap.size #[.slice b0 d1.cm.length k0, .int .i64 d1.pt, .slice b2 d1.bx.length k2] rfl rfl 29 _ (heap_alloc_last w3 _) Tryd.infoDl rfl HON3.out ?_; rw [World.setRow_alloc_new]))
      go_ret
      exact ⟨rfl, HOF.out.below (Nat.le_refl _) (fun _ _ h => h)⟩
    · have hok := HOK.out
      unfold dealOk at hok
      simp only [Bool.and_eq_true, decide_eq_true_eq] at hok
      obtain ⟨⟨⟨⟨⟨hk1, hk60⟩, _⟩, hf1'⟩, hfk⟩, _⟩ := hok
      have HDZ := Lib.hid (show d1 = dealZ F K seed by rw [← HDD.out]; unfold dealD; rw [HOK.out]; rfl)
      have HCL := Lib.hid (show d1.cm.length = F.length by rw [HDZ.out]; exact cmTo_len _ _)
      have HBL := Lib.hid (show d1.bx.length = K.length by rw [HDZ.out]; exact bxTo_len _ _ _ _)
      have HC0 := Lib.hid (show ptAt d1.cm 0 = powM 4 (ptAt F 0) 2305843009213691579 by
        rw [HDZ.out]
        exact cmTo_at' F _ 0 (by omega))
      obtain ⟨fr, rfl⟩ := Int.eq_ofNat_of_zero_le hf0
      have HOP := Lib.hid (show ∀ (W : World), Only (fun _ => False) (w3.alloc (.cells #[.slice b0 d1.cm.length k0, .int .i64 d1.pt, .slice b2 d1.bx.length k2] 29)) W → ∀ j, j < K.length → Calls Tryd.prog 10 #[.int .i64 (ptAt S j), .agg #[.slice b0 d1.cm.length k0, .int .i64 d1.pt, .slice b2 d1.bx.length k2], .int .i64 j] W fun e w' => e = .returned (.tuple #[.agg #[.int .i64 ((j : Int) + 1), .int .i64 (valZ F ((j : Int) + 1))], .bool true]) ∧ Only (fun _ => False) W w' from fun W hO j hj => by
        obtain ⟨hjs, hjk⟩ := HKK.out j hj
        have hsz : (sAt d1.bx j).size ≤ 9223372036854775807 := by
          rw [HDZ.out, show sAt (dealZ F K seed).bx j = _ from bxTo_at _ _ _ _ _ hj]
          unfold boxOf
          rw [strOf_size, sealL_len]
          decide
        have h1 := open_yes b0 b2 k0 k2 d1 (ptAt S j) j W (HD4.out.only hO) HCM.out HBX.out (by rw [HBL.out]; exact hj) hsz (HG.out.only (HO2.out.trans (HO4.out.trans hO)))
        have hm := emod_self_lt (ptAt S j) 1152921504606845789 (by decide)
        have h2 := uns_dealt F K seed (ptAt S j % 1152921504606845789) j hj hm.1 hm.2 hjk HFB.out
        have h3 : seedN d1 (ptAt S j) = seedN (dealZ F K seed) (ptAt S j % 1152921504606845789) := by
          unfold seedN
          rw [HDZ.out, Int.emod_emod_of_dvd _ (Int.dvd_refl _)]
        rw [h3, HDZ.out, h2, ← HDZ.out] at h1
        exact h1)
      have HJF := Lib.hid (join_first F fr K.length hfk hk60 (HFB.out 0))
      have HZP := Lib.hid (zsT_pts fr K.length F.length hfk hk60)
      have HZL := Lib.hid (zsT_len fr K.length F.length)
      have HSS := Lib.hid (fun (W : World) (hO : Only (fun _ => False) (w3.alloc (.cells #[.slice b0 d1.cm.length k0, .int .i64 d1.pt, .slice b2 d1.bx.length k2] 29)) W) => HS.out.only (HO2.out.trans (HO4.out.trans hO)))
      have HP4 := Lib.hid (row_still HO4.out HZP2.out)
      have HF4 := Lib.hid (fun (W : World) (hO : Only (fun _ => False) (w3.alloc (.cells #[.slice b0 d1.cm.length k0, .int .i64 d1.pt, .slice b2 d1.bx.length k2] 29)) W) => HFP.out W (HO4.out.trans hO))
      have HOF := Lib.hid (HO2.out.trans HO4.out)
      clear HDD HOK HO4 HL3 HDZ HD HKP HFP
      go_wp2_with (first | (refine wpList_store_row rfl 29 _ _ rfl w3.heap.size #[.slice b0 d1.cm.length k0, .int .i64 d1.pt, .slice b2 d1.bx.length k2] rfl rfl 29 _ (heap_alloc_last w3 _) Tryd.infoDl rfl HON3.out ?_; rw [World.setRow_alloc_new]))
      generalize w3.alloc (.cells #[.slice b0 d1.cm.length k0, .int .i64 d1.pt, .slice b2 d1.bx.length k2] 29) = w4 at *
      generalize w3.heap.size = n3 at *
      obtain ⟨s0, hs0, hsz0, hsz1, hsz2⟩ := info_parts Tryd.infoS
      have hm12 : K.length ≤ 12 := hK12
      go_loopw [10, 41] (fun v vi wr => ∃ k : Nat, k ≤ F.length ∧ vi = .int .i64 k ∧ wr.ownsRow w4.heap.size 34 2 v k (srow ((List.range k).map fun j => (((nkT fr K.length j : Nat) : Int) + 1, valZ F (((nkT fr K.length j : Nat) : Int) + 1)))) ∧ Only (fun _ => False) w4 wr) (fun _ vi _ => F.length - (intOf vi).toNat)
      case atStart => exact ⟨0, Nat.zero_le _, rfl, World.ownsRow_nil _ _ _ _, Only.refl _ _⟩
      case round =>
        obtain ⟨k, hk, rfl, hown, hO⟩ := hrel
        have HO := Lib.hid hO
        have HOW := Lib.hid hown
        have hsz := hO.size
        by_cases hlt : k < F.length
        · have hnl := nk_lt fr K.length k (by omega)
          have HT := Lib.hid (show ((List.range (k + 1)).map fun j => ((((nkT fr K.length j : Nat) : Int) + 1, valZ F (((nkT fr K.length j : Nat) : Int) + 1)) : Int × Int)) = ((List.range k).map fun j => ((((nkT fr K.length j : Nat) : Int) + 1, valZ F (((nkT fr K.length j : Nat) : Int) + 1)) : Int × Int)) ++ [(((nkT fr K.length k : Nat) : Int) + 1, valZ F (((nkT fr K.length k : Nat) : Int) + 1))] by rw [List.range_succ, List.map_append]; rfl)
          have ht : ((fr : Int) + k).tmod K.length = ((nkT fr K.length k : Nat) : Int) := by
            rw [show ((fr : Int) + k) = ((fr + k : Nat) : Int) by omega]
            rfl
          have HP := Lib.hid (fun (W : World) (hW : Only (fun _ => False) wr W) => HOP.out W (hO.trans hW) _ hnl)
          obtain ⟨hjs, _⟩ := HKK.out _ hnl
          obtain ⟨sb, so, ha0, hsb, hl0, hsc1, hsc2, hcell⟩ := (HSS.out wr hO).cellAt hjs
          subst ha0
          generalize ptAt S (nkT fr K.length k) = sk at *
          generalize nkT fr K.length k = n at *
          generalize (List.range k).map (fun j => ((((nkT fr K.length j : Nat) : Int) + 1, valZ F (((nkT fr K.length j : Nat) : Int) + 1)) : Int × Int)) = L at *
          generalize valZ F ((n : Int) + 1) = y at *
          have p0 : _ = some (Value.slice (some ⟨sb, so, none⟩) S.length c0) := cell_of_row _ _ 0 _ _ _ (row_still hO HP4.out)
          have f0 : _ = some (Value.slice b0 d1.cm.length k0) := cell_of_row _ _ 0 _ _ _ (row_still hO HN4.out)
          have f1 : _ = some (Value.int .i64 d1.pt) := cell_of_row _ _ 1 _ _ _ (row_still hO HN4.out)
          have f2 : _ = some (Value.slice b2 d1.bx.length k2) := cell_of_row _ _ 2 _ _ _ (row_still hO HN4.out)
          have i1 : (k : Int) < F.length := by omega
          have i2 : 0 ≤ (k : Int) := by omega
          have i3 : (n : Int) < S.length := by omega
          have i4 : 0 ≤ (n : Int) := by omega
          have i5 : (K.length == 0) = false := beq_eq_false_iff_ne.2 (by omega)
          have i6 : ((K.length : Int) == 0) = false := beq_eq_false_iff_ne.2 (by omega)
          have i7 : IntKind.i64.wrap ((fr : Int) + k) = fr + k := IntWalk.i64_in _ (by omega)
          clear hO hown hl0
          go_upto_region 11 with fail
          have HPO := Lib.hid (show ∀ w', (w'.cell? ⟨w.heap.size, 0, none⟩ = some (.slice (some ⟨sb, so, none⟩) S.length c0) ∧ w'.cell? ⟨sb, so + n, none⟩ = some (.int .i64 sk) ∧ w'.cell? ⟨n3, 0, none⟩ = some (.slice b0 d1.cm.length k0) ∧ w'.cell? ⟨n3, 1, none⟩ = some (.int .i64 d1.pt) ∧ w'.cell? ⟨n3, 2, none⟩ = some (.slice b2 d1.bx.length k2) ∧ Only (fun _ => False) wr w') →
              Calls Tryd.prog 10 #[.int .i64 sk, .agg #[.slice b0 d1.cm.length k0, .int .i64 d1.pt, .slice b2 d1.bx.length k2], .int .i64 n] w' (fun e wT => (e = .returned (.tuple #[.agg #[.int .i64 ((n : Int) + 1), .int .i64 y], .bool true]) ∧ Only (fun _ => False) w' wT) ∧ Only (fun _ => False) wr wT) from by
            rintro w' ⟨_, _, _, _, _, hOw⟩
            exact (HP.out w' hOw).mono fun e wT h => ⟨h, hOw.trans h.2⟩)
          have HKS := Lib.hid (show ∀ W, Only (fun _ => False) wr W → W.cell? ⟨w.heap.size, 0, none⟩ = some (.slice (some ⟨sb, so, none⟩) S.length c0) ∧ W.cell? ⟨sb, so + n, none⟩ = some (.int .i64 sk) ∧ W.cell? ⟨n3, 0, none⟩ = some (.slice b0 d1.cm.length k0) ∧ W.cell? ⟨n3, 1, none⟩ = some (.int .i64 d1.pt) ∧ W.cell? ⟨n3, 2, none⟩ = some (.slice b2 d1.bx.length k2) ∧ Only (fun _ => False) wr W from fun W h => ⟨h.cell p0 id, h.cell hcell id, h.cell f0 id, h.cell f1 id, h.cell f2 id, h⟩)
          go_cut [13, 14] (fun v13 v14 wx => ShMid wr wx ((n : Int) + 1) y v13 v14)
          case first =>
            go_region_held3 (fun w' => w'.cell? ⟨w.heap.size, 0, none⟩ = some (.slice (some ⟨sb, so, none⟩) S.length c0) ∧ w'.cell? ⟨sb, so + n, none⟩ = some (.int .i64 sk) ∧ w'.cell? ⟨n3, 0, none⟩ = some (.slice b0 d1.cm.length k0) ∧ w'.cell? ⟨n3, 1, none⟩ = some (.int .i64 d1.pt) ∧ w'.cell? ⟨n3, 2, none⟩ = some (.slice b2 d1.bx.length k2) ∧ Only (fun _ => False) wr w')
              (first
                | with_reducible exact HKS.out _ ((Only.refl _ wr).drew)
                | with_reducible exact HKS.out _ hSO
                | with_reducible exact HKS.out _ (hSO.alloc _)
                | with_reducible exact HKS.out _ ((Only.refl _ wr).drew.alloc _)
                | with_reducible exact HKS.out _ (((Only.refl _ wr).alloc _).drew)
                | with_reducible exact HKS.out _ ((hSO.setCell (.inr hge) _).setCell (.inr hge) _))
              (first
                | (go_at_call 10; refine (HPO.out _ (by assumption)).mono ?_; rintro e wO ⟨⟨rfl, hOO⟩, hSO⟩
                   first
                     | (have hBk := dl_blk2D hOO; have hge := Nat.le_refl wr.heap.size; have z0 := cell_of_row _ _ 0 _ _ _ hBk; have z1 := cell_of_row _ _ 1 _ _ _ hBk; have g0 := frozen_of_row _ _ 0 _ _ hBk; have g1 := frozen_of_row _ _ 1 _ _ hBk; have lB := own_lt0D hBk)
                     | (have hBk := dl_blkD hOO; have hge := Nat.le_refl wr.heap.size; have z0 := cell_of_row _ _ 0 _ _ _ hBk; have z1 := cell_of_row _ _ 1 _ _ _ hBk; have g0 := frozen_of_row _ _ 0 _ _ hBk; have g1 := frozen_of_row _ _ 1 _ _ hBk; have lB := own_lt0D hBk)
                     | skip))
            all_goals (clear HPO HKS HP)
            all_goals (go_wp2_with fail)
            all_goals (go_meet)
            all_goals first
              | exact sh_end1 hSO
              | exact sh_end2 (Nat.le_refl _) hBk hSO
          case rest =>
            obtain ⟨B, rfl, rfl, hBk, hBl, hOx⟩ := hcut
            have HBK := Lib.hid hBk
            have HOx := Lib.hid (HO.out.trans hOx)
            have HOWx := Lib.hid (hOx.owns HOW.out (fun _ _ h => h))
            generalize wc = wx at *
            clear hBk hOx HPO HKS HP hcell p0 f0 f1 f2
            have lB := own_lt0D HBK.out
            have z0 : _ = some (Value.int .i64 ((n : Int) + 1)) := cell_of_row _ _ 0 _ _ _ HBK.out
            have z1 : _ = some (Value.int .i64 y) := cell_of_row _ _ 1 _ _ _ HBK.out
            obtain ⟨av, cv, hvv⟩ := slice_of_own HOWx.out
            subst hvv
            go_wp2_with (at_builtin; refine wpList_append_lies _ rfl _ _ 32 rfl w4.heap.size 34 s0 _ 2 16 Tryd.underlying32 hs0 hsz0 hsz1 hsz2 rfl (by decide) _ k (srow L) rfl (HOWx.out.alloc _) ⟨wx.heap.size, 0, none⟩ 1 1 [.int .i64 ((n : Int) + 1), .int .i64 y] rfl rfl (World.news_of_block (cs := #[.int .i64 ((n : Int) + 1), .int .i64 y]) (t := 34) (fr := (0, 0)) (heap_alloc_new wx _)) ?c0 (by decide) ?c1 ?c2 ?c3 _ rfl ?_)
            case c0 => intro u hu; simp at hu; rcases hu with rfl | rfl <;> rfl
            case c1 => unfold maxLen; omega
            case c2 => omega
            case c3 => have := HOx.out.size; rw [World.size_alloc]; omega
            intro g1 cp1 w9 ho1 hg1 ha1 _
            have HO9 := Lib.hid ((HOx.out.alloc _).grow (HOWx.out.alloc _) (Nat.le_refl _) hg1)
            have HOW9 := Lib.hid (show w9.ownsRow w4.heap.size 34 2 (.slice (some ⟨g1, 0, none⟩) (k + 1) cp1) (k + 1) (srow (L ++ [((n : Int) + 1, y)])) by rw [srow_append]; exact ho1)
            clear ho1 hg1 ha1
            go_wp2
            go_roundw
            case rel => exact ⟨k + 1, by omega, by go_num, by rw [HT.out]; exact HOW9.out, HO9.out⟩
            case measure => simp [intOf]; omega
        · obtain rfl : k = F.length := by omega
          have HLL := Lib.hid (show ((List.range F.length).map fun j => ((((nkT fr K.length j : Nat) : Int) + 1, valZ F (((nkT fr K.length j : Nat) : Int) + 1)) : Int × Int)).length = F.length by simp)
          have HLA := Lib.hid (show ∀ j, j < F.length → shAt ((List.range F.length).map fun j => ((((nkT fr K.length j : Nat) : Int) + 1, valZ F (((nkT fr K.length j : Nat) : Int) + 1)) : Int × Int)) j = (ptAt (zsT fr K.length F.length) j, ptAt (ysT F fr K.length F.length) j) from fun j hj => by
            rw [zsT_at fr K.length F.length j hj, ysT_at F fr K.length F.length j hj]
            simp [shAt, List.getD, hj])
          generalize (List.range F.length).map (fun j => ((((nkT fr K.length j : Nat) : Int) + 1, valZ F (((nkT fr K.length j : Nat) : Int) + 1)) : Int × Int)) = L at *
          have HSH := Lib.hid (shs_of_own (l := L) (by rw [HLL.out]; exact hown) (by rw [HLL.out]; omega))
          have HZB := Lib.hid (show ∀ j, j < F.length → -9000000000000000000 ≤ ptAt (zsT fr K.length F.length) j ∧ 1 ≤ ptAt (zsT fr K.length F.length) j ∧ ptAt (zsT fr K.length F.length) j ≤ 100 from fun j hj => by
            rw [zsT_at fr K.length F.length j hj]
            have := nk_lt fr K.length j (by omega)
            omega)
          generalize zsT fr K.length F.length = zs at *
          generalize ysT F fr K.length F.length = ys at *
          have i1 : ¬ (F.length : Int) < F.length := by omega
          obtain ⟨av, cv, hvv⟩ := slice_of_own hown
          subst hvv
          clear hO hown hlt hk HOP HKK HSS HP4
          go_wp2_with fail
          generalize wr = w5 at *
          have HCELL := Lib.hid (show ∀ W, Only (fun _ => False) w5 W → ∀ j, j < F.length → ∃ b off, av = some ⟨b, off, none⟩ ∧ b < W.heap.size ∧ W.cell? ⟨b, off + j * 2, none⟩ = some (.int .i64 (ptAt zs j)) ∧ W.cell? ⟨b, off + j * 2 + 1, none⟩ = some (.int .i64 (ptAt ys j)) ∧ F.length ≤ cv ∧ cv ≤ 9223372036854775807 from by
            intro W hW j hj
            rcases HSH.out with ⟨_, _, _, h0⟩ | ⟨b, off, cap, hv, hb, h1, h2, hc⟩
            · have := HLL.out; rw [h0] at this; simp at this; omega
            · simp only [Value.slice.injEq] at hv
              obtain ⟨rfl, _, rfl⟩ := hv
              have := hc j (by rw [HLL.out]; exact hj)
              rw [HLA.out j hj] at this
              exact ⟨b, off, rfl, Nat.lt_of_lt_of_le hb hW.size, hW.cell this.1 (fun h => h), hW.cell this.2 (fun h => h), by rw [← HLL.out]; exact h1, h2⟩)
          clear HSH HLA HOW
          go_loopw [15, 71] (fun v vi wr => ∃ k : Nat, k ≤ F.length ∧ vi = .int .i64 k ∧ v = .int .i64 (sumT zs ys k) ∧ Only (fun _ => False) w5 wr) (fun _ vi _ => F.length - (intOf vi).toNat)
          case atStart => exact ⟨0, Nat.zero_le _, rfl, rfl, Only.refl _ _⟩
          case round =>
            obtain ⟨k, hk, rfl, rfl, hO6⟩ := hrel
            by_cases hlt : k < F.length
            · obtain ⟨sb, so, ha, hbl, c0', c1', hcv1, hcv2⟩ := HCELL.out wr hO6 k hlt
              subst ha
              have HST := Lib.hid (show sumT zs ys (k + 1) = (sumT zs ys k + fLo zs (ptAt ys k) k F.length) % 1152921504606845789 by rw [sumT, HZL.out])
              have HF0 := Lib.hid (show fLo zs (ptAt ys k) k 0 = ptAt ys k from rfl)
              have HFS := Lib.hid (fun j => show fLo zs (ptAt ys k) k (j + 1) = if j = k then fLo zs (ptAt ys k) k j else fLo zs (ptAt ys k) k j * (ptAt zs j * invM (ptAt zs j - ptAt zs k) 1152921504606845789 % 1152921504606845789) % 1152921504606845789 from rfl)
              have HIV := Lib.hid (fun j (hj : j < F.length) (e : j ≠ k) => inv_pts HZP.out j k (by rw [HZL.out]; exact hj) (by rw [HZL.out]; exact hlt) e)
              have HZK := Lib.hid (HZB.out k hlt)
              have HOA := Lib.hid (hO6.alloc (.cells #[.int .i64 (ptAt zs k), .int .i64 (ptAt ys k)] 34))
              have HBK := Lib.hid (heap_alloc_last wr (.cells #[.int .i64 (ptAt zs k), .int .i64 (ptAt ys k)] 34))
              generalize sumT zs ys k = sm at *
              generalize fLo zs (ptAt ys k) k = fl at *
              generalize ptAt ys k = yk at *
              generalize ptAt zs k = zk at *
              have i2 : (k : Int) < F.length := by omega
              have i3 : 0 ≤ (k : Int) := by omega
              clear hO6 hk
              go_wp2_with fail
              generalize hW : World.alloc _ _ = w6
              change wr.alloc (.cells #[.int .i64 zk, .int .i64 yk] 34) = w6 at hW
              rw [hW] at HOA HBK
              clear hW c0' c1'
              generalize wr.heap.size = nS at *
              generalize hwr2 : wr = w6a at *
              clear hwr2
              go_loopw [18, 80] (fun v vi wr => ∃ j : Nat, j ≤ F.length ∧ vi = .int .i64 j ∧ v = .int .i64 (fl j) ∧ Only (fun _ => False) w6 wr) (fun _ vi _ => F.length - (intOf vi).toNat)
              case atStart => exact ⟨0, Nat.zero_le _, rfl, by rw [HF0.out], Only.refl _ _⟩
              case round =>
                obtain ⟨j, hj, rfl, rfl, hO7⟩ := hrel
                by_cases hjl : j < F.length
                · obtain ⟨sb2, so2, ha2, hbl2, d0, d1', _, _⟩ := HCELL.out wr (HOA.out.trans hO7) j hjl
                  obtain ⟨rfl, rfl⟩ : sb = sb2 ∧ so = so2 := by simpa using ha2
                  clear ha2
                  have HO8 := Lib.hid (hO7.alloc (.cells #[.int .i64 (ptAt zs j), .int .i64 (ptAt ys j)] 34))
                  have x0 : (wr.alloc (.cells #[.int .i64 (ptAt zs j), .int .i64 (ptAt ys j)] 34)).cell? ⟨nS, 0, none⟩ = some (Value.int .i64 zk) := cell_of_row _ _ 0 _ _ _ (row_still (hO7.alloc _) HBK.out)
                  have HFJ := Lib.hid (HFS.out j)
                  have HZJ := Lib.hid (HZB.out j hjl)
                  have j2 : (j : Int) < F.length := by omega
                  have j3 : 0 ≤ (j : Int) := by omega
                  by_cases e : j = k
                  · have HFJ2 := Lib.hid (show fl (j + 1) = fl j by rw [HFJ.out, if_pos e])
                    have e2 : ((k : Int) == (j : Int)) = true := by rw [e]; simp
                    have e3 : (k == j) = true := by rw [e]; simp
                    clear hO7 hj HFJ e
                    generalize fl j = f at *
                    generalize ptAt zs j = zj at *
                    generalize ptAt ys j = yj at *
                    go_wp2
                    go_roundw
                    case rel => exact ⟨j + 1, by omega, by go_num, by rw [HFJ2.out], HO8.out⟩
                    case measure => simp [intOf]; omega
                  · have HFJ2 := Lib.hid (show fl (j + 1) = fl j * (ptAt zs j * invM (ptAt zs j - zk) 1152921504606845789 % 1152921504606845789) % 1152921504606845789 by rw [HFJ.out, if_neg e])
                    have e2 : ((k : Int) == (j : Int)) = false := beq_eq_false_iff_ne.2 (by omega)
                    have e3 : (k == j) = false := beq_eq_false_iff_ne.2 (by omega)
                    have HINV := Lib.hid (fun W => rinv_lit (ptAt zs j - zk) 1152921504606845789 W (by decide) (by decide))
                    rw [HIV.out j hjl e] at HINV
                    clear hO7 hj HFJ e
                    generalize fl j = f at *
                    generalize ptAt zs j = zj at *
                    generalize ptAt ys j = yj at *
                    obtain ⟨b1, b2⟩ := HZJ.out.2
                    obtain ⟨b3, b4⟩ := HZK.out.2
                    have i7 : IntKind.i64.wrap (zj - zk) = zj - zk := IntWalk.i64_in _ (by omega)
                    go_wp2_with fail
                    refine (HINV.out _).mono ?_
                    rintro e w' ⟨rfl, rfl⟩
                    generalize invM (zj - zk) 1152921504606845789 = iv at *
                    go_wp2_with fail
                    refine (rmul_any zj iv 1152921504606845789 _ (by decide) (by decide)).mono ?_
                    rintro e w' ⟨rfl, rfl⟩
                    go_wp2_with fail
                    refine (rmul_any f (zj * iv % 1152921504606845789) 1152921504606845789 _ (by decide) (by decide)).mono ?_
                    rintro e w' ⟨rfl, rfl⟩
                    go_wp2
                    go_roundw
                    case rel => exact ⟨j + 1, by omega, by go_num, by rw [HFJ2.out], HO8.out⟩
                    case measure => simp [intOf]; omega
                · obtain rfl : j = F.length := by omega
                  have j2 : ¬ (F.length : Int) < F.length := by omega
                  have HO9 := Lib.hid (HOA.out.trans hO7)
                  clear hO7 hj hjl
                  generalize fl F.length = f at *
                  go_wp2_with fail
                  refine (radd_any sm f 1152921504606845789 _ (by decide) (by decide)).mono ?_
                  rintro e w' ⟨rfl, rfl⟩
                  go_wp2
                  go_roundw
                  case rel => exact ⟨k + 1, by omega, by go_num, by rw [HST.out], HO9.out⟩
                  case measure => simp [intOf]; omega
            · obtain rfl : k = F.length := by omega
              have i2 : ¬ (F.length : Int) < F.length := by omega
              rw [HJF.out]
              have hO46 := HO.out.trans hO6
              obtain ⟨xb, xo, hxa, hxb, _, hxc1, hxc2, hxc⟩ := (HF4.out wr hO46).cellAt (k := 0) (by omega)
              obtain ⟨yb, yo, hya, hyb, _, hyc1, hyc2, hyc⟩ := (HD4.out.only hO46).cm.cellAt (k := 0) (by rw [HCL.out]; omega)
              rw [HC0.out] at hyc
              rw [Nat.add_zero] at hxc hyc
              subst hxa hya
              have f0 : _ = some (Value.slice (some ⟨yb, yo, none⟩) d1.cm.length k0) := cell_of_row _ _ 0 _ _ _ (row_still hO46 HN4.out)
              have hcl := HCL.out
              have hb0 := HFB.out 0
              have HOE := Lib.hid (HOF.out.trans hO46)
              have i3 : (0 : Int) < F.length := by omega
              have i4 : 0 < F.length := by omega
              generalize ptAt F 0 = x0 at *
              obtain ⟨pz, hpz⟩ : ∃ z, powM 4 x0 2305843009213691579 = z := ⟨_, rfl⟩
              have HPW := Lib.hid (fun W => rpow_any 4 x0 2305843009213691579 W (by decide) (by decide) hb0.1 (by omega))
              rw [hpz] at HPW hyc
              clear hO46 hO6 hk hlt HF4 HD4 HN4 HCELL HC0 HCL hpz
              go_wp2_with fail
              go_quiet ((first | (go_at_call 14; exact quiet_left (HPW.out _))))
              go_wp2
              go_ret
              exact ⟨by simp, (HOE.out.drewN nq).below (Nat.le_refl _) (fun _ _ h => h)⟩
end Go.Proofs.YtnnhbngdhhfofaaDoor
