/-
  The walk of the law DealDeals.
-/
import Derived.Test.YtnnhbngdhhfofaaDoorPd16
import Derived.Laws.AppendOwnNone
namespace Go.Proofs.YtnnhbngdhhfofaaDoor
open Go.RowKit

theorem rmod1_any (a m : Int) (w : World) (hm : 0 < m) (hm2 : m ≤ 1000000000000000000) :
    Calls Tryd.prog 22 #[.int .i64 a, .int .i64 m] w fun e w' => e = .returned (.int .i64 (a % m)) ∧ w = w' := by
  have h1 := Int.lt_tmod_of_pos a hm
  have h2 := Int.tmod_lt_of_pos a hm
  have hz : (m == 0) = false := beq_eq_false_iff_ne.2 (by omega)
  have hf2 : (a.tmod m + m) % m = a % m := by
    have e := tmod_fix a m hm
    by_cases h0 : a.tmod m < 0
    · rw [if_pos h0] at e
      rw [← e, Int.emod_eq_of_lt (by omega) (by omega)]
    · rw [if_neg h0] at e
      rw [← e, Int.add_emod_right, Int.emod_eq_of_lt (by omega) (by omega)]
  have HF := Lib.hid (show (a.tmod m + m).tmod m = a % m by rw [Int.tmod_eq_emod_of_nonneg (by omega)]; exact hf2)
  have HF2 := Lib.hid hf2
  clear hf2
  have HW := Lib.hid (show IntKind.i64.wrap (a.tmod m + m) = a.tmod m + m from IntWalk.i64_in _ (by omega))
  have h3 := Int.emod_nonneg a (show m ≠ 0 by omega)
  have h4 := Int.emod_lt_of_pos a hm
  go_enter Tryd.func22, Tryd.ntmps22
  go_wp2
  go_ret
  refine ⟨ret_int ?_, rfl⟩
  first | exact HF.out | exact HF2.out
set_option maxRecDepth 100000 in
set_option maxHeartbeats 8000000 in
theorem dd_walk (sv cv : Value) (S C : List Int) (seed : ByteArray) (q0 q1 q2 : Int) (w : World) (hS : PtsAt w.heap.size w sv S) (hC : PtsAt w.heap.size w cv C) (hSl : S.length ≤ 9223372036854775807) (hCl : C.length ≤ 9223372036854775807) (hsd : seed.size ≤ 148000000000000)
    (hG : Glob w) :
    Calls Tryd.prog 5 #[.agg #[sv, cv, .string seed], .agg #[.int .i64 q0, .int .i64 q1, .int .i64 q2]] w fun e w' => e = .returned (.bool true) ∧ Below w.heap.size w w' := by
  obtain ⟨i0, hi0, hz0, hz1, hz2⟩ := info_parts Tryd.infoI
  obtain ⟨a0, c0, rfl⟩ := hS.slice
  obtain ⟨a1, c1, rfl⟩ := hC.slice
  have hA := ((Only.refl (fun _ => False) w).alloc (.cells #[.slice a0 S.length c0, .slice a1 C.length c1, .string seed] 24)).alloc (.cells #[.int .i64 q0, .int .i64 q1, .int .i64 q2] 44)
  have hzp := (Below.heap_alloc (w.alloc (.cells #[.slice a0 S.length c0, .slice a1 C.length c1, .string seed] 24)) (.cells #[.int .i64 q0, .int .i64 q1, .int .i64 q2] 44) w.heap.size (by simp)).trans (heap_alloc_last w _)
  have hzq := heap_alloc_last (w.alloc (.cells #[.slice a0 S.length c0, .slice a1 C.length c1, .string seed] 24)) (.cells #[.int .i64 q0, .int .i64 q1, .int .i64 q2] 44)
  rw [World.size_alloc] at hzq
  have hAs : ((w.alloc (.cells #[.slice a0 S.length c0, .slice a1 C.length c1, .string seed] 24)).alloc (.cells #[.int .i64 q0, .int .i64 q1, .int .i64 q2] 44)).heap.size = w.heap.size + 2 := by simp
  have HSAN := Lib.hid (sanity7_any _ (hG.only hA))
  have HA := Lib.hid hA
  have HZP := Lib.hid hzp
  have HZQ := Lib.hid hzq
  have HSZ := Lib.hid hAs
  have HS := Lib.hid hS
  have HC := Lib.hid hC
  have HG := Lib.hid hG
  clear hA hzp hzq hAs hS hC hG
  go_enter Tryd.func5, Tryd.ntmps5
  go_wp2_with fail
  refine HSAN.out.mono ?_
  rintro e w1 ⟨rfl, hO1⟩
  have HO1 := Lib.hid (HA.out.trans hO1)
  have HZP1 := Lib.hid (row_still hO1 HZP.out)
  have HZQ1 := Lib.hid (row_still hO1 HZQ.out)
  have hs1 := hO1.size
  have HS1 := Lib.hid (show w.heap.size + 2 ≤ w1.heap.size by rw [← HSZ.out]; exact hs1)
  clear hO1 HSAN HZP HZQ HSZ HA hs1
  go_upto_region 2 with fail
  have p0 : _ = some (Value.slice a0 S.length c0) := cell_of_row _ _ 0 _ _ _ HZP1.out
  have p1 : _ = some (Value.slice a1 C.length c1) := cell_of_row _ _ 1 _ _ _ HZP1.out
  have p2 : _ = some (Value.string seed) := cell_of_row _ _ 2 _ _ _ HZP1.out
  have HKY := Lib.hid (show ∀ w', (w'.cell? ⟨w.heap.size, 0, none⟩ = some (.slice a0 S.length c0) ∧ w'.cell? ⟨w.heap.size, 1, none⟩ = some (.slice a1 C.length c1) ∧ w'.cell? ⟨w.heap.size, 2, none⟩ = some (.string seed) ∧ Only (fun _ => False) w1 w') →
      Calls Tryd.prog 7 #[.agg #[.slice a0 S.length c0, .slice a1 C.length c1, .string seed]] w' (fun e wT => (∃ v, e = .returned v ∧ wT.ownsRow w1.heap.size 3 1 v (keysL S).length (irow (keysL S))) ∧ (wT.cell? ⟨w.heap.size, 0, none⟩ = some (.slice a0 S.length c0) ∧ wT.cell? ⟨w.heap.size, 1, none⟩ = some (.slice a1 C.length c1) ∧ wT.cell? ⟨w.heap.size, 2, none⟩ = some (.string seed) ∧ Only (fun _ => False) w1 wT)) from by
    rintro w' ⟨s0, s1, s2, hO⟩
    refine (keys_any _ _ S seed w' (HS.out.only (HO1.out.trans hO)) ⟨_, _, _, rfl⟩ hSl).mono ?_
    rintro e wT ⟨v, rfl, hv, hT⟩
    exact ⟨⟨v, rfl, own_base hv hO.size⟩, hT.cell s0 (fun h => h), hT.cell s1 (fun h => h), hT.cell s2 (fun h => h), hO.trans hT⟩)
  have HNM := Lib.hid (show ∀ w', (w'.cell? ⟨w.heap.size, 0, none⟩ = some (.slice a0 S.length c0) ∧ w'.cell? ⟨w.heap.size, 1, none⟩ = some (.slice a1 C.length c1) ∧ w'.cell? ⟨w.heap.size, 2, none⟩ = some (.string seed) ∧ Only (fun _ => False) w1 w') →
      Calls Tryd.prog 8 #[.agg #[.slice a0 S.length c0, .slice a1 C.length c1, .string seed]] w' (fun e wT => (∃ v, e = .returned v ∧ wT.ownsRow w'.heap.size 3 1 v (numsL S C).length (irow (numsL S C))) ∧ Only (fun _ => False) w' wT ∧ (wT.cell? ⟨w.heap.size, 0, none⟩ = some (.slice a0 S.length c0) ∧ wT.cell? ⟨w.heap.size, 1, none⟩ = some (.slice a1 C.length c1) ∧ wT.cell? ⟨w.heap.size, 2, none⟩ = some (.string seed) ∧ Only (fun _ => False) w1 wT)) from by
    rintro w' ⟨s0, s1, s2, hO⟩
    refine (nums_any _ _ S C seed w' (HC.out.only (HO1.out.trans hO)) ⟨_, _, rfl⟩ hSl hCl).mono ?_
    rintro e wT ⟨v, rfl, hv, hT⟩
    exact ⟨⟨v, rfl, hv⟩, hT, hT.cell s0 (fun h => h), hT.cell s1 (fun h => h), hT.cell s2 (fun h => h), hO.trans hT⟩)
  have HKS := Lib.hid (show ∀ W, Only (fun _ => False) w1 W → W.cell? ⟨w.heap.size, 0, none⟩ = some (.slice a0 S.length c0) ∧ W.cell? ⟨w.heap.size, 1, none⟩ = some (.slice a1 C.length c1) ∧ W.cell? ⟨w.heap.size, 2, none⟩ = some (.string seed) ∧ Only (fun _ => False) w1 W from fun W h => ⟨h.cell p0 id, h.cell p1 id, h.cell p2 id, h⟩)
  have hK12 : (keysL S).length ≤ 12 := by have := keysL_len S; omega
  have hF12 : (numsL S C).length ≤ 12 := by have := numsL_len S C; omega
  generalize keysL S = K at *
  generalize numsL S C = F at *
  go_cut [6, 7] (fun v6 v7 wx => Duo w1 wx w1.heap.size v6 v7 K F)
  case first =>
    go_region_held3 (fun w' => w'.cell? ⟨w.heap.size, 0, none⟩ = some (.slice a0 S.length c0) ∧ w'.cell? ⟨w.heap.size, 1, none⟩ = some (.slice a1 C.length c1) ∧ w'.cell? ⟨w.heap.size, 2, none⟩ = some (.string seed) ∧ Only (fun _ => False) w1 w')
      (first
        | with_reducible exact HKS.out _ ((Only.refl _ w1).drew)
        | with_reducible exact hSK
        | with_reducible exact hSN)
      (first
        | (go_at_call 7; refine (HKY.out _ (by assumption)).mono ?_; rintro e wK ⟨⟨vK, rfl, hvK⟩, hSK⟩)
        | (go_at_call 8; refine (HNM.out _ (by assumption)).mono ?_; rintro e wN ⟨⟨vN, rfl, hvN⟩, hXN, hSN⟩))
    all_goals (clear HKY HNM HKS)
    all_goals (go_wp2_with fail)
    all_goals (go_meet)
    all_goals (exact ⟨hXN.owns hvK (fun _ _ h => h), own_base hvN hSK.2.2.2.size, fun k hk he => by have := (own_lt hvK hk).1; have := (own_lt hvN he).2; omega, hSN.2.2.2, Nat.le_refl _⟩)
  case rest =>
    have HD := Lib.hid hcut
    generalize wc = w2 at *
    clear hcut HKY HNM HKS p0 p1 p2
    have hO2 := HD.out.only
    have HZP2 := Lib.hid (row_still hO2 HZP1.out)
    have HZQ2 := Lib.hid (row_still hO2 HZQ1.out)
    have HO2 := Lib.hid (HO1.out.trans hO2)
    have p2 : _ = some (Value.string seed) := cell_of_row _ _ 2 _ _ _ HZP2.out
    obtain ⟨a6, c6, rfl⟩ := slice_of_own HD.out.pts
    obtain ⟨a7, c7, rfl⟩ := slice_of_own HD.out.num
    have HKP := Lib.hid (fun (w' : World) (hO : Only (fun _ => False) w2 w') => (pts_of_own HD.out.pts (by omega)).only hO)
    have HFP := Lib.hid (fun (w' : World) (hO : Only (fun _ => False) w2 w') => (pts_of_own HD.out.num (by omega)).only hO)
    have HCM := Lib.hid (dealD_cm F K seed (by omega))
    have HBX := Lib.hid (dealD_bx F K seed (by omega))
    have HPD := Lib.hid (fun (w' : World) (hO : Only (fun _ => False) w2 w') => pdeal_any _ _ F K seed w' (HFP.out w' hO) (HKP.out w' hO) (by omega) (by omega) hsd (HG.out.only (HO2.out.trans hO)))
    have HRD := Lib.hid (fun (w' : World) (hO : Only (fun _ => False) w2 w') => rdeal_any _ _ F K seed w' (HFP.out w' hO) (HKP.out w' hO) (by omega) (by omega) hsd)
    obtain ⟨ok1, hok1⟩ : ∃ b, dealOk F K = b := ⟨_, rfl⟩
    obtain ⟨d1, hd1⟩ : ∃ d, dealD F K seed = d := ⟨_, rfl⟩
    rw [hok1, hd1] at HPD HRD
    rw [hd1] at HCM HBX
    clear hO2 hok1 hd1
    go_wp2_with fail
    refine (HPD.out _ (Only.refl _ _)).mono ?_
    rintro e w3 ⟨hO3, c0d, c2d, rfl, hD3⟩
    have HON3 := Lib.hid (slice_one hD3.cm hD3.bx d1.pt)
    have hDA3 := hD3.at (by have := HCM.out; omega) (by have := HBX.out; omega)
    obtain ⟨b0, k0, rfl⟩ := hDA3.cm.slice
    obtain ⟨b2, k2, rfl⟩ := hDA3.bx.slice
    have hO4 := hO3.alloc (.cells #[.slice b0 d1.cm.length k0, .int .i64 d1.pt, .slice b2 d1.bx.length k2] 29)
    have HO4 := Lib.hid hO4
    have HD4 := Lib.hid (hDA3.only ((Only.refl (fun _ => False) w3).alloc (.cells #[.slice b0 d1.cm.length k0, .int .i64 d1.pt, .slice b2 d1.bx.length k2] 29)))
    have HN4 := Lib.hid (heap_alloc_last w3 (.cells #[.slice b0 d1.cm.length k0, .int .i64 d1.pt, .slice b2 d1.bx.length k2] 29))
    have HL3 := Lib.hid hO3.size
    have p2' := hO4.cell p2 (fun h => h)
    clear hO3 hO4 hD3 hDA3 HPD
    go_wp2_with (first | (refine wpList_store_row rfl 29 _ _ rfl w3.heap.size #[.slice b0 d1.cm.length k0, .int .i64 d1.pt, .slice b2 d1.bx.length k2] rfl rfl 29 _ (heap_alloc_last w3 _) Tryd.infoDl rfl HON3.out ?_; rw [World.setRow_alloc_new]))
    generalize w3.alloc (.cells #[.slice b0 d1.cm.length k0, .int .i64 d1.pt, .slice b2 d1.bx.length k2] 29) = w4 at *
    generalize w3.heap.size = n3 at *
    refine (HRD.out _ HO4.out).mono ?_
    rintro e w5 ⟨hO5, e0d, e2d, rfl, hD5⟩
    have HON5 := Lib.hid (slice_one hD5.cm hD5.bx d1.pt)
    have hDA5 := hD5.at (by have := HCM.out; omega) (by have := HBX.out; omega)
    obtain ⟨g0, l0, rfl⟩ := hDA5.cm.slice
    obtain ⟨g2, l2, rfl⟩ := hDA5.bx.slice
    have hO6 := hO5.alloc (.cells #[.slice g0 d1.cm.length l0, .int .i64 d1.pt, .slice g2 d1.bx.length l2] 29)
    have HO6 := Lib.hid (HO4.out.trans hO6)
    have HE6 := Lib.hid (hDA5.only ((Only.refl (fun _ => False) w5).alloc (.cells #[.slice g0 d1.cm.length l0, .int .i64 d1.pt, .slice g2 d1.bx.length l2] 29)))
    have HD6 := Lib.hid (HD4.out.only hO6)
    have HN6 := Lib.hid (row_still hO6 HN4.out)
    have HM6 := Lib.hid (heap_alloc_last w5 (.cells #[.slice g0 d1.cm.length l0, .int .i64 d1.pt, .slice g2 d1.bx.length l2] 29))
    have HL5 := Lib.hid hO5.size
    have x0 : _ = some (Value.slice b0 d1.cm.length k0) := cell_of_row _ _ 0 _ _ _ HN6.out
    have x1 : _ = some (Value.int .i64 d1.pt) := cell_of_row _ _ 1 _ _ _ HN6.out
    have x2 : _ = some (Value.slice b2 d1.bx.length k2) := cell_of_row _ _ 2 _ _ _ HN6.out
    have HN4' := HN4
    have HO4' := HO4
    clear hO5 hO6 hD5 hDA5 HRD HD4 HN4 HO4 p2 p2'
    have HSM := Lib.hid (rsame7_eq b0 b2 g0 g2 k0 k2 l0 l2 d1 _ HD6.out HE6.out HCM.out HBX.out)
    go_wp2_with (first | (refine wpList_store_row rfl 29 _ _ rfl w5.heap.size #[.slice g0 d1.cm.length l0, .int .i64 d1.pt, .slice g2 d1.bx.length l2] rfl rfl 29 _ (heap_alloc_last w5 _) Tryd.infoDl rfl HON5.out ?_; rw [World.setRow_alloc_new]))
    generalize w5.alloc (.cells #[.slice g0 d1.cm.length l0, .int .i64 d1.pt, .slice g2 d1.bx.length l2] 29) = w6 at *
    generalize w5.heap.size = n5 at *
    have hn35 : n3 ≠ n5 := by have := own_lt0D HN4'.out; have := HL5.out; omega
    refine HSM.out.mono ?_
    rintro e w7 ⟨rfl, hO7⟩
    have hO27 := HO6.out.trans hO7
    have HDD := Lib.hid (show ∀ wx v12 M, Only (fun _ => False) w7 wx → wx.ownsRow w7.heap.size 3 1 v12 M.length (irow M) → DdAt w w1 wx n3 n5 (.slice a6 K.length c6) (.slice a7 F.length c7) v12 K F M (.slice a0 S.length c0) (.slice a1 C.length c1) seed q0 q1 q2 from by
      intro wx v12 M hOx hM
      have hOx2 := hO27.trans hOx
      have l6 : ∀ k, (Value.slice a6 K.length c6).ownBlock = some k → k < w7.heap.size := fun k hk => Nat.lt_of_lt_of_le (own_lt HD.out.pts hk).1 hO27.size
      have l7 : ∀ k, (Value.slice a7 F.length c7).ownBlock = some k → k < w7.heap.size := fun k hk => Nat.lt_of_lt_of_le (own_lt HD.out.num hk).1 hO27.size
      refine ⟨hOx2.owns HD.out.pts (fun _ _ h => h), hOx2.owns HD.out.num (fun _ _ h => h), own_base hM (by have := HD.out.only.size; have := hO27.size; omega), HD.out.ne, fun k hk he => ?_, fun k hk he => ?_, row_still hOx2 HZQ2.out, row_still hOx2 HZP2.out,
        ⟨_, _, _, row_still (hO7.trans hOx) HN6.out⟩, ⟨_, _, _, row_still (hO7.trans hOx) HM6.out⟩, hn35, ?_, ?_, HS1.out, HO2.out.trans hOx2⟩
      · have := l6 k hk; have := own_low' hM he; omega
      · have := l7 k hk; have := own_low' hM he; omega
      · have := HL3.out; have := HD.out.only.size; omega
      · have := HL5.out; have := HO4'.out.size; have := HD.out.only.size; omega)
    have HO27 := Lib.hid hO27
    clear HSM hO7 hO27 HD6 HE6 HN6 HM6 HO6 x0 x1 x2 HON3 HON5 HCM HBX HZP1 HZQ1 HZP2 HZQ2 HL3 HL5 HKP HFP HN4' HO4'
    go_upto_region 7 with fail
    go_cut [12] (fun v12 wx => DdAt w w1 wx n3 n5 (.slice a6 K.length c6) (.slice a7 F.length c7) v12 K F (F ++ [1]) (.slice a0 S.length c0) (.slice a1 C.length c1) seed q0 q1 q2)
    case first =>
      have hE := own_emptyD w7 w7.heap.size 3 1 (Nat.le_refl _)
      have hOe := (Only.refl (fun _ => False) w7).alloc (.cells #[] 3)
      rcases HD.out.num.2 with ⟨hv, h0⟩ | ⟨gF, cF, curF, hv, hbF, hgF, hcF, hcF2, hszF, htkF⟩
      · simp only [Value.slice.injEq] at hv
        obtain ⟨rfl, _, rfl⟩ := hv
        obtain rfl : F = [] := List.eq_nil_of_length_eq_zero h0
        have HE := Lib.hid hE
        have HE2 := Lib.hid (hE.alloc (.cells #[.int .i64 1] 3))
        have HOE := Lib.hid (hOe.alloc (.cells #[.int .i64 1] 3))
        clear hE hOe h0
        go_wp2_with (first
          | (at_builtin; refine wpList_append_own_none rfl _ _ 22 rfl w7.heap.size 3 i0 1 Tryd.underlying22 hi0 _ 0 [] rfl HE.out rfl ?_)
          | (at_builtin; refine wpList_append_lies _ rfl _ _ 22 rfl w7.heap.size 3 i0 _ 1 8 Tryd.underlying22 hi0 hz0 hz1 hz2 rfl (by decide) _ 0 [] rfl HE2.out ⟨w7.heap.size + 1, 0, none⟩ 1 1 [.int .i64 1] rfl rfl (World.news_of_block (cs := #[.int .i64 1]) (t := 3) (fr := (0, 0)) (by have := heap_alloc_last (w7.alloc (.cells #[] 3)) (.cells #[.int .i64 1] 3); simpa using this)) (one_int _) (by decide) ?n1 ?n2 ?n3 _ rfl ?_))
        case n1 => unfold maxLen; omega
        case n2 => omega
        case n3 => first | omega | (simp; omega)
        intro gm cm wm hom hgm ham hltm
        have HOM := Lib.hid (HOE.out.grow HE2.out (Nat.le_refl _) hgm)
        have HM := Lib.hid hom
        clear hom hgm ham
        go_wp2_with fail
        go_meet
        exact HDD.out _ _ [1] HOM.out HM.out
      · obtain ⟨rfl, _, rfl⟩ : a7 = some ⟨gF, 0, none⟩ ∧ True ∧ c7 = cF := by simpa using hv
        have HE := Lib.hid hE
        have HOE := Lib.hid hOe
        have HNW := Lib.hid (show ∀ j u, (irow F)[j]? = some u → (w7.alloc (.cells #[] 3)).cell? ((⟨gF, 0, none⟩ : Addr).add j) = some u from ((HO27.out.trans hOe).owns HD.out.num (fun _ _ h => h)).cells (g := gF) rfl)
        clear hE hOe hgF htkF hszF hv
        go_wp2_with (at_builtin; refine wpList_append_own _ rfl _ _ 22 rfl w7.heap.size 3 i0 _ 1 8 Tryd.underlying22 hi0 hz0 hz1 hz2 rfl (by decide) _ 0 [] rfl HE.out ⟨gF, 0, none⟩ F.length _ (irow F) rfl (by rw [irow_length, Nat.mul_one]) HNW.out ?m0 ?m1 ?m2 ?m3 ?_)
        case m0 => intro u hu; unfold irow at hu; rw [List.mem_map] at hu; obtain ⟨z, _, rfl⟩ := hu; rfl
        case m1 => unfold maxLen; omega
        case m2 => omega
        case m3 => simp
        intro vm wm hom hgm _
        obtain ⟨am, cm, hvm⟩ := slice_of_own hom
        subst hvm
        have HOM := Lib.hid (HOE.out.grow HE.out (Nat.le_refl _) hgm)
        have HM := Lib.hid hom
        have HM2 := Lib.hid (hom.alloc (.cells #[.int .i64 1] 3))
        have hszm := HOM.out.size
        clear hom hgm
        go_wp2_with (at_builtin; refine wpList_append_lies _ rfl _ _ 22 rfl w7.heap.size 3 i0 _ 1 8 Tryd.underlying22 hi0 hz0 hz1 hz2 rfl (by decide) _ F.length (irow F) rfl HM2.out ⟨wm.heap.size, 0, none⟩ 1 1 [.int .i64 1] rfl rfl (cell_one_new _ _ _) (one_int _) (by decide) ?v1 ?v2 ?v3 _ rfl ?_)
        case v1 => unfold maxLen; omega
        case v2 => omega
        case v3 => rw [World.size_alloc]; omega
        intro gn cn wn hon hgn han hltn
        have HON := Lib.hid ((HOM.out.alloc (.cells #[.int .i64 1] 3)).grow HM2.out (Nat.le_refl _) hgn)
        have HN := Lib.hid (show wn.ownsRow w7.heap.size 3 1 (.slice (some ⟨gn, 0, none⟩) (F.length + 1) cn) (F ++ [1]).length (irow (F ++ [1])) by rw [List.length_append, irow_append]; exact hon)
        clear hon hgn han
        go_wp2_with fail
        go_meet
        exact HDD.out _ _ (F ++ [1]) HON.out HN.out
    case rest =>
      have HDx := Lib.hid hcut
      generalize wc = w8 at *
      clear hcut HDD
      have y0 : _ = some (Value.int .i64 q0) := cell_of_row _ _ 0 _ _ _ HDx.out.q
      obtain ⟨b8, hb8⟩ : ∃ b, (decide (0 < K.length) && (q0.tmod 2 == 0)) = b := ⟨_, rfl⟩
      have HB8 := Lib.hid hb8
      clear hb8
      go_upto_region 8 with fail
      go_cut [58] (fun v58 wx => v58 = .bool b8 ∧ wx = w8)
      case first =>
        by_cases hk0 : 0 < K.length
        · have j1 : (0 : Int) < K.length := by omega
          cases hq : (q0.tmod 2 == 0)
          · have HE := Lib.hid (show b8 = false by rw [← HB8.out, hq, Bool.and_false])
            go_wp2_with fail
            go_meet
            exact ⟨by rw [HE.out], rfl⟩
          · have HE := Lib.hid (show b8 = true by rw [← HB8.out, hq, Bool.and_true]; exact decide_eq_true hk0)
            go_wp2_with fail
            go_meet
            exact ⟨by rw [HE.out], rfl⟩
        · have j1 : ¬ (0 : Int) < K.length := by omega
          have HE := Lib.hid (show b8 = false by rw [← HB8.out, decide_eq_false hk0, Bool.false_and])
          have j2 : decide ((0 : Int) < K.length) = false := decide_eq_false j1
          go_wp2_with fail
          go_meet
          exact ⟨by rw [HE.out], rfl⟩
      case rest =>
        obtain ⟨rfl, rfl⟩ := hcut
        have HKP := Lib.hid (show b8 = true → 0 < K.length from fun h => by rw [← HB8.out] at h; simp only [Bool.and_eq_true, decide_eq_true_eq] at h; exact h.1)
        generalize wc = w8 at *
        go_upto_if 58 with fail
        go_cut [] (fun wx => ∃ K', K'.length = K.length ∧ DdAt w w1 wx n3 n5 (.slice a6 K.length c6) (.slice a7 F.length c7) u12 K' F (F ++ [1]) (.slice a0 S.length c0) (.slice a1 C.length c1) seed q0 q1 q2)
        case first =>
          cases b8
          · go_wp2_with fail
            go_meet
            exact ⟨K, rfl, HDx.out⟩
          · have hkp := HKP.out rfl
            have y1 : _ = some (Value.int .i64 q1) := cell_of_row _ _ 1 _ _ _ HDx.out.q
            have y2 : _ = some (Value.int .i64 q2) := cell_of_row _ _ 2 _ _ _ HDx.out.q
            have hmr := Int.emod_nonneg q1 (show (K.length : Int) ≠ 0 by omega)
            have hml := Int.emod_lt_of_pos q1 (show (0 : Int) < K.length by omega)
            obtain ⟨r, hr⟩ := Int.eq_ofNat_of_zero_le hmr
            have HMD := Lib.hid (fun w => rmod1_any q1 K.length w (by omega) (by omega))
            rw [hr] at HMD hml
            obtain ⟨gK, cK, hv, hgl, hgc, hgc2, hcl⟩ := own_cellsD HDx.out.keys hkp
            obtain ⟨rfl, _, rfl⟩ : a6 = some ⟨gK, 0, none⟩ ∧ True ∧ c6 = cK := by simpa using hv
            obtain ⟨e0, e1⟩ := hcl r (by omega)
            have i1 : (r : Int) < K.length := hml
            have i2 : 0 ≤ (r : Int) := by omega
            have HPUT := Lib.hid (fun n => (HDx.out.frame ((Only.refl (fun _ => False) w8).drewN n)).setKey (j := r) q2)
            generalize ptAt K r = z at *
            clear hmr hr hcl hv hml
            go_wp2_with fail
            refine wp_region_quiet_split 8 (by kernel_rfl) (by kernel_rfl) (by kernel_rfl) ?_
            simp only [List.take_succ_cons, List.take_zero, List.drop_succ_cons, List.drop_zero]
            repeat (go_big_quiet_step ((go_at_call 22; exact quiet_left (HMD.out _))))
            refine wpQuiet_nil ?_
            intro _ hw'
            obtain ⟨nq, hw''⟩ := hw'
            subst hw''
            go_wp2_with fail
            go_meet
            exact ⟨_, by rw [List.length_set], HPUT.out nq⟩
        case rest =>
          obtain ⟨K2, hK2, hDD⟩ := hcut
          have HD9 := Lib.hid hDD
          have HK2 := Lib.hid hK2
          generalize wc = w9 at *
          clear hK2 hDD HDx HKP y0 HB8
          have y0 : _ = some (Value.int .i64 q0) := cell_of_row _ _ 0 _ _ _ HD9.out.q
          obtain ⟨b9, hb9⟩ : ∃ b, (decide (0 < F.length) && !(q0.tmod 2 == 0)) = b := ⟨_, rfl⟩
          have HB9 := Lib.hid hb9
          clear hb9
          go_upto_region 10 with fail
          go_cut [76] (fun v76 wx => v76 = .bool b9 ∧ wx = w9)
          case first =>
            by_cases hk0 : 0 < F.length
            · have j1 : (0 : Int) < F.length := by omega
              cases hq : (q0.tmod 2 == 0)
              · have HE := Lib.hid (show b9 = true by rw [← HB9.out, hq, Bool.not_false, Bool.and_true]; exact decide_eq_true hk0)
                go_wp2_with fail
                go_meet
                exact ⟨by rw [HE.out]; simp [bne, hq], rfl⟩
              · have HE := Lib.hid (show b9 = false by rw [← HB9.out, hq, Bool.not_true, Bool.and_false])
                go_wp2_with fail
                go_meet
                exact ⟨by rw [HE.out]; simp [bne, hq], rfl⟩
            · have j1 : ¬ (0 : Int) < F.length := by omega
              have HE := Lib.hid (show b9 = false by rw [← HB9.out, decide_eq_false hk0, Bool.false_and])
              have j2 : decide ((0 : Int) < F.length) = false := decide_eq_false j1
              go_wp2_with fail
              go_meet
              exact ⟨by rw [HE.out], rfl⟩
          case rest =>
            obtain ⟨rfl, rfl⟩ := hcut
            have HFP := Lib.hid (show b9 = true → 0 < F.length from fun h => by rw [← HB9.out] at h; simp only [Bool.and_eq_true, decide_eq_true_eq] at h; exact h.1)
            generalize wc = w9 at *
            go_upto_if 76 with fail
            go_cut [] (fun wx => ∃ F', F'.length = F.length ∧ DdAt w w1 wx n3 n5 (.slice a6 K.length c6) (.slice a7 F.length c7) u12 K2 F' (F ++ [1]) (.slice a0 S.length c0) (.slice a1 C.length c1) seed q0 q1 q2)
            case first =>
              cases b9
              · go_wp2_with fail
                go_meet
                exact ⟨F, rfl, HD9.out⟩
              · have hkp := HFP.out rfl
                have y1 : _ = some (Value.int .i64 q1) := cell_of_row _ _ 1 _ _ _ HD9.out.q
                have y2 : _ = some (Value.int .i64 q2) := cell_of_row _ _ 2 _ _ _ HD9.out.q
                have hmr := Int.emod_nonneg q1 (show (F.length : Int) ≠ 0 by omega)
                have hml := Int.emod_lt_of_pos q1 (show (0 : Int) < F.length by omega)
                obtain ⟨r, hr⟩ := Int.eq_ofNat_of_zero_le hmr
                have HMD := Lib.hid (fun w => rmod1_any q1 F.length w (by omega) (by omega))
                rw [hr] at HMD hml
                obtain ⟨gK, cK, hv, hgl, hgc, hgc2, hcl⟩ := own_cellsD HD9.out.nums hkp
                obtain ⟨rfl, _, rfl⟩ : a7 = some ⟨gK, 0, none⟩ ∧ True ∧ c7 = cK := by simpa using hv
                obtain ⟨e0, e1⟩ := hcl r (by omega)
                have i1 : (r : Int) < F.length := hml
                have i2 : 0 ≤ (r : Int) := by omega
                have HPUT := Lib.hid (fun n => (HD9.out.frame ((Only.refl (fun _ => False) w9).drewN n)).setNum (j := r) q2)
                generalize ptAt F r = z at *
                clear hmr hr hcl hv hml
                go_wp2_with fail
                refine wp_region_quiet_split 8 (by kernel_rfl) (by kernel_rfl) (by kernel_rfl) ?_
                simp only [List.take_succ_cons, List.take_zero, List.drop_succ_cons, List.drop_zero]
                repeat (go_big_quiet_step ((go_at_call 22; exact quiet_left (HMD.out _))))
                refine wpQuiet_nil ?_
                intro _ hw'
                obtain ⟨nq, hw''⟩ := hw'
                subst hw''
                go_wp2_with fail
                go_meet
                exact ⟨_, by rw [List.length_set], HPUT.out nq⟩
            case rest =>
              obtain ⟨F2, hF2, hDD⟩ := hcut
              have HD10 := Lib.hid hDD
              have HF2 := Lib.hid hF2
              generalize wc = w10 at *
              clear hF2 hDD HD9 HFP y0 HB9
              have HEL := Lib.hid (fun (k : Nat) (hk : k < 3) => DdAt.elem (w := w) (w1 := w1) (n3 := n3) (n5 := n5) (v6 := .slice a6 K.length c6) (v7 := .slice a7 F.length c7) (v12 := u12) (K := K2) (F := F2) (M := F ++ [1]) (vs := .slice a0 S.length c0) (vc := .slice a1 C.length c1) (seed := seed) (q0 := q0) (q1 := q1) (q2 := q2) (by rw [HF2.out]; omega) (by rw [List.length_append, List.length_singleton]; omega) k hk)
              have HKL := Lib.hid (fun (W : World) (h : DdAt w w1 W n3 n5 (.slice a6 K.length c6) (.slice a7 F.length c7) u12 K2 F2 (F ++ [1]) (.slice a0 S.length c0) (.slice a1 C.length c1) seed q0 q1 q2) => pts_of_own h.keys (by rw [HK2.out]; omega))
              have hK2l : K2.length ≤ 100 := by rw [HK2.out]; omega
              generalize F ++ [1] = M at *
              obtain ⟨am, cm, hum⟩ := slice_of_own HD10.out.more
              subst hum
              go_wp2_with fail
              have HD11 := Lib.hid (HD10.out.frame ((Only.refl (fun _ => False) w10).alloc (.cells #[.slice a7 F.length c7, .slice am M.length cm, .slice none 0 0] 22)))
              have HL11 := Lib.hid (heap_alloc_last w10 (.cells #[.slice a7 F.length c7, .slice am M.length cm, .slice none 0 0] 22))
              have HN3 := Lib.hid (show n3 < w10.heap.size by obtain ⟨_, _, _, t⟩ := HD10.out.d; exact own_lt0D t)
              have HN5 := Lib.hid (show n5 < w10.heap.size by obtain ⟨_, _, _, t⟩ := HD10.out.e; exact own_lt0D t)
              generalize hW : World.alloc _ _ = w11
              change w10.alloc (.cells #[.slice a7 F.length c7, .slice am M.length cm, .slice none 0 0] 22) = w11 at hW
              rw [hW] at HD11 HL11
              clear hW HD10
              generalize w10.heap.size = nL at *
              go_loopw [90] (fun vi wr => ∃ k : Nat, k ≤ 3 ∧ vi = .int .i64 k ∧ DdAt w w1 wr n3 n5 (.slice a6 K.length c6) (.slice a7 F.length c7) (.slice am M.length cm) K2 F2 M (.slice a0 S.length c0) (.slice a1 C.length c1) seed q0 q1 q2 ∧ wr.heap[nL]? = some (.cells #[.slice a7 F.length c7, .slice am M.length cm, .slice none 0 0] 22 (0, 0))) (fun vi _ => 3 - (intOf vi).toNat)
              case atStart => exact ⟨0, by omega, rfl, HD11.out, HL11.out⟩
              case round =>
                clear HD11 HL11
                obtain ⟨k, hk, rfl, hDr, hLr⟩ := hrel
                have HDr := Lib.hid hDr
                by_cases hlt : k < 3
                · obtain ⟨v, L, hrow, hLl, hpts⟩ := HEL.out k hlt
                  have HPT := Lib.hid hpts
                  have hce : wr.cell? ⟨nL, k, none⟩ = some v := (cell_of_row _ _ k _ _ _ hLr).trans hrow
                  have i1 : (k : Int) < 3 := by omega
                  have i2 : 0 ≤ (k : Int) := by omega
                  have i3 : k < 3 := hlt
                  have hlr := own_lt0D hLr
                  have HLr := Lib.hid hLr
                  obtain ⟨av, cv, rfl⟩ := (hpts wr hDr).slice
                  have p2 : _ = some (Value.string seed) := cell_of_row _ _ 2 _ _ _ hDr.p
                  obtain ⟨d2, hd2⟩ : ∃ d, dealD L K2 seed = d := ⟨_, rfl⟩
                  obtain ⟨ok2, hok2⟩ : ∃ d, dealOk L K2 = d := ⟨_, rfl⟩
                  have HCM := Lib.hid (dealD_cm L K2 seed (by omega))
                  have HBX := Lib.hid (dealD_bx L K2 seed (by omega))
                  have HPD := Lib.hid (pdeal_any _ _ L K2 seed wr (hpts wr hDr) (HKL.out wr hDr) (by omega) (by omega) hsd (HG.out.only hDr.only))
                  have HRD := Lib.hid (fun W (h : DdAt w w1 W n3 n5 (.slice a6 K.length c6) (.slice a7 F.length c7) (.slice am M.length cm) K2 F2 M (.slice a0 S.length c0) (.slice a1 C.length c1) seed q0 q1 q2) => rdeal_any _ _ L K2 seed W (HPT.out W h) (HKL.out W h) (by omega) (by omega) hsd)
                  rw [hd2] at HPD HRD HCM HBX
                  rw [hok2] at HPD HRD
                  clear hd2 hok2 hpts hDr hLr hrow hk
                  go_wp2_with fail
                  refine HPD.out.mono ?_
                  rintro e wA ⟨hOA, cA0, cA2, rfl, hDA⟩
                  have HONA := Lib.hid (slice_one hDA.cm hDA.bx d2.pt)
                  have hDLA := hDA.at (by have := HCM.out; omega) (by have := HBX.out; omega)
                  obtain ⟨b0', k0', rfl⟩ := hDLA.cm.slice
                  obtain ⟨b2', k2', rfl⟩ := hDLA.bx.slice
                  obtain ⟨xA0, xA1, xA2, hrA⟩ := (HDr.out.frame hOA).d
                  obtain ⟨hDB, hnB, hkB⟩ := (HDr.out.frame hOA).setRow (.inl rfl) (.slice b0' d2.cm.length k0') (.int .i64 d2.pt) (.slice b2' d2.bx.length k2')
                  have HDLB := Lib.hid (hDA.rowD hrA #[.slice b0' d2.cm.length k0', .int .i64 d2.pt, .slice b2' d2.bx.length k2'])
                  have HLB := Lib.hid ((hkB nL (by have := HN3.out; omega)).trans (row_still hOA HLr.out))
                  have HRA := Lib.hid hrA
                  have p2' : _ = some (Value.string seed) := cell_of_row _ _ 2 _ _ _ hDB.p
                  have HDB := Lib.hid hDB
                  have HNB := Lib.hid hnB
                  clear hOA hDA hDLA hrA hDB hnB hkB HPD p2 hce
                  go_wp2_with (first | (refine wpList_store_row rfl 29 _ _ rfl n3 #[.slice b0' d2.cm.length k0', .int .i64 d2.pt, .slice b2' d2.bx.length k2'] rfl rfl 29 _ HRA.out Tryd.infoDl rfl HONA.out ?_))
                  generalize hW : World.setRow _ _ _ = wB
                  change wA.setRow n3 #[.slice b0' d2.cm.length k0', .int .i64 d2.pt, .slice b2' d2.bx.length k2'] = wB at hW
                  rw [hW] at HDLB HLB HDB HNB p2'
                  clear hW HRA HONA
                  refine (HRD.out wB HDB.out).mono ?_
                  rintro e wC ⟨hOC, cC0, cC2, rfl, hDC⟩
                  have HONC := Lib.hid (slice_one hDC.cm hDC.bx d2.pt)
                  have hDLC := hDC.at (by have := HCM.out; omega) (by have := HBX.out; omega)
                  obtain ⟨g0', l0', rfl⟩ := hDLC.cm.slice
                  obtain ⟨g2', l2', rfl⟩ := hDLC.bx.slice
                  obtain ⟨xC0, xC1, xC2, hrC⟩ := (HDB.out.frame hOC).e
                  obtain ⟨hDE, hnE, hkE⟩ := (HDB.out.frame hOC).setRow (.inr rfl) (.slice g0' d2.cm.length l0') (.int .i64 d2.pt) (.slice g2' d2.bx.length l2')
                  have hd1 := ((HDLB.out.frame hOC).rowD hrC #[.slice g0' d2.cm.length l0', .int .i64 d2.pt, .slice g2' d2.bx.length l2']).at (by have := HCM.out; omega) (by have := HBX.out; omega)
                  have hd2 := (hDC.rowD hrC #[.slice g0' d2.cm.length l0', .int .i64 d2.pt, .slice g2' d2.bx.length l2']).at (by have := HCM.out; omega) (by have := HBX.out; omega)
                  have HSM := Lib.hid (rsame7_eq b0' b2' g0' g2' k0' k2' l0' l2' d2 _ hd1 hd2 HCM.out HBX.out)
                  have HLE := Lib.hid ((hkE nL (by have := HN5.out; omega)).trans (row_still hOC HLB.out))
                  have hn3E := (hkE n3 hn35).trans (row_still hOC HNB.out)
                  have HRC := Lib.hid hrC
                  have x0 : _ = some (Value.slice b0' d2.cm.length k0') := cell_of_row _ _ 0 _ _ _ hn3E
                  have x1 : _ = some (Value.int .i64 d2.pt) := cell_of_row _ _ 1 _ _ _ hn3E
                  have x2 : _ = some (Value.slice b2' d2.bx.length k2') := cell_of_row _ _ 2 _ _ _ hn3E
                  have z0 : _ = some (Value.slice g0' d2.cm.length l0') := cell_of_row _ _ 0 _ _ _ hnE
                  have z1 : _ = some (Value.int .i64 d2.pt) := cell_of_row _ _ 1 _ _ _ hnE
                  have z2 : _ = some (Value.slice g2' d2.bx.length l2') := cell_of_row _ _ 2 _ _ _ hnE
                  have HDE := Lib.hid hDE
                  clear hOC hDC hDLC hrC hDE hnE hkE hd1 hd2 hn3E HRD p2' HDLB HLB HDB HNB
                  go_wp2_with (first | (refine wpList_store_row rfl 29 _ _ rfl n5 #[.slice g0' d2.cm.length l0', .int .i64 d2.pt, .slice g2' d2.bx.length l2'] rfl rfl 29 _ HRC.out Tryd.infoDl rfl HONC.out ?_))
                  refine HSM.out.mono ?_
                  rintro e wF ⟨rfl, hOF⟩
                  have HDF := Lib.hid (HDE.out.frame hOF)
                  have HLF := Lib.hid (row_still hOF HLE.out)
                  clear hOF HSM HDE HLE x0 x1 x2 z0 z1 z2 HRC HONC
                  go_wp2
                  go_roundw
                  case rel => exact ⟨k + 1, by omega, by go_num, HDF.out, HLF.out⟩
                  case measure => simp [intOf]; omega
                · obtain rfl : k = 3 := by omega
                  have i1 : ¬ ((3 : Nat) : Int) < 3 := by omega
                  have HO := Lib.hid hDr.only
                  clear hlt hk hDr hLr
                  go_wp2
                  go_ret
                  exact ⟨rfl, HO.out.below (Nat.le_refl _) (fun _ _ h => h)⟩
end Go.Proofs.YtnnhbngdhhfofaaDoor
