/-
  The walk of the law WeightJoins.
-/
import Derived.Test.YtalclldccnichaaJnLaw
import Derived.Test.YtalclldccnichaaOpen
import Derived.Deep.RegionHeld3
namespace Go.Proofs.Ytalclldccnichaa
open Go.RowKit

/-- A slice of pairs, its cells. -/
theorem ShsAt.cellAt {W : World} {a : Option Addr} {len c k : Nat} {l : List (Int × Int)} (h : ShsAt W (.slice a len c) l) (hk : k < l.length) :
    ∃ b off, a = some ⟨b, off, none⟩ ∧ b < W.heap.size ∧ len = l.length ∧ l.length ≤ c ∧ c ≤ 9223372036854775807 ∧ W.cell? ⟨b, off + k * 2, none⟩ = some (.int .i64 (shAt l k).1) ∧ W.cell? ⟨b, off + k * 2 + 1, none⟩ = some (.int .i64 (shAt l k).2) := by
  rcases h with ⟨_, _, _, h0⟩ | ⟨b, off, cap, hv, hb, h1, h2, hc⟩
  · rw [h0] at hk; simp at hk
  · simp only [Value.slice.injEq] at hv
    obtain ⟨rfl, rfl, rfl⟩ := hv
    exact ⟨b, off, rfl, hb, rfl, h1, h2, hc k hk⟩
/-- What is known of a group that was made. -/
theorem made_facts (zs : List Int) : CrewOk (crewZ zs) (ndZ zs) ∧ rightB (crewZ zs) = true ∧ totZ (crewZ zs) = ((boxTo (crewZ zs) (crewZ zs).length).length : Nat) ∧ (coefZ zs).length = ndZ zs ∧ (commZ zs).length = ndZ zs ∧ (∀ j, 0 ≤ ptAt (coefZ zs) j ∧ ptAt (coefZ zs) j < 1152921504606845789) := by
  have h1 : CrewOk (crewZ zs) (ndZ zs) := crew_ok zs 1 (by decide)
  have h2 : rightB (crewZ zs) = true := crew_right zs 1
  exact ⟨h1, h2, (crew_tot h2 h1).1, coefTo_len _ _ _, mixL_len _ _ _, fun j => coefTo_bd _ _ _ j⟩
theorem jnTo_len (F C : List Int) (o : List (Int × Int)) : ∀ i, (jnTo F C o i).length ≤ 4 * i ∧ i ≤ (jnTo F C o i).length
  | 0 => ⟨Nat.le_refl _, Nat.le_refl _⟩
  | i + 1 => by
    have ih := jnTo_len F C o i
    rw [jnTo, List.length_append, jnAt, List.length_append, List.length_singleton]
    split
    · simp only [List.length_cons, List.length_nil]; omega
    · simp only [List.length_nil]; omega
theorem six_int (a b c d e f : Int) : ∀ u ∈ [Value.int .i64 a, .int .i64 b, .int .i64 c, .int .i64 d, .int .i64 e, .int .i64 f], u.oneCell' = true := by
  intro u hu
  simp at hu
  rcases hu with rfl | rfl | rfl | rfl | rfl | rfl <;> rfl
theorem four_int (a b c d : Int) : ∀ u ∈ [Value.int .i64 a, .int .i64 b, .int .i64 c, .int .i64 d], u.oneCell' = true := by
  intro u hu
  simp at hu
  rcases hu with rfl | rfl | rfl | rfl <;> rfl
theorem pair_int (a b : Int) : ∀ u ∈ [Value.int .i64 a, .int .i64 b], u.oneCell' = true := by
  intro u hu
  simp at hu
  rcases hu with rfl | rfl <;> rfl
theorem own_cap {w : World} {base e n cap : Nat} {a : Option Addr} {xs : List Value} {size : Nat} (h : w.ownsRow base e size (.slice a n cap) n xs) (hn : 0 < n) : n ≤ cap ∧ cap ≤ 9223372036854775807 := by
  rcases h.2 with ⟨_, h0⟩ | ⟨g, cap', cur, hv, _, _, hcap, hcap2, _⟩
  · omega
  · simp only [Value.slice.injEq] at hv
    obtain ⟨_, _, rfl⟩ := hv
    unfold maxLen at hcap2
    exact ⟨hcap, by omega⟩
theorem shs_cut {W : World} {a : Option Addr} {m c : Nat} {l : List (Int × Int)} (h : ShsAt W (.slice a m c) l) (n : Nat) (hn : n ≤ m) (hm : m = l.length) : ShsAt W (.slice a n c) (l.take n) := by
  subst hm
  have hl : (l.take n).length = n := by rw [List.length_take]; omega
  rcases h with ⟨a', c', e, rfl⟩ | ⟨b, off, cap, e, hb, h1, h2, hc⟩
  · simp at hn; subst hn; exact .inl ⟨a, c, rfl, by simp⟩
  · simp only [Value.slice.injEq, true_and] at e
    obtain ⟨rfl, rfl⟩ := e
    refine .inr ⟨b, off, c, by rw [hl], hb, by omega, h2, fun j hj => ?_⟩
    rw [hl] at hj
    rw [shAt_take l n j hj]; exact hc j (by omega)
/-- A share of machine numbers. -/
def ShR (s : Int × Int) : Prop := (-9223372036854775808 ≤ s.1 ∧ s.1 ≤ 9223372036854775807) ∧ (-9223372036854775808 ≤ s.2 ∧ s.2 ≤ 9223372036854775807)
theorem shsW_of {l : List (Int × Int)} (h : ∀ s ∈ l, ShR s) : ShsW l := ⟨fun j => by
  by_cases hj : j < l.length
  · have : shAt l j ∈ l := by unfold shAt; simp [List.getD, hj]
    exact h _ this
  · have : shAt l j = (0, 0) := by simp [shAt, List.getD, List.getElem?_eq_none (show l.length ≤ j by omega)]
    rw [this]; decide⟩
theorem valZ_r (C : List Int) (x : Int) : -9223372036854775808 ≤ valZ C x ∧ valZ C x ≤ 9223372036854775807 := by
  have := valZ_bd C x
  have h : gQ = 1152921504606845789 := rfl
  omega
theorem jnTo_r (F C : List Int) (o : List (Int × Int)) (hF : ∀ j, 0 ≤ ptAt F j ∧ ptAt F j ≤ 60) (ho : ShsW o) : ∀ i, ∀ s ∈ jnTo F C o i, ShR s
  | 0, s, h => by simp [jnTo] at h
  | i + 1, s, h => by
    have hf := hF i
    have hv := valZ_r C (ptAt F i)
    have hm := emod_self_lt (shAt o i).2 1000 (by decide)
    rw [jnTo, List.mem_append] at h
    rcases h with h | h
    · exact jnTo_r F C o hF ho i s h
    · rw [jnAt, List.mem_append, List.mem_singleton] at h
      rcases h with h | h
      · split at h
        · simp only [List.mem_cons, List.not_mem_nil, or_false] at h
          rcases h with rfl | rfl | rfl
          · exact ⟨by dsimp only; omega, (ho.wf i).1⟩
          · exact ⟨by dsimp only; omega, by dsimp only; omega⟩
          · exact ⟨by decide, by decide⟩
        · simp at h
      · subst h; exact ⟨by dsimp only; omega, hv⟩
theorem jnTo_w (F C : List Int) (o : List (Int × Int)) (i : Nat) (hF : ∀ j, 0 ≤ ptAt F j ∧ ptAt F j ≤ 60) (ho : ShsW o) : ShsW (jnTo F C o i) := shsW_of (jnTo_r F C o hF ho i)
theorem choZ_bd (zs : List Int) (n nd : Nat) (h : nd ≤ n) (hn : n ≤ 60) (j : Nat) : 0 ≤ ptAt (choZ zs n nd) j ∧ ptAt (choZ zs n nd) j ≤ 60 := by
  by_cases hj : j < (choZ zs n nd).length
  · have : ptAt (choZ zs n nd) j ∈ choZ zs n nd := by unfold ptAt; simp [List.getD, hj]
    have := choZ_mem zs n nd h _ this
    omega
  · have : ptAt (choZ zs n nd) j = 0 := by simp [ptAt, List.getD, List.getElem?_eq_none (show (choZ zs n nd).length ≤ j by omega)]
    rw [this]; decide
/-- The state of the law's loop: shares in a block of their own, made after w4. -/
structure JnAt (w4 wr : World) (v : Value) (l : List (Int × Int)) : Prop where
  own : wr.ownsRow w4.heap.size 43 2 v l.length (srow l)
  only : Only (fun _ => False) w4 wr
theorem JnAt.frame {w4 wr w' : World} {v : Value} {l : List (Int × Int)} (h : JnAt w4 wr v l) (hO : Only (fun _ => False) wr w') : JnAt w4 w' v l := ⟨hO.owns h.own (fun _ _ h => h), h.only.trans hO⟩
theorem JnAt.more {w4 wn w' : World} {n m g cap : Nat} {v : Value} {l t : List (Int × Int)} (h : JnAt w4 wn v l) (hn : l.length = n) (hm : t.length = m)
    (hown : w'.ownsRow w4.heap.size 43 2 (.slice (some ⟨g, 0, none⟩) (n + m) cap) (n + m) (srow l ++ srow t)) (hg : wn.grownBy w' v.ownBlock) : JnAt w4 w' (.slice (some ⟨g, 0, none⟩) (n + m) cap) (l ++ t) := by
  subst hn hm
  have hO : Only (fun i => v.ownBlock = some i) wn w' := (Only.refl _ _).grown hg (fun i e _ => e)
  refine ⟨?_, h.only.trans' hO (fun i hi e => by have := own_low' h.own e; omega)⟩
  rw [List.length_append, srow_append]; exact hown

set_option maxRecDepth 100000 in
set_option maxHeartbeats 4000000 in
theorem jn_walk (lv pv ov : Value) (l p : List Int) (o : List (Int × Int)) (w : World) (hl : PtsAt w.heap.size w lv l) (hp : PtsAt w.heap.size w pv p) (ho : ShsAt w ov o) (how : ShsW o)
    (hlc : ∃ a c, lv = .slice a l.length c ∧ l.length ≤ c ∧ c ≤ 9223372036854775807) (hpc : ∃ a c, pv = .slice a p.length c ∧ p.length ≤ c ∧ c ≤ 9223372036854775807) (hoc : ∃ a c, ov = .slice a o.length c ∧ o.length ≤ c ∧ c ≤ 9223372036854775807) :
    Calls Try.prog 4 #[lv, pv, ov] w fun e w' => e = .returned (.bool true) ∧ Below w.heap.size w w' := by
  obtain ⟨i0, hi0, hz0, hz1, hz2⟩ := info_parts Try.infoS
  obtain ⟨la, lc, rfl, hl1, hl2⟩ := hlc
  obtain ⟨pa, pc, rfl, hp1, hp2⟩ := hpc
  obtain ⟨oa, oc, rfl, ho1, ho2⟩ := hoc
  have HL := Lib.hid hl
  have HP := Lib.hid hp
  have HOo := Lib.hid ho
  have HOW := Lib.hid how
  clear hl hp ho how
  go_enter Try.func4, Try.ntmps4
  go_wp2_with fail
  refine (sanity_any _).mono ?_
  rintro e w1 ⟨rfl, hO1⟩
  have HO1 := Lib.hid hO1
  clear hO1
  go_wp2_with fail
  refine (rmade_any _ l w1 (HL.out.only HO1.out) (by omega)).mono ?_
  rintro e w2 ⟨hO2, vm, vs, vc, vk, vp, rfl, hM, hS, hC, hK, hG⟩
  obtain ⟨hk1, hk2, hk3, hk4, hk5, hk6⟩ := made_facts l
  have HO2 := Lib.hid (HO1.out.trans hO2)
  have HM := Lib.hid hM
  have HC := Lib.hid hC
  obtain ⟨am, cm, rfl⟩ := hM.slice
  obtain ⟨ax, cx, rfl⟩ := hS.slice
  obtain ⟨ac, cc, rfl⟩ := hC.slice
  obtain ⟨ak, ck, rfl⟩ := hK.slice
  obtain ⟨ap, cp, rfl⟩ := hG.slice
  have HOK := Lib.hid hk1
  have HTT := Lib.hid hk3
  have HCB := Lib.hid hk6
  have HCL := Lib.hid hk4
  have hn60 := hk1.many
  have hnd1 := hk1.nd1
  have hnd2 := hk1.nd2
  rw [hk4] at HC ⊢
  rw [hk5]
  generalize hM0 : crewZ l = M at *
  generalize hnd0 : ndZ l = nd at *
  generalize hC0 : coefZ l = C at *
  generalize (boxTo M M.length).length = n at *
  generalize (secTo 1 (manyZ l)).length = ns at *
  generalize (pointsOf M).length = np at *
  clear hO2 hM hS hC hK hG hk1 hk2 hk3 hk4 hk5 hk6 hM0 hnd0 hC0 HO1
  have HB := Lib.hid (heap_alloc_last w2 (.cells #[.slice am M.length cm, .slice ax ns cx, .slice ac nd cc, .slice ak nd ck, .slice ap np cp] 38))
  have HO3 := Lib.hid (HO2.out.alloc (.cells #[.slice am M.length cm, .slice ax ns cx, .slice ac nd cc, .slice ak nd ck, .slice ap np cp] 38))
  go_wp2_with (refine wpList_load_row rfl 38 _ rfl w2.heap.size rfl 38 #[.slice am M.length cm, .slice ax ns cx, .slice ac nd cc, .slice ak nd ck, .slice ap np cp] (0, 0) _ HB.out Try.underlying38 rfl Try.infoG ?_)
  refine (rchosen_any _ _ _ _ _ _ _ _ _ _ _ _ _ M p n nd _ (HM.out.only ((Only.refl _ w2).alloc _)) HOK.out.w HTT.out hnd2 hn60 (HP.out.only HO3.out) (by omega)).mono ?_
  rintro e w4 ⟨vf, rfl, hownF, hO4⟩
  have HFP := Lib.hid (pts_of_own hownF (by rw [choZ_len _ _ _ hnd2]; omega))
  have HFD := Lib.hid (choZ_diff p n nd hnd2 hn60)
  have HFL := Lib.hid (choZ_len p n nd hnd2)
  have HFB := Lib.hid (choZ_bd p n nd hnd2 hn60)
  obtain ⟨af, cf, rfl⟩ := slice_of_own hownF
  rw [HFL.out] at HFP ⊢
  have HB4 := Lib.hid (row_still hO4 HB.out)
  have HO4 := Lib.hid (HO3.out.trans hO4)
  have HC4 := Lib.hid (HC.out.only (((Only.refl (fun _ => False) w2).alloc _).trans hO4))
  have e2 := cell_of_row _ _ 2 _ _ _ HB4.out
  have l2 := own_lt0 HB4.out
  generalize choZ p n nd = F at *
  obtain ⟨B, hB⟩ : ∃ B, w2.heap.size = B := ⟨_, rfl⟩
  rw [hB] at HB4 e2 l2
  clear hownF hO4 HB HO2 HO3 HM HC
  go_wp2_with fail
  clear hB
  go_loopw [11, 12] (fun vs vi wr => ∃ i : Nat, i ≤ nd ∧ vi = .int .i64 i ∧ JnAt w4 wr vs (jnTo F C o i)) (fun _ vi _ => nd - (intOf vi).toNat)
  case atStart => exact ⟨0, Nat.zero_le _, rfl, World.ownsRow_nil _ _ _ _, Only.refl _ _⟩
  case round =>
    obtain ⟨i, hi, rfl, hJ⟩ := hrel
    have HJ := Lib.hid hJ
    obtain ⟨hjl, hjl2⟩ := jnTo_len F C o i
    by_cases hlt : i < nd
    · have hif : i < F.length := by rw [HFL.out]; exact hlt
      obtain ⟨bf, of, rfl, hbf, hndF, hcf1, hcf2, hfc⟩ := HFP.out.cellAt hif
      clear hndF
      have HJN := Lib.hid (show jnTo F C o (i + 1) = jnTo F C o i ++ ((if i < o.length ∧ i < 4 then [(0, (shAt o i).1), (ptAt F i, -1 - (shAt o i).2 % 1000), (1152921504606845789, 1)] else []) ++ [(ptAt F i, valZ C (ptAt F i))]) from rfl)
      have i1 : (i : Int) < nd := by omega
      have hcf3 : nd ≤ cf := by have := HFL.out; omega
      obtain ⟨av, cv, rfl⟩ := slice_of_own hJ.own
      obtain ⟨sl, hsl⟩ : ∃ sl, (jnTo F C o i).length = sl := ⟨_, rfl⟩
      have HSL := Lib.hid hsl
      rw [hsl] at hjl hjl2 ⊢
      clear hsl
      have hsw := hJ.only.size
      have HVZ := Lib.hid (show valZ C (ptAt F i) = valZ C (ptAt F i) from rfl)
      obtain ⟨fz, hfz⟩ : ∃ fz, ptAt F i = fz := ⟨_, rfl⟩
      obtain ⟨vz, hvz⟩ : ∃ vz, valZ C fz = vz := ⟨_, rfl⟩
      rw [hfz] at hfc HJN HVZ
      rw [hvz] at HJN
      have HFC := Lib.hid hfc
      clear hfc
      clear HVZ
      have HVZ := Lib.hid hvz
      clear hfz hvz
      by_cases hc1 : i < o.length
      · by_cases hc2 : i < 4
        · rw [if_pos ⟨hc1, hc2⟩] at HJN
          obtain ⟨bo, oo, rfl, hbo, hoo, hoc1, hoc2, x0, x1⟩ := (HOo.out.below HO4.out).cellAt hc1
          clear hoo
          have HMD := Lib.hid (fun w => rmod2_any (shAt o i).2 1000 w (by decide) (by decide))
          have hmd := emod_self_lt (shAt o i).2 1000 (by decide)
          generalize (shAt o i).1 = oy at *
          generalize (shAt o i).2 % 1000 = om at *
          generalize (shAt o i).2 = oz at *
          have j1 : (i : Int) < o.length := by omega
          have j2 : (i : Int) < 4 := by omega
          have HKS := Lib.hid (show ∀ W, Only (fun _ => False) w4 W → W.cell? ⟨bo, oo + i * 2, none⟩ = some (.int .i64 oy) ∧ W.cell? ⟨bo, oo + i * 2 + 1, none⟩ = some (.int .i64 oz) ∧ W.cell? ⟨bf, of + i, none⟩ = some (.int .i64 fz) from fun W h => ⟨h.cell x0 id, h.cell x1 id, h.cell HFC.out id⟩)
          have hA : Only (fun _ => False) wr ((wr.alloc (.cells #[.int .i64 0, .int .i64 oy, .int .i64 fz, .int .i64 (-1 - om), .int .i64 1152921504606845789, .int .i64 1] 43)).drew) := ((Only.refl _ wr).alloc _).drew
          have HJA := Lib.hid (hJ.frame hA)
          have hownA := HJA.out.own
          rw [HSL.out] at hownA
          have HNW := Lib.hid (World.news_of_block (w := (wr.alloc (.cells #[.int .i64 0, .int .i64 oy, .int .i64 fz, .int .i64 (-1 - om), .int .i64 1152921504606845789, .int .i64 1] 43)).drew) (cs := #[.int .i64 0, .int .i64 oy, .int .i64 fz, .int .i64 (-1 - om), .int .i64 1152921504606845789, .int .i64 1]) (t := 43) (fr := (0, 0)) (heap_alloc_new wr _))
          have HSZ := Lib.hid HJA.out.only.size
          clear hA hJ x0 x1
          obtain ⟨x0, x1, hfc⟩ := HKS.out wr HJ.out.only
          go_wp2_with fail
          have q1 : IntKind.i64.wrap (-1 - om) = -1 - om := IntWalk.i64_in _ (by omega)
          go_region_held3 (fun w' => w'.cell? ⟨bo, oo + i * 2, none⟩ = some (.int .i64 oy) ∧ w'.cell? ⟨bo, oo + i * 2 + 1, none⟩ = some (.int .i64 oz) ∧ w'.cell? ⟨bf, of + i, none⟩ = some (.int .i64 fz))
            (first | exact HKS.out _ (HJ.out.only.drew) | exact HKS.out _ HJA.out.only | exact HKS.out _ HJ5.out.only)
            (first
              | (go_at_call 13; refine (HMD.out _).mono ?_; rintro e w' ⟨rfl, rfl⟩)
              | (refine step_append_lies _ (by rfl) _ _ 41 (by rfl) w4.heap.size 43 i0 _ 2 16 Try.underlying41 hi0 hz0 hz1 hz2 rfl (by decide) (.slice av sl cv) sl (srow (jnTo F C o i)) (by rfl) hownA ⟨wr.heap.size, 0, none⟩ 3 3 [.int .i64 0, .int .i64 oy, .int .i64 fz, .int .i64 (-1 - om), .int .i64 1152921504606845789, .int .i64 1] (by rfl) (by rfl) HNW.out (six_int _ _ _ _ _ _) (by decide) (by unfold maxLen; omega) (by omega) HSZ.out _ (by rfl) ?_
                 intro g5 cp5 w5 ho5 hg5 ha5 hgl5
                 have HJ5 := Lib.hid (HJA.out.more (m := 3) (t := [(0, oy), (fz, -1 - om), (1152921504606845789, 1)]) HSL.out rfl ho5 (by rw [HSL.out]; exact hg5))
                 clear ho5 hg5 ha5))
          clear q1 hfc x0 x1 hownA HNW HSZ HJA
          have HSL5 := Lib.hid (show (jnTo F C o i ++ [(0, oy), (fz, -1 - om), (1152921504606845789, 1)]).length = sl + 3 by rw [List.length_append, HSL.out]; rfl)
          have HTS := Lib.hid (show ∀ w', Only (fun _ => False) w4 w' → w'.cell? ⟨B, 0, none⟩ = some (.slice am M.length cm) ∧ w'.cell? ⟨B, 1, none⟩ = some (.slice ax ns cx) ∧ w'.cell? ⟨B, 2, none⟩ = some (.slice ac nd cc) ∧ w'.cell? ⟨B, 3, none⟩ = some (.slice ak nd ck) ∧ w'.cell? ⟨B, 4, none⟩ = some (.slice ap np cp) ∧ w'.cell? ⟨bf, of + i, none⟩ = some (.int .i64 fz) from fun w' h => by
            have hb := row_still h HB4.out
            exact ⟨cell_of_row _ _ 0 _ _ _ hb, cell_of_row _ _ 1 _ _ _ hb, cell_of_row _ _ 2 _ _ _ hb, cell_of_row _ _ 3 _ _ _ hb, cell_of_row _ _ 4 _ _ _ hb, h.cell (HFC.out) id⟩)
          have HAT := Lib.hid (show Calls Try.prog 14 #[.agg #[.slice am M.length cm, .slice ax ns cx, .slice ac nd cc, .slice ak nd ck, .slice ap np cp], .int .i64 fz] w5.drew (fun e wT => e = .returned (.agg #[.int .i64 fz, .int .i64 vz]) ∧ Only (fun _ => False) w5 wT) from by
            have h7 : Only (fun _ => False) w5 w5.drew := (Only.refl _ _).drew
            have hc := HC4.out.only (HJ5.out.only.trans h7)
            rw [← HCL.out] at hc
            have := rgat_any am ax ac ak ap M.length ns nd np cm cx cc ck cp C fz w5.drew hc (by have := HCL.out; omega)
            rw [HCL.out, HVZ.out] at this
            exact this.mono fun e wT hh => ⟨hh.1, h7.trans hh.2⟩)
          obtain ⟨b0, b1, b2, b3, b4, b5⟩ := HTS.out w5 HJ5.out.only
          have hBl : B < w5.heap.size := by have := HJ5.out.only.size; have := own_lt0 HB4.out; omega
          have hBf : bf < w5.heap.size := by have := HJ5.out.only.size; omega
          have HOWN := Lib.hid (show ∀ w', Only (fun _ => False) w5 w' → w'.ownsRow w4.heap.size 43 2 (.slice (some ⟨g5, 0, none⟩) (sl + 3) cp5) (sl + 3) (srow (jnTo F C o i ++ [(0, oy), (fz, -1 - om), (1152921504606845789, 1)])) from fun w' h => by
            have := (HJ5.out.frame h).own
            rw [HSL5.out] at this
            exact this)
          go_wp2_with fail
          go_region_held3 (fun w' => w'.cell? ⟨B, 0, none⟩ = some (.slice am M.length cm) ∧ w'.cell? ⟨B, 1, none⟩ = some (.slice ax ns cx) ∧ w'.cell? ⟨B, 2, none⟩ = some (.slice ac nd cc) ∧ w'.cell? ⟨B, 3, none⟩ = some (.slice ak nd ck) ∧ w'.cell? ⟨B, 4, none⟩ = some (.slice ap np cp) ∧ w'.cell? ⟨bf, of + i, none⟩ = some (.int .i64 fz))
            (first
              | with_reducible exact HTS.out _ (HJ5.out.only.drew)
              | with_reducible exact HTS.out _ (HJ5.out.only.trans hOT)
              | with_reducible exact HTS.out _ ((HJ5.out.only.trans hOT).alloc _)
              | with_reducible exact HTS.out _ HJ6.out.only)
            (first
              | (go_at_call 14; refine HAT.out.mono ?_; rintro e wT ⟨rfl, hOT⟩)
              | (refine step_append_lies _ (by rfl) _ _ 41 (by rfl) w4.heap.size 43 i0 _ 2 16 Try.underlying41 hi0 hz0 hz1 hz2 rfl (by decide) (.slice (some ⟨g5, 0, none⟩) (sl + 3) cp5) (sl + 3) (srow (jnTo F C o i ++ [(0, oy), (fz, -1 - om), (1152921504606845789, 1)])) (by rfl) (HOWN.out _ (hOT.alloc _)) ⟨wT.heap.size, 0, none⟩ 1 1 [.int .i64 fz, .int .i64 vz] (by rfl) (by rfl) (World.news_of_block (cs := #[.int .i64 fz, .int .i64 vz]) (t := 43) (fr := (0, 0)) (heap_alloc_new wT _)) (pair_int _ _) (by decide) (by unfold maxLen; omega) (by omega) (by have := hOT.size; have := HJ5.out.only.size; rw [World.size_alloc]; omega) _ (by rfl) ?_
                 intro g6 cp6 w6 ho6 hg6 ha6 hgl6
                 have HJ6 := Lib.hid ((HJ5.out.frame (hOT.alloc (.cells #[.int .i64 fz, .int .i64 vz] 43))).more (m := 1) (t := [(fz, vz)]) HSL5.out rfl ho6 hg6)
                 clear ho6 hg6 ha6))
          clear HTS HAT HOWN
          go_wp2
          go_roundw
          case rel => exact ⟨i + 1, by omega, by go_num, by rw [HJN.out, ← List.append_assoc]; exact HJ6.out⟩
          case measure => simp [intOf]; omega
        · rw [if_neg (fun h => hc2 h.2), List.nil_append] at HJN
          clear hJ
          have j1 : (i : Int) < o.length := by omega
          have j2 : ¬ (i : Int) < 4 := by omega
          have HTS := Lib.hid (show ∀ w', Only (fun _ => False) w4 w' → w'.cell? ⟨B, 0, none⟩ = some (.slice am M.length cm) ∧ w'.cell? ⟨B, 1, none⟩ = some (.slice ax ns cx) ∧ w'.cell? ⟨B, 2, none⟩ = some (.slice ac nd cc) ∧ w'.cell? ⟨B, 3, none⟩ = some (.slice ak nd ck) ∧ w'.cell? ⟨B, 4, none⟩ = some (.slice ap np cp) ∧ w'.cell? ⟨bf, of + i, none⟩ = some (.int .i64 fz) from fun w' h => by
            have hb := row_still h HB4.out
            exact ⟨cell_of_row _ _ 0 _ _ _ hb, cell_of_row _ _ 1 _ _ _ hb, cell_of_row _ _ 2 _ _ _ hb, cell_of_row _ _ 3 _ _ _ hb, cell_of_row _ _ 4 _ _ _ hb, h.cell (HFC.out) id⟩)
          have HAT := Lib.hid (show Calls Try.prog 14 #[.agg #[.slice am M.length cm, .slice ax ns cx, .slice ac nd cc, .slice ak nd ck, .slice ap np cp], .int .i64 fz] wr.drew (fun e wT => e = .returned (.agg #[.int .i64 fz, .int .i64 vz]) ∧ Only (fun _ => False) wr wT) from by
            have h7 : Only (fun _ => False) wr wr.drew := (Only.refl _ _).drew
            have hc := HC4.out.only (HJ.out.only.trans h7)
            rw [← HCL.out] at hc
            have := rgat_any am ax ac ak ap M.length ns nd np cm cx cc ck cp C fz wr.drew hc (by have := HCL.out; omega)
            rw [HCL.out, HVZ.out] at this
            exact this.mono fun e wT hh => ⟨hh.1, h7.trans hh.2⟩)
          obtain ⟨b0, b1, b2, b3, b4, b5⟩ := HTS.out wr HJ.out.only
          have hBl : B < wr.heap.size := by have := HJ.out.only.size; have := own_lt0 HB4.out; omega
          have hBf : bf < wr.heap.size := by have := HJ.out.only.size; omega
          have HOWN := Lib.hid (show ∀ w', Only (fun _ => False) wr w' → w'.ownsRow w4.heap.size 43 2 (.slice av (sl) cv) (sl) (srow (jnTo F C o i)) from fun w' h => by
            have := (HJ.out.frame h).own
            rw [HSL.out] at this
            exact this)
          go_wp2_with fail
          go_region_held3 (fun w' => w'.cell? ⟨B, 0, none⟩ = some (.slice am M.length cm) ∧ w'.cell? ⟨B, 1, none⟩ = some (.slice ax ns cx) ∧ w'.cell? ⟨B, 2, none⟩ = some (.slice ac nd cc) ∧ w'.cell? ⟨B, 3, none⟩ = some (.slice ak nd ck) ∧ w'.cell? ⟨B, 4, none⟩ = some (.slice ap np cp) ∧ w'.cell? ⟨bf, of + i, none⟩ = some (.int .i64 fz))
            (first
              | with_reducible exact HTS.out _ (HJ.out.only.drew)
              | with_reducible exact HTS.out _ (HJ.out.only.trans hOT)
              | with_reducible exact HTS.out _ ((HJ.out.only.trans hOT).alloc _)
              | with_reducible exact HTS.out _ HJ6.out.only)
            (first
              | (go_at_call 14; refine HAT.out.mono ?_; rintro e wT ⟨rfl, hOT⟩)
              | (refine step_append_lies _ (by rfl) _ _ 41 (by rfl) w4.heap.size 43 i0 _ 2 16 Try.underlying41 hi0 hz0 hz1 hz2 rfl (by decide) (.slice av (sl) cv) (sl) (srow (jnTo F C o i)) (by rfl) (HOWN.out _ (hOT.alloc _)) ⟨wT.heap.size, 0, none⟩ 1 1 [.int .i64 fz, .int .i64 vz] (by rfl) (by rfl) (World.news_of_block (cs := #[.int .i64 fz, .int .i64 vz]) (t := 43) (fr := (0, 0)) (heap_alloc_new wT _)) (pair_int _ _) (by decide) (by unfold maxLen; omega) (by omega) (by have := hOT.size; have := HJ.out.only.size; rw [World.size_alloc]; omega) _ (by rfl) ?_
                 intro g6 cp6 w6 ho6 hg6 ha6 hgl6
                 have HJ6 := Lib.hid ((HJ.out.frame (hOT.alloc (.cells #[.int .i64 fz, .int .i64 vz] 43))).more (m := 1) (t := [(fz, vz)]) HSL.out rfl ho6 (by rw [HSL.out]; exact hg6))
                 clear ho6 hg6 ha6))
          clear HTS HAT HOWN
          go_wp2
          go_roundw
          case rel => exact ⟨i + 1, by omega, by go_num, by rw [HJN.out]; exact HJ6.out⟩
          case measure => simp [intOf]; omega
      · rw [if_neg (fun h => hc1 h.1), List.nil_append] at HJN
        clear hJ
        have j1 : ¬ (i : Int) < o.length := by omega
        have HTS := Lib.hid (show ∀ w', Only (fun _ => False) w4 w' → w'.cell? ⟨B, 0, none⟩ = some (.slice am M.length cm) ∧ w'.cell? ⟨B, 1, none⟩ = some (.slice ax ns cx) ∧ w'.cell? ⟨B, 2, none⟩ = some (.slice ac nd cc) ∧ w'.cell? ⟨B, 3, none⟩ = some (.slice ak nd ck) ∧ w'.cell? ⟨B, 4, none⟩ = some (.slice ap np cp) ∧ w'.cell? ⟨bf, of + i, none⟩ = some (.int .i64 fz) from fun w' h => by
          have hb := row_still h HB4.out
          exact ⟨cell_of_row _ _ 0 _ _ _ hb, cell_of_row _ _ 1 _ _ _ hb, cell_of_row _ _ 2 _ _ _ hb, cell_of_row _ _ 3 _ _ _ hb, cell_of_row _ _ 4 _ _ _ hb, h.cell (HFC.out) id⟩)
        have HAT := Lib.hid (show Calls Try.prog 14 #[.agg #[.slice am M.length cm, .slice ax ns cx, .slice ac nd cc, .slice ak nd ck, .slice ap np cp], .int .i64 fz] wr.drew (fun e wT => e = .returned (.agg #[.int .i64 fz, .int .i64 vz]) ∧ Only (fun _ => False) wr wT) from by
          have h7 : Only (fun _ => False) wr wr.drew := (Only.refl _ _).drew
          have hc := HC4.out.only (HJ.out.only.trans h7)
          rw [← HCL.out] at hc
          have := rgat_any am ax ac ak ap M.length ns nd np cm cx cc ck cp C fz wr.drew hc (by have := HCL.out; omega)
          rw [HCL.out, HVZ.out] at this
          exact this.mono fun e wT hh => ⟨hh.1, h7.trans hh.2⟩)
        obtain ⟨b0, b1, b2, b3, b4, b5⟩ := HTS.out wr HJ.out.only
        have hBl : B < wr.heap.size := by have := HJ.out.only.size; have := own_lt0 HB4.out; omega
        have hBf : bf < wr.heap.size := by have := HJ.out.only.size; omega
        have HOWN := Lib.hid (show ∀ w', Only (fun _ => False) wr w' → w'.ownsRow w4.heap.size 43 2 (.slice av (sl) cv) (sl) (srow (jnTo F C o i)) from fun w' h => by
          have := (HJ.out.frame h).own
          rw [HSL.out] at this
          exact this)
        go_wp2_with fail
        go_region_held3 (fun w' => w'.cell? ⟨B, 0, none⟩ = some (.slice am M.length cm) ∧ w'.cell? ⟨B, 1, none⟩ = some (.slice ax ns cx) ∧ w'.cell? ⟨B, 2, none⟩ = some (.slice ac nd cc) ∧ w'.cell? ⟨B, 3, none⟩ = some (.slice ak nd ck) ∧ w'.cell? ⟨B, 4, none⟩ = some (.slice ap np cp) ∧ w'.cell? ⟨bf, of + i, none⟩ = some (.int .i64 fz))
          (first
            | with_reducible exact HTS.out _ (HJ.out.only.drew)
            | with_reducible exact HTS.out _ (HJ.out.only.trans hOT)
            | with_reducible exact HTS.out _ ((HJ.out.only.trans hOT).alloc _)
            | with_reducible exact HTS.out _ HJ6.out.only)
          (first
            | (go_at_call 14; refine HAT.out.mono ?_; rintro e wT ⟨rfl, hOT⟩)
            | (refine step_append_lies _ (by rfl) _ _ 41 (by rfl) w4.heap.size 43 i0 _ 2 16 Try.underlying41 hi0 hz0 hz1 hz2 rfl (by decide) (.slice av (sl) cv) (sl) (srow (jnTo F C o i)) (by rfl) (HOWN.out _ (hOT.alloc _)) ⟨wT.heap.size, 0, none⟩ 1 1 [.int .i64 fz, .int .i64 vz] (by rfl) (by rfl) (World.news_of_block (cs := #[.int .i64 fz, .int .i64 vz]) (t := 43) (fr := (0, 0)) (heap_alloc_new wT _)) (pair_int _ _) (by decide) (by unfold maxLen; omega) (by omega) (by have := hOT.size; have := HJ.out.only.size; rw [World.size_alloc]; omega) _ (by rfl) ?_
               intro g6 cp6 w6 ho6 hg6 ha6 hgl6
               have HJ6 := Lib.hid ((HJ.out.frame (hOT.alloc (.cells #[.int .i64 fz, .int .i64 vz] 43))).more (m := 1) (t := [(fz, vz)]) HSL.out rfl ho6 (by rw [HSL.out]; exact hg6))
               clear ho6 hg6 ha6))
        clear HTS HAT HOWN
        go_wp2
        go_roundw
        case rel => exact ⟨i + 1, by omega, by go_num, by rw [HJN.out]; exact HJ6.out⟩
        case measure => simp [intOf]; omega
    · obtain rfl : i = nd := by omega
      have i1 : ¬ (i : Int) < i := by omega
      obtain ⟨sl, hsl⟩ : ∃ sl, (jnTo F C o i).length = sl := ⟨_, rfl⟩
      have HSL := Lib.hid hsl
      have hown := hJ.own
      rw [hsl] at hjl hjl2 hown
      obtain ⟨av, cv, rfl⟩ := slice_of_own hown
      obtain ⟨hcv, hcv2⟩ := own_cap hown (by omega)
      have HS1 := Lib.hid (shs_of_own hJ.own (by omega))
      have HR1 := Lib.hid (jnTo_r F C o HFB.out HOW.out i)
      have HJF := Lib.hid (jn_few F C o HFD.out i HFL.out hnd1)
      have HJJ := Lib.hid (fun t => jn_join F C o t HFD.out i HFL.out hnd1 HCL.out (HCB.out 0))
      rw [hsl] at HJF
      have HS2 := Lib.hid (shs_cut HS1.out (sl - 1) (by omega) HSL.out.symm)
      have q1 : ((sl : Int) == 0) = false := beq_eq_false_iff_ne.2 (by omega)
      obtain ⟨sm, hsm⟩ : ∃ sm, sl = sm + 1 := ⟨sl - 1, by omega⟩
      subst hsm
      have q2 : ((sm + 1 : Nat) : Int) - 1 = (sm : Int) := by omega
      have q3 : IntKind.i64.wrap (((sm + 1 : Nat) : Int) - 1) = (sm : Int) := by rw [q2]; exact IntWalk.i64_in _ (by omega)
      rw [Nat.add_sub_cancel] at HS2 HJF
      have q4 : (sm : Int) ≤ cv := by omega
      have q5 : ((sm + 1 : Nat) : Int) = (sm : Int) + 1 := by omega
      have q6 : sm ≤ cv := by omega
      have HFP2 := Lib.hid (HFP.out.only hJ.only)
      have hif : 0 < F.length := by rw [HFL.out]; exact hnd1
      clear hsl hJ hown hlt hi q5
      go_wp2_with fail
      obtain ⟨jz, hjz⟩ : ∃ jz, joinZ i ((jnTo F C o i).take sm) = jz := ⟨_, rfl⟩
      refine (join_any i _ _ jz false wr (shsW_of fun s hs => HR1.out s (List.mem_of_mem_take hs)) (by rw [List.length_take]; omega) (by omega) HS2.out hjz HJF.out).mono ?_
      rintro e w5 ⟨rfl, hO5⟩
      have HJ5 := Lib.hid (HJ.out.frame hO5)
      obtain ⟨bf, of, rfl, hbf, hndF, hcf1, hcf2, hfc⟩ := (HFP2.out.only hO5).cellAt hif
      have HOA := Lib.hid (HJ5.out.frame ((Only.refl (fun _ => False) w5).alloc (.cells #[.int .i64 (ptAt F 0), .int .i64 5, .int .i64 1000, .int .i64 5] 43)))
      have hownA := HOA.out.own
      rw [HSL.out] at hownA
      have hs5 := HJ5.out.only.size
      have hcf3 : i ≤ cf := by have := HFL.out; omega
      have HF0 := Lib.hid (HFB.out 0)
      generalize ptAt F 0 = f0 at *
      rw [Nat.add_zero] at hfc
      clear hO5 hjz hndF q1 q2 q3 q4
      go_wp2_with (at_builtin; refine wpList_append_lies _ rfl _ _ 41 rfl w4.heap.size 43 i0 _ 2 16 Try.underlying41 hi0 hz0 hz1 hz2 rfl (by decide) _ (sm + 1) (srow (jnTo F C o i)) rfl hownA ⟨w5.heap.size, 0, none⟩ 2 2 [.int .i64 f0, .int .i64 5, .int .i64 1000, .int .i64 5] rfl rfl (World.news_of_block (cs := #[.int .i64 f0, .int .i64 5, .int .i64 1000, .int .i64 5]) (t := 43) (fr := (0, 0)) (heap_alloc_new w5 _)) (four_int _ _ _ _) (by decide) ?c1 ?c2 ?c3 _ rfl ?_)
      case c1 => unfold maxLen; omega
      case c2 => omega
      case c3 => first | omega | (simp; omega)
      intro g6 cp6 w6 ho6 hg6 ha6 hgl6
      have HJ6 := Lib.hid (HOA.out.more (m := 2) (t := [(f0, 5), (1000, 5)]) HSL.out rfl ho6 hg6)
      have HS6 := Lib.hid (shs_of_own HJ6.out.own (by rw [List.length_append, HSL.out]; show sm + 1 + 2 ≤ _; omega))
      clear ho6 hg6 ha6 hownA HOA
      go_wp2_with fail
      obtain ⟨he, hz⟩ := HJJ.out [(f0, 5), (1000, 5)]
      refine (join_any i _ _ (ptAt C 0) true w6 (shsW_of fun s hs => by
        rcases List.mem_append.1 hs with hs | hs
        · exact HR1.out s hs
        · simp only [List.mem_cons, List.not_mem_nil, or_false] at hs
          have := HF0.out
          rcases hs with rfl | rfl
          · exact ⟨by dsimp only; omega, by dsimp only; omega⟩
          · exact ⟨by decide, by decide⟩) (by rw [List.length_append, HSL.out]; show sm + 1 + 2 ≤ _; omega) (by omega) HS6.out hz he).mono ?_
      rintro e w7 ⟨rfl, hO7⟩
      have HJ7 := Lib.hid (HJ6.out.only.trans hO7)
      obtain ⟨bc, oc2, rfl, hbc, hndC, hcc1, hcc2, hcc⟩ := (HC4.out.only HJ7.out).cellAt (k := 0) (by rw [HCL.out]; exact hnd1)
      have hb7 := row_still HJ7.out HB4.out
      have e7 := cell_of_row _ _ 2 _ _ _ hb7
      have l7 := own_lt0 hb7
      have hcc3 : i ≤ cc := by have := HCL.out; omega
      have q7 : (ptAt C 0 == ptAt C 0) = true := beq_self_eq_true _
      have HBEL := Lib.hid ((HO4.out.trans HJ7.out).below (B := w.heap.size) (Nat.le_refl _) (fun _ _ h => h))
      generalize ptAt C 0 = c0 at *
      rw [Nat.add_zero] at hcc
      clear he hz hO7 hndC hb7
      go_wp2
      go_ret
      exact ⟨rfl, HBEL.out⟩
end Go.Proofs.Ytalclldccnichaa
