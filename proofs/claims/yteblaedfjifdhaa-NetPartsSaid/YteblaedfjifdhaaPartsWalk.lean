/-
  The walk of the law NetParts, as gen_parts.py prints it.
-/
import Derived.Test.YteblaedfjifdhaaParts
namespace Go.Proofs.Yteblaedfjifdhaa
open Go.RowKit

set_option maxHeartbeats 4000000 in
set_option maxRecDepth 100000 in
theorem parts_walk (gv lv : Value) (gs : List Int) (ps : List (Int × Int)) (w : World) (hg : I8sAt w gv gs) (hgw : I8sWf gs) (hp : PairsAt w lv ps) (hpw : PairsWf ps) :
    Calls Try.prog 10 #[gv, lv] w fun e w' => e = .returned (.bool true) ∧ Below w.heap.size w w' := by
  obtain ⟨i0, hi, hz0, hz1, hz2⟩ := info_parts Try.info3
  have hgl : ∃ a c, gv = .slice a gs.length c ∧ gs.length ≤ maxLen := by
    rcases hg with ⟨a, c, rfl, rfl⟩ | ⟨gb, off, c, rfl, _, _, h1, h2, _⟩
    · exact ⟨a, c, rfl, Nat.zero_le _⟩
    · exact ⟨_, _, rfl, Nat.le_trans h1 h2⟩
  have hpl : ∃ a c, lv = .slice a ps.length c ∧ ps.length ≤ maxLen := by
    rcases hp with ⟨a, c, rfl, rfl⟩ | ⟨gb, off, c, rfl, _, _, h1, h2, _⟩
    · exact ⟨a, c, rfl, Nat.zero_le _⟩
    · exact ⟨_, _, rfl, Nat.le_trans h1 h2⟩
  obtain ⟨ga, gc, rfl, hgm⟩ := hgl
  obtain ⟨pa, pc, rfl, hpm⟩ := hpl
  unfold maxLen at hgm hpm
  have HGS := Lib.hid hg
  have HGW := Lib.hid hgw
  have HPS := Lib.hid hp
  have HPW := Lib.hid hpw
  clear hg hgw hp hpw
  go_enter Try.func10, Try.ntmps10
  go_wp2_with fail
  refine (sanity_any _).mono ?_
  rintro e w1 ⟨rfl, hO1⟩
  have HO1 := Lib.hid hO1
  clear hO1
  go_wp2_with fail
  go_loopw [6, 7] (fun v vi wr => ∃ (k : Nat) (a : Option Addr) (c : Nat), v = .slice a k c ∧ vi = .int .i64 k ∧ k ≤ gs.length ∧ k ≤ 8 ∧ wr.ownsRow w1.heap.size 3 1 (.slice a k c) k (irow (zsTo gs k)) ∧ Only (fun _ => False) w1 wr) (fun _ vi _ => 8 - (intOf vi).toNat)
  case atStart => exact ⟨0, none, 0, rfl, rfl, Nat.zero_le _, Nat.zero_le _, World.ownsRow_nil _ _ _ _, Only.refl _ _⟩
  case round =>
    obtain ⟨k, a, c, rfl, rfl, hk, hk8, hown, hO⟩ := hrel
    have hsz := hO.size
    by_cases hlt : k < gs.length
    · by_cases hlt2 : k < 8
      · rcases HGS.out with ⟨_, _, _, hgs⟩ | ⟨gb, off, c1, hgv, hgl, _, _, _, hcs⟩
        · rw [hgs] at hlt; simp at hlt
        · simp only [Value.slice.injEq, true_and] at hgv
          obtain ⟨rfl, rfl⟩ := hgv
          have x0 := (HO1.out.trans hO).cell (hcs k hlt) (fun h => h)
          obtain ⟨b0, b1⟩ := HGW.out k
          have HZ := Lib.hid (show irow (zsTo gs (k + 1)) = irow (zsTo gs k) ++ [.int .i64 ((tat gs k).tmod 3)] by simp [irow, zsTo])
          clear hcs
          generalize tat gs k = z at *
          obtain ⟨t1, t2⟩ := tmod3_bd z
          go_wp2_with (at_builtin; refine wpList_append_own _ rfl _ _ 32 rfl w1.heap.size 3 i0 _ 1 8 Try.underlying32 hi hz0 hz1 hz2 rfl (by decide) _ k (irow (zsTo gs k)) rfl (hown.alloc _) ⟨wr.heap.size, 0, none⟩ 1 1 [.int .i64 (z.tmod 3)] rfl rfl ?c1 ?c2 ?c3 ?c4 ?c5 ?_)
          case c1 => exact cell_one_new _ _ _
          case c2 => intro u hu; simp at hu; subst hu; rfl
          case c3 => unfold maxLen; omega
          case c4 => omega
          case c5 => simp; omega
          intro v' w2 hown2 hgrow2 _
          obtain ⟨a2, c2, hv⟩ := slice_of_own hown2
          rw [hv] at hown2 ⊢
          rw [← HZ.out] at hown2
          have hO2 : Only (fun _ => False) w1 w2 := (hO.alloc _).grown hgrow2 (fun i e hi => by have := hown.lt i e; omega)
          clear hgrow2 x0 hv
          go_wp2
          go_roundw
          case rel => exact ⟨k + 1, a2, c2, rfl, by go_num, by omega, by omega, hown2, hO2⟩
          case measure => simp [intOf]; omega
      · have hd : decide ((k : Int) < 8) = false := by simp; omega
        have hk8' : 8 ≤ k := by omega
        clear hlt2
        have hzl := zsTo_length gs k
        have hz8 : (zsTo gs k).length ≤ 8 := by omega
        have hz8' : 8 ≤ (zsTo gs k).length := by omega
        have HZW := Lib.hid (zsTo_wf gs k)
        have HOWN := Lib.hid (show wr.ownsRow w1.heap.size 3 1 (.slice a k c) (zsTo gs k).length (irow (zsTo gs k)) by rw [hzl]; exact hown)
        clear hown
        generalize zsTo gs k = zs at *
        subst hzl
        go_wp2_with fail
        refine (new_any _ 8 _ [] (.inl ⟨rfl, rfl⟩) (by decide)).mono ?_
        rintro e w3 ⟨p, F3, rfl, n1, n2, n3⟩
        have HN := Lib.hid ((Own.of_new n1 (good_new _ _) n2 n3).base hO)
        have HR3 := Lib.hid (n3.owns HOWN.out (fun _ _ h => h))
        have HGB := Lib.hid (show ∀ b, Value.ownBlock (.slice a zs.length c) = some b → ¬ F3 b ∧ b < w3.heap.size from fun b e => by have h2 := (HOWN.out.lt b e).2; have h3 := n3.size; exact ⟨fun hf => by have h1 := n2 b hf; omega, by omega⟩)
        clear n1 n2 n3
        go_wp2_with fail
        refine (part_any F3 p _ _ zs _ HN.out.net (ints_of_own rfl HR3.out) HZW.out (fun b e => (HGB.out b e).1) (by omega)).mono ?_
        rintro e w4 ⟨rfl, F, h4, hF4, hO4⟩
        have HR4 := Lib.hid (hO4.owns HR3.out (fun b e => (HGB.out b e).1))
        have HO4 := Lib.hid (HN.out.stepF (N' := paN zs 0) h4 hF4 hO4 (paN_good zs 0))
        have HGF := Lib.hid (show ∀ b, Value.ownBlock (.slice a zs.length c) = some b → ¬ F b from fun b e hf => by rcases hF4 b hf with h | h; exact (HGB.out b e).1 h; have := (HGB.out b e).2; omega)
        clear h4 hF4 hO4 HN HR3 HOWN HZW HGB
        rcases ownI_parts HR4.out with ⟨rfl, rfl, rfl⟩ | ⟨g, gcur, rfl, hgw, hgb, hsc, hcm, _⟩
        · skip
          exact absurd hz8' (by simp)
        · skip
          unfold maxLen at hcm
          have hgl := (Array.getElem?_eq_some_iff.1 hgb).1
          have hngF := HGF.out g rfl
          clear HGF
          go_wp2_with (at_builtin; refine wpList_append_own _ rfl _ _ 32 rfl w4.heap.size 3 i0 _ 1 8 Try.underlying32 hi hz0 hz1 hz2 rfl (by decide) _ 0 [] rfl (World.ownsRow_lit w4 #[] 0 (Nat.le_refl _) (Nat.zero_le _) rfl) ⟨g, 0, none⟩ zs.length c (irow zs) rfl (by rw [irow_length]; omega) ?d2 (irow_one zs) ?d3 ?d4 ?d5 ?_)
          case d2 => exact fun j u hu => (HR4.out.alloc _).cells rfl j u hu
          case d3 => unfold maxLen; omega
          case d4 => omega
          case d5 => simp
          intro v' w5 hown5 hgrow5 hne
          obtain ⟨a5, c5, hv5⟩ := slice_of_own hown5
          rw [hv5] at hown5 hne ⊢
          have hO5 : Only (fun _ => False) w4 w5 := ((Only.refl _ w4).alloc _).grown hgrow5 (fun i e hi => by simp [Value.ownBlock] at e; omega)
          rcases ownI_parts hown5 with ⟨h5n, h5c, h5z⟩ | ⟨ob, cur, hob5, hob1, hob2, _, hc5, hcur⟩
          · exact absurd (by rw [h5n, h5c, h5z]; rfl) hne
          · have HR5 := Lib.hid (hO5.owns HR4.out (fun _ _ h => h))
            have HO5 := Lib.hid (show Own w1 w5 F p (paN zs 0) [(ob, .cells cur 3 (0, 0))] from by
              have h := HO4.out.quiet hO5
              refine ⟨h.net, h.good, h.new, h.only, fun t o ht => ?_⟩
              rw [List.mem_singleton] at ht
              cases ht
              exact ⟨fun hf => by have := HO4.out.net.lt _ hf; omega, hob2⟩)
            have HCU := Lib.hid hcur
            have hne' : ob ≠ g := by omega
            unfold maxLen at hc5
            subst hob5
            clear hgrow5 hv5 hne hcur hob2 HR4 HO4 hown5 hO5 hgb
            go_wp2_with fail
            go_loopw [10] (fun v wr => ∃ (k : Nat) (xs : List Value), v = .int .i64 k ∧ k ≤ zs.length ∧ wr.ownsRow w1.heap.size 3 1 (.slice (some ⟨g, 0, none⟩) zs.length c) zs.length xs ∧ Own w1 wr F p (paN zs 0) [(ob, .cells cur 3 (0, 0))]) (fun v _ => zs.length - (intOf v).toNat)
            case atStart => exact ⟨0, _, rfl, Nat.zero_le _, HR5.out, HO5.out⟩
            case round =>
              clear HR5 HO5
              obtain ⟨k, xs, rfl, hk2, hr, hO2⟩ := hrel
              by_cases hlt3 : k < zs.length
              · have hxl := hr.1
                obtain ⟨u, hu⟩ : ∃ u, xs[k]? = some u := ⟨xs[k]'(by omega), List.getElem?_eq_getElem (by omega)⟩
                have x0 := (hr.cellAt k (by omega)).trans hu
                have f0 := hr.frozenAt k
                have HS := Lib.hid (hr.stored k (.int .i64 5)).1
                have HO6 := Lib.hid (hO2.aside hngF hgw (fun t o ht => by rw [List.mem_singleton] at ht; cases ht; exact hne') ((Only.refl (fun k => k = g) _).setCell (p := ⟨g, k, none⟩) (.inl rfl) (.int .i64 5)))
                clear hu hr hO2 hxl
                go_wp2
                go_roundw
                case rel => exact ⟨k + 1, _, by go_num, by omega, HS.out, HO6.out⟩
                case measure => simp [intOf]; omega
              · have HO := Lib.hid hO2
                clear hO2 hr
                go_wp2_with fail
                go_loopw [11] (fun v wr => ∃ (k : Nat) (F : Nat → Prop), v = .int .i64 k ∧ k ≤ ps.length ∧ k ≤ 20 ∧ Own w1 wr F p (paN zs k) [(ob, .cells cur 3 (0, 0))]) (fun v _ => 20 - (intOf v).toNat)
                case atStart => exact ⟨0, F, rfl, Nat.zero_le _, by omega, HO.out⟩
                case round =>
                  clear HO
                  obtain ⟨k, F, rfl, hk, hk20, hO⟩ := hrel
                  by_cases hlt : k < ps.length
                  · by_cases hlt2 : k < 20
                    · rcases HPS.out with ⟨_, _, _, hps⟩ | ⟨gb, off, c1, hgv, hgl, _, _, _, hcs⟩
                      · rw [hps] at hlt; simp at hlt
                      · simp only [Value.slice.injEq, true_and] at hgv
                        obtain ⟨rfl, rfl⟩ := hgv
                        have hOo := HO1.out.trans hO.only
                        obtain ⟨e0, e1⟩ := hcs k hlt
                        have x0 := hOo.cell e0 (fun h => h)
                        have x1 := hOo.cell e1 (fun h => h)
                        obtain ⟨⟨b0, b1⟩, b2, b3⟩ := HPW.out k
                        generalize (pat ps k).1 = p0 at *
                        generalize (pat ps k).2 = p1 at *
                        have hob := (hO.apart ob _ List.mem_cons_self).2
                        have HOq := Lib.hid hO
                        clear hcs hOo e0 e1 hO
                        obtain ⟨f, hf0⟩ := Int.eq_ofNat_of_zero_le (show 0 ≤ p0 % 10 by omega)
                        obtain ⟨t, ht0⟩ := Int.eq_ofNat_of_zero_le (show 0 ≤ p1 % 10 by omega)
                        have f10 : f < 10 := by omega
                        have t10 : t < 10 := by omega
                        have HDI := drop_is zs k f t hz8
                        go_wp2_with fail
                        go_quiet (fail)
                        have HF0 := Lib.hid hf0
                        have HT0 := Lib.hid ht0
                        clear hf0 ht0 x0 x1
                        have HOq2 := Lib.hid (HOq.out.quiet ((Only.refl _ wr).drewN nq))
                        clear HOq
                        have HOq := HOq2
                        clear HOq2
                        by_cases hf : f < zs.length
                        · by_cases ht : t < zs.length
                          · skip
                            have cf := HCU.out f hf
                            have z1 := (cell_of_row (wr.drewN nq) ob f cur 3 (0, 0) hob).trans cf
                            have gf : gOf zs f = zs.getD f 0 := by unfold gOf; rw [if_pos hf]
                            rw [gf] at HDI
                            clear cf gf
                            generalize zs.getD f 0 = zf at *
                            have ct := HCU.out t ht
                            have z2 := (cell_of_row (wr.drewN nq) ob t cur 3 (0, 0) hob).trans ct
                            have gt : gOf zs t = zs.getD t 0 := by unfold gOf; rw [if_pos ht]
                            rw [gt] at HDI
                            clear ct gt
                            generalize zs.getD t 0 = zt at *
                            cases hg : (zf == zt)
                            · skip
                              have h8' : t < 8 := by omega
                              have h9' : f < 8 := by omega
                              have hd : dropB (paN zs k) f t = true := by rw [HDI, hg]; simp [h8', show ¬ 8 ≤ f by omega]
                              clear HDI
                              have HD := Lib.hid hd
                              clear hd
                              have HS := Lib.hid (paN_drop (now := (k : Int)) HD.out)
                              go_wp2_with fail
                              refine (send_any F p _ k f t ByteArray.empty _ HOq.out.net HOq.out.good (by show k < 100000; omega) (paN_may zs k _ _ _ (by omega)) (WalkArith.wf_i64 (by omega)) (WalkArith.wf_i64 (by omega))).mono ?_
                              rintro e w6 ⟨rfl, hNL⟩
                              rw [HS.out] at hNL
                              obtain ⟨F6, hO6⟩ := HOq.out.step hNL (paN_good zs _)
                              clear hNL HOq
                              go_wp2_with fail
                              refine (next_nil F6 p _ _ hO6.net rfl).mono ?_
                              rintro e w7 ⟨rfl, hNL⟩
                              obtain ⟨F7, hO7⟩ := hO6.step hNL hO6.good
                              clear hNL hO6
                              go_wp2
                              go_roundw
                              case rel => exact ⟨k + 1, F7, by go_num, by omega, by omega, hO7.quiet ((Only.refl _ w7).alloc _)⟩
                              case measure => simp [intOf]; omega
                            · skip
                              have h8' : t < 8 := by omega
                              have h9' : f < 8 := by omega
                              have hd : dropB (paN zs k) f t = false := by rw [HDI, hg]; simp [h8']
                              clear HDI
                              have HD := Lib.hid hd
                              clear hd
                              obtain ⟨hsL, hsN⟩ := paN_keep (now := (k : Int)) HD.out
                              have HSL := Lib.hid hsL
                              have HSN := Lib.hid hsN
                              clear hsL hsN
                              go_wp2_with fail
                              refine (send_any F p _ k f t ByteArray.empty _ HOq.out.net HOq.out.good (by show k < 100000; omega) (paN_may zs k _ _ _ (by omega)) (WalkArith.wf_i64 (by omega)) (WalkArith.wf_i64 (by omega))).mono ?_
                              rintro e w6 ⟨rfl, hNL⟩
                              obtain ⟨F6, hO6⟩ := HOq.out.step hNL (good_send HOq.out.good _ _ _ _)
                              clear hNL HOq
                              go_wp2_with fail
                              refine (next_cons F6 p _ _ hO6.net hO6.good _ _ HSL.out).mono ?_
                              rintro e w7 ⟨rfl, hNL⟩
                              rw [HSN.out] at hNL
                              obtain ⟨F7, hO7⟩ := hO6.step hNL (paN_good zs _)
                              clear hNL hO6
                              go_wp2
                              go_roundw
                              case rel => exact ⟨k + 1, F7, by go_num, by omega, by omega, hO7.quiet ((Only.refl _ w7).alloc _)⟩
                              case measure => simp [intOf]; omega
                          · skip
                            have cf := HCU.out f hf
                            have z1 := (cell_of_row (wr.drewN nq) ob f cur 3 (0, 0) hob).trans cf
                            have gf : gOf zs f = zs.getD f 0 := by unfold gOf; rw [if_pos hf]
                            rw [gf] at HDI
                            clear cf gf
                            generalize zs.getD f 0 = zf at *
                            have gt : gOf zs t = 0 := by unfold gOf; rw [if_neg (by first | omega | simp)]
                            rw [gt] at HDI
                            clear gt
                            by_cases h8 : t < 8
                            · skip
                              exfalso; omega
                            · skip
                              have h8' : 8 ≤ t := by omega
                              have hd : dropB (paN zs k) f t = true := by rw [HDI]; simp [show ¬ t < 8 by omega]
                              clear HDI
                              have HD := Lib.hid hd
                              clear hd
                              have HS := Lib.hid (paN_drop (now := (k : Int)) HD.out)
                              go_wp2_with fail
                              refine (send_any F p _ k f t ByteArray.empty _ HOq.out.net HOq.out.good (by show k < 100000; omega) (paN_may zs k _ _ _ (by omega)) (WalkArith.wf_i64 (by omega)) (WalkArith.wf_i64 (by omega))).mono ?_
                              rintro e w6 ⟨rfl, hNL⟩
                              rw [HS.out] at hNL
                              obtain ⟨F6, hO6⟩ := HOq.out.step hNL (paN_good zs _)
                              clear hNL HOq
                              go_wp2_with fail
                              refine (next_nil F6 p _ _ hO6.net rfl).mono ?_
                              rintro e w7 ⟨rfl, hNL⟩
                              obtain ⟨F7, hO7⟩ := hO6.step hNL hO6.good
                              clear hNL hO6
                              go_wp2
                              go_roundw
                              case rel => exact ⟨k + 1, F7, by go_num, by omega, by omega, hO7.quiet ((Only.refl _ w7).alloc _)⟩
                              case measure => simp [intOf]; omega
                        · by_cases ht : t < zs.length
                          · skip
                            have gf : gOf zs f = 0 := by unfold gOf; rw [if_neg (by first | omega | simp)]
                            rw [gf] at HDI
                            clear gf
                            have ct := HCU.out t ht
                            have z2 := (cell_of_row (wr.drewN nq) ob t cur 3 (0, 0) hob).trans ct
                            have gt : gOf zs t = zs.getD t 0 := by unfold gOf; rw [if_pos ht]
                            rw [gt] at HDI
                            clear ct gt
                            generalize zs.getD t 0 = zt at *
                            by_cases h9 : f < 8
                            · skip
                              exfalso; omega
                            · skip
                              have h8' : t < 8 := by omega
                              have h9' : 8 ≤ f := by omega
                              have hd : dropB (paN zs k) f t = false := by rw [HDI]; simp [h8', h9']
                              clear HDI
                              have HD := Lib.hid hd
                              clear hd
                              obtain ⟨hsL, hsN⟩ := paN_keep (now := (k : Int)) HD.out
                              have HSL := Lib.hid hsL
                              have HSN := Lib.hid hsN
                              clear hsL hsN
                              go_wp2_with fail
                              refine (send_any F p _ k f t ByteArray.empty _ HOq.out.net HOq.out.good (by show k < 100000; omega) (paN_may zs k _ _ _ (by omega)) (WalkArith.wf_i64 (by omega)) (WalkArith.wf_i64 (by omega))).mono ?_
                              rintro e w6 ⟨rfl, hNL⟩
                              obtain ⟨F6, hO6⟩ := HOq.out.step hNL (good_send HOq.out.good _ _ _ _)
                              clear hNL HOq
                              go_wp2_with fail
                              refine (next_cons F6 p _ _ hO6.net hO6.good _ _ HSL.out).mono ?_
                              rintro e w7 ⟨rfl, hNL⟩
                              rw [HSN.out] at hNL
                              obtain ⟨F7, hO7⟩ := hO6.step hNL (paN_good zs _)
                              clear hNL hO6
                              go_wp2
                              go_roundw
                              case rel => exact ⟨k + 1, F7, by go_num, by omega, by omega, hO7.quiet ((Only.refl _ w7).alloc _)⟩
                              case measure => simp [intOf]; omega
                          · skip
                            have gf : gOf zs f = 0 := by unfold gOf; rw [if_neg (by first | omega | simp)]
                            rw [gf] at HDI
                            clear gf
                            have gt : gOf zs t = 0 := by unfold gOf; rw [if_neg (by first | omega | simp)]
                            rw [gt] at HDI
                            clear gt
                            by_cases h8 : t < 8
                            · exfalso; omega
                            · skip
                              have h8' : 8 ≤ t := by omega
                              have hd : dropB (paN zs k) f t = true := by rw [HDI]; simp [show ¬ t < 8 by omega]
                              clear HDI
                              have HD := Lib.hid hd
                              clear hd
                              have HS := Lib.hid (paN_drop (now := (k : Int)) HD.out)
                              go_wp2_with fail
                              refine (send_any F p _ k f t ByteArray.empty _ HOq.out.net HOq.out.good (by show k < 100000; omega) (paN_may zs k _ _ _ (by omega)) (WalkArith.wf_i64 (by omega)) (WalkArith.wf_i64 (by omega))).mono ?_
                              rintro e w6 ⟨rfl, hNL⟩
                              rw [HS.out] at hNL
                              obtain ⟨F6, hO6⟩ := HOq.out.step hNL (paN_good zs _)
                              clear hNL HOq
                              go_wp2_with fail
                              refine (next_nil F6 p _ _ hO6.net rfl).mono ?_
                              rintro e w7 ⟨rfl, hNL⟩
                              obtain ⟨F7, hO7⟩ := hO6.step hNL hO6.good
                              clear hNL hO6
                              go_wp2
                              go_roundw
                              case rel => exact ⟨k + 1, F7, by go_num, by omega, by omega, hO7.quiet ((Only.refl _ w7).alloc _)⟩
                              case measure => simp [intOf]; omega
                    · have hd : decide ((k : Int) < 20) = false := by simp; omega
                      clear hlt2
                      have HE := Lib.hid hO
                      clear hO
                      go_wp2_with fail
                      refine (part_any F p _ _ [] _ HE.out.net (.inl ⟨none, 0, rfl, rfl⟩) (fun j hj => by simp at hj) (fun k e => by simp [Value.ownBlock] at e) (by decide)).mono ?_
                      rintro e w6 ⟨rfl, hNL⟩
                      obtain ⟨F6, hO6⟩ := HE.out.step (N' := paE k) hNL (paE_good k)
                      clear hNL HE
                      go_wp2_with fail
                      refine (send_any F6 p _ 0 0 7 ByteArray.empty _ hO6.net hO6.good (by show k < 100000; omega) (.inr ⟨by decide, by decide, by simp [paE, trOf]⟩) (by decide) (by decide)).mono ?_
                      rintro e w7 ⟨rfl, hNL⟩
                      obtain ⟨F7, hO7⟩ := hO6.step hNL (good_send hO6.good _ _ _ _)
                      clear hNL hO6
                      go_wp2_with fail
                      refine (waiting_is F7 p _ _ 1 hO7.net (last_one k)).mono ?_
                      rintro e w' ⟨rfl, rfl⟩
                      go_wp2
                      go_ret
                      exact ⟨rfl, (HO1.out.trans hO7.only).below (Nat.le_refl _) (fun _ _ h => h)⟩
                  · skip
                    have HE := Lib.hid hO
                    clear hO
                    go_wp2_with fail
                    refine (part_any F p _ _ [] _ HE.out.net (.inl ⟨none, 0, rfl, rfl⟩) (fun j hj => by simp at hj) (fun k e => by simp [Value.ownBlock] at e) (by decide)).mono ?_
                    rintro e w6 ⟨rfl, hNL⟩
                    obtain ⟨F6, hO6⟩ := HE.out.step (N' := paE k) hNL (paE_good k)
                    clear hNL HE
                    go_wp2_with fail
                    refine (send_any F6 p _ 0 0 7 ByteArray.empty _ hO6.net hO6.good (by show k < 100000; omega) (.inr ⟨by decide, by decide, by simp [paE, trOf]⟩) (by decide) (by decide)).mono ?_
                    rintro e w7 ⟨rfl, hNL⟩
                    obtain ⟨F7, hO7⟩ := hO6.step hNL (good_send hO6.good _ _ _ _)
                    clear hNL hO6
                    go_wp2_with fail
                    refine (waiting_is F7 p _ _ 1 hO7.net (last_one k)).mono ?_
                    rintro e w' ⟨rfl, rfl⟩
                    go_wp2
                    go_ret
                    exact ⟨rfl, (HO1.out.trans hO7.only).below (Nat.le_refl _) (fun _ _ h => h)⟩
    · skip
      have hzl := zsTo_length gs k
      have hz8 : (zsTo gs k).length ≤ 8 := by omega
      have HZW := Lib.hid (zsTo_wf gs k)
      have HOWN := Lib.hid (show wr.ownsRow w1.heap.size 3 1 (.slice a k c) (zsTo gs k).length (irow (zsTo gs k)) by rw [hzl]; exact hown)
      clear hown
      generalize zsTo gs k = zs at *
      subst hzl
      go_wp2_with fail
      refine (new_any _ 8 _ [] (.inl ⟨rfl, rfl⟩) (by decide)).mono ?_
      rintro e w3 ⟨p, F3, rfl, n1, n2, n3⟩
      have HN := Lib.hid ((Own.of_new n1 (good_new _ _) n2 n3).base hO)
      have HR3 := Lib.hid (n3.owns HOWN.out (fun _ _ h => h))
      have HGB := Lib.hid (show ∀ b, Value.ownBlock (.slice a zs.length c) = some b → ¬ F3 b ∧ b < w3.heap.size from fun b e => by have h2 := (HOWN.out.lt b e).2; have h3 := n3.size; exact ⟨fun hf => by have h1 := n2 b hf; omega, by omega⟩)
      clear n1 n2 n3
      go_wp2_with fail
      refine (part_any F3 p _ _ zs _ HN.out.net (ints_of_own rfl HR3.out) HZW.out (fun b e => (HGB.out b e).1) (by omega)).mono ?_
      rintro e w4 ⟨rfl, F, h4, hF4, hO4⟩
      have HR4 := Lib.hid (hO4.owns HR3.out (fun b e => (HGB.out b e).1))
      have HO4 := Lib.hid (HN.out.stepF (N' := paN zs 0) h4 hF4 hO4 (paN_good zs 0))
      have HGF := Lib.hid (show ∀ b, Value.ownBlock (.slice a zs.length c) = some b → ¬ F b from fun b e hf => by rcases hF4 b hf with h | h; exact (HGB.out b e).1 h; have := (HGB.out b e).2; omega)
      clear h4 hF4 hO4 HN HR3 HOWN HZW HGB
      rcases ownI_parts HR4.out with ⟨rfl, rfl, rfl⟩ | ⟨g, gcur, rfl, hgw, hgb, hsc, hcm, _⟩
      · skip
        go_wp2_with fail
        refine wp_loop_rounds 1 ?_
        rw [rounds_succ]
        have HO := Lib.hid (HO4.out.more (.cells #[] 3))
        obtain ⟨cur, hcur⟩ : ∃ cur : Array Value, cur = #[] := ⟨_, rfl⟩
        rw [← hcur] at HO
        clear HO4 HR4 HGF
        generalize hw5 : w4.alloc (.cells #[] 3) = w5
        have HO : Hid (Own w1 w5 F p (paN [] 0) [(w4.heap.size, .cells cur 3 (0, 0))]) := by rw [← hw5, ← hcur]; exact HO
        clear hw5 hcur
        generalize w4.heap.size = ob at *
        obtain ⟨zs, hzs⟩ : ∃ zs : List Int, zs = [] := ⟨_, rfl⟩
        go_wp2_with fail
        go_loopw [11] (fun v wr => ∃ (k : Nat) (F : Nat → Prop), v = .int .i64 k ∧ k ≤ ps.length ∧ k ≤ 20 ∧ Own w1 wr F p (paN ([] : List Int) k) [(ob, .cells cur 3 (0, 0))]) (fun v _ => 20 - (intOf v).toNat)
        case atStart => exact ⟨0, F, rfl, Nat.zero_le _, by omega, HO.out⟩
        case round =>
          clear HO
          obtain ⟨k, F, rfl, hk, hk20, hO⟩ := hrel
          by_cases hlt : k < ps.length
          · by_cases hlt2 : k < 20
            · rcases HPS.out with ⟨_, _, _, hps⟩ | ⟨gb, off, c1, hgv, hgl, _, _, _, hcs⟩
              · rw [hps] at hlt; simp at hlt
              · simp only [Value.slice.injEq, true_and] at hgv
                obtain ⟨rfl, rfl⟩ := hgv
                have hOo := HO1.out.trans hO.only
                obtain ⟨e0, e1⟩ := hcs k hlt
                have x0 := hOo.cell e0 (fun h => h)
                have x1 := hOo.cell e1 (fun h => h)
                obtain ⟨⟨b0, b1⟩, b2, b3⟩ := HPW.out k
                generalize (pat ps k).1 = p0 at *
                generalize (pat ps k).2 = p1 at *
                have hob := (hO.apart ob _ List.mem_cons_self).2
                have HOq := Lib.hid hO
                clear hcs hOo e0 e1 hO
                obtain ⟨f, hf0⟩ := Int.eq_ofNat_of_zero_le (show 0 ≤ p0 % 10 by omega)
                obtain ⟨t, ht0⟩ := Int.eq_ofNat_of_zero_le (show 0 ≤ p1 % 10 by omega)
                have f10 : f < 10 := by omega
                have t10 : t < 10 := by omega
                have HDI := drop_is ([] : List Int) k f t hz8
                go_wp2_with fail
                go_quiet (fail)
                have HF0 := Lib.hid hf0
                have HT0 := Lib.hid ht0
                clear hf0 ht0 x0 x1
                have HOq2 := Lib.hid (HOq.out.quiet ((Only.refl _ wr).drewN nq))
                clear HOq
                have HOq := HOq2
                clear HOq2
                have gf : gOf ([] : List Int) f = 0 := by unfold gOf; rw [if_neg (by first | omega | simp)]
                rw [gf] at HDI
                clear gf
                have gt : gOf ([] : List Int) t = 0 := by unfold gOf; rw [if_neg (by first | omega | simp)]
                rw [gt] at HDI
                clear gt
                by_cases h8 : t < 8
                · by_cases h9 : f < 8
                  · have hg : ((0 : Int) == 0) = true := rfl
                    have h8' : t < 8 := by omega
                    have h9' : f < 8 := by omega
                    have hd : dropB (paN ([] : List Int) k) f t = false := by rw [HDI, hg]; simp [h8']
                    clear HDI
                    have HD := Lib.hid hd
                    clear hd
                    obtain ⟨hsL, hsN⟩ := paN_keep (now := (k : Int)) HD.out
                    have HSL := Lib.hid hsL
                    have HSN := Lib.hid hsN
                    clear hsL hsN
                    go_wp2_with fail
                    refine (send_any F p _ k f t ByteArray.empty _ HOq.out.net HOq.out.good (by show k < 100000; omega) (paN_may ([] : List Int) k _ _ _ (by omega)) (WalkArith.wf_i64 (by omega)) (WalkArith.wf_i64 (by omega))).mono ?_
                    rintro e w6 ⟨rfl, hNL⟩
                    obtain ⟨F6, hO6⟩ := HOq.out.step hNL (good_send HOq.out.good _ _ _ _)
                    clear hNL HOq
                    go_wp2_with fail
                    refine (next_cons F6 p _ _ hO6.net hO6.good _ _ HSL.out).mono ?_
                    rintro e w7 ⟨rfl, hNL⟩
                    rw [HSN.out] at hNL
                    obtain ⟨F7, hO7⟩ := hO6.step hNL (paN_good ([] : List Int) _)
                    clear hNL hO6
                    go_wp2
                    go_roundw
                    case rel => exact ⟨k + 1, F7, by go_num, by omega, by omega, hO7.quiet ((Only.refl _ w7).alloc _)⟩
                    case measure => simp [intOf]; omega
                  · skip
                    have h8' : t < 8 := by omega
                    have h9' : 8 ≤ f := by omega
                    have hd : dropB (paN ([] : List Int) k) f t = false := by rw [HDI]; simp [h8', h9']
                    clear HDI
                    have HD := Lib.hid hd
                    clear hd
                    obtain ⟨hsL, hsN⟩ := paN_keep (now := (k : Int)) HD.out
                    have HSL := Lib.hid hsL
                    have HSN := Lib.hid hsN
                    clear hsL hsN
                    go_wp2_with fail
                    refine (send_any F p _ k f t ByteArray.empty _ HOq.out.net HOq.out.good (by show k < 100000; omega) (paN_may ([] : List Int) k _ _ _ (by omega)) (WalkArith.wf_i64 (by omega)) (WalkArith.wf_i64 (by omega))).mono ?_
                    rintro e w6 ⟨rfl, hNL⟩
                    obtain ⟨F6, hO6⟩ := HOq.out.step hNL (good_send HOq.out.good _ _ _ _)
                    clear hNL HOq
                    go_wp2_with fail
                    refine (next_cons F6 p _ _ hO6.net hO6.good _ _ HSL.out).mono ?_
                    rintro e w7 ⟨rfl, hNL⟩
                    rw [HSN.out] at hNL
                    obtain ⟨F7, hO7⟩ := hO6.step hNL (paN_good ([] : List Int) _)
                    clear hNL hO6
                    go_wp2
                    go_roundw
                    case rel => exact ⟨k + 1, F7, by go_num, by omega, by omega, hO7.quiet ((Only.refl _ w7).alloc _)⟩
                    case measure => simp [intOf]; omega
                · skip
                  have h8' : 8 ≤ t := by omega
                  have hd : dropB (paN ([] : List Int) k) f t = true := by rw [HDI]; simp [show ¬ t < 8 by omega]
                  clear HDI
                  have HD := Lib.hid hd
                  clear hd
                  have HS := Lib.hid (paN_drop (now := (k : Int)) HD.out)
                  go_wp2_with fail
                  refine (send_any F p _ k f t ByteArray.empty _ HOq.out.net HOq.out.good (by show k < 100000; omega) (paN_may ([] : List Int) k _ _ _ (by omega)) (WalkArith.wf_i64 (by omega)) (WalkArith.wf_i64 (by omega))).mono ?_
                  rintro e w6 ⟨rfl, hNL⟩
                  rw [HS.out] at hNL
                  obtain ⟨F6, hO6⟩ := HOq.out.step hNL (paN_good ([] : List Int) _)
                  clear hNL HOq
                  go_wp2_with fail
                  refine (next_nil F6 p _ _ hO6.net rfl).mono ?_
                  rintro e w7 ⟨rfl, hNL⟩
                  obtain ⟨F7, hO7⟩ := hO6.step hNL hO6.good
                  clear hNL hO6
                  go_wp2
                  go_roundw
                  case rel => exact ⟨k + 1, F7, by go_num, by omega, by omega, hO7.quiet ((Only.refl _ w7).alloc _)⟩
                  case measure => simp [intOf]; omega
            · have hd : decide ((k : Int) < 20) = false := by simp; omega
              clear hlt2
              have HE := Lib.hid hO
              clear hO
              go_wp2_with fail
              refine (part_any F p _ _ [] _ HE.out.net (.inl ⟨none, 0, rfl, rfl⟩) (fun j hj => by simp at hj) (fun k e => by simp [Value.ownBlock] at e) (by decide)).mono ?_
              rintro e w6 ⟨rfl, hNL⟩
              obtain ⟨F6, hO6⟩ := HE.out.step (N' := paE k) hNL (paE_good k)
              clear hNL HE
              go_wp2_with fail
              refine (send_any F6 p _ 0 0 7 ByteArray.empty _ hO6.net hO6.good (by show k < 100000; omega) (.inr ⟨by decide, by decide, by simp [paE, trOf]⟩) (by decide) (by decide)).mono ?_
              rintro e w7 ⟨rfl, hNL⟩
              obtain ⟨F7, hO7⟩ := hO6.step hNL (good_send hO6.good _ _ _ _)
              clear hNL hO6
              go_wp2_with fail
              refine (waiting_is F7 p _ _ 1 hO7.net (last_one k)).mono ?_
              rintro e w' ⟨rfl, rfl⟩
              go_wp2
              go_ret
              exact ⟨rfl, (HO1.out.trans hO7.only).below (Nat.le_refl _) (fun _ _ h => h)⟩
          · skip
            have HE := Lib.hid hO
            clear hO
            go_wp2_with fail
            refine (part_any F p _ _ [] _ HE.out.net (.inl ⟨none, 0, rfl, rfl⟩) (fun j hj => by simp at hj) (fun k e => by simp [Value.ownBlock] at e) (by decide)).mono ?_
            rintro e w6 ⟨rfl, hNL⟩
            obtain ⟨F6, hO6⟩ := HE.out.step (N' := paE k) hNL (paE_good k)
            clear hNL HE
            go_wp2_with fail
            refine (send_any F6 p _ 0 0 7 ByteArray.empty _ hO6.net hO6.good (by show k < 100000; omega) (.inr ⟨by decide, by decide, by simp [paE, trOf]⟩) (by decide) (by decide)).mono ?_
            rintro e w7 ⟨rfl, hNL⟩
            obtain ⟨F7, hO7⟩ := hO6.step hNL (good_send hO6.good _ _ _ _)
            clear hNL hO6
            go_wp2_with fail
            refine (waiting_is F7 p _ _ 1 hO7.net (last_one k)).mono ?_
            rintro e w' ⟨rfl, rfl⟩
            go_wp2
            go_ret
            exact ⟨rfl, (HO1.out.trans hO7.only).below (Nat.le_refl _) (fun _ _ h => h)⟩
      · skip
        unfold maxLen at hcm
        have hgl := (Array.getElem?_eq_some_iff.1 hgb).1
        have hngF := HGF.out g rfl
        clear HGF
        go_wp2_with (at_builtin; refine wpList_append_own _ rfl _ _ 32 rfl w4.heap.size 3 i0 _ 1 8 Try.underlying32 hi hz0 hz1 hz2 rfl (by decide) _ 0 [] rfl (World.ownsRow_lit w4 #[] 0 (Nat.le_refl _) (Nat.zero_le _) rfl) ⟨g, 0, none⟩ zs.length c (irow zs) rfl (by rw [irow_length]; omega) ?dd2 (irow_one zs) ?dd3 ?dd4 ?dd5 ?_)
        case dd2 => exact fun j u hu => (HR4.out.alloc _).cells rfl j u hu
        case dd3 => unfold maxLen; omega
        case dd4 => omega
        case dd5 => simp
        intro v' w5 hown5 hgrow5 hne
        obtain ⟨a5, c5, hv5⟩ := slice_of_own hown5
        rw [hv5] at hown5 hne ⊢
        have hO5 : Only (fun _ => False) w4 w5 := ((Only.refl _ w4).alloc _).grown hgrow5 (fun i e hi => by simp [Value.ownBlock] at e; omega)
        rcases ownI_parts hown5 with ⟨h5n, h5c, h5z⟩ | ⟨ob, cur, hob5, hob1, hob2, _, hc5, hcur⟩
        · exact absurd (by rw [h5n, h5c, h5z]; rfl) hne
        · have HR5 := Lib.hid (hO5.owns HR4.out (fun _ _ h => h))
          have HO5 := Lib.hid (show Own w1 w5 F p (paN zs 0) [(ob, .cells cur 3 (0, 0))] from by
            have h := HO4.out.quiet hO5
            refine ⟨h.net, h.good, h.new, h.only, fun t o ht => ?_⟩
            rw [List.mem_singleton] at ht
            cases ht
            exact ⟨fun hf => by have := HO4.out.net.lt _ hf; omega, hob2⟩)
          have HCU := Lib.hid hcur
          have hne' : ob ≠ g := by omega
          unfold maxLen at hc5
          subst hob5
          clear hgrow5 hv5 hne hcur hob2 HR4 HO4 hown5 hO5 hgb
          go_wp2_with fail
          go_loopw [10] (fun v wr => ∃ (k : Nat) (xs : List Value), v = .int .i64 k ∧ k ≤ zs.length ∧ wr.ownsRow w1.heap.size 3 1 (.slice (some ⟨g, 0, none⟩) zs.length c) zs.length xs ∧ Own w1 wr F p (paN zs 0) [(ob, .cells cur 3 (0, 0))]) (fun v _ => zs.length - (intOf v).toNat)
          case atStart => exact ⟨0, _, rfl, Nat.zero_le _, HR5.out, HO5.out⟩
          case round =>
            clear HR5 HO5
            obtain ⟨k, xs, rfl, hk2, hr, hO2⟩ := hrel
            by_cases hlt3 : k < zs.length
            · have hxl := hr.1
              obtain ⟨u, hu⟩ : ∃ u, xs[k]? = some u := ⟨xs[k]'(by omega), List.getElem?_eq_getElem (by omega)⟩
              have x0 := (hr.cellAt k (by omega)).trans hu
              have f0 := hr.frozenAt k
              have HS := Lib.hid (hr.stored k (.int .i64 5)).1
              have HO6 := Lib.hid (hO2.aside hngF hgw (fun t o ht => by rw [List.mem_singleton] at ht; cases ht; exact hne') ((Only.refl (fun k => k = g) _).setCell (p := ⟨g, k, none⟩) (.inl rfl) (.int .i64 5)))
              clear hu hr hO2 hxl
              go_wp2
              go_roundw
              case rel => exact ⟨k + 1, _, by go_num, by omega, HS.out, HO6.out⟩
              case measure => simp [intOf]; omega
            · have HO := Lib.hid hO2
              clear hO2 hr
              go_wp2_with fail
              go_loopw [11] (fun v wr => ∃ (k : Nat) (F : Nat → Prop), v = .int .i64 k ∧ k ≤ ps.length ∧ k ≤ 20 ∧ Own w1 wr F p (paN zs k) [(ob, .cells cur 3 (0, 0))]) (fun v _ => 20 - (intOf v).toNat)
              case atStart => exact ⟨0, F, rfl, Nat.zero_le _, by omega, HO.out⟩
              case round =>
                clear HO
                obtain ⟨k, F, rfl, hk, hk20, hO⟩ := hrel
                by_cases hlt : k < ps.length
                · by_cases hlt2 : k < 20
                  · rcases HPS.out with ⟨_, _, _, hps⟩ | ⟨gb, off, c1, hgv, hgl, _, _, _, hcs⟩
                    · rw [hps] at hlt; simp at hlt
                    · simp only [Value.slice.injEq, true_and] at hgv
                      obtain ⟨rfl, rfl⟩ := hgv
                      have hOo := HO1.out.trans hO.only
                      obtain ⟨e0, e1⟩ := hcs k hlt
                      have x0 := hOo.cell e0 (fun h => h)
                      have x1 := hOo.cell e1 (fun h => h)
                      obtain ⟨⟨b0, b1⟩, b2, b3⟩ := HPW.out k
                      generalize (pat ps k).1 = p0 at *
                      generalize (pat ps k).2 = p1 at *
                      have hob := (hO.apart ob _ List.mem_cons_self).2
                      have HOq := Lib.hid hO
                      clear hcs hOo e0 e1 hO
                      obtain ⟨f, hf0⟩ := Int.eq_ofNat_of_zero_le (show 0 ≤ p0 % 10 by omega)
                      obtain ⟨t, ht0⟩ := Int.eq_ofNat_of_zero_le (show 0 ≤ p1 % 10 by omega)
                      have f10 : f < 10 := by omega
                      have t10 : t < 10 := by omega
                      have HDI := drop_is zs k f t hz8
                      go_wp2_with fail
                      go_quiet (fail)
                      have HF0 := Lib.hid hf0
                      have HT0 := Lib.hid ht0
                      clear hf0 ht0 x0 x1
                      have HOq2 := Lib.hid (HOq.out.quiet ((Only.refl _ wr).drewN nq))
                      clear HOq
                      have HOq := HOq2
                      clear HOq2
                      by_cases hf : f < zs.length
                      · by_cases ht : t < zs.length
                        · skip
                          have cf := HCU.out f hf
                          have z1 := (cell_of_row (wr.drewN nq) ob f cur 3 (0, 0) hob).trans cf
                          have gf : gOf zs f = zs.getD f 0 := by unfold gOf; rw [if_pos hf]
                          rw [gf] at HDI
                          clear cf gf
                          generalize zs.getD f 0 = zf at *
                          have ct := HCU.out t ht
                          have z2 := (cell_of_row (wr.drewN nq) ob t cur 3 (0, 0) hob).trans ct
                          have gt : gOf zs t = zs.getD t 0 := by unfold gOf; rw [if_pos ht]
                          rw [gt] at HDI
                          clear ct gt
                          generalize zs.getD t 0 = zt at *
                          cases hg : (zf == zt)
                          · skip
                            have h8' : t < 8 := by omega
                            have h9' : f < 8 := by omega
                            have hd : dropB (paN zs k) f t = true := by rw [HDI, hg]; simp [h8', show ¬ 8 ≤ f by omega]
                            clear HDI
                            have HD := Lib.hid hd
                            clear hd
                            have HS := Lib.hid (paN_drop (now := (k : Int)) HD.out)
                            go_wp2_with fail
                            refine (send_any F p _ k f t ByteArray.empty _ HOq.out.net HOq.out.good (by show k < 100000; omega) (paN_may zs k _ _ _ (by omega)) (WalkArith.wf_i64 (by omega)) (WalkArith.wf_i64 (by omega))).mono ?_
                            rintro e w6 ⟨rfl, hNL⟩
                            rw [HS.out] at hNL
                            obtain ⟨F6, hO6⟩ := HOq.out.step hNL (paN_good zs _)
                            clear hNL HOq
                            go_wp2_with fail
                            refine (next_nil F6 p _ _ hO6.net rfl).mono ?_
                            rintro e w7 ⟨rfl, hNL⟩
                            obtain ⟨F7, hO7⟩ := hO6.step hNL hO6.good
                            clear hNL hO6
                            go_wp2
                            go_roundw
                            case rel => exact ⟨k + 1, F7, by go_num, by omega, by omega, hO7.quiet ((Only.refl _ w7).alloc _)⟩
                            case measure => simp [intOf]; omega
                          · skip
                            have h8' : t < 8 := by omega
                            have h9' : f < 8 := by omega
                            have hd : dropB (paN zs k) f t = false := by rw [HDI, hg]; simp [h8']
                            clear HDI
                            have HD := Lib.hid hd
                            clear hd
                            obtain ⟨hsL, hsN⟩ := paN_keep (now := (k : Int)) HD.out
                            have HSL := Lib.hid hsL
                            have HSN := Lib.hid hsN
                            clear hsL hsN
                            go_wp2_with fail
                            refine (send_any F p _ k f t ByteArray.empty _ HOq.out.net HOq.out.good (by show k < 100000; omega) (paN_may zs k _ _ _ (by omega)) (WalkArith.wf_i64 (by omega)) (WalkArith.wf_i64 (by omega))).mono ?_
                            rintro e w6 ⟨rfl, hNL⟩
                            obtain ⟨F6, hO6⟩ := HOq.out.step hNL (good_send HOq.out.good _ _ _ _)
                            clear hNL HOq
                            go_wp2_with fail
                            refine (next_cons F6 p _ _ hO6.net hO6.good _ _ HSL.out).mono ?_
                            rintro e w7 ⟨rfl, hNL⟩
                            rw [HSN.out] at hNL
                            obtain ⟨F7, hO7⟩ := hO6.step hNL (paN_good zs _)
                            clear hNL hO6
                            go_wp2
                            go_roundw
                            case rel => exact ⟨k + 1, F7, by go_num, by omega, by omega, hO7.quiet ((Only.refl _ w7).alloc _)⟩
                            case measure => simp [intOf]; omega
                        · skip
                          have cf := HCU.out f hf
                          have z1 := (cell_of_row (wr.drewN nq) ob f cur 3 (0, 0) hob).trans cf
                          have gf : gOf zs f = zs.getD f 0 := by unfold gOf; rw [if_pos hf]
                          rw [gf] at HDI
                          clear cf gf
                          generalize zs.getD f 0 = zf at *
                          have gt : gOf zs t = 0 := by unfold gOf; rw [if_neg (by first | omega | simp)]
                          rw [gt] at HDI
                          clear gt
                          by_cases h8 : t < 8
                          · skip
                            cases hg : (zf == (0 : Int))
                            · skip
                              have h8' : t < 8 := by omega
                              have h9' : f < 8 := by omega
                              have hd : dropB (paN zs k) f t = true := by rw [HDI, hg]; simp [h8', show ¬ 8 ≤ f by omega]
                              clear HDI
                              have HD := Lib.hid hd
                              clear hd
                              have HS := Lib.hid (paN_drop (now := (k : Int)) HD.out)
                              go_wp2_with fail
                              refine (send_any F p _ k f t ByteArray.empty _ HOq.out.net HOq.out.good (by show k < 100000; omega) (paN_may zs k _ _ _ (by omega)) (WalkArith.wf_i64 (by omega)) (WalkArith.wf_i64 (by omega))).mono ?_
                              rintro e w6 ⟨rfl, hNL⟩
                              rw [HS.out] at hNL
                              obtain ⟨F6, hO6⟩ := HOq.out.step hNL (paN_good zs _)
                              clear hNL HOq
                              go_wp2_with fail
                              refine (next_nil F6 p _ _ hO6.net rfl).mono ?_
                              rintro e w7 ⟨rfl, hNL⟩
                              obtain ⟨F7, hO7⟩ := hO6.step hNL hO6.good
                              clear hNL hO6
                              go_wp2
                              go_roundw
                              case rel => exact ⟨k + 1, F7, by go_num, by omega, by omega, hO7.quiet ((Only.refl _ w7).alloc _)⟩
                              case measure => simp [intOf]; omega
                            · skip
                              have h8' : t < 8 := by omega
                              have h9' : f < 8 := by omega
                              have hd : dropB (paN zs k) f t = false := by rw [HDI, hg]; simp [h8']
                              clear HDI
                              have HD := Lib.hid hd
                              clear hd
                              obtain ⟨hsL, hsN⟩ := paN_keep (now := (k : Int)) HD.out
                              have HSL := Lib.hid hsL
                              have HSN := Lib.hid hsN
                              clear hsL hsN
                              go_wp2_with fail
                              refine (send_any F p _ k f t ByteArray.empty _ HOq.out.net HOq.out.good (by show k < 100000; omega) (paN_may zs k _ _ _ (by omega)) (WalkArith.wf_i64 (by omega)) (WalkArith.wf_i64 (by omega))).mono ?_
                              rintro e w6 ⟨rfl, hNL⟩
                              obtain ⟨F6, hO6⟩ := HOq.out.step hNL (good_send HOq.out.good _ _ _ _)
                              clear hNL HOq
                              go_wp2_with fail
                              refine (next_cons F6 p _ _ hO6.net hO6.good _ _ HSL.out).mono ?_
                              rintro e w7 ⟨rfl, hNL⟩
                              rw [HSN.out] at hNL
                              obtain ⟨F7, hO7⟩ := hO6.step hNL (paN_good zs _)
                              clear hNL hO6
                              go_wp2
                              go_roundw
                              case rel => exact ⟨k + 1, F7, by go_num, by omega, by omega, hO7.quiet ((Only.refl _ w7).alloc _)⟩
                              case measure => simp [intOf]; omega
                          · skip
                            have h8' : 8 ≤ t := by omega
                            have hd : dropB (paN zs k) f t = true := by rw [HDI]; simp [show ¬ t < 8 by omega]
                            clear HDI
                            have HD := Lib.hid hd
                            clear hd
                            have HS := Lib.hid (paN_drop (now := (k : Int)) HD.out)
                            go_wp2_with fail
                            refine (send_any F p _ k f t ByteArray.empty _ HOq.out.net HOq.out.good (by show k < 100000; omega) (paN_may zs k _ _ _ (by omega)) (WalkArith.wf_i64 (by omega)) (WalkArith.wf_i64 (by omega))).mono ?_
                            rintro e w6 ⟨rfl, hNL⟩
                            rw [HS.out] at hNL
                            obtain ⟨F6, hO6⟩ := HOq.out.step hNL (paN_good zs _)
                            clear hNL HOq
                            go_wp2_with fail
                            refine (next_nil F6 p _ _ hO6.net rfl).mono ?_
                            rintro e w7 ⟨rfl, hNL⟩
                            obtain ⟨F7, hO7⟩ := hO6.step hNL hO6.good
                            clear hNL hO6
                            go_wp2
                            go_roundw
                            case rel => exact ⟨k + 1, F7, by go_num, by omega, by omega, hO7.quiet ((Only.refl _ w7).alloc _)⟩
                            case measure => simp [intOf]; omega
                      · by_cases ht : t < zs.length
                        · skip
                          have gf : gOf zs f = 0 := by unfold gOf; rw [if_neg (by first | omega | simp)]
                          rw [gf] at HDI
                          clear gf
                          have ct := HCU.out t ht
                          have z2 := (cell_of_row (wr.drewN nq) ob t cur 3 (0, 0) hob).trans ct
                          have gt : gOf zs t = zs.getD t 0 := by unfold gOf; rw [if_pos ht]
                          rw [gt] at HDI
                          clear ct gt
                          generalize zs.getD t 0 = zt at *
                          by_cases h9 : f < 8
                          · skip
                            cases hg : ((0 : Int) == zt)
                            · skip
                              have h8' : t < 8 := by omega
                              have h9' : f < 8 := by omega
                              have hd : dropB (paN zs k) f t = true := by rw [HDI, hg]; simp [h8', show ¬ 8 ≤ f by omega]
                              clear HDI
                              have HD := Lib.hid hd
                              clear hd
                              have HS := Lib.hid (paN_drop (now := (k : Int)) HD.out)
                              go_wp2_with fail
                              refine (send_any F p _ k f t ByteArray.empty _ HOq.out.net HOq.out.good (by show k < 100000; omega) (paN_may zs k _ _ _ (by omega)) (WalkArith.wf_i64 (by omega)) (WalkArith.wf_i64 (by omega))).mono ?_
                              rintro e w6 ⟨rfl, hNL⟩
                              rw [HS.out] at hNL
                              obtain ⟨F6, hO6⟩ := HOq.out.step hNL (paN_good zs _)
                              clear hNL HOq
                              go_wp2_with fail
                              refine (next_nil F6 p _ _ hO6.net rfl).mono ?_
                              rintro e w7 ⟨rfl, hNL⟩
                              obtain ⟨F7, hO7⟩ := hO6.step hNL hO6.good
                              clear hNL hO6
                              go_wp2
                              go_roundw
                              case rel => exact ⟨k + 1, F7, by go_num, by omega, by omega, hO7.quiet ((Only.refl _ w7).alloc _)⟩
                              case measure => simp [intOf]; omega
                            · skip
                              have h8' : t < 8 := by omega
                              have h9' : f < 8 := by omega
                              have hd : dropB (paN zs k) f t = false := by rw [HDI, hg]; simp [h8']
                              clear HDI
                              have HD := Lib.hid hd
                              clear hd
                              obtain ⟨hsL, hsN⟩ := paN_keep (now := (k : Int)) HD.out
                              have HSL := Lib.hid hsL
                              have HSN := Lib.hid hsN
                              clear hsL hsN
                              go_wp2_with fail
                              refine (send_any F p _ k f t ByteArray.empty _ HOq.out.net HOq.out.good (by show k < 100000; omega) (paN_may zs k _ _ _ (by omega)) (WalkArith.wf_i64 (by omega)) (WalkArith.wf_i64 (by omega))).mono ?_
                              rintro e w6 ⟨rfl, hNL⟩
                              obtain ⟨F6, hO6⟩ := HOq.out.step hNL (good_send HOq.out.good _ _ _ _)
                              clear hNL HOq
                              go_wp2_with fail
                              refine (next_cons F6 p _ _ hO6.net hO6.good _ _ HSL.out).mono ?_
                              rintro e w7 ⟨rfl, hNL⟩
                              rw [HSN.out] at hNL
                              obtain ⟨F7, hO7⟩ := hO6.step hNL (paN_good zs _)
                              clear hNL hO6
                              go_wp2
                              go_roundw
                              case rel => exact ⟨k + 1, F7, by go_num, by omega, by omega, hO7.quiet ((Only.refl _ w7).alloc _)⟩
                              case measure => simp [intOf]; omega
                          · skip
                            have h8' : t < 8 := by omega
                            have h9' : 8 ≤ f := by omega
                            have hd : dropB (paN zs k) f t = false := by rw [HDI]; simp [h8', h9']
                            clear HDI
                            have HD := Lib.hid hd
                            clear hd
                            obtain ⟨hsL, hsN⟩ := paN_keep (now := (k : Int)) HD.out
                            have HSL := Lib.hid hsL
                            have HSN := Lib.hid hsN
                            clear hsL hsN
                            go_wp2_with fail
                            refine (send_any F p _ k f t ByteArray.empty _ HOq.out.net HOq.out.good (by show k < 100000; omega) (paN_may zs k _ _ _ (by omega)) (WalkArith.wf_i64 (by omega)) (WalkArith.wf_i64 (by omega))).mono ?_
                            rintro e w6 ⟨rfl, hNL⟩
                            obtain ⟨F6, hO6⟩ := HOq.out.step hNL (good_send HOq.out.good _ _ _ _)
                            clear hNL HOq
                            go_wp2_with fail
                            refine (next_cons F6 p _ _ hO6.net hO6.good _ _ HSL.out).mono ?_
                            rintro e w7 ⟨rfl, hNL⟩
                            rw [HSN.out] at hNL
                            obtain ⟨F7, hO7⟩ := hO6.step hNL (paN_good zs _)
                            clear hNL hO6
                            go_wp2
                            go_roundw
                            case rel => exact ⟨k + 1, F7, by go_num, by omega, by omega, hO7.quiet ((Only.refl _ w7).alloc _)⟩
                            case measure => simp [intOf]; omega
                        · skip
                          have gf : gOf zs f = 0 := by unfold gOf; rw [if_neg (by first | omega | simp)]
                          rw [gf] at HDI
                          clear gf
                          have gt : gOf zs t = 0 := by unfold gOf; rw [if_neg (by first | omega | simp)]
                          rw [gt] at HDI
                          clear gt
                          by_cases h8 : t < 8
                          · by_cases h9 : f < 8
                            · have hg : ((0 : Int) == 0) = true := rfl
                              have h8' : t < 8 := by omega
                              have h9' : f < 8 := by omega
                              have hd : dropB (paN zs k) f t = false := by rw [HDI, hg]; simp [h8']
                              clear HDI
                              have HD := Lib.hid hd
                              clear hd
                              obtain ⟨hsL, hsN⟩ := paN_keep (now := (k : Int)) HD.out
                              have HSL := Lib.hid hsL
                              have HSN := Lib.hid hsN
                              clear hsL hsN
                              go_wp2_with fail
                              refine (send_any F p _ k f t ByteArray.empty _ HOq.out.net HOq.out.good (by show k < 100000; omega) (paN_may zs k _ _ _ (by omega)) (WalkArith.wf_i64 (by omega)) (WalkArith.wf_i64 (by omega))).mono ?_
                              rintro e w6 ⟨rfl, hNL⟩
                              obtain ⟨F6, hO6⟩ := HOq.out.step hNL (good_send HOq.out.good _ _ _ _)
                              clear hNL HOq
                              go_wp2_with fail
                              refine (next_cons F6 p _ _ hO6.net hO6.good _ _ HSL.out).mono ?_
                              rintro e w7 ⟨rfl, hNL⟩
                              rw [HSN.out] at hNL
                              obtain ⟨F7, hO7⟩ := hO6.step hNL (paN_good zs _)
                              clear hNL hO6
                              go_wp2
                              go_roundw
                              case rel => exact ⟨k + 1, F7, by go_num, by omega, by omega, hO7.quiet ((Only.refl _ w7).alloc _)⟩
                              case measure => simp [intOf]; omega
                            · skip
                              have h8' : t < 8 := by omega
                              have h9' : 8 ≤ f := by omega
                              have hd : dropB (paN zs k) f t = false := by rw [HDI]; simp [h8', h9']
                              clear HDI
                              have HD := Lib.hid hd
                              clear hd
                              obtain ⟨hsL, hsN⟩ := paN_keep (now := (k : Int)) HD.out
                              have HSL := Lib.hid hsL
                              have HSN := Lib.hid hsN
                              clear hsL hsN
                              go_wp2_with fail
                              refine (send_any F p _ k f t ByteArray.empty _ HOq.out.net HOq.out.good (by show k < 100000; omega) (paN_may zs k _ _ _ (by omega)) (WalkArith.wf_i64 (by omega)) (WalkArith.wf_i64 (by omega))).mono ?_
                              rintro e w6 ⟨rfl, hNL⟩
                              obtain ⟨F6, hO6⟩ := HOq.out.step hNL (good_send HOq.out.good _ _ _ _)
                              clear hNL HOq
                              go_wp2_with fail
                              refine (next_cons F6 p _ _ hO6.net hO6.good _ _ HSL.out).mono ?_
                              rintro e w7 ⟨rfl, hNL⟩
                              rw [HSN.out] at hNL
                              obtain ⟨F7, hO7⟩ := hO6.step hNL (paN_good zs _)
                              clear hNL hO6
                              go_wp2
                              go_roundw
                              case rel => exact ⟨k + 1, F7, by go_num, by omega, by omega, hO7.quiet ((Only.refl _ w7).alloc _)⟩
                              case measure => simp [intOf]; omega
                          · skip
                            have h8' : 8 ≤ t := by omega
                            have hd : dropB (paN zs k) f t = true := by rw [HDI]; simp [show ¬ t < 8 by omega]
                            clear HDI
                            have HD := Lib.hid hd
                            clear hd
                            have HS := Lib.hid (paN_drop (now := (k : Int)) HD.out)
                            go_wp2_with fail
                            refine (send_any F p _ k f t ByteArray.empty _ HOq.out.net HOq.out.good (by show k < 100000; omega) (paN_may zs k _ _ _ (by omega)) (WalkArith.wf_i64 (by omega)) (WalkArith.wf_i64 (by omega))).mono ?_
                            rintro e w6 ⟨rfl, hNL⟩
                            rw [HS.out] at hNL
                            obtain ⟨F6, hO6⟩ := HOq.out.step hNL (paN_good zs _)
                            clear hNL HOq
                            go_wp2_with fail
                            refine (next_nil F6 p _ _ hO6.net rfl).mono ?_
                            rintro e w7 ⟨rfl, hNL⟩
                            obtain ⟨F7, hO7⟩ := hO6.step hNL hO6.good
                            clear hNL hO6
                            go_wp2
                            go_roundw
                            case rel => exact ⟨k + 1, F7, by go_num, by omega, by omega, hO7.quiet ((Only.refl _ w7).alloc _)⟩
                            case measure => simp [intOf]; omega
                  · have hd : decide ((k : Int) < 20) = false := by simp; omega
                    clear hlt2
                    have HE := Lib.hid hO
                    clear hO
                    go_wp2_with fail
                    refine (part_any F p _ _ [] _ HE.out.net (.inl ⟨none, 0, rfl, rfl⟩) (fun j hj => by simp at hj) (fun k e => by simp [Value.ownBlock] at e) (by decide)).mono ?_
                    rintro e w6 ⟨rfl, hNL⟩
                    obtain ⟨F6, hO6⟩ := HE.out.step (N' := paE k) hNL (paE_good k)
                    clear hNL HE
                    go_wp2_with fail
                    refine (send_any F6 p _ 0 0 7 ByteArray.empty _ hO6.net hO6.good (by show k < 100000; omega) (.inr ⟨by decide, by decide, by simp [paE, trOf]⟩) (by decide) (by decide)).mono ?_
                    rintro e w7 ⟨rfl, hNL⟩
                    obtain ⟨F7, hO7⟩ := hO6.step hNL (good_send hO6.good _ _ _ _)
                    clear hNL hO6
                    go_wp2_with fail
                    refine (waiting_is F7 p _ _ 1 hO7.net (last_one k)).mono ?_
                    rintro e w' ⟨rfl, rfl⟩
                    go_wp2
                    go_ret
                    exact ⟨rfl, (HO1.out.trans hO7.only).below (Nat.le_refl _) (fun _ _ h => h)⟩
                · skip
                  have HE := Lib.hid hO
                  clear hO
                  go_wp2_with fail
                  refine (part_any F p _ _ [] _ HE.out.net (.inl ⟨none, 0, rfl, rfl⟩) (fun j hj => by simp at hj) (fun k e => by simp [Value.ownBlock] at e) (by decide)).mono ?_
                  rintro e w6 ⟨rfl, hNL⟩
                  obtain ⟨F6, hO6⟩ := HE.out.step (N' := paE k) hNL (paE_good k)
                  clear hNL HE
                  go_wp2_with fail
                  refine (send_any F6 p _ 0 0 7 ByteArray.empty _ hO6.net hO6.good (by show k < 100000; omega) (.inr ⟨by decide, by decide, by simp [paE, trOf]⟩) (by decide) (by decide)).mono ?_
                  rintro e w7 ⟨rfl, hNL⟩
                  obtain ⟨F7, hO7⟩ := hO6.step hNL (good_send hO6.good _ _ _ _)
                  clear hNL hO6
                  go_wp2_with fail
                  refine (waiting_is F7 p _ _ 1 hO7.net (last_one k)).mono ?_
                  rintro e w' ⟨rfl, rfl⟩
                  go_wp2
                  go_ret
                  exact ⟨rfl, (HO1.out.trans hO7.only).below (Nat.le_refl _) (fun _ _ h => h)⟩
end Go.Proofs.Yteblaedfjifdhaa
