/-
  The walk of the law NetPlays.
-/
import Derived.Test.YteblaedfjifdhaaPlays
import Derived.Test.YteblaedfjifdhaaPart2
namespace Go.Proofs.Yteblaedfjifdhaa
open Go.RowKit

theorem rsend_any (F : Nat → Prop) (b : Nat) (R : RS) (now : Int) (fr tt : Int) (tx : ByteArray) (w : World) (h : RefAt w F b R) (hs1 : R.sent < 1000000) (hll : R.L.length ≤ 1000000) (hn1 : -10000000 ≤ now) (hn2 : now ≤ 10000000) (hdl : (rtr R.s R.sent).delay ≤ 10000000) :
    Calls Try.prog 16 #[.pointer (some ⟨b, 0, none⟩), .int .i64 now, .agg #[.int .i64 fr, .int .i64 tt, .string tx]] w fun e w' => e = .returned (.tuple #[]) ∧ RLeft w F b (rsendR R now fr tt tx) w' := by
  obtain ⟨sv, lv, gv, h⟩ := h
  exact rsend_is F b R now fr tt tx w sv lv gv h hs1 hll hn1 hn2 hdl

set_option maxHeartbeats 4000000 in
set_option maxRecDepth 100000 in
theorem plays_some (nd : Int) (lv : Value) (l : List Tr) (gb off ac : Nat) (al : List Ac) (w : World) (hnd : 0 ≤ nd ∧ nd ≤ 255) (h : TrsAt w lv l) (hwf : TrsWf l) (hgl : gb < w.heap.size) (_hac : al.length ≤ ac) (_ham : ac ≤ 9223372036854775807)
    (hcs : ∀ j, j < al.length → (∀ i, i < 6 → w.cell? ⟨gb, off + j * 6 + i, none⟩ = (acEl al j).cells[i]?) ∧ AcWf w (acEl al j)) :
    Calls Try.prog 3 #[.int .u8 nd, lv, .slice (some ⟨gb, off, none⟩) al.length ac] w fun e w' => e = .returned (.bool true) ∧ Below w.heap.size w w' := by
  obtain ⟨m1, m2⟩ := hnd
  have HT := Lib.hid h
  have HF := Lib.hid hwf
  have HCS := Lib.hid hcs
  clear h hwf hcs
  go_enter Try.func3, Try.ntmps3
  go_wp2_with fail
  refine (sanity_any _).mono ?_
  rintro e w1 ⟨rfl, hO1⟩
  have HO1 := Lib.hid hO1
  clear hO1
  go_wp2_with fail
  refine (script_any _ lv l (HT.out.frame HO1.out) HF.out).mono ?_
  rintro e w0 ⟨a, c, rfl, hrow, hO2⟩
  have hsl := scriptOf_length l
  have HR := Lib.hid hrow
  have HOW := Lib.hid (HO1.out.trans hO2)
  clear hO2 HT HF hrow HO1
  go_wp2_with fail
  refine (new_any _ (nd % 7 - 1) _ (scriptOf l) (SrcAt.of_own HR.out) (Nat.le_trans hsl (by decide))).mono ?_
  rintro e w3 ⟨p, F, rfl, n1, n2, n3⟩
  have hO := Own.of_new n1 (good_new _ _) n2 n3
  have HR3 := Lib.hid (n3.owns HR.out (fun _ _ h => h))
  have HO := Lib.hid hO
  clear n1 n2 n3 hO HR
  go_wp2_with fail
  refine (rnew_any _ (nd % 7 - 1) _ (scriptOf l) (SrcAt.of_own HR3.out) (Nat.le_trans hsl (by decide))).mono ?_
  rintro e w4 ⟨q, G, rfl, n1, n2, n3⟩
  have HD := Lib.hid (HO.out.duo n1 n2 n3)
  have HS := Lib.hid (same_new l (nd % 7 - 1))
  clear n1 n2 n3 HO HR3
  have hz0 : (newNS (nd % 7 - 1) (scriptOf l)).sent ≤ 0 := Nat.le_refl 0
  generalize newNS (nd % 7 - 1) (scriptOf l) = N0 at *
  generalize newRS (nd % 7 - 1) (scriptOf l) = R0 at *
  go_wp2_with fail
  go_loopw [11] (fun v wr => ∃ (k : Nat) (F G : Nat → Prop) (N : NS) (R : RS), v = .int .i64 k ∧ k ≤ al.length ∧ k ≤ 60 ∧ N.sent ≤ k ∧ Duo w0 wr F p N G q R [] ∧ Same l N R) (fun v _ => 60 - (intOf v).toNat)
  case atStart => exact ⟨0, F, G, N0, R0, rfl, Nat.zero_le _, Nat.zero_le _, hz0, HD.out, HS.out⟩
  case round =>
    clear HS HD F G hz0
    obtain ⟨k, F, G, N, R, rfl, hk, hk60, hsent, hD, hS⟩ := hrel
    by_cases hlt : k < al.length
    · by_cases hlt2 : k < 60
      · obtain ⟨hcell, hac2⟩ := HCS.out k hlt
        have hOo := HOW.out.trans hD.one.only
        have hcell2 : ∀ i, i < 6 → wr.cell? ⟨gb, off + k * 6 + i, none⟩ = (acEl al k).cells[i]? := fun i hi => by
          have h1 := hcell i hi
          have h2 : (acEl al k).cells[i]? = some ((acEl al k).cells[i]'hi) := List.getElem?_eq_getElem hi
          rw [h2] at h1 ⊢
          exact hOo.cell h1 (fun h => h)
        have a0 := hcell2 0 (by omega)
        have a1 := hcell2 1 (by omega)
        have a2 := hcell2 2 (by omega)
        have a3 := hcell2 3 (by omega)
        have a4 := hcell2 4 (by omega)
        have a5 := hcell2 5 (by omega)
        obtain ⟨⟨kd, now, fr, tt, tx, gv, zs⟩, hx⟩ : ∃ x, acEl al k = x := ⟨_, rfl⟩
        rw [hx] at a0 a1 a2 a3 a4 a5 hac2
        simp only [Ac.cells, List.getElem?_cons_zero, List.getElem?_cons_succ, Nat.add_zero] at a0 a1 a2 a3 a4 a5
        obtain ⟨nw, wf1, wf2, hgr⟩ := hac2
        dsimp only at nw wf1 wf2 hgr
        obtain ⟨nw1, nw2⟩ := nw
        have htm : -1000000 < now.tmod 1000000 ∧ now.tmod 1000000 < 1000000 := ⟨Int.lt_tmod_of_pos now (by decide), Int.tmod_lt_of_pos now (by decide)⟩
        obtain ⟨t1, t2⟩ := htm
        obtain ⟨ga, gn, gc, rfl⟩ : ∃ a n c, gv = .slice a n c := by
          rcases hgr.form with ⟨rfl, _⟩ | ⟨a, c, rfl, _⟩
          · exact ⟨_, _, _, rfl⟩
          · exact ⟨_, _, _, rfl⟩
        have HGR := Lib.hid hgr
        have HD := Lib.hid hD
        have HS := Lib.hid hS
        have hszr := hOo.size
        have hgl' : gb < wr.heap.size := by omega
        clear hcell hcell2 hx hgr hD hS hOo
        go_wp2_with fail
        · have HX := Lib.hid (HD.out.more (.cells #[.int .i64 kd, .int .i64 now, .int .i64 fr, .int .i64 tt, .string tx, .slice ga gn gc] 34))
          have hll : R.L.length ≤ 1000000 := by rw [← HS.out.perm.length_eq]; have := HS.out.good.many; omega
          have hrs : R.sent < 1000000 := by rw [← HS.out.sent]; omega
          clear a0 a1 a2 a3 a4 a5
          refine (send_any F p _ (now.tmod 1000000) fr tt tx _ HX.out.one.net HX.out.one.good (by omega) (HS.out.may _ _ _ (by omega) (by omega)) wf1 wf2).mono ?_
          rintro e w6 ⟨rfl, hNL⟩
          obtain ⟨F7, hT6⟩ := HX.out.left hNL (good_send HX.out.one.good _ _ _ _)
          have hb := (hT6.one.apart wr.heap.size _ List.mem_cons_self).2
          have b1 := cell_of_row w6 wr.heap.size 1 _ 34 (0, 0) hb
          have b2 := cell_of_row w6 wr.heap.size 2 _ 34 (0, 0) hb
          have b3 := cell_of_row w6 wr.heap.size 3 _ 34 (0, 0) hb
          have b4 := cell_of_row w6 wr.heap.size 4 _ 34 (0, 0) hb
          simp at b1 b2 b3 b4
          have HT6 := Lib.hid hT6
          clear hNL HX hT6 hb
          go_wp2_with fail
          refine (rsend_any G q R (now.tmod 1000000) fr tt tx _ HT6.out.ref hrs hll (by omega) (by omega) HS.out.delay).mono ?_
          rintro e w7 ⟨rfl, hRL⟩
          obtain ⟨G7, hT7⟩ := HT6.out.right hRL
          have HT7 := Lib.hid hT7
          have HS7 := Lib.hid (HS.out.send (now.tmod 1000000) fr tt tx)
          have hs7 : (sendN N (now.tmod 1000000) fr tt tx).sent ≤ k + 1 := by rw [(sendN_fix N (now.tmod 1000000) fr tt tx).2.2.2]; omega
          clear hT7 hRL HT6 HS b1 b2 b3 b4
          generalize sendN N (now.tmod 1000000) fr tt tx = N7 at *
          generalize rsendR R (now.tmod 1000000) fr tt tx = R7 at *
          have HLE := Lib.hid (show (R7.L.length : Int) = N7.L.length by rw [HS7.out.perm.length_eq])
          go_wp2_with fail
          refine (waiting_is F7 p _ _ _ HT7.out.one.net rfl).mono ?_
          rintro e w' ⟨rfl, rfl⟩
          go_wp2_with fail
          refine (rwaiting_is G7 q _ _ _ HT7.out.ref HLE.out).mono ?_
          rintro e w' ⟨rfl, rfl⟩
          go_wp2
          go_roundw
          case rel => exact ⟨k + 1, F7, G7, _, _, by go_num, by omega, by omega, hs7, HT7.out.forget, HS7.out⟩
          case measure => simp [intOf]; omega
        · have HX := Lib.hid (HD.out.more (.cells #[.int .i64 kd, .int .i64 now, .int .i64 fr, .int .i64 tt, .string tx, .slice ga gn gc] 34))
          have hOn := HOW.out.trans HX.out.one.only
          have hzl : zs.length ≤ 9223372036854775806 := by have := HGR.out.size; omega
          have hfar : 0 < zs.length → ∀ k, (Value.slice ga gn gc).ownBlock = some k → ¬ F k := fun hz => HGR.out.far (fun k hk => by have := HX.out.one.new k hk; have := HOW.out.size; omega) hz
          clear a0 a1 a2 a3 a4 a5
          refine (part_any2 F p N (.slice ga gn gc) zs _ HX.out.one.net (HGR.out.ints hOn) HGR.out.wf hfar hzl).mono ?_
          rintro e w6 ⟨rfl, hNL⟩
          obtain ⟨F7, hT6⟩ := HX.out.left hNL (good_part HX.out.one.good _)
          have hb := (hT6.one.apart wr.heap.size _ List.mem_cons_self).2
          have b5 := cell_of_row w6 wr.heap.size 5 _ 34 (0, 0) hb
          simp at b5
          have HT6 := Lib.hid hT6
          clear hNL HX hT6 hb hOn hfar
          go_wp2_with fail
          refine (rpart_any G q R (.slice ga gn gc) zs _ w HT6.out.ref HGR.out (HOW.out.trans HT6.out.one.only)).mono ?_
          rintro e w7 ⟨rfl, hRL⟩
          obtain ⟨G7, hT7⟩ := HT6.out.right hRL
          have HT7 := Lib.hid hT7
          have HS7 := Lib.hid (HS.out.part zs)
          have hs7 : ({ N with gr := grTo N.nodes zs zs.length } : NS).sent ≤ k + 1 := by simp only; omega
          clear hT7 hRL HT6 HS b5
          generalize ({ N with gr := grTo N.nodes zs zs.length } : NS) = N7 at *
          generalize ({ R with gs := zs } : RS) = R7 at *
          have HLE := Lib.hid (show (R7.L.length : Int) = N7.L.length by rw [HS7.out.perm.length_eq])
          go_wp2_with fail
          refine (waiting_is F7 p _ _ _ HT7.out.one.net rfl).mono ?_
          rintro e w' ⟨rfl, rfl⟩
          go_wp2_with fail
          refine (rwaiting_is G7 q _ _ _ HT7.out.ref HLE.out).mono ?_
          rintro e w' ⟨rfl, rfl⟩
          go_wp2
          go_roundw
          case rel => exact ⟨k + 1, F7, G7, _, _, by go_num, by omega, by omega, hs7, HT7.out.forget, HS7.out⟩
          case measure => simp [intOf]; omega
        · have HX := Lib.hid (HD.out.quiet ((Only.refl _ wr).alloc (.cells #[.int .i64 kd, .int .i64 now, .int .i64 fr, .int .i64 tt, .string tx, .slice ga gn gc] 34))).forget
          clear a0 a1 a2 a3 a4 a5 HD
          cases hL : N.L with
          | nil =>
            have HL := Lib.hid hL
            have HRL := Lib.hid (show R.L = [] from List.eq_nil_of_length_eq_zero (by rw [← HS.out.perm.length_eq, hL]; rfl))
            clear hL
            refine (next_nil F p _ _ HX.out.one.net HL.out).mono ?_
            rintro e w6 ⟨rfl, hNL⟩
            obtain ⟨F7, hT6⟩ := HX.out.left hNL HX.out.one.good
            have HT6 := Lib.hid (hT6.more (.cells #[.int .i64 0, .int .i64 0, .string ByteArray.empty] 31))
            clear hNL HX hT6
            go_wp2_with fail
            refine (rnext_nil G q _ _ HT6.out.ref HRL.out).mono ?_
            rintro e w7 ⟨rfl, hRL⟩
            obtain ⟨G7, hT7⟩ := HT6.out.right hRL
            have hb := (hT7.one.apart w6.heap.size _ List.mem_cons_self).2
            have x0 := cell_of_row w7 w6.heap.size 0 _ 31 (0, 0) hb
            have x1 := cell_of_row w7 w6.heap.size 1 _ 31 (0, 0) hb
            have x2 := cell_of_row w7 w6.heap.size 2 _ 31 (0, 0) hb
            simp at x0 x1 x2
            have hsz := (Array.getElem?_eq_some_iff.1 hb).1
            have HT7 := Lib.hid (hT7.quiet ((Only.refl _ w7).alloc (.cells #[.int .i64 0, .int .i64 0, .string ByteArray.empty] 31)))
            have HS7 := Lib.hid HS.out
            have hs7 : N.sent ≤ k + 1 := by omega
            have HLE := Lib.hid (show (R.L.length : Int) = N.L.length by rw [HS7.out.perm.length_eq])
            clear hT7 hRL HT6 hb HS
            go_wp2_with fail
            refine (waiting_is F7 p _ _ _ HT7.out.one.net rfl).mono ?_
            rintro e w' ⟨rfl, rfl⟩
            go_wp2_with fail
            refine (rwaiting_is G7 q _ _ _ HT7.out.ref HLE.out).mono ?_
            rintro e w' ⟨rfl, rfl⟩
            go_wp2
            go_roundw
            case rel => exact ⟨k + 1, F7, G7, _, _, by go_num, by omega, by omega, hs7, HT7.out.forget, HS7.out⟩
            case measure => simp [intOf]; omega
          | cons y M =>
            have HL := Lib.hid hL
            have HRL := Lib.hid (show R.L ≠ [] from fun e => by have h1 := HS.out.perm.length_eq; rw [hL, e] at h1; simp at h1)
            have hll : R.L.length ≤ 1000000 := by rw [← HS.out.perm.length_eq]; have := HS.out.good.many; omega
            clear hL
            refine (next_cons F p _ _ HX.out.one.net HX.out.one.good _ _ HL.out).mono ?_
            rintro e w6 ⟨rfl, hNL⟩
            obtain ⟨F7, hT6⟩ := HX.out.left hNL (good_next HX.out.one.good)
            have HT6 := Lib.hid (hT6.more (.cells #[.int .i64 y.fr, .int .i64 y.to, .string y.tx] 31))
            clear hNL HX hT6
            go_wp2_with fail
            refine (rnext_some G q _ _ HT6.out.ref HRL.out hll).mono ?_
            rintro e w7 ⟨x, L', rfl, hp, hm, hRL⟩
            obtain ⟨rfl, hS7⟩ := HS.out.next HL.out hp hm
            obtain ⟨G7, hT7⟩ := HT6.out.right hRL
            have hb := (hT7.one.apart w6.heap.size _ List.mem_cons_self).2
            have x0 := cell_of_row w7 w6.heap.size 0 _ 31 (0, 0) hb
            have x1 := cell_of_row w7 w6.heap.size 1 _ 31 (0, 0) hb
            have x2 := cell_of_row w7 w6.heap.size 2 _ 31 (0, 0) hb
            simp at x0 x1 x2
            have hsz := (Array.getElem?_eq_some_iff.1 hb).1
            have HT7 := Lib.hid (hT7.quiet ((Only.refl _ w7).alloc (.cells #[.int .i64 x.fr, .int .i64 x.to, .string x.tx] 31)))
            have HS7 := Lib.hid hS7
            have hs7 : (nextN N).sent ≤ k + 1 := by unfold nextN; simp only; omega
            clear hT7 hRL HT6 hb HS hS7 hp hm HL HRL
            generalize nextN N = N7 at *
            generalize ({ R with L := L' } : RS) = R7 at *
            have HLE := Lib.hid (show (R7.L.length : Int) = N7.L.length by rw [HS7.out.perm.length_eq])
            unfold Wt.msg
            go_wp2_with fail
            refine (waiting_is F7 p _ _ _ HT7.out.one.net rfl).mono ?_
            rintro e w' ⟨rfl, rfl⟩
            go_wp2_with fail
            refine (rwaiting_is G7 q _ _ _ HT7.out.ref HLE.out).mono ?_
            rintro e w' ⟨rfl, rfl⟩
            go_wp2
            go_roundw
            case rel => exact ⟨k + 1, F7, G7, _, _, by go_num, by omega, by omega, hs7, HT7.out.forget, HS7.out⟩
            case measure => simp [intOf]; omega
      · have hd60 : decide ((k : Int) < 60) = false := decide_eq_false (by omega)
        go_wp2
        go_ret
        exact ⟨rfl, (HOW.out.trans hD.one.only).below (Nat.le_refl _) (fun _ _ h => h)⟩
    · go_wp2
      go_ret
      exact ⟨rfl, (HOW.out.trans hD.one.only).below (Nat.le_refl _) (fun _ _ h => h)⟩
set_option maxHeartbeats 4000000 in
set_option maxRecDepth 100000 in
theorem plays_nil (nd : Int) (lv : Value) (l : List Tr) (aa : Option Addr) (ac : Nat) (w : World) (hnd : 0 ≤ nd ∧ nd ≤ 255) (h : TrsAt w lv l) (hwf : TrsWf l) :
    Calls Try.prog 3 #[.int .u8 nd, lv, .slice aa 0 ac] w fun e w' => e = .returned (.bool true) ∧ Below w.heap.size w w' := by
  obtain ⟨m1, m2⟩ := hnd
  have HT := Lib.hid h
  have HF := Lib.hid hwf
  clear h hwf
  go_enter Try.func3, Try.ntmps3
  go_wp2_with fail
  refine (sanity_any _).mono ?_
  rintro e w1 ⟨rfl, hO1⟩
  have HO1 := Lib.hid hO1
  clear hO1
  go_wp2_with fail
  refine (script_any _ lv l (HT.out.frame HO1.out) HF.out).mono ?_
  rintro e w0 ⟨a, c, rfl, hrow, hO2⟩
  have hsl := scriptOf_length l
  have HR := Lib.hid hrow
  have HOW := Lib.hid (HO1.out.trans hO2)
  clear hO2 HT HF hrow HO1
  go_wp2_with fail
  refine (new_any _ (nd % 7 - 1) _ (scriptOf l) (SrcAt.of_own HR.out) (Nat.le_trans hsl (by decide))).mono ?_
  rintro e w3 ⟨p, F, rfl, n1, n2, n3⟩
  have hO := Own.of_new n1 (good_new _ _) n2 n3
  have HR3 := Lib.hid (n3.owns HR.out (fun _ _ h => h))
  have HO := Lib.hid hO
  clear n1 n2 n3 hO HR
  go_wp2_with fail
  refine (rnew_any _ (nd % 7 - 1) _ (scriptOf l) (SrcAt.of_own HR3.out) (Nat.le_trans hsl (by decide))).mono ?_
  rintro e w4 ⟨q, G, rfl, n1, n2, n3⟩
  have HD := Lib.hid (HO.out.duo n1 n2 n3)
  have HS := Lib.hid (same_new l (nd % 7 - 1))
  clear n1 n2 n3 HO HR3
  have hz0 : (newNS (nd % 7 - 1) (scriptOf l)).sent ≤ 0 := Nat.le_refl 0
  generalize newNS (nd % 7 - 1) (scriptOf l) = N0 at *
  generalize newRS (nd % 7 - 1) (scriptOf l) = R0 at *
  cases aa
  all_goals
    go_wp2_with fail
    refine wp_loop_rounds 1 ?_
    rw [rounds_succ]
    go_wp2
    go_ret
    exact ⟨rfl, (HOW.out.trans HD.out.one.only).below (Nat.le_refl _) (fun _ _ h => h)⟩

theorem plays_walk (nd : Int) (lv av : Value) (l : List Tr) (al : List Ac) (w : World) (hnd : 0 ≤ nd ∧ nd ≤ 255) (h : TrsAt w lv l) (hwf : TrsWf l) (ha : ActsAt w av al) :
    Calls Try.prog 3 #[.int .u8 nd, lv, av] w fun e w' => e = .returned (.bool true) ∧ Below w.heap.size w w' := by
  rcases ha with ⟨a, c, rfl, rfl⟩ | ⟨gb, off, c, rfl, h1, h2, h3, h4, h5⟩
  · exact plays_nil nd lv l a c w hnd h hwf
  · unfold maxLen at h4
    exact plays_some nd lv l gb off c al w hnd h hwf h1 h3 (by omega) h5
end Go.Proofs.Yteblaedfjifdhaa
