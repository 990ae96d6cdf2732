/-
  The walk of the law NetAlone, as gen_alone.py prints it.
-/
import Derived.Test.YteblaedfjifdhaaAlone
namespace Go.Proofs.Yteblaedfjifdhaa
open Go.RowKit

set_option maxHeartbeats 5000000 in
set_option maxRecDepth 100000 in
theorem alone_le (lv : Value) (l : List Tr) (gb off tc : Nat) (ts : List Int) (now : Int) (w : World) (h : TrsAt w lv l) (hwf : TrsWf l) (_hgl : gb < w.heap.size) (htp : 0 < ts.length) (htc : ts.length ≤ tc) (htm : tc ≤ 9223372036854775807)
    (hcs : ∀ j, j < ts.length → w.cell? ⟨gb, off + j, none⟩ = some (.int .u16 (tat ts j))) (htw : U16sWf ts) (hK : ts.length ≤ 30) (w1' : 0 ≤ now) (w2' : now ≤ 65535) :
    Calls Try.prog 5 #[lv, .slice (some ⟨gb, off, none⟩) ts.length tc, .int .u16 now] w fun e w' => e = .returned (.bool true) ∧ Below w.heap.size w w' := by
  have HT := Lib.hid h
  have HF := Lib.hid hwf
  have HCS := Lib.hid hcs
  have HUW := Lib.hid htw
  clear h hwf hcs htw
  go_enter Try.func5, Try.ntmps5
  go_wp2_with fail
  refine (sanity_any _).mono ?_
  rintro e w1 ⟨rfl, hO1⟩
  have HO1 := Lib.hid hO1
  clear hO1
  go_wp2_with fail
  refine (script_any _ lv l (HT.out.frame HO1.out) HF.out).mono ?_
  rintro e w0 ⟨a, c, rfl, hrow, hO2⟩
  have hsl := scriptOf_length l
  have HR := Lib.hid hrow
  have HOW := Lib.hid (HO1.out.trans hO2)
  clear hO2 HT HF hrow HO1
  go_wp2_with fail
  refine (new_any _ 2 _ (scriptOf l) (SrcAt.of_own HR.out) (Nat.le_trans hsl (by decide))).mono ?_
  rintro e w3 ⟨p, F, rfl, n1, n2, n3⟩
  have hO := Own.of_new n1 (good_new _ _) n2 n3
  have HR3 := Lib.hid (n3.owns HR.out (fun _ _ h => h))
  have HO := Lib.hid hO
  clear n1 n2 n3 hO HR
  go_wp2_with fail
  refine (new_any _ 2 _ (scriptOf l) (SrcAt.of_own HR3.out) (Nat.le_trans hsl (by decide))).mono ?_
  rintro e w4 ⟨q, G, rfl, n1, n2, n3⟩
  have HT := Lib.hid (show Two w0 w4 F p (alN (scriptOf l) ts 0) G q (alM (scriptOf l) 0) [] from HO.out.two n1 (good_new _ _) n2 n3)
  clear n1 n2 n3 HO HR3
  go_wp2_with fail
  go_loopw [11] (fun v wr => ∃ (k : Nat) (F G : Nat → Prop), v = .int .i64 k ∧ k ≤ ts.length ∧ Two w0 wr F p (alN (scriptOf l) ts k) G q (alM (scriptOf l) k) []) (fun v _ => ts.length - (intOf v).toNat)
  case atStart => exact ⟨0, F, G, rfl, Nat.zero_le _, HT.out⟩
  case round =>
    clear HT F G
    obtain ⟨k, F, G, rfl, hk, hT⟩ := hrel
    by_cases hlt : k < ts.length
    · have hkl : k < ts.length := by omega
      have hOo := HOW.out.trans hT.one.only
      have x0 := hOo.cell (HCS.out k hkl) (fun h => h)
      have hm := alN_may l ts k HUW.out
      obtain ⟨t0, t1⟩ := HUW.out k
      have HFX := Lib.hid (alN_fix (scriptOf l) ts k).2.2.2
      have HFY := Lib.hid (show (alM (scriptOf l) k).sent = k by rw [alM_is])
      have HD := Lib.hid (show alN (scriptOf l) ts (k + 1) = sendN (alN (scriptOf l) ts k) (tat ts k) k 1 otherB from rfl)
      have HD2 := Lib.hid (show alM (scriptOf l) (k + 1) = sendN (alM (scriptOf l) k) 0 0 5 ByteArray.empty from rfl)
      clear hOo
      generalize tat ts k = tk at *
      go_wp2_with fail
      refine (send_any F p _ tk k 1 otherB _ hT.one.net hT.one.good (by rw [HFX.out]; omega) hm (WalkArith.wf_i64 (by omega)) (by decide)).mono ?_
      rintro e w6 ⟨rfl, hNL⟩
      rw [← HD.out] at hNL
      obtain ⟨F', hT'⟩ := hT.left hNL (alN_good _ _ _)
      clear x0 hNL hm hT
      go_wp2_with fail
      refine (send_any G q _ 0 0 5 ByteArray.empty _ hT'.two.net hT'.two.good (by rw [HFY.out]; omega) (alM_may _ _) (by decide) (by decide)).mono ?_
      rintro e w7 ⟨rfl, hNL⟩
      rw [← HD2.out] at hNL
      obtain ⟨G', hT7⟩ := hT'.right hNL (alM_good _ _)
      clear hNL hT'
      go_wp2
      go_roundw
      case rel => exact ⟨k + 1, F', G', by go_num, by omega, hT7⟩
      case measure => simp [intOf]; omega
    · have hke : k = ts.length := by omega
      have HT := Lib.hid (show Two w0 wr F p (alN (scriptOf l) ts ts.length) G q (alM (scriptOf l) ts.length) [] by rw [← hke]; exact hT)
      clear hke hT
      have hmn := may_this l (alN (scriptOf l) ts ts.length) now (alN_fix _ _ _).2.1 w1' w2'
      have hmm := may_this l (alM (scriptOf l) ts.length) now (by rw [alM_is]) w1' w2'
      have HA := Lib.hid (apart_start (scriptOf l) ts ts.length now (by omega))
      have HFX := Lib.hid (alN_fix (scriptOf l) ts ts.length).2.2.2
      have HFY := Lib.hid (show (alM (scriptOf l) ts.length).sent = ts.length by rw [alM_is])
      have HX := Lib.hid (HT.out.more (.cells #[.int .i64 7, .int .i64 0, .string thisB] 31 (0, 0)))
      clear HT
      go_wp2_with fail
      refine (send_any F p _ now 7 0 thisB _ HX.out.one.net HX.out.one.good (by rw [HFX.out]; omega) hmn (by decide) (by decide)).mono ?_
      rintro e w6 ⟨rfl, hNL⟩
      obtain ⟨F', hT6⟩ := HX.out.left hNL (good_send HX.out.one.good _ _ _ _)
      have hb := (hT6.one.apart wr.heap.size _ List.mem_cons_self).2
      have x0 := cell_of_row w6 wr.heap.size 0 _ 31 (0, 0) hb
      have x1 := cell_of_row w6 wr.heap.size 1 _ 31 (0, 0) hb
      have x2 := cell_of_row w6 wr.heap.size 2 _ 31 (0, 0) hb
      simp at x0 x1 x2
      clear hNL HX hb
      go_wp2_with fail
      refine (send_any G q _ now 7 0 thisB _ hT6.two.net hT6.two.good (by rw [HFY.out]; omega) hmm (by decide) (by decide)).mono ?_
      rintro e w7 ⟨rfl, hNL⟩
      obtain ⟨G', hT7⟩ := hT6.right hNL (good_send hT6.two.good _ _ _ _)
      have HT7 := Lib.hid hT7
      clear hNL hT6 hT7 x0 x1 x2 hmn hmm
      generalize wr.heap.size = xb at *
      go_wp2_with fail
      go_loopw [13] (fun v wr => ∃ (k : Nat) (F G : Nat → Prop) (N M : NS), v = .int .i64 k ∧ k ≤ 300 ∧ Two w0 wr F p N G q M [(xb, .cells #[.int .i64 7, .int .i64 0, .string thisB] 31 (0, 0))] ∧ Apart N M k) (fun v _ => 300 - (intOf v).toNat)
      case atStart => exact ⟨0, F', G', _, _, rfl, by omega, HT7.out, HA.out⟩
      case round =>
        clear HT7 HA HFX HFY F' G'
        obtain ⟨k, F, G, N, M, rfl, hk, hT, hA⟩ := hrel
        by_cases hlt : k < 300
        · cases hL : N.L with
          | nil =>
            have HN0 := Lib.hid hL
            have HM0 := Lib.hid (hA.done hL)
            have HG := Lib.hid hA.goodN
            clear hL hA
            go_wp2_with fail
            refine (next_nil F p _ _ hT.one.net HN0.out).mono ?_
            rintro e w8 ⟨rfl, hNL⟩
            obtain ⟨F8, hT8⟩ := hT.left hNL HG.out
            have HE := Lib.hid (hT8.quiet ((Only.refl _ w8).alloc (.cells #[.int .i64 0, .int .i64 0, .string ByteArray.empty] 31)))
            clear hNL hT hT8
            go_wp2_with fail
            refine (waiting_is G q _ _ 0 HE.out.two.net (by rw [HM0.out]; rfl)).mono ?_
            rintro e w' ⟨rfl, rfl⟩
            go_wp2_with fail
            refine (waiting_is F8 p _ _ 0 HE.out.one.net (by rw [HN0.out]; rfl)).mono ?_
            rintro e w' ⟨rfl, rfl⟩
            go_wp2
            go_ret
            exact ⟨rfl, (HOW.out.trans HE.out.one.only).below (Nat.le_refl _) (fun _ _ h => h)⟩
          | cons y L =>
            have HL := Lib.hid hL
            cases hy : to0 y
            · have HS := Lib.hid (hA.skip hL hy)
              have hne : (y.to != 0) = true := by unfold to0 at hy; simpa using hy
              clear hL hA hy
              go_wp2_with fail
              refine (next_cons F p _ _ hT.one.net hT.one.good _ _ HL.out).mono ?_
              rintro e w8 ⟨rfl, hNL⟩
              obtain ⟨F8, hT8⟩ := hT.left hNL (good_next hT.one.good)
              clear hNL hT
              go_wp2
              go_roundw
              case rel => exact ⟨k + 1, F8, G, _, _, by go_num, by omega, hT8.quiet ((Only.refl _ w8).alloc _), HS.out⟩
              case measure => simp [intOf]; omega
            · obtain ⟨hm, hS⟩ := hA.take hL hy
              have HS := Lib.hid hS
              obtain ⟨y1, y2, y3⟩ := hA.msg y (by rw [hL]; exact List.mem_cons_self) hy
              have HML := Lib.hid hm
              clear hL hA hy hm hS
              obtain ⟨fr, to, tx, tm, nm⟩ := y
              dsimp only at y1 y2 y3
              subst y1 y2 y3
              go_wp2_with fail
              refine (next_cons F p _ _ hT.one.net hT.one.good _ _ HL.out).mono ?_
              rintro e w8 ⟨rfl, hNL⟩
              obtain ⟨F8, hT8⟩ := hT.left hNL (good_next hT.one.good)
              have HT8 := Lib.hid (hT8.more (.cells #[.int .i64 7, .int .i64 0, .string thisB] 31 (0, 0)))
              clear hNL hT hT8
              go_wp2_with fail
              refine (next_cons G q _ _ HT8.out.two.net HT8.out.two.good _ _ HML.out).mono ?_
              rintro e w9 ⟨rfl, hNL⟩
              obtain ⟨G9, hT9⟩ := HT8.out.right hNL (good_next HT8.out.two.good)
              have hb := (hT9.one.apart w8.heap.size _ List.mem_cons_self).2
              have x0 := cell_of_row w9 w8.heap.size 0 _ 31 (0, 0) hb
              have x1 := cell_of_row w9 w8.heap.size 1 _ 31 (0, 0) hb
              have x2 := cell_of_row w9 w8.heap.size 2 _ 31 (0, 0) hb
              have hsz := (Array.getElem?_eq_some_iff.1 hb).1
              have hb2 := (hT9.one.apart xb _ (List.mem_cons_of_mem _ List.mem_cons_self)).2
              have z0 := cell_of_row w9 xb 0 _ 31 (0, 0) hb2
              have z1 := cell_of_row w9 xb 1 _ 31 (0, 0) hb2
              have z2 := cell_of_row w9 xb 2 _ 31 (0, 0) hb2
              have hsx := (Array.getElem?_eq_some_iff.1 hb2).1
              simp at x0 x1 x2 z0 z1 z2
              have HT9 := Lib.hid (hT9.sub (B := [(xb, .cells #[.int .i64 7, .int .i64 0, .string thisB] 31 (0, 0))]) (fun e he => List.mem_cons_of_mem _ he))
              clear hNL HT8 hT9 hb hb2
              go_wp2
              go_roundw
              case rel => exact ⟨k + 1, F8, G9, _, _, by go_num, by omega, HT9.out.quiet ((Only.refl _ w9).alloc _), HS.out⟩
              case measure => simp [intOf]; omega
        · have hN0 : N.L = [] := List.eq_nil_of_length_eq_zero (by have := hA.len; omega)
          have HN0 := Lib.hid hN0
          have HM0 := Lib.hid (hA.done hN0)
          have HE := Lib.hid hT
          clear hN0 hA hT
          go_wp2_with fail
          refine (waiting_is G q _ _ 0 HE.out.two.net (by rw [HM0.out]; rfl)).mono ?_
          rintro e w' ⟨rfl, rfl⟩
          go_wp2_with fail
          refine (waiting_is F p _ _ 0 HE.out.one.net (by rw [HN0.out]; rfl)).mono ?_
          rintro e w' ⟨rfl, rfl⟩
          go_wp2
          go_ret
          exact ⟨rfl, (HOW.out.trans HE.out.one.only).below (Nat.le_refl _) (fun _ _ h => h)⟩

set_option maxHeartbeats 5000000 in
set_option maxRecDepth 100000 in
theorem alone_gt (lv : Value) (l : List Tr) (gb off tc : Nat) (ts : List Int) (now : Int) (w : World) (h : TrsAt w lv l) (hwf : TrsWf l) (_hgl : gb < w.heap.size) (_htp : 0 < ts.length) (htc : ts.length ≤ tc) (htm : tc ≤ 9223372036854775807)
    (hcs : ∀ j, j < ts.length → w.cell? ⟨gb, off + j, none⟩ = some (.int .u16 (tat ts j))) (htw : U16sWf ts) (hK : 30 < ts.length) (w1' : 0 ≤ now) (w2' : now ≤ 65535) :
    Calls Try.prog 5 #[lv, .slice (some ⟨gb, off, none⟩) ts.length tc, .int .u16 now] w fun e w' => e = .returned (.bool true) ∧ Below w.heap.size w w' := by
  have HT := Lib.hid h
  have HF := Lib.hid hwf
  have HCS := Lib.hid hcs
  have HUW := Lib.hid htw
  clear h hwf hcs htw
  obtain ⟨K, hK1, hK2⟩ : ∃ K : Nat, K ≤ 30 ∧ 30 ≤ K := ⟨30, Nat.le_refl _, Nat.le_refl _⟩
  go_enter Try.func5, Try.ntmps5
  go_wp2_with fail
  refine (sanity_any _).mono ?_
  rintro e w1 ⟨rfl, hO1⟩
  have HO1 := Lib.hid hO1
  clear hO1
  go_wp2_with fail
  refine (script_any _ lv l (HT.out.frame HO1.out) HF.out).mono ?_
  rintro e w0 ⟨a, c, rfl, hrow, hO2⟩
  have hsl := scriptOf_length l
  have HR := Lib.hid hrow
  have HOW := Lib.hid (HO1.out.trans hO2)
  clear hO2 HT HF hrow HO1
  go_wp2_with fail
  refine (new_any _ 2 _ (scriptOf l) (SrcAt.of_own HR.out) (Nat.le_trans hsl (by decide))).mono ?_
  rintro e w3 ⟨p, F, rfl, n1, n2, n3⟩
  have hO := Own.of_new n1 (good_new _ _) n2 n3
  have HR3 := Lib.hid (n3.owns HR.out (fun _ _ h => h))
  have HO := Lib.hid hO
  clear n1 n2 n3 hO HR
  go_wp2_with fail
  refine (new_any _ 2 _ (scriptOf l) (SrcAt.of_own HR3.out) (Nat.le_trans hsl (by decide))).mono ?_
  rintro e w4 ⟨q, G, rfl, n1, n2, n3⟩
  have HT := Lib.hid (show Two w0 w4 F p (alN (scriptOf l) ts 0) G q (alM (scriptOf l) 0) [] from HO.out.two n1 (good_new _ _) n2 n3)
  clear n1 n2 n3 HO HR3
  go_wp2_with fail
  go_loopw [11] (fun v wr => ∃ (k : Nat) (F G : Nat → Prop), v = .int .i64 k ∧ k ≤ K ∧ Two w0 wr F p (alN (scriptOf l) ts k) G q (alM (scriptOf l) k) []) (fun v _ => K - (intOf v).toNat)
  case atStart => exact ⟨0, F, G, rfl, Nat.zero_le _, HT.out⟩
  case round =>
    clear HT F G
    obtain ⟨k, F, G, rfl, hk, hT⟩ := hrel
    by_cases hlt : k < K
    · have hkl : k < ts.length := by omega
      have hOo := HOW.out.trans hT.one.only
      have x0 := hOo.cell (HCS.out k hkl) (fun h => h)
      have hm := alN_may l ts k HUW.out
      obtain ⟨t0, t1⟩ := HUW.out k
      have HFX := Lib.hid (alN_fix (scriptOf l) ts k).2.2.2
      have HFY := Lib.hid (show (alM (scriptOf l) k).sent = k by rw [alM_is])
      have HD := Lib.hid (show alN (scriptOf l) ts (k + 1) = sendN (alN (scriptOf l) ts k) (tat ts k) k 1 otherB from rfl)
      have HD2 := Lib.hid (show alM (scriptOf l) (k + 1) = sendN (alM (scriptOf l) k) 0 0 5 ByteArray.empty from rfl)
      clear hOo
      generalize tat ts k = tk at *
      go_wp2_with fail
      refine (send_any F p _ tk k 1 otherB _ hT.one.net hT.one.good (by rw [HFX.out]; omega) hm (WalkArith.wf_i64 (by omega)) (by decide)).mono ?_
      rintro e w6 ⟨rfl, hNL⟩
      rw [← HD.out] at hNL
      obtain ⟨F', hT'⟩ := hT.left hNL (alN_good _ _ _)
      clear x0 hNL hm hT
      go_wp2_with fail
      refine (send_any G q _ 0 0 5 ByteArray.empty _ hT'.two.net hT'.two.good (by rw [HFY.out]; omega) (alM_may _ _) (by decide) (by decide)).mono ?_
      rintro e w7 ⟨rfl, hNL⟩
      rw [← HD2.out] at hNL
      obtain ⟨G', hT7⟩ := hT'.right hNL (alM_good _ _)
      clear hNL hT'
      go_wp2
      go_roundw
      case rel => exact ⟨k + 1, F', G', by go_num, by omega, hT7⟩
      case measure => simp [intOf]; omega
    · have hke : k = K := by omega
      have HT := Lib.hid (show Two w0 wr F p (alN (scriptOf l) ts K) G q (alM (scriptOf l) K) [] by rw [← hke]; exact hT)
      clear hke hT
      have hmn := may_this l (alN (scriptOf l) ts K) now (alN_fix _ _ _).2.1 w1' w2'
      have hmm := may_this l (alM (scriptOf l) K) now (by rw [alM_is]) w1' w2'
      have HA := Lib.hid (apart_start (scriptOf l) ts K now (by omega))
      have HFX := Lib.hid (alN_fix (scriptOf l) ts K).2.2.2
      have HFY := Lib.hid (show (alM (scriptOf l) K).sent = K by rw [alM_is])
      have HX := Lib.hid (HT.out.more (.cells #[.int .i64 7, .int .i64 0, .string thisB] 31 (0, 0)))
      clear HT
      go_wp2_with fail
      refine (send_any F p _ now 7 0 thisB _ HX.out.one.net HX.out.one.good (by rw [HFX.out]; omega) hmn (by decide) (by decide)).mono ?_
      rintro e w6 ⟨rfl, hNL⟩
      obtain ⟨F', hT6⟩ := HX.out.left hNL (good_send HX.out.one.good _ _ _ _)
      have hb := (hT6.one.apart wr.heap.size _ List.mem_cons_self).2
      have x0 := cell_of_row w6 wr.heap.size 0 _ 31 (0, 0) hb
      have x1 := cell_of_row w6 wr.heap.size 1 _ 31 (0, 0) hb
      have x2 := cell_of_row w6 wr.heap.size 2 _ 31 (0, 0) hb
      simp at x0 x1 x2
      clear hNL HX hb
      go_wp2_with fail
      refine (send_any G q _ now 7 0 thisB _ hT6.two.net hT6.two.good (by rw [HFY.out]; omega) hmm (by decide) (by decide)).mono ?_
      rintro e w7 ⟨rfl, hNL⟩
      obtain ⟨G', hT7⟩ := hT6.right hNL (good_send hT6.two.good _ _ _ _)
      have HT7 := Lib.hid hT7
      clear hNL hT6 hT7 x0 x1 x2 hmn hmm
      generalize wr.heap.size = xb at *
      go_wp2_with fail
      go_loopw [13] (fun v wr => ∃ (k : Nat) (F G : Nat → Prop) (N M : NS), v = .int .i64 k ∧ k ≤ 300 ∧ Two w0 wr F p N G q M [(xb, .cells #[.int .i64 7, .int .i64 0, .string thisB] 31 (0, 0))] ∧ Apart N M k) (fun v _ => 300 - (intOf v).toNat)
      case atStart => exact ⟨0, F', G', _, _, rfl, by omega, HT7.out, HA.out⟩
      case round =>
        clear HT7 HA HFX HFY F' G'
        obtain ⟨k, F, G, N, M, rfl, hk, hT, hA⟩ := hrel
        by_cases hlt : k < 300
        · cases hL : N.L with
          | nil =>
            have HN0 := Lib.hid hL
            have HM0 := Lib.hid (hA.done hL)
            have HG := Lib.hid hA.goodN
            clear hL hA
            go_wp2_with fail
            refine (next_nil F p _ _ hT.one.net HN0.out).mono ?_
            rintro e w8 ⟨rfl, hNL⟩
            obtain ⟨F8, hT8⟩ := hT.left hNL HG.out
            have HE := Lib.hid (hT8.quiet ((Only.refl _ w8).alloc (.cells #[.int .i64 0, .int .i64 0, .string ByteArray.empty] 31)))
            clear hNL hT hT8
            go_wp2_with fail
            refine (waiting_is G q _ _ 0 HE.out.two.net (by rw [HM0.out]; rfl)).mono ?_
            rintro e w' ⟨rfl, rfl⟩
            go_wp2_with fail
            refine (waiting_is F8 p _ _ 0 HE.out.one.net (by rw [HN0.out]; rfl)).mono ?_
            rintro e w' ⟨rfl, rfl⟩
            go_wp2
            go_ret
            exact ⟨rfl, (HOW.out.trans HE.out.one.only).below (Nat.le_refl _) (fun _ _ h => h)⟩
          | cons y L =>
            have HL := Lib.hid hL
            cases hy : to0 y
            · have HS := Lib.hid (hA.skip hL hy)
              have hne : (y.to != 0) = true := by unfold to0 at hy; simpa using hy
              clear hL hA hy
              go_wp2_with fail
              refine (next_cons F p _ _ hT.one.net hT.one.good _ _ HL.out).mono ?_
              rintro e w8 ⟨rfl, hNL⟩
              obtain ⟨F8, hT8⟩ := hT.left hNL (good_next hT.one.good)
              clear hNL hT
              go_wp2
              go_roundw
              case rel => exact ⟨k + 1, F8, G, _, _, by go_num, by omega, hT8.quiet ((Only.refl _ w8).alloc _), HS.out⟩
              case measure => simp [intOf]; omega
            · obtain ⟨hm, hS⟩ := hA.take hL hy
              have HS := Lib.hid hS
              obtain ⟨y1, y2, y3⟩ := hA.msg y (by rw [hL]; exact List.mem_cons_self) hy
              have HML := Lib.hid hm
              clear hL hA hy hm hS
              obtain ⟨fr, to, tx, tm, nm⟩ := y
              dsimp only at y1 y2 y3
              subst y1 y2 y3
              go_wp2_with fail
              refine (next_cons F p _ _ hT.one.net hT.one.good _ _ HL.out).mono ?_
              rintro e w8 ⟨rfl, hNL⟩
              obtain ⟨F8, hT8⟩ := hT.left hNL (good_next hT.one.good)
              have HT8 := Lib.hid (hT8.more (.cells #[.int .i64 7, .int .i64 0, .string thisB] 31 (0, 0)))
              clear hNL hT hT8
              go_wp2_with fail
              refine (next_cons G q _ _ HT8.out.two.net HT8.out.two.good _ _ HML.out).mono ?_
              rintro e w9 ⟨rfl, hNL⟩
              obtain ⟨G9, hT9⟩ := HT8.out.right hNL (good_next HT8.out.two.good)
              have hb := (hT9.one.apart w8.heap.size _ List.mem_cons_self).2
              have x0 := cell_of_row w9 w8.heap.size 0 _ 31 (0, 0) hb
              have x1 := cell_of_row w9 w8.heap.size 1 _ 31 (0, 0) hb
              have x2 := cell_of_row w9 w8.heap.size 2 _ 31 (0, 0) hb
              have hsz := (Array.getElem?_eq_some_iff.1 hb).1
              have hb2 := (hT9.one.apart xb _ (List.mem_cons_of_mem _ List.mem_cons_self)).2
              have z0 := cell_of_row w9 xb 0 _ 31 (0, 0) hb2
              have z1 := cell_of_row w9 xb 1 _ 31 (0, 0) hb2
              have z2 := cell_of_row w9 xb 2 _ 31 (0, 0) hb2
              have hsx := (Array.getElem?_eq_some_iff.1 hb2).1
              simp at x0 x1 x2 z0 z1 z2
              have HT9 := Lib.hid (hT9.sub (B := [(xb, .cells #[.int .i64 7, .int .i64 0, .string thisB] 31 (0, 0))]) (fun e he => List.mem_cons_of_mem _ he))
              clear hNL HT8 hT9 hb hb2
              go_wp2
              go_roundw
              case rel => exact ⟨k + 1, F8, G9, _, _, by go_num, by omega, HT9.out.quiet ((Only.refl _ w9).alloc _), HS.out⟩
              case measure => simp [intOf]; omega
        · have hN0 : N.L = [] := List.eq_nil_of_length_eq_zero (by have := hA.len; omega)
          have HN0 := Lib.hid hN0
          have HM0 := Lib.hid (hA.done hN0)
          have HE := Lib.hid hT
          clear hN0 hA hT
          go_wp2_with fail
          refine (waiting_is G q _ _ 0 HE.out.two.net (by rw [HM0.out]; rfl)).mono ?_
          rintro e w' ⟨rfl, rfl⟩
          go_wp2_with fail
          refine (waiting_is F p _ _ 0 HE.out.one.net (by rw [HN0.out]; rfl)).mono ?_
          rintro e w' ⟨rfl, rfl⟩
          go_wp2
          go_ret
          exact ⟨rfl, (HOW.out.trans HE.out.one.only).below (Nat.le_refl _) (fun _ _ h => h)⟩


set_option maxHeartbeats 5000000 in
set_option maxRecDepth 100000 in
theorem alone_nil (lv : Value) (l : List Tr) (ta : Option Addr) (tc : Nat) (now : Int) (w : World) (h : TrsAt w lv l) (hwf : TrsWf l) (w1' : 0 ≤ now) (w2' : now ≤ 65535) :
    Calls Try.prog 5 #[lv, .slice ta 0 tc, .int .u16 now] w fun e w' => e = .returned (.bool true) ∧ Below w.heap.size w w' := by
  have HT := Lib.hid h
  have HF := Lib.hid hwf
  clear h hwf
  go_enter Try.func5, Try.ntmps5
  go_wp2_with fail
  refine (sanity_any _).mono ?_
  rintro e w1 ⟨rfl, hO1⟩
  have HO1 := Lib.hid hO1
  clear hO1
  go_wp2_with fail
  refine (script_any _ lv l (HT.out.frame HO1.out) HF.out).mono ?_
  rintro e w0 ⟨a, c, rfl, hrow, hO2⟩
  have hsl := scriptOf_length l
  have HR := Lib.hid hrow
  have HOW := Lib.hid (HO1.out.trans hO2)
  clear hO2 HT HF hrow HO1
  go_wp2_with fail
  refine (new_any _ 2 _ (scriptOf l) (SrcAt.of_own HR.out) (Nat.le_trans hsl (by decide))).mono ?_
  rintro e w3 ⟨p, F, rfl, n1, n2, n3⟩
  have hO := Own.of_new n1 (good_new _ _) n2 n3
  have HR3 := Lib.hid (n3.owns HR.out (fun _ _ h => h))
  have HO := Lib.hid hO
  clear n1 n2 n3 hO HR
  go_wp2_with fail
  refine (new_any _ 2 _ (scriptOf l) (SrcAt.of_own HR3.out) (Nat.le_trans hsl (by decide))).mono ?_
  rintro e w4 ⟨q, G, rfl, n1, n2, n3⟩
  have HT := Lib.hid (show Two w0 w4 F p (alN (scriptOf l) [] 0) G q (alM (scriptOf l) 0) [] from HO.out.two n1 (good_new _ _) n2 n3)
  clear n1 n2 n3 HO HR3
  obtain ⟨wr, hwr⟩ : ∃ wr, wr = w4 := ⟨_, rfl⟩
  subst hwr
  cases ta
  all_goals
    go_wp2_with fail
    refine wp_loop_rounds 1 ?_
    rw [rounds_succ]
    have hmn := may_this l (alN (scriptOf l) [] 0) now (alN_fix _ _ _).2.1 w1' w2'
    have hmm := may_this l (alM (scriptOf l) 0) now (by rw [alM_is]) w1' w2'
    have HA := Lib.hid (apart_start (scriptOf l) [] 0 now (by omega))
    have HFX := Lib.hid (alN_fix (scriptOf l) [] 0).2.2.2
    have HFY := Lib.hid (show (alM (scriptOf l) 0).sent = 0 by rw [alM_is])
    have HX := Lib.hid (HT.out.more (.cells #[.int .i64 7, .int .i64 0, .string thisB] 31 (0, 0)))
    clear HT
    go_wp2_with fail
    refine (send_any F p _ now 7 0 thisB _ HX.out.one.net HX.out.one.good (by rw [HFX.out]; omega) hmn (by decide) (by decide)).mono ?_
    rintro e w6 ⟨rfl, hNL⟩
    obtain ⟨F', hT6⟩ := HX.out.left hNL (good_send HX.out.one.good _ _ _ _)
    have hb := (hT6.one.apart wr.heap.size _ List.mem_cons_self).2
    have x0 := cell_of_row w6 wr.heap.size 0 _ 31 (0, 0) hb
    have x1 := cell_of_row w6 wr.heap.size 1 _ 31 (0, 0) hb
    have x2 := cell_of_row w6 wr.heap.size 2 _ 31 (0, 0) hb
    simp at x0 x1 x2
    clear hNL HX hb
    go_wp2_with fail
    refine (send_any G q _ now 7 0 thisB _ hT6.two.net hT6.two.good (by rw [HFY.out]; omega) hmm (by decide) (by decide)).mono ?_
    rintro e w7 ⟨rfl, hNL⟩
    obtain ⟨G', hT7⟩ := hT6.right hNL (good_send hT6.two.good _ _ _ _)
    have HT7 := Lib.hid hT7
    clear hNL hT6 hT7 x0 x1 x2 hmn hmm
    generalize wr.heap.size = xb at *
    go_wp2_with fail
    go_loopw [13] (fun v wr => ∃ (k : Nat) (F G : Nat → Prop) (N M : NS), v = .int .i64 k ∧ k ≤ 300 ∧ Two w0 wr F p N G q M [(xb, .cells #[.int .i64 7, .int .i64 0, .string thisB] 31 (0, 0))] ∧ Apart N M k) (fun v _ => 300 - (intOf v).toNat)
    case atStart => exact ⟨0, F', G', _, _, rfl, by omega, HT7.out, HA.out⟩
    case round =>
      clear HT7 HA HFX HFY F' G'
      obtain ⟨k, F, G, N, M, rfl, hk, hT, hA⟩ := hrel
      by_cases hlt : k < 300
      · cases hL : N.L with
        | nil =>
          have HN0 := Lib.hid hL
          have HM0 := Lib.hid (hA.done hL)
          have HG := Lib.hid hA.goodN
          clear hL hA
          go_wp2_with fail
          refine (next_nil F p _ _ hT.one.net HN0.out).mono ?_
          rintro e w8 ⟨rfl, hNL⟩
          obtain ⟨F8, hT8⟩ := hT.left hNL HG.out
          have HE := Lib.hid (hT8.quiet ((Only.refl _ w8).alloc (.cells #[.int .i64 0, .int .i64 0, .string ByteArray.empty] 31)))
          clear hNL hT hT8
          go_wp2_with fail
          refine (waiting_is G q _ _ 0 HE.out.two.net (by rw [HM0.out]; rfl)).mono ?_
          rintro e w' ⟨rfl, rfl⟩
          go_wp2_with fail
          refine (waiting_is F8 p _ _ 0 HE.out.one.net (by rw [HN0.out]; rfl)).mono ?_
          rintro e w' ⟨rfl, rfl⟩
          go_wp2
          go_ret
          exact ⟨rfl, (HOW.out.trans HE.out.one.only).below (Nat.le_refl _) (fun _ _ h => h)⟩
        | cons y L =>
          have HL := Lib.hid hL
          cases hy : to0 y
          · have HS := Lib.hid (hA.skip hL hy)
            have hne : (y.to != 0) = true := by unfold to0 at hy; simpa using hy
            clear hL hA hy
            go_wp2_with fail
            refine (next_cons F p _ _ hT.one.net hT.one.good _ _ HL.out).mono ?_
            rintro e w8 ⟨rfl, hNL⟩
            obtain ⟨F8, hT8⟩ := hT.left hNL (good_next hT.one.good)
            clear hNL hT
            go_wp2
            go_roundw
            case rel => exact ⟨k + 1, F8, G, _, _, by go_num, by omega, hT8.quiet ((Only.refl _ w8).alloc _), HS.out⟩
            case measure => simp [intOf]; omega
          · obtain ⟨hm, hS⟩ := hA.take hL hy
            have HS := Lib.hid hS
            obtain ⟨y1, y2, y3⟩ := hA.msg y (by rw [hL]; exact List.mem_cons_self) hy
            have HML := Lib.hid hm
            clear hL hA hy hm hS
            obtain ⟨fr, to, tx, tm, nm⟩ := y
            dsimp only at y1 y2 y3
            subst y1 y2 y3
            go_wp2_with fail
            refine (next_cons F p _ _ hT.one.net hT.one.good _ _ HL.out).mono ?_
            rintro e w8 ⟨rfl, hNL⟩
            obtain ⟨F8, hT8⟩ := hT.left hNL (good_next hT.one.good)
            have HT8 := Lib.hid (hT8.more (.cells #[.int .i64 7, .int .i64 0, .string thisB] 31 (0, 0)))
            clear hNL hT hT8
            go_wp2_with fail
            refine (next_cons G q _ _ HT8.out.two.net HT8.out.two.good _ _ HML.out).mono ?_
            rintro e w9 ⟨rfl, hNL⟩
            obtain ⟨G9, hT9⟩ := HT8.out.right hNL (good_next HT8.out.two.good)
            have hb := (hT9.one.apart w8.heap.size _ List.mem_cons_self).2
            have x0 := cell_of_row w9 w8.heap.size 0 _ 31 (0, 0) hb
            have x1 := cell_of_row w9 w8.heap.size 1 _ 31 (0, 0) hb
            have x2 := cell_of_row w9 w8.heap.size 2 _ 31 (0, 0) hb
            have hsz := (Array.getElem?_eq_some_iff.1 hb).1
            have hb2 := (hT9.one.apart xb _ (List.mem_cons_of_mem _ List.mem_cons_self)).2
            have z0 := cell_of_row w9 xb 0 _ 31 (0, 0) hb2
            have z1 := cell_of_row w9 xb 1 _ 31 (0, 0) hb2
            have z2 := cell_of_row w9 xb 2 _ 31 (0, 0) hb2
            have hsx := (Array.getElem?_eq_some_iff.1 hb2).1
            simp at x0 x1 x2 z0 z1 z2
            have HT9 := Lib.hid (hT9.sub (B := [(xb, .cells #[.int .i64 7, .int .i64 0, .string thisB] 31 (0, 0))]) (fun e he => List.mem_cons_of_mem _ he))
            clear hNL HT8 hT9 hb hb2
            go_wp2
            go_roundw
            case rel => exact ⟨k + 1, F8, G9, _, _, by go_num, by omega, HT9.out.quiet ((Only.refl _ w9).alloc _), HS.out⟩
            case measure => simp [intOf]; omega
      · have hN0 : N.L = [] := List.eq_nil_of_length_eq_zero (by have := hA.len; omega)
        have HN0 := Lib.hid hN0
        have HM0 := Lib.hid (hA.done hN0)
        have HE := Lib.hid hT
        clear hN0 hA hT
        go_wp2_with fail
        refine (waiting_is G q _ _ 0 HE.out.two.net (by rw [HM0.out]; rfl)).mono ?_
        rintro e w' ⟨rfl, rfl⟩
        go_wp2_with fail
        refine (waiting_is F p _ _ 0 HE.out.one.net (by rw [HN0.out]; rfl)).mono ?_
        rintro e w' ⟨rfl, rfl⟩
        go_wp2
        go_ret
        exact ⟨rfl, (HOW.out.trans HE.out.one.only).below (Nat.le_refl _) (fun _ _ h => h)⟩

theorem alone_walk (lv tv : Value) (l : List Tr) (ts : List Int) (now : Int) (w : World) (h : TrsAt w lv l) (hwf : TrsWf l) (ht : U16sAt w tv ts) (htw : U16sWf ts) (hn : 0 ≤ now ∧ now ≤ 65535) :
    Calls Try.prog 5 #[lv, tv, .int .u16 now] w fun e w' => e = .returned (.bool true) ∧ Below w.heap.size w w' := by
  rcases ht with ⟨a, c, rfl, rfl⟩ | ⟨gb, off, c, rfl, h1, h2, h3, h4, h5⟩
  · exact alone_nil lv l a c now w h hwf hn.1 hn.2
  · unfold maxLen at h4
    by_cases hK : ts.length ≤ 30
    · exact alone_le lv l gb off c ts now w h hwf h1 h2 h3 (by omega) h5 htw hK hn.1 hn.2
    · exact alone_gt lv l gb off c ts now w h hwf h1 h2 h3 (by omega) h5 htw (by omega) hn.1 hn.2
end Go.Proofs.Yteblaedfjifdhaa
