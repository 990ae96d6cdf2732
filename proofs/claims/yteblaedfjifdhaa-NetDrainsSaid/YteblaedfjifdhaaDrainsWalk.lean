/-
  The walk of the law NetDrains, as gen_drains.py prints it.
-/
import Derived.Test.YteblaedfjifdhaaDrains
namespace Go.Proofs.Yteblaedfjifdhaa
open Go.RowKit

set_option maxHeartbeats 2000000 in
set_option maxRecDepth 100000 in
theorem drains_walk (lv tv : Value) (l : List Tr) (ts : List Int) (w : World) (h : TrsAt w lv l) (hwf : TrsWf l) (ht : U16sAt w tv ts) (htw : U16sWf ts) :
    Calls Try.prog 4 #[lv, tv] w fun e w' => e = .returned (.bool true) ∧ Below w.heap.size w w' := by
  have htl : ∃ a c, tv = .slice a ts.length c ∧ ts.length ≤ maxLen := by
    rcases ht with ⟨a, c, rfl, rfl⟩ | ⟨gb, off, c, rfl, _, _, h1, h2, _⟩
    · exact ⟨a, c, rfl, Nat.zero_le _⟩
    · exact ⟨_, _, rfl, Nat.le_trans h1 h2⟩
  obtain ⟨ta, tc, rfl, htm⟩ := htl
  unfold maxLen at htm
  have HT := Lib.hid h
  have HF := Lib.hid hwf
  have HU := Lib.hid ht
  have HUW := Lib.hid htw
  clear h hwf ht htw
  go_enter Try.func4, Try.ntmps4
  go_wp2_with fail
  refine (sanity_any _).mono ?_
  rintro e w1 ⟨rfl, hO1⟩
  have HO1 := Lib.hid hO1
  clear hO1
  go_wp2_with fail
  refine (script_any _ lv l (HT.out.frame HO1.out) HF.out).mono ?_
  rintro e w2 ⟨a, c, rfl, hrow, hO2⟩
  have hsl := scriptOf_length l
  have HR := Lib.hid hrow
  have HO2 := Lib.hid (HO1.out.trans hO2)
  clear hO2 HO1 HT HF hrow
  go_wp2_with fail
  refine (new_any _ 1 _ (scriptOf l) (SrcAt.of_own HR.out) (Nat.le_trans hsl (by decide))).mono ?_
  rintro e w3 ⟨p, F, rfl, n1, n2, n3⟩
  have hO := Own.of_new n1 (good_new _ _) n2 n3
  have HSM := Lib.hid (fun k => drN_may l ts k HUW.out)
  clear n1 n2 n3
  generalize scriptOf l = s at *
  rcases own_parts HR.out with ⟨rfl, hs0⟩ | ⟨g, cur, rfl, _, hg, hsc, hcm, hcur⟩
  · have hs0' : s.length ≤ 0 := by omega
    have HS0 := Lib.hid hs0
    have HO := Lib.hid (show Own w2 w3 F p (drN s ts 0) [] from hO)
    clear hO HR hs0
    go_wp2_with fail
    go_loopw [8, 9] (fun vm v wr => ∃ (k : Nat) (F : Nat → Prop), vm = .int .i64 (drM s k) ∧ v = .int .i64 k ∧ k ≤ ts.length ∧ k ≤ 40 ∧ Own w2 wr F p (drN s ts k) []) (fun _ v _ => 40 - (intOf v).toNat)
    case atStart => exact ⟨0, F, rfl, rfl, Nat.zero_le _, Nat.zero_le _, HO.out⟩
    case round =>
      clear HO F
      obtain ⟨k, F, rfl, rfl, hk, hk40, hO⟩ := hrel
      by_cases hlt : k < ts.length
      · by_cases hlt2 : k < 40
        · rcases HU.out with ⟨_, _, _, hts⟩ | ⟨gb, off, c1, hgv, hgl, _, _, _, hcs⟩
          · rw [hts] at hlt; simp at hlt
          · simp only [Value.slice.injEq, true_and] at hgv
            obtain ⟨rfl, rfl⟩ := hgv
            have hOo := HO2.out.trans hO.only
            have x0 := hOo.cell (hcs k hlt) (fun h => h)
            have hm := HSM.out k
            have hmb := drM_bd s k
            obtain ⟨mb1, mb2⟩ := hmb
            obtain ⟨t0, t1⟩ := HUW.out k
            have hfx := (drN_fix s ts k).2.2.2
            have HFX := Lib.hid hfx
            have HD := Lib.hid (show drN s ts (k + 1) = sendN (drN s ts k) (tat ts k) k 0 ByteArray.empty from rfl)
            clear hcs hOo hfx
            generalize tat ts k = tk at *
            go_wp2_with fail
            refine (send_any F p _ tk k 0 ByteArray.empty _ hO.net hO.good (by rw [HFX.out]; omega) hm (WalkArith.wf_i64 (by omega)) (by decide)).mono ?_
            rintro e w4 ⟨rfl, hNL⟩
            rw [← HD.out] at hNL
            obtain ⟨F', hO'⟩ := hO.step hNL (drN_good s ts _)
            clear x0 hNL hm hO
            go_wp2
            go_roundw
            case rel => exact ⟨k + 1, F', by rw [drM, cnt_nil HS0.out k]; try go_num, by go_num, by omega, by omega, hO'⟩
            case measure => simp [intOf]; omega
        · have hd : decide ((k : Int) < 40) = false := by simp; omega
          clear hlt2
          obtain ⟨K, rfl⟩ : ∃ K : Nat, K = k := ⟨k, rfl⟩
          have HLK := Lib.hid (show Left K ts (drM s K) 0 (-1) (-1) (drN s ts K) from ⟨by rw [drN_len]; simp, drN_good s ts K, drN_mem s ts K, fun y hy => .inl (by have h1 := (drN_mem s ts K y hy).2.2.2; have h2 := (HUW.out y.nm.toNat).1; omega)⟩)
          have hbd := drM_bd s K
          obtain ⟨bd1, bd2⟩ := hbd
          have HLN := Lib.hid (drN_len s ts K)
          have HKT := Lib.hid (show K ≤ ts.length from hk)
          go_wp2_with fail
          refine (waiting_is F p _ _ (drM s K) hO.net HLN.out).mono ?_
          rintro e w' ⟨rfl, rfl⟩
          generalize drM s K = many at *
          have HO := Lib.hid hO
          clear hO
          go_wp2_with fail
          go_loopw [11, 12, 13] (fun v1 v2 v wr => ∃ (k : Nat) (la fi : Int) (F : Nat → Prop) (N : NS), v1 = .int .i64 la ∧ v2 = .int .i64 fi ∧ v = .int .i64 k ∧ k ≤ many ∧ Own w2 wr F p N [] ∧ Left K ts many k la fi N) (fun _ _ v _ => (many - intOf v).toNat)
          case atStart => exact ⟨0, -1, -1, F, _, rfl, rfl, rfl, bd1, HO.out, HLK.out⟩
          case round =>
            clear HO HLK F
            obtain ⟨k, la, fi, F, N, rfl, rfl, rfl, hkm, hO, hLf⟩ := hrel
            by_cases hlt : (k : Int) < many
            · obtain ⟨y, M, hL⟩ : ∃ y M, N.L = y :: M := by
                cases hN : N.L with
                | nil => have := hLf.len; rw [hN] at this; simp at this; omega
                | cons y M => exact ⟨y, M, rfl⟩
              have hym : y ∈ N.L := by rw [hL]; exact List.mem_cons_self
              obtain ⟨y1, y2, y3, y4⟩ := hLf.all y hym
              have y5 := hLf.behind y hym
              have HN := Lib.hid (hLf.next hL)
              have HL := Lib.hid hL
              have HG := Lib.hid hLf.good
              clear hL hym hLf
              obtain ⟨fr, to, tx, tm, nm⟩ := y
              dsimp only at y1 y2 y3 y4 y5
              subst y1
              obtain ⟨j, rfl⟩ := Int.eq_ofNat_of_zero_le y2
              rw [Int.toNat_natCast] at y4
              have hjt : j < ts.length := by have := HKT.out; omega
              have hj0 := HUW.out j
              obtain ⟨j0, j1⟩ := hj0
              rcases HU.out with ⟨_, _, _, hts⟩ | ⟨gb, off, c1, hgv, hgl, _, _, _, hcs⟩
              · rw [hts] at hjt; simp at hjt
              · simp only [Value.slice.injEq, true_and] at hgv
                obtain ⟨rfl, rfl⟩ := hgv
                have hcj := hcs j hjt
                clear hcs
                generalize tat ts j = tj at *
                go_wp2_with fail
                refine (next_cons F p _ _ hO.net HG.out _ _ HL.out).mono ?_
                rintro e w4 ⟨rfl, hNL⟩
                obtain ⟨F', hO'⟩ := hO.step hNL (good_next HG.out)
                have hOo := HO2.out.trans hO'.only
                have x0 := hOo.cell hcj (fun h => h)
                have hglr : gb < w4.heap.size := Nat.lt_of_lt_of_le hgl hOo.size
                clear hNL hO hcj hOo
                by_cases hla : la < tm
                · have hq : (tm == la) = false := beq_eq_false_iff_ne.2 (by omega)
                  clear y5
                  go_wp2_with fail
                  go_quiet (fail)
                  go_wp2
                  go_roundw
                  case rel => exact ⟨k + 1, tm, _, F', _, rfl, rfl, by go_num, by omega, hO'.quiet (((Only.refl _ w4).alloc _).drewN _), HN.out⟩
                  case measure => simp [intOf]; omega
                · obtain rfl : la = tm := by omega
                  have hfi : fi ≤ (j : Int) := by omega
                  clear y5
                  go_wp2_with fail
                  go_quiet (fail)
                  go_wp2
                  go_roundw
                  case rel => exact ⟨k + 1, la, _, F', _, rfl, rfl, by go_num, by omega, hO'.quiet (((Only.refl _ w4).alloc _).drewN _), HN.out⟩
                  case measure => simp [intOf]; omega
            · have hL0 : N.L = [] := by
                have := hLf.len
                exact List.eq_nil_of_length_eq_zero (by omega)
              have HL := Lib.hid hL0
              have HG := Lib.hid hLf.good
              clear hL0 hLf
              go_wp2_with fail
              refine (next_nil F p _ _ hO.net HL.out).mono ?_
              rintro e w4 ⟨rfl, hNL⟩
              obtain ⟨F', hO'⟩ := hO.step hNL HG.out
              clear hNL hO
              go_wp2_with fail
              refine (waiting_is F' p _ _ 0 (hO'.quiet ((Only.refl _ w4).alloc _)).net (by rw [HL.out]; rfl)).mono ?_
              rintro e w' ⟨rfl, rfl⟩
              go_wp2
              go_ret
              exact ⟨rfl, ((HO2.out.trans hO'.only).alloc _).below (Nat.le_refl _) (fun _ _ h => h)⟩
      · skip
        obtain ⟨K, rfl⟩ : ∃ K : Nat, K = k := ⟨k, rfl⟩
        have HLK := Lib.hid (show Left K ts (drM s K) 0 (-1) (-1) (drN s ts K) from ⟨by rw [drN_len]; simp, drN_good s ts K, drN_mem s ts K, fun y hy => .inl (by have h1 := (drN_mem s ts K y hy).2.2.2; have h2 := (HUW.out y.nm.toNat).1; omega)⟩)
        have hbd := drM_bd s K
        obtain ⟨bd1, bd2⟩ := hbd
        have HLN := Lib.hid (drN_len s ts K)
        have HKT := Lib.hid (show K ≤ ts.length from hk)
        go_wp2_with fail
        refine (waiting_is F p _ _ (drM s K) hO.net HLN.out).mono ?_
        rintro e w' ⟨rfl, rfl⟩
        generalize drM s K = many at *
        have HO := Lib.hid hO
        clear hO
        go_wp2_with fail
        go_loopw [11, 12, 13] (fun v1 v2 v wr => ∃ (k : Nat) (la fi : Int) (F : Nat → Prop) (N : NS), v1 = .int .i64 la ∧ v2 = .int .i64 fi ∧ v = .int .i64 k ∧ k ≤ many ∧ Own w2 wr F p N [] ∧ Left K ts many k la fi N) (fun _ _ v _ => (many - intOf v).toNat)
        case atStart => exact ⟨0, -1, -1, F, _, rfl, rfl, rfl, bd1, HO.out, HLK.out⟩
        case round =>
          clear HO HLK F
          obtain ⟨k, la, fi, F, N, rfl, rfl, rfl, hkm, hO, hLf⟩ := hrel
          by_cases hlt : (k : Int) < many
          · obtain ⟨y, M, hL⟩ : ∃ y M, N.L = y :: M := by
              cases hN : N.L with
              | nil => have := hLf.len; rw [hN] at this; simp at this; omega
              | cons y M => exact ⟨y, M, rfl⟩
            have hym : y ∈ N.L := by rw [hL]; exact List.mem_cons_self
            obtain ⟨y1, y2, y3, y4⟩ := hLf.all y hym
            have y5 := hLf.behind y hym
            have HN := Lib.hid (hLf.next hL)
            have HL := Lib.hid hL
            have HG := Lib.hid hLf.good
            clear hL hym hLf
            obtain ⟨fr, to, tx, tm, nm⟩ := y
            dsimp only at y1 y2 y3 y4 y5
            subst y1
            obtain ⟨j, rfl⟩ := Int.eq_ofNat_of_zero_le y2
            rw [Int.toNat_natCast] at y4
            have hjt : j < ts.length := by have := HKT.out; omega
            have hj0 := HUW.out j
            obtain ⟨j0, j1⟩ := hj0
            rcases HU.out with ⟨_, _, _, hts⟩ | ⟨gb, off, c1, hgv, hgl, _, _, _, hcs⟩
            · rw [hts] at hjt; simp at hjt
            · simp only [Value.slice.injEq, true_and] at hgv
              obtain ⟨rfl, rfl⟩ := hgv
              have hcj := hcs j hjt
              clear hcs
              generalize tat ts j = tj at *
              go_wp2_with fail
              refine (next_cons F p _ _ hO.net HG.out _ _ HL.out).mono ?_
              rintro e w4 ⟨rfl, hNL⟩
              obtain ⟨F', hO'⟩ := hO.step hNL (good_next HG.out)
              have hOo := HO2.out.trans hO'.only
              have x0 := hOo.cell hcj (fun h => h)
              have hglr : gb < w4.heap.size := Nat.lt_of_lt_of_le hgl hOo.size
              clear hNL hO hcj hOo
              by_cases hla : la < tm
              · have hq : (tm == la) = false := beq_eq_false_iff_ne.2 (by omega)
                clear y5
                go_wp2_with fail
                go_quiet (fail)
                go_wp2
                go_roundw
                case rel => exact ⟨k + 1, tm, _, F', _, rfl, rfl, by go_num, by omega, hO'.quiet (((Only.refl _ w4).alloc _).drewN _), HN.out⟩
                case measure => simp [intOf]; omega
              · obtain rfl : la = tm := by omega
                have hfi : fi ≤ (j : Int) := by omega
                clear y5
                go_wp2_with fail
                go_quiet (fail)
                go_wp2
                go_roundw
                case rel => exact ⟨k + 1, la, _, F', _, rfl, rfl, by go_num, by omega, hO'.quiet (((Only.refl _ w4).alloc _).drewN _), HN.out⟩
                case measure => simp [intOf]; omega
          · have hL0 : N.L = [] := by
              have := hLf.len
              exact List.eq_nil_of_length_eq_zero (by omega)
            have HL := Lib.hid hL0
            have HG := Lib.hid hLf.good
            clear hL0 hLf
            go_wp2_with fail
            refine (next_nil F p _ _ hO.net HL.out).mono ?_
            rintro e w4 ⟨rfl, hNL⟩
            obtain ⟨F', hO'⟩ := hO.step hNL HG.out
            clear hNL hO
            go_wp2_with fail
            refine (waiting_is F' p _ _ 0 (hO'.quiet ((Only.refl _ w4).alloc _)).net (by rw [HL.out]; rfl)).mono ?_
            rintro e w' ⟨rfl, rfl⟩
            go_wp2
            go_ret
            exact ⟨rfl, ((HO2.out.trans hO'.only).alloc _).below (Nat.le_refl _) (fun _ _ h => h)⟩
  · have hO' := hO.keep g _ hg
    have HO := Lib.hid (show Own w2 w3 F p (drN s ts 0) [(g, .cells cur 44 (0, 0))] from hO')
    have HCU := Lib.hid hcur
    unfold maxLen at hcm
    clear hO hO' HR hg hcur
    go_wp2_with fail
    go_loopw [8, 9] (fun vm v wr => ∃ (k : Nat) (F : Nat → Prop), vm = .int .i64 (drM s k) ∧ v = .int .i64 k ∧ k ≤ ts.length ∧ k ≤ 40 ∧ Own w2 wr F p (drN s ts k) [(g, .cells cur 44 (0, 0))]) (fun _ v _ => 40 - (intOf v).toNat)
    case atStart => exact ⟨0, F, rfl, rfl, Nat.zero_le _, Nat.zero_le _, HO.out⟩
    case round =>
      clear HO F
      obtain ⟨k, F, rfl, rfl, hk, hk40, hO⟩ := hrel
      by_cases hlt : k < ts.length
      · by_cases hlt2 : k < 40
        · rcases HU.out with ⟨_, _, _, hts⟩ | ⟨gb, off, c1, hgv, hgl, _, _, _, hcs⟩
          · rw [hts] at hlt; simp at hlt
          · simp only [Value.slice.injEq, true_and] at hgv
            obtain ⟨rfl, rfl⟩ := hgv
            have hOo := HO2.out.trans hO.only
            have x0 := hOo.cell (hcs k hlt) (fun h => h)
            have hm := HSM.out k
            have hmb := drM_bd s k
            obtain ⟨mb1, mb2⟩ := hmb
            obtain ⟨t0, t1⟩ := HUW.out k
            have hfx := (drN_fix s ts k).2.2.2
            have HFX := Lib.hid hfx
            have HD := Lib.hid (show drN s ts (k + 1) = sendN (drN s ts k) (tat ts k) k 0 ByteArray.empty from rfl)
            clear hcs hOo hfx
            generalize tat ts k = tk at *
            go_wp2_with fail
            refine (send_any F p _ tk k 0 ByteArray.empty _ hO.net hO.good (by rw [HFX.out]; omega) hm (WalkArith.wf_i64 (by omega)) (by decide)).mono ?_
            rintro e w4 ⟨rfl, hNL⟩
            rw [← HD.out] at hNL
            obtain ⟨F', hO'⟩ := hO.step hNL (drN_good s ts _)
            clear x0 hNL hm hO
            by_cases hsp : 0 < s.length
            · have hgb := (hO'.apart g _ List.mem_cons_self).2
              have hmod : k % s.length < s.length := Nat.mod_lt _ hsp
              obtain ⟨u0, u1⟩ := HCU.out (k % s.length) hmod
              have z0 := (cell_of_row w4 g (k % s.length * 3) cur 44 (0, 0) hgb).trans u0
              have z1 := (cell_of_row w4 g (k % s.length * 3 + 1) cur 44 (0, 0) hgb).trans u1
              clear hgb u0 u1
              cases hl : (tel s (k % s.length)).lost
              · have HCN := Lib.hid (cnt_kept hsp k hl)
                rw [hl] at z0
                clear hl
                go_wp2
                all_goals
                  go_roundw
                  case rel => exact ⟨k + 1, F', by rw [drM, HCN.out]; apply val_int; omega, by go_num, by omega, by omega, hO'⟩
                  case measure => simp [intOf]; omega
              · have HCN := Lib.hid (cnt_lost hsp k hl)
                rw [hl] at z0
                clear hl
                go_wp2
                all_goals
                  go_roundw
                  case rel => exact ⟨k + 1, F', by rw [drM, HCN.out]; apply val_int; omega, by go_num, by omega, by omega, hO'⟩
                  case measure => simp [intOf]; omega
            · have HS0 := Lib.hid (show s.length = 0 by omega)
              go_wp2
              go_roundw
              case rel => exact ⟨k + 1, F', by rw [drM, cnt_nil HS0.out k]; try go_num, by go_num, by omega, by omega, hO'⟩
              case measure => simp [intOf]; omega
        · have hd : decide ((k : Int) < 40) = false := by simp; omega
          clear hlt2
          obtain ⟨K, rfl⟩ : ∃ K : Nat, K = k := ⟨k, rfl⟩
          have HLK := Lib.hid (show Left K ts (drM s K) 0 (-1) (-1) (drN s ts K) from ⟨by rw [drN_len]; simp, drN_good s ts K, drN_mem s ts K, fun y hy => .inl (by have h1 := (drN_mem s ts K y hy).2.2.2; have h2 := (HUW.out y.nm.toNat).1; omega)⟩)
          have hbd := drM_bd s K
          obtain ⟨bd1, bd2⟩ := hbd
          have HLN := Lib.hid (drN_len s ts K)
          have HKT := Lib.hid (show K ≤ ts.length from hk)
          go_wp2_with fail
          refine (waiting_is F p _ _ (drM s K) hO.net HLN.out).mono ?_
          rintro e w' ⟨rfl, rfl⟩
          generalize drM s K = many at *
          have HO := Lib.hid hO
          clear hO
          go_wp2_with fail
          go_loopw [11, 12, 13] (fun v1 v2 v wr => ∃ (k : Nat) (la fi : Int) (F : Nat → Prop) (N : NS), v1 = .int .i64 la ∧ v2 = .int .i64 fi ∧ v = .int .i64 k ∧ k ≤ many ∧ Own w2 wr F p N [(g, .cells cur 44 (0, 0))] ∧ Left K ts many k la fi N) (fun _ _ v _ => (many - intOf v).toNat)
          case atStart => exact ⟨0, -1, -1, F, _, rfl, rfl, rfl, bd1, HO.out, HLK.out⟩
          case round =>
            clear HO HLK F
            obtain ⟨k, la, fi, F, N, rfl, rfl, rfl, hkm, hO, hLf⟩ := hrel
            by_cases hlt : (k : Int) < many
            · obtain ⟨y, M, hL⟩ : ∃ y M, N.L = y :: M := by
                cases hN : N.L with
                | nil => have := hLf.len; rw [hN] at this; simp at this; omega
                | cons y M => exact ⟨y, M, rfl⟩
              have hym : y ∈ N.L := by rw [hL]; exact List.mem_cons_self
              obtain ⟨y1, y2, y3, y4⟩ := hLf.all y hym
              have y5 := hLf.behind y hym
              have HN := Lib.hid (hLf.next hL)
              have HL := Lib.hid hL
              have HG := Lib.hid hLf.good
              clear hL hym hLf
              obtain ⟨fr, to, tx, tm, nm⟩ := y
              dsimp only at y1 y2 y3 y4 y5
              subst y1
              obtain ⟨j, rfl⟩ := Int.eq_ofNat_of_zero_le y2
              rw [Int.toNat_natCast] at y4
              have hjt : j < ts.length := by have := HKT.out; omega
              have hj0 := HUW.out j
              obtain ⟨j0, j1⟩ := hj0
              rcases HU.out with ⟨_, _, _, hts⟩ | ⟨gb, off, c1, hgv, hgl, _, _, _, hcs⟩
              · rw [hts] at hjt; simp at hjt
              · simp only [Value.slice.injEq, true_and] at hgv
                obtain ⟨rfl, rfl⟩ := hgv
                have hcj := hcs j hjt
                clear hcs
                generalize tat ts j = tj at *
                go_wp2_with fail
                refine (next_cons F p _ _ hO.net HG.out _ _ HL.out).mono ?_
                rintro e w4 ⟨rfl, hNL⟩
                obtain ⟨F', hO'⟩ := hO.step hNL (good_next HG.out)
                have hOo := HO2.out.trans hO'.only
                have x0 := hOo.cell hcj (fun h => h)
                have hglr : gb < w4.heap.size := Nat.lt_of_lt_of_le hgl hOo.size
                clear hNL hO hcj hOo
                by_cases hla : la < tm
                · have hq : (tm == la) = false := beq_eq_false_iff_ne.2 (by omega)
                  clear y5
                  go_wp2_with fail
                  go_quiet (fail)
                  go_wp2
                  go_roundw
                  case rel => exact ⟨k + 1, tm, _, F', _, rfl, rfl, by go_num, by omega, hO'.quiet (((Only.refl _ w4).alloc _).drewN _), HN.out⟩
                  case measure => simp [intOf]; omega
                · obtain rfl : la = tm := by omega
                  have hfi : fi ≤ (j : Int) := by omega
                  clear y5
                  go_wp2_with fail
                  go_quiet (fail)
                  go_wp2
                  go_roundw
                  case rel => exact ⟨k + 1, la, _, F', _, rfl, rfl, by go_num, by omega, hO'.quiet (((Only.refl _ w4).alloc _).drewN _), HN.out⟩
                  case measure => simp [intOf]; omega
            · have hL0 : N.L = [] := by
                have := hLf.len
                exact List.eq_nil_of_length_eq_zero (by omega)
              have HL := Lib.hid hL0
              have HG := Lib.hid hLf.good
              clear hL0 hLf
              go_wp2_with fail
              refine (next_nil F p _ _ hO.net HL.out).mono ?_
              rintro e w4 ⟨rfl, hNL⟩
              obtain ⟨F', hO'⟩ := hO.step hNL HG.out
              clear hNL hO
              go_wp2_with fail
              refine (waiting_is F' p _ _ 0 (hO'.quiet ((Only.refl _ w4).alloc _)).net (by rw [HL.out]; rfl)).mono ?_
              rintro e w' ⟨rfl, rfl⟩
              go_wp2
              go_ret
              exact ⟨rfl, ((HO2.out.trans hO'.only).alloc _).below (Nat.le_refl _) (fun _ _ h => h)⟩
      · skip
        obtain ⟨K, rfl⟩ : ∃ K : Nat, K = k := ⟨k, rfl⟩
        have HLK := Lib.hid (show Left K ts (drM s K) 0 (-1) (-1) (drN s ts K) from ⟨by rw [drN_len]; simp, drN_good s ts K, drN_mem s ts K, fun y hy => .inl (by have h1 := (drN_mem s ts K y hy).2.2.2; have h2 := (HUW.out y.nm.toNat).1; omega)⟩)
        have hbd := drM_bd s K
        obtain ⟨bd1, bd2⟩ := hbd
        have HLN := Lib.hid (drN_len s ts K)
        have HKT := Lib.hid (show K ≤ ts.length from hk)
        go_wp2_with fail
        refine (waiting_is F p _ _ (drM s K) hO.net HLN.out).mono ?_
        rintro e w' ⟨rfl, rfl⟩
        generalize drM s K = many at *
        have HO := Lib.hid hO
        clear hO
        go_wp2_with fail
        go_loopw [11, 12, 13] (fun v1 v2 v wr => ∃ (k : Nat) (la fi : Int) (F : Nat → Prop) (N : NS), v1 = .int .i64 la ∧ v2 = .int .i64 fi ∧ v = .int .i64 k ∧ k ≤ many ∧ Own w2 wr F p N [(g, .cells cur 44 (0, 0))] ∧ Left K ts many k la fi N) (fun _ _ v _ => (many - intOf v).toNat)
        case atStart => exact ⟨0, -1, -1, F, _, rfl, rfl, rfl, bd1, HO.out, HLK.out⟩
        case round =>
          clear HO HLK F
          obtain ⟨k, la, fi, F, N, rfl, rfl, rfl, hkm, hO, hLf⟩ := hrel
          by_cases hlt : (k : Int) < many
          · obtain ⟨y, M, hL⟩ : ∃ y M, N.L = y :: M := by
              cases hN : N.L with
              | nil => have := hLf.len; rw [hN] at this; simp at this; omega
              | cons y M => exact ⟨y, M, rfl⟩
            have hym : y ∈ N.L := by rw [hL]; exact List.mem_cons_self
            obtain ⟨y1, y2, y3, y4⟩ := hLf.all y hym
            have y5 := hLf.behind y hym
            have HN := Lib.hid (hLf.next hL)
            have HL := Lib.hid hL
            have HG := Lib.hid hLf.good
            clear hL hym hLf
            obtain ⟨fr, to, tx, tm, nm⟩ := y
            dsimp only at y1 y2 y3 y4 y5
            subst y1
            obtain ⟨j, rfl⟩ := Int.eq_ofNat_of_zero_le y2
            rw [Int.toNat_natCast] at y4
            have hjt : j < ts.length := by have := HKT.out; omega
            have hj0 := HUW.out j
            obtain ⟨j0, j1⟩ := hj0
            rcases HU.out with ⟨_, _, _, hts⟩ | ⟨gb, off, c1, hgv, hgl, _, _, _, hcs⟩
            · rw [hts] at hjt; simp at hjt
            · simp only [Value.slice.injEq, true_and] at hgv
              obtain ⟨rfl, rfl⟩ := hgv
              have hcj := hcs j hjt
              clear hcs
              generalize tat ts j = tj at *
              go_wp2_with fail
              refine (next_cons F p _ _ hO.net HG.out _ _ HL.out).mono ?_
              rintro e w4 ⟨rfl, hNL⟩
              obtain ⟨F', hO'⟩ := hO.step hNL (good_next HG.out)
              have hOo := HO2.out.trans hO'.only
              have x0 := hOo.cell hcj (fun h => h)
              have hglr : gb < w4.heap.size := Nat.lt_of_lt_of_le hgl hOo.size
              clear hNL hO hcj hOo
              by_cases hla : la < tm
              · have hq : (tm == la) = false := beq_eq_false_iff_ne.2 (by omega)
                clear y5
                go_wp2_with fail
                go_quiet (fail)
                go_wp2
                go_roundw
                case rel => exact ⟨k + 1, tm, _, F', _, rfl, rfl, by go_num, by omega, hO'.quiet (((Only.refl _ w4).alloc _).drewN _), HN.out⟩
                case measure => simp [intOf]; omega
              · obtain rfl : la = tm := by omega
                have hfi : fi ≤ (j : Int) := by omega
                clear y5
                go_wp2_with fail
                go_quiet (fail)
                go_wp2
                go_roundw
                case rel => exact ⟨k + 1, la, _, F', _, rfl, rfl, by go_num, by omega, hO'.quiet (((Only.refl _ w4).alloc _).drewN _), HN.out⟩
                case measure => simp [intOf]; omega
          · have hL0 : N.L = [] := by
              have := hLf.len
              exact List.eq_nil_of_length_eq_zero (by omega)
            have HL := Lib.hid hL0
            have HG := Lib.hid hLf.good
            clear hL0 hLf
            go_wp2_with fail
            refine (next_nil F p _ _ hO.net HL.out).mono ?_
            rintro e w4 ⟨rfl, hNL⟩
            obtain ⟨F', hO'⟩ := hO.step hNL HG.out
            clear hNL hO
            go_wp2_with fail
            refine (waiting_is F' p _ _ 0 (hO'.quiet ((Only.refl _ w4).alloc _)).net (by rw [HL.out]; rfl)).mono ?_
            rintro e w' ⟨rfl, rfl⟩
            go_wp2
            go_ret
            exact ⟨rfl, ((HO2.out.trans hO'.only).alloc _).below (Nat.le_refl _) (fun _ _ h => h)⟩
end Go.Proofs.Yteblaedfjifdhaa
