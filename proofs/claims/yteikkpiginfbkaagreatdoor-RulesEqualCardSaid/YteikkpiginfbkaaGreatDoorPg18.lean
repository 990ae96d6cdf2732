/-
  Rules: the line bar.
  Rules: the table of what reads a line.
  Rules: the program's parts.
  Rules, plain: a text line by line.
  Rules: the program's reader of a text.
  Rules: the program's Parse.
  Rules: the program's Parse.
  Rules: which draws are right (plain); the program's inRange and owns.
  Rules: the program's owns.
  Rules, plain: a text cut at a byte; numerals and their numbers; the lines of a draw.
  Rules, plain: what is read is right, and its text is the text that was read.
  Rules, plain: the text of a right draw is read as this draw; the length of such a text; Print.
  Rules, the reference's numbers: Parse; numeral and amount.
  Rules: slices.ContainsFunc over tiers, places, quotas with the closures of rightLists.
  Rules: the program's rightLists.
-/
import Derived.Test.YteikkpiginfbkaaGreatDoorPg16
import Derived.Test.YteikkpiginfbkaaGreatDoorPg09
import Derived.Maps.OwnSet
import Derived.StringKeys
import Derived.Lib.IndexLaws
import Derived.Lib.IndexBytes
import Derived.Deep.LoopGhost
import Derived.Deep.RegionHeld3
import Derived.Defers
import Derived.Deep.RegionHeld
import Derived.Recover
import Derived.Deep.DeepCutAuto
import Derived.Deep.CutBlock
import Derived.Test.YteikkpiginfbkaaGreatDoorPg15
namespace Go.Proofs.YteikkpiginfbkaaGreatDoor
open Go.RowKit

theorem Tryz.infoBi : (Tryz.prog.info? 3).map (fun i => (i.zero, i.size, i.bytes)) = some (some (.int .i64 0), 1, 8) := by kernel_rfl
theorem contains_any (base c : Nat) (a : Option Addr) (zs : List Int) (x : Int) (bb : Bool) (w : World) (h : w.ownsRow base 3 1 (.slice a zs.length c) zs.length (irow zs)) (hb : hasBar zs x = bb) :
    Calls Tryz.prog 91 #[.slice a zs.length c, .int .i64 x] w fun e w' => e = .returned (.bool bb) ∧ w = w' := by
  have hc : zs.contains x = bb := by
    rw [← hb]
    unfold hasBar
    rw [List.contains_eq_any_beq]
    congr 1
    funext u
    rw [Bool.eq_iff_iff, beq_iff_eq, beq_iff_eq]
    exact eq_comm
  rcases h.2 with ⟨hv, h0⟩ | ⟨g, cap, cur, hv, _, hg, h1, h2, h3, h4⟩
  · have hz : zs = [] := List.length_eq_zero_iff.1 h0
    subst hz
    refine (Tryz.slices_Contains_int_empty a c x w).mono ?_
    rintro e w' ⟨rfl, rfl⟩
    refine ⟨?_, rfl⟩
    rw [← hc]; rfl
  · simp only [Value.slice.injEq, true_and] at hv
    obtain ⟨rfl, rfl⟩ := hv
    refine (Tryz.slices_Contains_int g 0 zs.length c zs x w (Nat.le_refl _) (by unfold maxLen at h2; omega) (fun j hj => ?_)).mono ?_
    · have hu : (irow zs)[j]? = some (.int .i64 (zs.getD j 0)) := by unfold irow; simp [List.getD, hj]
      obtain ⟨g', cap', hv', _, _, _, hcell⟩ := own_cell h hu
      simp only [Value.slice.injEq, Option.some.injEq, Addr.mk.injEq, and_true, true_and] at hv'
      obtain ⟨rfl, rfl⟩ := hv'
      rw [Nat.zero_add]; exact hcell
    rintro e w' ⟨rfl, rfl⟩
    refine ⟨?_, rfl⟩
    rw [List.take_length, hc]
theorem RdAt.barBack {base B : Nat} {w w1 : World} {t : St} {pos : Int} {vt vp vq vb v : Value} {x : Int} (h : RdAt base w B t pos vt vp vq vb) (hg : w.grownBy w1 vb.ownBlock)
    (ho : w1.ownsRow base 3 1 v (t.d.barred.length + 1) (irow t.d.barred ++ [.int .i64 x])) :
    RdAt base ((w1.setCell ⟨B, 12, none⟩ v).setCell ⟨B, 16, none⟩ (.bool true)) B { t with d := { t.d with barred := t.d.barred ++ [x] }, barred := true } pos vt vp vq v := by
  have hO := (Only.refl (fun k => vb.ownBlock = some k) w).grown hg (fun k e _ => e)
  have hb : w1.heap[B]? = _ := (hO.block B h.lt (ownR_blk h.bars h.blk (by decide))).trans h.blk
  have hv : w1.ownsRow base 3 1 v (t.d.barred ++ [x]).length (irow (t.d.barred ++ [x])) := by rw [irow_app, List.length_append]; exact ho
  have h1 : RdAt base (w1.setCell ⟨B, 12, none⟩ v) B { t with d := { t.d with barred := t.d.barred ++ [x] } } pos vt vp vq v := ⟨heap_setCell_same w1 B 12 _ _ v hb,
    set_own (hO.owns h.tiers (fun g hg e => ownR_ne h.tiers h.bars (by decide) g hg e)) (by have := ownR_blk h.tiers h.blk (by decide); exact this),
    set_own (hO.owns h.places (fun g hg e => ownR_ne h.places h.bars (by decide) g hg e)) (by have := ownR_blk h.places h.blk (by decide); exact this),
    set_own (hO.owns h.quotas (fun g hg e => ownR_ne h.quotas h.bars (by decide) g hg e)) (by have := ownR_blk h.quotas h.blk (by decide); exact this), set_own hv (ownR_blk hv hb (by decide))⟩
  exact h1.set 16 _ rfl rfl rfl rfl rfl
theorem bar_chk {t : St} {ws : List ByteArray} (h1 : 4 ≤ t.lines) (h2 : fitB [true, false] ws = true) : barZ t ws = if smallB ws = true then 0 else 3 := by unfold barZ; rw [if_pos ⟨h1, h2⟩]
theorem bar_n {t : St} {ws : List ByteArray} (h : ¬ (4 ≤ t.lines ∧ fitB [true, false] ws = true)) : barZ t ws = 12 := by unfold barZ; rw [if_neg h]
theorem newsR' (w : World) (cs : List Value) (T : TypeId) : ∀ j u, cs[j]? = some u → ((w.alloc (.cells cs.toArray T))).cell? ((⟨w.heap.size, 0, none⟩ : Addr).add j) = some u := by
  have h : ((w.alloc (.cells cs.toArray T))).heap[w.heap.size]? = some (.cells cs.toArray T) := heap_alloc_last w (.cells cs.toArray T)
  intro j u hu
  exact World.news_of_block h j u (by simpa using hu)
theorem one_laterR' (w : World) (A : Obj) {p : Addr} {v : Value} (hc : w.cell? p = some v) (hf : w.frozen? p = false) :
    ((w.alloc A)).cell? p = some v ∧ ((w.alloc A)).frozen? p = false ∧ p.block < ((w.alloc A)).heap.size := by
  have hb := (Below.refl _ w).alloc (Nat.le_refl _) A
  have hlt := World.block_lt_of_cell? w _ hc
  exact ⟨(hb.cell hlt).trans hc, (hb.frozen hlt).trans hf, Nat.lt_of_lt_of_le hlt hb.size⟩
theorem one_oneR (a : Value) (ha : a.oneCell' = true) : ∀ u ∈ [a], u.oneCell' = true := by
  intro u hu
  simp only [List.mem_cons, List.not_mem_nil, or_false] at hu
  rcases hu with rfl; assumption
set_option maxRecDepth 100000 in
set_option maxHeartbeats 4000000 in
theorem bar_any (base B : Nat) (pos : Int) (t : St) (vt vp vq vb sv : Value) (ws : List ByteArray) (w : World) (hR : RdAt base w B t pos vt vp vq vb) (hp : PrtAt w sv ws) (hb : base ≤ w.heap.size) (hlen : t.d.barred.length ≤ 1000) :
    Calls Tryz.prog 103 #[.pointer (some ⟨B, 0, none⟩), sv] w fun e w' => LineR base B pos vt vp vq vb (lnBar t ws) w e w' := by
  have HR := Lib.hid hR
  have c13 : w.cell? ⟨B, 13, none⟩ = some (.int .i64 pos) := hR.cell 13 rfl
  have c14 : w.cell? ⟨B, 14, none⟩ = some (.int .i64 t.lines) := hR.cell 14 rfl
  by_cases hl : 4 ≤ t.lines
  · cases hfit : fitB [true, false] ws
    · have HV := Lib.hid (show (lnBar t ws).1 = 12 by unfold lnBar; rw [bar_n (by rw [hfit]; simp), addTo_e (by decide)])
      have HF := Lib.hid (fits_any sv ws [true, false] false w hp hfit)
      have HNE := Lib.hid (need_no B pos 12 w c13)
      generalize t.lines = n at *
      clear hp hfit c13 hR
      go_enter Tryz.func103, Tryz.ntmps103
      go_wp2_with fail
      refine HF.out.mono ?_
      rintro e w' ⟨rfl, rfl⟩
      go_wp2_with fail
      refine HNE.out.mono ?_
      rintro e w' ⟨rfl, rfl⟩
      go_wp2_with fail
      exact ⟨rfl, lineR_no (by decide) HV.out rfl (Only.refl _ _)⟩
    · have HF := Lib.hid (fits_any sv ws [true, false] true w hp hfit)
      have HS := Lib.hid (small_any B pos sv ws w hp c13)
      have hbz := bar_chk hl hfit
      cases hsm : smallB ws
      · have HV := Lib.hid (show (lnBar t ws).1 = 3 by unfold lnBar; rw [hbz, hsm, addTo_e (by decide)]; rfl)
        rw [hsm] at HS
        generalize t.lines = n at *
        clear hp hfit c13 hR hbz hsm
        go_enter Tryz.func103, Tryz.ntmps103
        go_wp2_with fail
        refine HF.out.mono ?_
        rintro e w' ⟨rfl, rfl⟩
        go_wp2_with fail
        refine (need_ok B 12 w).mono ?_
        rintro e w' ⟨rfl, rfl⟩
        go_wp2_with fail
        refine HS.out.mono ?_
        rintro e w' ⟨he, rfl⟩
        obtain rfl : e = .panicked (faultC pos 3) := he
        go_wp2_with fail
        exact ⟨rfl, lineR_no (by decide) HV.out rfl (Only.refl _ _)⟩
      · rw [hsm] at HS hbz
        have hbz2 : barZ t ws = 0 := hbz
        obtain ⟨hl3, hat⟩ := fit_at hfit
        have hl2 : ws.length = 2 := hl3.symm
        have HZ := Lib.hid hbz2
        have HN0 := Lib.hid (number_any sv ws 1 (aAt ws 1) w hp (by omega) ((hat 1 (by decide)).2 rfl).2)
        obtain ⟨i0, hi, hz0, hz1, hz2⟩ := info_parts Tryz.infoBi
        have HI := Lib.hid hi
        have HI0 := Lib.hid hz0
        have HI1 := Lib.hid hz1
        have HI2 := Lib.hid hz2
        obtain ⟨a12, c12, rfl⟩ := slice_of_own hR.bars
        have HLT := Lib.hid (show lnBar t ws = addTo (barZ t ws) (hasBar t.d.barred (aAt ws 1)) t.d.barred.length 40 t _ from rfl)
        generalize aAt ws 1 = xa at *
        have k12 : w.cell? ⟨B, 12, none⟩ = some (.slice a12 t.d.barred.length c12) := hR.cell 12 rfl
        have k16 : w.cell? ⟨B, 16, none⟩ = some (.bool t.barred) := hR.cell 16 rfl
        have HNE := Lib.hid (fun er => need_no B pos er w c13)
        obtain ⟨bd, hbd⟩ : ∃ bd, hasBar t.d.barred xa = bd := ⟨_, rfl⟩
        have HCT := Lib.hid (contains_any base c12 a12 t.d.barred xa bd w hR.bars hbd)
        have HBD := Lib.hid hbd
        clear hp hfit c13 hbz hbz2 hsm hl3 hat hl2 hi hz0 hz1 hz2 hR hbd
        go_enter Tryz.func103, Tryz.ntmps103
        go_wp2_with fail
        refine HF.out.mono ?_
        rintro e w' ⟨rfl, rfl⟩
        go_wp2_with fail
        refine (need_ok B 12 w).mono ?_
        rintro e w' ⟨rfl, rfl⟩
        go_wp2_with fail
        refine HS.out.mono ?_
        rintro e w' ⟨he, rfl⟩
        obtain rfl : e = .returned (.tuple #[]) := he
        go_wp2_with fail
        refine HN0.out.mono ?_
        rintro e w' ⟨rfl, rfl⟩
        go_wp2_with fail
        refine HCT.out.mono ?_
        rintro e w' ⟨rfl, rfl⟩
        cases bd
        · go_wp2_with fail
          refine (need_ok B 13 w).mono ?_
          rintro e w' ⟨rfl, rfl⟩
          by_cases hm : t.d.barred.length < 40
          · have i1 : (t.d.barred.length : Int) < 40 := by omega
            have HV := Lib.hid (show lnBar t ws = (0, _) by rw [HLT.out, addTo_y HZ.out HBD.out hm])
            have z12 := HR.out.frz 12
            have z16 := HR.out.frz 16
            go_wp2_with fail
            refine (need_ok B 2 w).mono ?_
            rintro e w' ⟨rfl, rfl⟩
            have HON := Lib.hid HR.out.bars
            have hvb := ownR_blk HR.out.bars HR.out.blk (by decide)
            go_wp2_with (first | (refine wpList_append_lies _ rfl _ _ 24 rfl base 3 i0 _ 1 8 Tryz.underlying24 HI.out HI0.out HI1.out HI2.out rfl (by decide) _ _ _ rfl (HON.out.alloc _) ⟨w.heap.size, 0, none⟩ 1 1 [.int .i64 xa] rfl rfl (by exact newsR' w _ _) (one_oneR _ rfl) (by decide) (by unfold maxLen; omega) (by omega) (by simp; omega) _ rfl ?_; intro g cap w1 hown1 hgrow hat hlt; have c1 := hgrow.cell (one_laterR' w _ k12 z12).1 (Ne.symm hvb); have f1 := (hgrow.frozen_far ⟨B, 12, none⟩ (one_laterR' w _ k12 z12).2.2 (Ne.symm hvb)).trans (one_laterR' w _ k12 z12).2.1; have c2 := hgrow.cell (one_laterR' w _ k16 z16).1 (Ne.symm hvb); have f2 := (hgrow.frozen_far ⟨B, 16, none⟩ (one_laterR' w _ k16 z16).2.2 (Ne.symm hvb)).trans (one_laterR' w _ k16 z16).2.1))
            go_end0
            exact lineR_yes HV.out rfl (RdS.set (RdS.set ((((Only.refl _ w).alloc _)).grown hgrow (fun k e _ => .inr (.inr (.inr (.inr e))))) 12 _) 16 _) ((HR.out.still (((Only.refl _ w).alloc _))).barBack (x := xa) hgrow hown1)
          · have i1 : ¬ (t.d.barred.length : Int) < 40 := by omega
            have HV := Lib.hid (show (lnBar t ws).1 = 2 by rw [HLT.out, addTo_m HZ.out HBD.out hm])
            have i2 : decide ((t.d.barred.length : Int) < 40) = false := by simp; omega
            clear hm
            go_wp2_with fail
            refine (HNE.out 2).mono ?_
            rintro e w' ⟨rfl, rfl⟩
            go_wp2_with fail
            exact ⟨rfl, lineR_no (by decide) HV.out rfl (Only.refl _ _)⟩
        · have HV := Lib.hid (show (lnBar t ws).1 = 13 by rw [HLT.out, addTo_t HZ.out HBD.out])
          go_wp2_with fail
          refine (HNE.out 13).mono ?_
          rintro e w' ⟨rfl, rfl⟩
          go_wp2_with fail
          exact ⟨rfl, lineR_no (by decide) HV.out rfl (Only.refl _ _)⟩
  · have HV := Lib.hid (show (lnBar t ws).1 = 12 by unfold lnBar; rw [bar_n (fun h => hl h.1), addTo_e (by decide)])
    have HNE := Lib.hid (need_no B pos 12 w c13)
    generalize t.lines = n at *
    clear hp c13 hR
    go_enter Tryz.func103, Tryz.ntmps103
    go_wp2_with fail
    refine HNE.out.mono ?_
    rintro e w' ⟨rfl, rfl⟩
    go_wp2_with fail
    exact ⟨rfl, lineR_no (by decide) HV.out rfl (Only.refl _ _)⟩
end Go.Proofs.YteikkpiginfbkaaGreatDoor

namespace Go.Proofs.YteikkpiginfbkaaGreatDoor
open Go.RowKit Go.Maps

theorem Tryz.keyS : Keyed Tryz.prog 9 := string_keyed Tryz.underlying9
def fnElem : Value → Option (DataW Unit × List MemPlace)
  | .func (.func n) a b => if a.size = 0 ∧ b.size = 0 then some (.lit (.int .i64 n), []) else some (.nil, [])
  | _ => some (.nil, [])
theorem fnElem_inv {v : Value} {n : Int} {ps : List MemPlace} (h : fnElem v = some (.lit (.int .i64 n), ps)) : ∃ m : Nat, n = m ∧ v = .func (.func m) #[] #[] := by
  unfold fnElem at h
  split at h
  · split at h
    · next h2 =>
      simp only [Option.some.injEq, Prod.mk.injEq, DataW.lit.injEq, Lit.int.injEq, true_and] at h
      refine ⟨_, h.1.symm, ?_⟩
      rw [Array.eq_empty_of_size_eq_zero h2.1, Array.eq_empty_of_size_eq_zero h2.2]
    · simp at h
  · simp at h
def tabD : DataW Unit := DataW.put (DataW.put (DataW.put (DataW.put (DataW.put (DataW.put (DataW.put (DataW.put (DataW.put (DataW.put (DataW.put (.map []) (.string kDraw.data.toList) (.lit (.int .i64 93))) (.string kLottery.data.toList) (.lit (.int .i64 94))) (.string kBallot.data.toList) (.lit (.int .i64 95))) (.string kPanel.data.toList) (.lit (.int .i64 96))) (.string kRound.data.toList) (.lit (.int .i64 97))) (.string kPrice.data.toList) (.lit (.int .i64 98))) (.string kTier.data.toList) (.lit (.int .i64 99))) (.string kRoll.data.toList) (.lit (.int .i64 100))) (.string kPlace.data.toList) (.lit (.int .i64 101))) (.string kQuota.data.toList) (.lit (.int .i64 102))) (.string kBar.data.toList) (.lit (.int .i64 103))
/-- The table, in block M. -/
def TabAt (W : World) (M : Nat) : Prop := W.ownsMap Tryz.prog 9 fnElem M 11 tabD
def fnOf : Nat → Nat
  | 0 => 93
  | 1 => 94
  | 2 => 95
  | 3 => 96
  | 4 => 97
  | 5 => 98
  | 6 => 99
  | 7 => 100
  | 8 => 101
  | 9 => 102
  | 10 => 103
  | _ => 0
theorem tl_inj {a b : ByteArray} (h : a.data.toList = b.data.toList) : a = b := by
  obtain ⟨⟨a⟩⟩ := a
  obtain ⟨⟨b⟩⟩ := b
  exact congrArg (fun l => ByteArray.mk (Array.mk l)) h
theorem key_lit (s : ByteArray) : WideAt.IsKeyLit (.string s.data.toList) := by
  first | exact .inr (.inr ⟨_, rfl⟩) | exact .inl ⟨_, rfl⟩ | exact .inr (.inl ⟨_, rfl⟩) | simp [WideAt.IsKeyLit]
theorem put_look {D : DataW Unit} (hD : IsMap D) (w k : ByteArray) (d zd : DataW Unit) : (D.put (.string k.data.toList) d).atKey (.string w.data.toList) zd = if w = k then d else D.atKey (.string w.data.toList) zd := by
  split
  · next h => subst h; exact atKey_put_same hD (key_lit _) _ _
  · next h => exact atKey_put_other (fun e => h (tl_inj (by injection e))) _ _
theorem put_has {D : DataW Unit} (hD : IsMap D) (w k : ByteArray) (d : DataW Unit) : has (D.put (.string k.data.toList) d) (.string w.data.toList) = if w = k then true else has D (.string w.data.toList) := by
  split
  · next h => subst h; exact has_put_same hD (key_lit _) _
  · next h => exact has_put_other (fun e => h (tl_inj (by injection e))) _
theorem tab_look (w : ByteArray) (zd : DataW Unit) : tabD.atKey (.string w.data.toList) zd = if keyOf w < 11 then .lit (.int .i64 (fnOf (keyOf w))) else zd := by
  unfold tabD
  rw [put_look ((((((((((isMap_empty.put _ _).put _ _).put _ _).put _ _).put _ _).put _ _).put _ _).put _ _).put _ _).put _ _)]
  rw [put_look (((((((((isMap_empty.put _ _).put _ _).put _ _).put _ _).put _ _).put _ _).put _ _).put _ _).put _ _)]
  rw [put_look ((((((((isMap_empty.put _ _).put _ _).put _ _).put _ _).put _ _).put _ _).put _ _).put _ _)]
  rw [put_look (((((((isMap_empty.put _ _).put _ _).put _ _).put _ _).put _ _).put _ _).put _ _)]
  rw [put_look ((((((isMap_empty.put _ _).put _ _).put _ _).put _ _).put _ _).put _ _)]
  rw [put_look (((((isMap_empty.put _ _).put _ _).put _ _).put _ _).put _ _)]
  rw [put_look ((((isMap_empty.put _ _).put _ _).put _ _).put _ _)]
  rw [put_look (((isMap_empty.put _ _).put _ _).put _ _)]
  rw [put_look ((isMap_empty.put _ _).put _ _)]
  rw [put_look (isMap_empty.put _ _)]
  rw [put_look isMap_empty]
  by_cases hBar : w = kBar
  · subst hBar; rfl
  rw [if_neg hBar]
  by_cases hQuota : w = kQuota
  · subst hQuota; rfl
  rw [if_neg hQuota]
  by_cases hPlace : w = kPlace
  · subst hPlace; rfl
  rw [if_neg hPlace]
  by_cases hRoll : w = kRoll
  · subst hRoll; rfl
  rw [if_neg hRoll]
  by_cases hTier : w = kTier
  · subst hTier; rfl
  rw [if_neg hTier]
  by_cases hPrice : w = kPrice
  · subst hPrice; rfl
  rw [if_neg hPrice]
  by_cases hRound : w = kRound
  · subst hRound; rfl
  rw [if_neg hRound]
  by_cases hPanel : w = kPanel
  · subst hPanel; rfl
  rw [if_neg hPanel]
  by_cases hBallot : w = kBallot
  · subst hBallot; rfl
  rw [if_neg hBallot]
  by_cases hLottery : w = kLottery
  · subst hLottery; rfl
  rw [if_neg hLottery]
  by_cases hDraw : w = kDraw
  · subst hDraw; rfl
  rw [if_neg hDraw]
  have e : keyOf w = 11 := by unfold keyOf; simp only [hDraw, hLottery, hBallot, hPanel, hRound, hPrice, hTier, hRoll, hPlace, hQuota, hBar, if_false]
  rw [e]; rfl
theorem tab_has (w : ByteArray) : has tabD (.string w.data.toList) = decide (keyOf w < 11) := by
  unfold tabD
  rw [put_has ((((((((((isMap_empty.put _ _).put _ _).put _ _).put _ _).put _ _).put _ _).put _ _).put _ _).put _ _).put _ _)]
  rw [put_has (((((((((isMap_empty.put _ _).put _ _).put _ _).put _ _).put _ _).put _ _).put _ _).put _ _).put _ _)]
  rw [put_has ((((((((isMap_empty.put _ _).put _ _).put _ _).put _ _).put _ _).put _ _).put _ _).put _ _)]
  rw [put_has (((((((isMap_empty.put _ _).put _ _).put _ _).put _ _).put _ _).put _ _).put _ _)]
  rw [put_has ((((((isMap_empty.put _ _).put _ _).put _ _).put _ _).put _ _).put _ _)]
  rw [put_has (((((isMap_empty.put _ _).put _ _).put _ _).put _ _).put _ _)]
  rw [put_has ((((isMap_empty.put _ _).put _ _).put _ _).put _ _)]
  rw [put_has (((isMap_empty.put _ _).put _ _).put _ _)]
  rw [put_has ((isMap_empty.put _ _).put _ _)]
  rw [put_has (isMap_empty.put _ _)]
  rw [put_has isMap_empty]
  by_cases hBar : w = kBar
  · subst hBar; rfl
  rw [if_neg hBar]
  by_cases hQuota : w = kQuota
  · subst hQuota; rfl
  rw [if_neg hQuota]
  by_cases hPlace : w = kPlace
  · subst hPlace; rfl
  rw [if_neg hPlace]
  by_cases hRoll : w = kRoll
  · subst hRoll; rfl
  rw [if_neg hRoll]
  by_cases hTier : w = kTier
  · subst hTier; rfl
  rw [if_neg hTier]
  by_cases hPrice : w = kPrice
  · subst hPrice; rfl
  rw [if_neg hPrice]
  by_cases hRound : w = kRound
  · subst hRound; rfl
  rw [if_neg hRound]
  by_cases hPanel : w = kPanel
  · subst hPanel; rfl
  rw [if_neg hPanel]
  by_cases hBallot : w = kBallot
  · subst hBallot; rfl
  rw [if_neg hBallot]
  by_cases hLottery : w = kLottery
  · subst hLottery; rfl
  rw [if_neg hLottery]
  by_cases hDraw : w = kDraw
  · subst hDraw; rfl
  rw [if_neg hDraw]
  have e : keyOf w = 11 := by unfold keyOf; simp only [hDraw, hLottery, hBallot, hPanel, hRound, hPrice, hTier, hRoll, hPlace, hQuota, hBar, if_false]
  rw [e]; rfl
set_option maxHeartbeats 4000000 in
theorem table_any (w : World) : Calls Tryz.prog 65 #[] w fun e w' => ∃ M, e = .returned (.map (some M)) ∧ TabAt w' M ∧ w.heap.size ≤ M ∧ Only (fun _ => False) w w' := by
  have hmm := @run_makeMap Tryz.prog
  have o0 := World.ownsMap_made w Tryz.prog 9 fnElem
  have O0 := (Only.refl (fun _ => False) w).alloc (.map #[] 0)
  have hs0 : w.heap.size < (w.alloc (.map #[] 0)).heap.size := by simp
  obtain ⟨w1, r1, o1, t1⟩ := o0.store Tryz.keyS Tryz.underlying122 (by unfold maxLen; decide) (key := .string kDraw) (val := .func (.func 93) #[] #[]) (WideMaps.keyOf_string_mk Tryz.underlying9 (by unfold maxLen; decide)) rfl
  obtain ⟨w2, r2, o2, t2⟩ := o1.store Tryz.keyS Tryz.underlying122 (by unfold maxLen; decide) (key := .string kLottery) (val := .func (.func 94) #[] #[]) (WideMaps.keyOf_string_mk Tryz.underlying9 (by unfold maxLen; decide)) rfl
  obtain ⟨w3, r3, o3, t3⟩ := o2.store Tryz.keyS Tryz.underlying122 (by unfold maxLen; decide) (key := .string kBallot) (val := .func (.func 95) #[] #[]) (WideMaps.keyOf_string_mk Tryz.underlying9 (by unfold maxLen; decide)) rfl
  obtain ⟨w4, r4, o4, t4⟩ := o3.store Tryz.keyS Tryz.underlying122 (by unfold maxLen; decide) (key := .string kPanel) (val := .func (.func 96) #[] #[]) (WideMaps.keyOf_string_mk Tryz.underlying9 (by unfold maxLen; decide)) rfl
  obtain ⟨w5, r5, o5, t5⟩ := o4.store Tryz.keyS Tryz.underlying122 (by unfold maxLen; decide) (key := .string kRound) (val := .func (.func 97) #[] #[]) (WideMaps.keyOf_string_mk Tryz.underlying9 (by unfold maxLen; decide)) rfl
  obtain ⟨w6, r6, o6, t6⟩ := o5.store Tryz.keyS Tryz.underlying122 (by unfold maxLen; decide) (key := .string kPrice) (val := .func (.func 98) #[] #[]) (WideMaps.keyOf_string_mk Tryz.underlying9 (by unfold maxLen; decide)) rfl
  obtain ⟨w7, r7, o7, t7⟩ := o6.store Tryz.keyS Tryz.underlying122 (by unfold maxLen; decide) (key := .string kTier) (val := .func (.func 99) #[] #[]) (WideMaps.keyOf_string_mk Tryz.underlying9 (by unfold maxLen; decide)) rfl
  obtain ⟨w8, r8, o8, t8⟩ := o7.store Tryz.keyS Tryz.underlying122 (by unfold maxLen; decide) (key := .string kRoll) (val := .func (.func 100) #[] #[]) (WideMaps.keyOf_string_mk Tryz.underlying9 (by unfold maxLen; decide)) rfl
  obtain ⟨w9, r9, o9, t9⟩ := o8.store Tryz.keyS Tryz.underlying122 (by unfold maxLen; decide) (key := .string kPlace) (val := .func (.func 101) #[] #[]) (WideMaps.keyOf_string_mk Tryz.underlying9 (by unfold maxLen; decide)) rfl
  obtain ⟨w10, r10, o10, t10⟩ := o9.store Tryz.keyS Tryz.underlying122 (by unfold maxLen; decide) (key := .string kQuota) (val := .func (.func 102) #[] #[]) (WideMaps.keyOf_string_mk Tryz.underlying9 (by unfold maxLen; decide)) rfl
  obtain ⟨w11, r11, o11, t11⟩ := o10.store Tryz.keyS Tryz.underlying122 (by unfold maxLen; decide) (key := .string kBar) (val := .func (.func 103) #[] #[]) (WideMaps.keyOf_string_mk Tryz.underlying9 (by unfold maxLen; decide)) rfl
  have HO := Lib.hid o11
  have G1 := t1.grown
  have G2 := t2.grown
  have G3 := t3.grown
  have G4 := t4.grown
  have G5 := t5.grown
  have G6 := t6.grown
  have G7 := t7.grown
  have G8 := t8.grown
  have G9 := t9.grown
  have G10 := t10.grown
  have G11 := t11.grown
  have HW := Lib.hid (show Only (fun _ => False) w w11 from by
    have h0 := O0.mono (T := fun k => k = w.heap.size) (fun _ _ h => h.elim)
    have h1 := h0.grown G1 (fun k e _ => by simpa using e.symm)
    have h2 := h1.grown G2 (fun k e _ => by simpa using e.symm)
    have h3 := h2.grown G3 (fun k e _ => by simpa using e.symm)
    have h4 := h3.grown G4 (fun k e _ => by simpa using e.symm)
    have h5 := h4.grown G5 (fun k e _ => by simpa using e.symm)
    have h6 := h5.grown G6 (fun k e _ => by simpa using e.symm)
    have h7 := h6.grown G7 (fun k e _ => by simpa using e.symm)
    have h8 := h7.grown G8 (fun k e _ => by simpa using e.symm)
    have h9 := h8.grown G9 (fun k e _ => by simpa using e.symm)
    have h10 := h9.grown G10 (fun k e _ => by simpa using e.symm)
    have h11 := h10.grown G11 (fun k e _ => by simpa using e.symm)
    exact h11.mono (fun i hi e => absurd e (by omega)))
  clear o0 O0 o1 o2 o3 o4 o5 o6 o7 o8 o9 o10 o11 t1 t2 t3 t4 t5 t6 t7 t8 t9 t10 t11 G1 G2 G3 G4 G5 G6 G7 G8 G9 G10 G11
  unfold kDraw at r1
  unfold kLottery at r2
  unfold kBallot at r3
  unfold kPanel at r4
  unfold kRound at r5
  unfold kPrice at r6
  unfold kTier at r7
  unfold kRoll at r8
  unfold kPlace at r9
  unfold kQuota at r10
  unfold kBar at r11
  go_enter Tryz.func65, Tryz.ntmps65
  go_wp2
  go_ret
  exact ⟨_, rfl, HO.out, Nat.le_refl _, HW.out⟩
end Go.Proofs.YteikkpiginfbkaaGreatDoor

namespace Go.Proofs.YteikkpiginfbkaaGreatDoor
open Go.RowKit

/-- The library's variable that strings.Split reads. -/
def LenR (w : World) : Prop := ∃ m, w.cell? ⟨0, 0, none⟩ = some (.int .i64 m)
theorem LenR.only {S : Nat → Prop} {a b : World} (h : LenR a) (hO : Only S a b) (hS : ¬ S 0) : LenR b := by
  obtain ⟨m, hm⟩ := h
  exact ⟨m, hO.cell hm hS⟩
theorem wAt_get {ws : List ByteArray} {k : Nat} (h : k < ws.length) : ws[k] = wAt ws k := by unfold wAt; simp [List.getD, h]
theorem prt_of_own {w : World} {base : Nat} {v : Value} {ws : List ByteArray} (h : w.ownsRow base 20 1 v ws.length (ws.map partV)) (h0 : 0 < ws.length) : PrtAt w v ws := by
  have hu : ∀ j, j < ws.length → (ws.map partV)[j]? = some (partV (wAt ws j)) := fun j hj => by rw [List.getElem?_map, List.getElem?_eq_getElem hj, wAt_get hj]; rfl
  obtain ⟨g, cap, rfl, hg, h1, h2, _⟩ := own_cell h (hu 0 h0)
  refine ⟨g, 0, cap, rfl, hg, h1, h2, fun j hj => ?_⟩
  obtain ⟨g', cap', hv', _, _, _, hcell⟩ := own_cell h (hu j hj)
  simp only [Value.slice.injEq, Option.some.injEq, Addr.mk.injEq, and_true, true_and] at hv'
  obtain ⟨rfl, rfl⟩ := hv'
  rw [Nat.zero_add]; exact hcell
theorem Tryz.infoAny : (Tryz.prog.info? 20).map (fun i => (i.zero, i.size, i.bytes)) = some (some .nilIface, 1, 16) := by kernel_rfl
def PartsR (s : ByteArray) (w : World) (e : Ending) (w' : World) : Prop := ∃ v, e = .returned v ∧ w'.ownsRow w.heap.size 20 1 v (wordsB s).length ((wordsB s).map partV) ∧ Only (fun _ => False) w w'
theorem words_pos (s : ByteArray) : 0 < (wordsB s).length := by rw [wordsB_len]; omega
theorem words_cnt (s : ByteArray) : (wordsB s).length ≤ s.size + 1 := by
  rw [wordsB_len]
  have := Lib.countB_le ⟨#[32]⟩ (by decide) s.size s (Nat.le_refl _)
  omega
set_option maxRecDepth 100000 in
set_option maxHeartbeats 4000000 in
theorem parts_any (s : ByteArray) (w : World) (hs : s.size ≤ 100000) (hG : LenR w) :
    Calls Tryz.prog 55 #[.string s] w fun e w' => PartsR s w e w' := by
  obtain ⟨m, hm⟩ := hG
  have HSP := Lib.hid (Tryz.strings_Split s ⟨#[32]⟩ m w (by omega) hm (by decide))
  have HWL := Lib.hid (wordsB_len s)
  have HWC := Lib.hid (words_cnt s)
  have HWS := Lib.hid (fun P (h : P ∈ wordsB s) => words_le s P h)
  obtain ⟨i0, hi, hz0, hz1, hz2⟩ := info_parts Tryz.infoAny
  have HI := Lib.hid hi
  have HI0 := Lib.hid hz0
  have HI1 := Lib.hid hz1
  have HI2 := Lib.hid hz2
  clear hm hi hz0 hz1 hz2
  go_enter Tryz.func55, Tryz.ntmps55
  go_wp2_with fail
  refine HSP.out.mono ?_
  rintro e w2 ⟨rfl, hw2⟩
  have hx1 := heap_alloc_last w (.cells ((wordsB s).map Value.string).toArray 9)
  have hx2 := (Only.refl (fun _ => False) w).alloc (.cells ((wordsB s).map Value.string).toArray 9)
  rw [show w.alloc (.cells ((wordsB s).map Value.string).toArray 9) = w2 from hw2.symm] at hx1 hx2
  have HX1 := Lib.hid hx1
  have HX2 := Lib.hid hx2
  rw [show Lib.countB s ⟨#[32]⟩ + 1 = (wordsB s).length from HWL.out.symm]
  have hl := HWC.out
  obtain ⟨ws, hws⟩ : ∃ ws, wordsB s = ws := ⟨_, rfl⟩
  rw [hws] at hl HX1 HWC HWS ⊢
  have HWD := Lib.hid hws
  clear hws
  clear hx1 hx2 hw2 HSP HWL
  go_wp2_with fail
  go_loopw [3, 11] (fun v iv wr => ∃ k : Nat, iv = .int .i64 k ∧ k ≤ ws.length ∧ wr.ownsRow w2.heap.size 20 1 v k ((ws.take k).map partV) ∧ Only (fun _ => False) w2 wr) (fun _ iv _ => ws.length - (intOf iv).toNat)
  case atStart => exact ⟨0, rfl, Nat.zero_le _, World.ownsRow_nil _ _ _ _, Only.refl _ _⟩
  case round =>
    obtain ⟨k, rfl, hk, hown, hO⟩ := hrel
    have HOWN := Lib.hid hown
    have HO := Lib.hid hO
    have HXR := Lib.hid (row_still hO HX1.out)
    obtain ⟨a3, c3, rfl⟩ := slice_of_own hown
    have hbs : w2.heap.size ≤ wr.heap.size := hO.size
    clear hown hO
    by_cases hlt : k < ws.length
    · have j1 : (k : Int) < ws.length := by omega
      have j2 : 0 ≤ (k : Int) := by omega
      have hc : _ = some (Value.string ws[k]) := (cell_of_row _ _ k _ _ _ HXR.out).trans (by rw [List.getElem?_toArray, List.getElem?_map, List.getElem?_eq_getElem hlt]; rfl)
      have HNX := Lib.hid (show (ws.take (k + 1)).map partV = (ws.take k).map partV ++ [partV ws[k]] by rw [List.take_succ_eq_append_getElem hlt, List.map_append]; rfl)
      have hsz := HWS.out _ (List.getElem_mem hlt)
      generalize ws[k] = x at *
      have hg0 : w.heap.size < wr.heap.size := World.block_lt_of_cell? _ _ hc
      cases hn : numB x
      · have HN := Lib.hid (numeral_any x false 0 wr (by omega) hn rfl)
        rw [partV_str hn] at HNX
        clear hn hsz
        go_wp2_with fail
        refine HN.out.mono ?_
        rintro e w' ⟨rfl, rfl⟩
        go_wp2_with (first | (refine wpList_append_lies _ rfl _ _ 114 rfl w2.heap.size 20 i0 _ 1 16 Tryz.underlying114 HI.out HI0.out HI1.out HI2.out rfl (by decide) _ _ _ rfl (HOWN.out.alloc _) ⟨wr.heap.size, 0, none⟩ 1 1 [.iface 9 (.string x)] rfl rfl (by exact newsR' wr _ _) (one_oneR _ rfl) (by decide) (by unfold maxLen; omega) (by omega) (by simp; omega) _ rfl ?_; intro g cap w5 hown1 hgrow hat hlt2))
        go_roundw
        case rel => exact ⟨k + 1, by go_num, hlt, by rw [HNX.out]; exact hown1, (HO.out.alloc _).trans' (S := fun _ => False) (T := fun i => (Value.slice a3 k c3).ownBlock = some i) ((Only.refl _ _).grown hgrow (fun i e _ => e)) (fun i hi e => by have := ownR_ge HOWN.out e; omega)⟩
        case measure => simp [intOf]; omega
      · have HN := Lib.hid (numeral_any x true (amtV x) wr (by omega) hn rfl)
        rw [partV_num hn] at HNX
        generalize amtV x = z at *
        clear hn hsz
        go_wp2_with fail
        refine HN.out.mono ?_
        rintro e w' ⟨rfl, rfl⟩
        go_wp2_with (first | (refine wpList_append_lies _ rfl _ _ 114 rfl w2.heap.size 20 i0 _ 1 16 Tryz.underlying114 HI.out HI0.out HI1.out HI2.out rfl (by decide) _ _ _ rfl (HOWN.out.alloc _) ⟨wr.heap.size, 0, none⟩ 1 1 [.iface 3 (.int .i64 z)] rfl rfl (by exact newsR' wr _ _) (one_oneR _ rfl) (by decide) (by unfold maxLen; omega) (by omega) (by simp; omega) _ rfl ?_; intro g cap w5 hown1 hgrow hat hlt2))
        go_roundw
        case rel => exact ⟨k + 1, by go_num, hlt, by rw [HNX.out]; exact hown1, (HO.out.alloc _).trans' (S := fun _ => False) (T := fun i => (Value.slice a3 k c3).ownBlock = some i) ((Only.refl _ _).grown hgrow (fun i e _ => e)) (fun i hi e => by have := ownR_ge HOWN.out e; omega)⟩
        case measure => simp [intOf]; omega
    · obtain rfl : k = ws.length := by omega
      have j1 : ¬ (ws.length : Int) < ws.length := by omega
      have HEND := Lib.hid (show wr.ownsRow w.heap.size 20 1 (.slice a3 ws.length c3) ws.length (ws.map partV) by have := HOWN.out; rw [List.take_length] at this; exact ownR_base this HX2.out.size)
      have HOE := Lib.hid (HX2.out.trans HO.out)
      go_wp2_with fail
      go_ret
      exact ⟨_, rfl, by rw [HWD.out]; exact HEND.out, HOE.out⟩
end Go.Proofs.YteikkpiginfbkaaGreatDoor

namespace Go.Proofs.YteikkpiginfbkaaGreatDoor
open Go.RowKit

theorem cut_nl : ∀ r : List UInt8, (noC 10 r ∧ Lib.indexByte r 10 = -1) ∨ ∃ x r', r = x ++ 10 :: r' ∧ noC 10 x ∧ Lib.indexByte r 10 = x.length
  | [] => .inl ⟨(fun b hb => (by cases hb)), rfl⟩
  | c :: r => by
    by_cases hc : c = 10
    · subst hc
      exact .inr ⟨[], r, rfl, (fun b hb => (by cases hb)), by simp [Lib.indexByte]⟩
    · have e : (c == 10) = false := by simpa using hc
      rcases cut_nl r with ⟨h1, h2⟩ | ⟨x, r', rfl, h1, h2⟩
      · refine .inl ⟨fun b hb => ?_, ?_⟩
        · rcases List.mem_cons.1 hb with rfl | hb
          · exact hc
          · exact h1 b hb
        · unfold Lib.indexByte
          rw [e, h2]; rfl
      · refine .inr ⟨c :: x, r', rfl, fun b hb => ?_, ?_⟩
        · rcases List.mem_cons.1 hb with rfl | hb
          · exact hc
          · exact h1 b hb
        · unfold Lib.indexByte
          rw [e, h2]
          have : ¬ ((x.length : Int) == -1) = true := fun e => by have := beq_iff_eq.1 e; omega
          simp only [Bool.false_eq_true, if_false, if_neg this, List.length_cons]
          omega
theorem runL_step {t : St} {p : Nat} {cur r : List UInt8} {c : UInt8} (hc : c ≠ 10) : runL t p cur (c :: r) = runL t p (cur ++ [c]) r := by
  show (if c = 10 then _ else _) = _
  rw [if_neg hc]
theorem runL_none {t : St} {p : Nat} : ∀ {r cur : List UInt8}, noC 10 r → runL t p cur r = if cur ++ r = [] ∧ 4 ≤ t.lines then (0, 0, t) else (12, p, t)
  | [], cur, _ => by rw [List.append_nil]; rfl
  | c :: r, cur, h => by
    have hc : c ≠ 10 := h c List.mem_cons_self
    rw [runL_step hc, runL_none (fun b hb => h b (List.mem_cons_of_mem _ hb))]
    simp
theorem runL_line {t : St} {p : Nat} {r : List UInt8} : ∀ {x cur : List UInt8}, noC 10 x → runL t p cur (x ++ 10 :: r) =
    if (lineZ t (wordsB ⟨(cur ++ x).toArray⟩)).1 = 0 then runL (lineZ t (wordsB ⟨(cur ++ x).toArray⟩)).2 (p + (cur ++ x).length + 1) [] r else ((lineZ t (wordsB ⟨(cur ++ x).toArray⟩)).1, p, t)
  | [], cur, _ => by rw [List.append_nil]; rfl
  | c :: x, cur, h => by
    have hc : c ≠ 10 := h c List.mem_cons_self
    rw [List.cons_append, runL_step hc, runL_line (fun b hb => h b (List.mem_cons_of_mem _ hb))]
    simp only [List.append_assoc, List.singleton_append]
/-- How long the lists of a draw that is being read can be. -/
def StB (t : St) : Prop := t.d.tiers.length ≤ 12 ∧ t.d.places.length ≤ 12 ∧ t.d.quotas.length ≤ 12 ∧ t.d.barred.length ≤ 40
theorem headTo_p {P : St → Prop} {e : Int} {t t' : St} (h : P t) (h' : P t') : P (headTo e t t').2 := by unfold headTo; split <;> assumption
theorem addTo_p {P : St → Prop} {e : Int} {tw : Bool} {n most : Nat} {t t' : St} (h : P t) (h' : n < most → P t') : P (addTo e tw n most t t').2 := by
  unfold addTo
  split
  · split
    · exact h
    · split
      · next hlt => exact h' hlt
      · exact h
  · exact h
theorem lnOf_p (P : St → Prop) (t : St) (ws : List ByteArray) (k : Nat) (h : P t) (hd : ∀ d', d'.tiers = t.d.tiers → d'.places = t.d.places → d'.quotas = t.d.quotas → d'.barred = t.d.barred → P { t with d := d' })
    (h7 : P { t with d := { t.d with roll := true }, rolled := true })
    (h6 : ∀ x, t.d.tiers.length < 12 → P { t with d := { t.d with tiers := t.d.tiers ++ [x] } }) (h8 : ∀ x, t.d.places.length < 12 → P { t with d := { t.d with places := t.d.places ++ [x] } })
    (h9 : ∀ x, t.d.quotas.length < 12 → P { t with d := { t.d with quotas := t.d.quotas ++ [x] } }) (h10 : ∀ x, t.d.barred.length < 40 → P { t with d := { t.d with barred := t.d.barred ++ [x] }, barred := true }) : P (lnOf t ws k).2 := by
  unfold lnOf
  split
  · exact headTo_p h (hd _ rfl rfl rfl rfl)
  · exact headTo_p h (hd _ rfl rfl rfl rfl)
  · exact headTo_p h (hd _ rfl rfl rfl rfl)
  · exact headTo_p h (hd _ rfl rfl rfl rfl)
  · exact headTo_p h (hd _ rfl rfl rfl rfl)
  · exact headTo_p h (hd _ rfl rfl rfl rfl)
  · exact addTo_p h (h6 _)
  · exact headTo_p h h7
  · exact addTo_p h (h8 _)
  · exact addTo_p h (h9 _)
  · exact addTo_p h (h10 _)
  · exact h
theorem lnOf_bd {t : St} (ws : List ByteArray) (k : Nat) (h : StB t) : StB (lnOf t ws k).2 := by
  obtain ⟨a, b, c, d⟩ := h
  refine lnOf_p StB t ws k ⟨a, b, c, d⟩ (fun d' h1 h2 h3 h4 => ⟨?_, ?_, ?_, ?_⟩) ⟨a, b, c, d⟩ (fun x hx => ⟨?_, b, c, d⟩) (fun x hx => ⟨a, ?_, c, d⟩) (fun x hx => ⟨a, b, ?_, d⟩) (fun x hx => ⟨a, b, c, ?_⟩)
  · show d'.tiers.length ≤ 12; rw [h1]; exact a
  · show d'.places.length ≤ 12; rw [h2]; exact b
  · show d'.quotas.length ≤ 12; rw [h3]; exact c
  · show d'.barred.length ≤ 40; rw [h4]; exact d
  · show (t.d.tiers ++ [x]).length ≤ 12; rw [List.length_append, List.length_singleton]; omega
  · show (t.d.places ++ [x]).length ≤ 12; rw [List.length_append, List.length_singleton]; omega
  · show (t.d.quotas ++ [x]).length ≤ 12; rw [List.length_append, List.length_singleton]; omega
  · show (t.d.barred ++ [x]).length ≤ 40; rw [List.length_append, List.length_singleton]; omega
theorem lnOf_lines (t : St) (ws : List ByteArray) (k : Nat) : (lnOf t ws k).2.lines = t.lines :=
  lnOf_p (fun u => u.lines = t.lines) t ws k rfl (fun _ _ _ _ _ => rfl) rfl (fun _ _ => rfl) (fun _ _ => rfl) (fun _ _ => rfl) (fun _ _ => rfl)
theorem key_num {w : ByteArray} (h : numB w = true) : keyOf w = 11 := by
  have e : ∀ k : ByteArray, numB k = false → w ≠ k := fun k hk e => by rw [e, hk] at h; cases h
  unfold keyOf
  rw [if_neg (e _ (by decide)), if_neg (e _ (by decide)), if_neg (e _ (by decide)), if_neg (e _ (by decide)), if_neg (e _ (by decide)), if_neg (e _ (by decide)), if_neg (e _ (by decide)), if_neg (e _ (by decide)), if_neg (e _ (by decide)), if_neg (e _ (by decide)), if_neg (e _ (by decide))]
theorem key_name (ws : List ByteArray) : keyOf (nameV ws 0) = keyOf (wAt ws 0) := by
  unfold nameV
  split
  · next h => rw [key_num h]; rfl
  · rfl
theorem lnOf_none (t : St) (ws : List ByteArray) {k : Nat} (h : ¬ k < 11) : lnOf t ws k = (12, t) := by
  unfold lnOf
  split <;> first | omega | rfl
theorem line_none {t : St} {ws : List ByteArray} (h : ¬ keyOf (wAt ws 0) < 11) : lineZ t ws = (12, t) := by
  unfold lineZ
  rw [lnOf_none _ _ h]; rfl
theorem line_err {t : St} {ws : List ByteArray} {e : Int} (h : (lnOf t ws (keyOf (wAt ws 0))).1 = e) (he : e ≠ 0) : (lineZ t ws).1 = e := by
  unfold lineZ
  rw [if_neg (by rw [h]; exact he)]; exact h
theorem line_ok {t : St} {ws : List ByteArray} (h : (lnOf t ws (keyOf (wAt ws 0))).1 = 0) : lineZ t ws = (0, { (lnOf t ws (keyOf (wAt ws 0))).2 with lines := t.lines + 1 }) := by
  unfold lineZ
  rw [if_pos h, lnOf_lines]
end Go.Proofs.YteikkpiginfbkaaGreatDoor

namespace Go.Proofs.YteikkpiginfbkaaGreatDoor
open Go.RowKit Go.Maps

theorem Tryz.zeroFn (w : World) : (zeroValue 125).run Tryz.prog w = .ok .nilFunc w := by kernel_rfl
theorem call_any (base B : Nat) (pos : Int) (t : St) (vt vp vq vb sv : Value) (ws : List ByteArray) (w : World) (k : Nat) (hk : k < 11) (hR : RdAt base w B t pos vt vp vq vb) (hp : PrtAt w sv ws) (hb : base ≤ w.heap.size) (hS : StB t) :
    Calls Tryz.prog (fnOf k) #[.pointer (some ⟨B, 0, none⟩), sv] w fun e w' => LineR base B pos vt vp vq vb (lnOf t ws k) w e w' := by
  obtain ⟨h1, h2, h3, h4⟩ := hS
  match k, hk with
  | 0, _ => exact draw_any base B pos t vt vp vq vb sv ws w hR hp
  | 1, _ => exact lottery_any base B pos t vt vp vq vb sv ws w hR hp
  | 2, _ => exact ballot_any base B pos t vt vp vq vb sv ws w hR hp
  | 3, _ => exact panel_any base B pos t vt vp vq vb sv ws w hR hp
  | 4, _ => exact round_any base B pos t vt vp vq vb sv ws w hR hp
  | 5, _ => exact price_any base B pos t vt vp vq vb sv ws w hR hp
  | 6, _ => exact tier_any base B pos t vt vp vq vb sv ws w hR hp hb (by omega)
  | 7, _ => exact roll_any base B pos t vt vp vq vb sv ws w hR hp
  | 8, _ => exact place_any base B pos t vt vp vq vb sv ws w hR hp hb (by omega)
  | 9, _ => exact quota_any base B pos t vt vp vq vb sv ws w hR hp hb (by omega)
  | 10, _ => exact bar_any base B pos t vt vp vq vb sv ws w hR hp hb (by omega)
  | k + 11, h => omega
theorem call_enter (k : Nat) (hk : k < 11) (a b : Value) (w : World) : (callFunc (fnOf k) #[a, b]).run Tryz.prog w = .ok (.enter (fnOf k) #[a, b]) w := by
  match k, hk with
  | 0, _ => exact (show (callFunc 93 #[a, b]).run Tryz.prog w = .ok (.enter 93 #[a, b]) w by kernel_rfl)
  | 1, _ => exact (show (callFunc 94 #[a, b]).run Tryz.prog w = .ok (.enter 94 #[a, b]) w by kernel_rfl)
  | 2, _ => exact (show (callFunc 95 #[a, b]).run Tryz.prog w = .ok (.enter 95 #[a, b]) w by kernel_rfl)
  | 3, _ => exact (show (callFunc 96 #[a, b]).run Tryz.prog w = .ok (.enter 96 #[a, b]) w by kernel_rfl)
  | 4, _ => exact (show (callFunc 97 #[a, b]).run Tryz.prog w = .ok (.enter 97 #[a, b]) w by kernel_rfl)
  | 5, _ => exact (show (callFunc 98 #[a, b]).run Tryz.prog w = .ok (.enter 98 #[a, b]) w by kernel_rfl)
  | 6, _ => exact (show (callFunc 99 #[a, b]).run Tryz.prog w = .ok (.enter 99 #[a, b]) w by kernel_rfl)
  | 7, _ => exact (show (callFunc 100 #[a, b]).run Tryz.prog w = .ok (.enter 100 #[a, b]) w by kernel_rfl)
  | 8, _ => exact (show (callFunc 101 #[a, b]).run Tryz.prog w = .ok (.enter 101 #[a, b]) w by kernel_rfl)
  | 9, _ => exact (show (callFunc 102 #[a, b]).run Tryz.prog w = .ok (.enter 102 #[a, b]) w by kernel_rfl)
  | 10, _ => exact (show (callFunc 103 #[a, b]).run Tryz.prog w = .ok (.enter 103 #[a, b]) w by kernel_rfl)
  | k + 11, h => omega
theorem TabAt.only {w w' : World} {M : Nat} {S : Nat → Prop} (h : TabAt w M) (hO : Only S w w') (hM : ¬ S M) : TabAt w' M := by
  obtain ⟨es, clock, hb, rest⟩ := h
  exact ⟨es, clock, (hO.block M (Array.getElem?_eq_some_iff.1 hb).1 hM).trans hb, rest⟩
theorem rdS_tab {base B M : Nat} {w : World} {t : St} {pos : Int} {vt vp vq vb : Value} (h : RdAt base w B t pos vt vp vq vb) (hT : TabAt w M) : ¬ RdS B vt vp vq vb M := by
  obtain ⟨es, clock, hb, _⟩ := hT
  rintro (e | e | e | e | e)
  · rw [e, h.blk] at hb; cases hb
  · obtain ⟨c, hc⟩ := ownR_ty h.tiers e; rw [hc] at hb; cases hb
  · obtain ⟨c, hc⟩ := ownR_ty h.places e; rw [hc] at hb; cases hb
  · obtain ⟨c, hc⟩ := ownR_ty h.quotas e; rw [hc] at hb; cases hb
  · obtain ⟨c, hc⟩ := ownR_ty h.bars e; rw [hc] at hb; cases hb
theorem rdS_only {base B : Nat} {w wr wr' : World} {t : St} {pos : Int} {vt vp vq vb : Value} (h : RdAt base wr B t pos vt vp vq vb) (hb : w.heap.size ≤ base) (hO : Only (fun k => k = B) w wr) (hS : Only (RdS B vt vp vq vb) wr wr') : Only (fun k => k = B) w wr' :=
  hO.trans' hS (fun i hi e => by
    rcases e with e | e | e | e | e
    · exact e
    · have := ownR_ge h.tiers e; omega
    · have := ownR_ge h.places e; omega
    · have := ownR_ge h.quotas e; omega
    · have := ownR_ge h.bars e; omega)
/-- What reading leaves. -/
def ReadRu (B : Nat) (q : Int × Nat × St) (w : World) (e : Ending) (w' : World) : Prop :=
  Only (fun k => k = B) w w' ∧ ((q.1 = 0 ∧ e = .returned (.tuple #[]) ∧ ∃ p vt vp vq vb, RdAt w.heap.size w' B q.2.2 p vt vp vq vb) ∨ (q.1 ≠ 0 ∧ e = .panicked (faultC q.2.1 q.1)))
section
variable {ops : Array Oper} {rest : List Oper} {o : Oper} {a : Act} {Q : Exit → Act → World → Prop}
theorem wpList_tab_yes (w : World) (hg : o.guard = none) (m x : Operand) (hop : o.op = Op.lookup 122 m x true) (M : Nat) (hm : a.eval m = .map (some M)) (hT : TabAt w M) (nm : ByteArray) (hx : a.eval x = .string nm)
    (hsz : nm.size ≤ 1000000) (k : Nat) (hk : keyOf nm = k) (hlt : k < 11) (F : Nat) (hF : fnOf k = F) (hK : wpList Tryz.prog ops Q rest (a.put o.dst (.tuple #[.func (.func F) #[] #[], .bool true])) w) : wpList Tryz.prog ops Q (o :: rest) a w := by
  refine wpList_lookup_own_ok w hg m x _ hop 9 125 Tryz.keyS Tryz.underlying122 fnElem (Tryz.zeroFn w) .nil [] rfl M 11 tabD hm hT _ _ hx (WideMaps.keyOf_string_mk Tryz.underlying9 (by unfold maxLen; omega)) ?_
  intro v ps hv
  rw [tab_has, hk, show decide (k < 11) = true by simpa using hlt]
  rw [tab_look, hk, if_pos hlt] at hv
  obtain ⟨n, hn, rfl⟩ := fnElem_inv hv
  obtain rfl : F = n := by rw [hF] at hn; exact Int.ofNat_inj.1 hn
  exact hK
theorem wpList_tab_no (w : World) (hg : o.guard = none) (m x : Operand) (hop : o.op = Op.lookup 122 m x true) (M : Nat) (hm : a.eval m = .map (some M)) (hT : TabAt w M) (nm : ByteArray) (hx : a.eval x = .string nm)
    (hsz : nm.size ≤ 1000000) (hlt : ¬ keyOf nm < 11) (hK : ∀ v, wpList Tryz.prog ops Q rest (a.put o.dst (.tuple #[v, .bool false])) w) : wpList Tryz.prog ops Q (o :: rest) a w := by
  refine wpList_lookup_own_ok w hg m x _ hop 9 125 Tryz.keyS Tryz.underlying122 fnElem (Tryz.zeroFn w) .nil [] rfl M 11 tabD hm hT _ _ hx (WideMaps.keyOf_string_mk Tryz.underlying9 (by unfold maxLen; omega)) ?_
  intro v ps hv
  rw [tab_has, show decide (keyOf nm < 11) = false by simpa using hlt]
  exact hK v
end
theorem wAt_mem {ws : List ByteArray} (h : 0 < ws.length) : wAt ws 0 ∈ ws := by rw [← wAt_get h]; exact List.getElem_mem h
theorem nameV_size {ws : List ByteArray} {n : Nat} (h : 0 < ws.length) (hl : ∀ P ∈ ws, P.size ≤ n) : (nameV ws 0).size ≤ n := by
  unfold nameV
  split
  · exact Nat.zero_le _
  · exact hl _ (wAt_mem h)
set_option maxRecDepth 100000 in
set_option maxHeartbeats 8000000 in
theorem read_any (B : Nat) (s : ByteArray) (w : World) (hR : RdAt w.heap.size w B st0 0 (.slice none 0 0) (.slice none 0 0) (.slice none 0 0) (.slice none 0 0)) (hs : s.size ≤ 4000) (hm : LenR w) (hB : 0 ≠ B) :
    Calls Tryz.prog 34 #[.pointer (some ⟨B, 0, none⟩), .string s] w fun e w' => ReadRu B (runL st0 0 [] s.data.toList) w e w' := by
  have HT := Lib.hid (table_any w)
  have HR := Lib.hid hR
  have HM := Lib.hid hm
  obtain ⟨q, hq⟩ : ∃ q, runL st0 0 [] s.data.toList = q := ⟨_, rfl⟩
  rw [hq]
  have HQ := Lib.hid hq
  have hlen : s.data.toList.length = s.size := Array.length_toList
  have HL := Lib.hid hlen
  clear hR hm hq hlen
  go_enter Tryz.func34, Tryz.ntmps34
  go_wp2_with fail
  refine HT.out.mono ?_
  rintro e w1 ⟨M, rfl, hT, hMs, hO1⟩
  have HT1 := Lib.hid hT
  have HR1 := Lib.hid (HR.out.still hO1)
  have HO1 := Lib.hid (hO1.mono (T := fun k => k = B) (fun _ _ h => h.elim))
  clear hT hO1 HT
  go_wp2_with fail
  go_loopg [5] (s.size) (fun k _ wr => ∃ (p : Nat) (t : St) (vt vp vq vb : Value), k = s.size - p ∧ p ≤ s.size ∧ RdAt w.heap.size wr B t p vt vp vq vb ∧ TabAt wr M ∧ Only (fun k => k = B) w wr ∧ runL t p [] (s.data.toList.drop p) = q ∧ StB t ∧ 0 ≤ t.lines ∧ t.lines ≤ p)
  case atStart => exact ⟨0, st0, _, _, _, _, rfl, Nat.zero_le _, HR1.out, HT1.out, HO1.out, HQ.out, ⟨by decide, by decide, by decide, by decide⟩, by decide, by decide⟩
  case round =>
    obtain ⟨p, t, vt, vp, vq, vb, hgk, hp, hRr, hTr, hOr, hqr, hSr, hl0, hl1⟩ := hrel
    have HG := Lib.hid hgk
    have HRr := Lib.hid hRr
    have HTr := Lib.hid hTr
    have HOr := Lib.hid hOr
    have HSr := Lib.hid hSr
    have HQr := Lib.hid hqr
    have c13 : wr.cell? ⟨B, 13, none⟩ = some (.int .i64 p) := hRr.cell 13 rfl
    have hbase : w.heap.size ≤ wr.heap.size := hOr.size
    clear hgk hRr hTr hOr hSr hqr HR1 HT1 HO1
    by_cases hlt : p < s.size
    · have j1 : (p : Int) < s.size := by omega
      have j2 : 0 ≤ (p : Int) := by omega
      have HIX := Lib.hid (Tryz.strings_IndexByte (s.extract p s.size) 10 wr)
      rw [Lib.extract_to_end] at HIX
      have HCUT := Lib.hid (cut_nl (s.data.toList.drop p))
      have HLD := Lib.hid (show (s.data.toList.drop p).length = s.size - p by rw [List.length_drop, HL.out])
      obtain ⟨r, hr⟩ : ∃ r, s.data.toList.drop p = r := ⟨_, rfl⟩
      rw [hr] at HIX HCUT HQr HLD
      have HRD := Lib.hid hr
      clear hr
      rcases HCUT.out with ⟨hno, hix⟩ | ⟨x, r', hrx, hno, hix⟩
      · have HQE := Lib.hid (show q = (12, p, t) by
          rw [← HQr.out, runL_none hno, if_neg]
          rintro ⟨h1, _⟩
          have h2 := HLD.out
          rw [show r = [] from h1] at h2
          simp at h2; omega)
        have hix2 : Lib.indexByte r (10 : Int).toNat.toUInt8 = -1 := hix
        rw [hix2] at HIX
        have HNE := Lib.hid (need_no B p 12 wr c13)
        clear hix hix2 hno
        go_wp2_with fail
        refine HIX.out.mono ?_
        rintro e w' ⟨rfl, hw'⟩
        obtain rfl := hw'.symm
        clear hw'
        go_wp2_with fail
        refine HNE.out.mono ?_
        rintro e w' ⟨rfl, rfl⟩
        go_wp2_with fail
        exact ⟨rfl, HOr.out, .inr ⟨by rw [HQE.out]; exact (show (12 : Int) ≠ 0 by decide), by rw [HQE.out]⟩⟩
      · have hix2 : Lib.indexByte r (10 : Int).toNat.toUInt8 = x.length := hix
        rw [hix2] at HIX
        have hxl : x.length + 1 + p ≤ s.size := by
          have h2 := HLD.out
          rw [hrx] at h2
          simp at h2; omega
        have HX := Lib.hid (show s.extract p (p + x.length) = ⟨x.toArray⟩ from tl_inj (by rw [Lib.extract_data, HRD.out, hrx, Nat.add_sub_cancel_left, List.take_left]))
        have HRN := Lib.hid (show s.data.toList.drop (p + (x.length + 1)) = r' by rw [← List.drop_drop, HRD.out, hrx, ← List.drop_drop, List.drop_left]; rfl)
        have HQL := Lib.hid (HQr.out.symm.trans ((congrArg (runL t p []) hrx).trans (runL_line (cur := []) hno)))
        rw [List.nil_append] at HQL
        have hsx : (⟨x.toArray⟩ : ByteArray).size = x.length := by simp [ByteArray.size]
        have HPT := Lib.hid (fun W (hW : W.cell? ⟨B, 13, none⟩ = some (.int .i64 p) ∧ Only (fun _ => False) wr W) => show Calls Tryz.prog 55 #[.string (s.extract p (p + x.length))] W (fun e wT => (∃ v, e = .returned v ∧ wT.ownsRow wr.heap.size 20 1 v (wordsB ⟨x.toArray⟩).length ((wordsB ⟨x.toArray⟩).map partV)) ∧ wT.cell? ⟨B, 13, none⟩ = some (.int .i64 p) ∧ Only (fun _ => False) wr wT) from by
          rw [HX.out]
          refine (parts_any ⟨x.toArray⟩ W (by rw [hsx]; omega) ((HM.out.only HOr.out hB).only hW.2 (fun h => h))).mono ?_
          rintro e wT ⟨v, rfl, hv, hT⟩
          exact ⟨⟨v, rfl, ownR_base hv hW.2.size⟩, hT.cell hW.1 (fun h => h), hW.2.trans hT⟩)
        have HKS := Lib.hid (show ∀ W, Only (fun _ => False) wr W → (W.cell? ⟨B, 13, none⟩ = some (.int .i64 p) ∧ Only (fun _ => False) wr W) from fun W h => ⟨h.cell c13 id, h⟩)
        have e1 : IntKind.i64.wrap ((p : Int) + x.length) = (p : Int) + x.length := IntWalk.i64_in _ (by omega)
        have e2 : 0 ≤ (p : Int) + x.length := by omega
        have e3 : ((p : Int) + x.length).toNat = p + x.length := by omega
        have e4 : (p : Int) + x.length ≤ s.size := by omega
        have e5 : (p : Int) ≤ (p : Int) + x.length := by omega
        have hws := words_pos ⟨x.toArray⟩
        have hwl := fun P (h : P ∈ wordsB ⟨x.toArray⟩) => words_le ⟨x.toArray⟩ P h
        rw [hsx] at hwl
        obtain ⟨ws, hwz⟩ : ∃ ws, wordsB ⟨x.toArray⟩ = ws := ⟨_, rfl⟩
        rw [hwz] at HPT HQL hws hwl
        have hns := nameV_size (n := x.length) hws hwl
        clear hix hix2 hno hrx hwz hsx hwl
        go_wp2_with fail
        refine HIX.out.mono ?_
        rintro e w' ⟨rfl, hw'⟩
        obtain rfl := hw'.symm
        clear hw'
        go_wp2_with fail
        refine (need_ok B 12 wr).mono ?_
        rintro e w' ⟨rfl, rfl⟩
        go_wp2_with fail
        go_region_held3 (fun W => W.cell? ⟨B, 13, none⟩ = some (.int .i64 p) ∧ Only (fun _ => False) wr W)
          (first | with_reducible exact HKS.out _ ((Only.refl _ wr).drew) | with_reducible exact hSK)
          ((go_at_call 55; refine (HPT.out _ (by assumption)).mono ?_; rintro e wK ⟨⟨v, rfl, hvK⟩, hSK⟩))
        clear e1 e3
        have HPK := Lib.hid (prt_of_own hvK hws)
        have HRK := Lib.hid (HRr.out.still hSK.2)
        have HTK := Lib.hid (HTr.out.only hSK.2 (fun h => h))
        have HOK := Lib.hid (HOr.out.trans' hSK.2 (fun _ _ h => h.elim))
        have HNM := Lib.hid (name_any v ws 0 (nameV ws 0) wK HPK.out hws rfl)
        have HKN := Lib.hid (key_name ws)
        have c13 := hSK.1
        have hbK := HOK.out.size
        have HNE := Lib.hid (need_no B p 12 wK c13)
        obtain ⟨nm, hnm⟩ : ∃ nm, nameV ws 0 = nm := ⟨_, rfl⟩
        rw [hnm] at HNM HKN hns
        clear hvK hSK HIX HPT HKS hnm
        by_cases hk : keyOf nm < 11
        · have HK := Lib.hid (HKN.out)
          obtain ⟨kk, hkk⟩ : ∃ kk, keyOf nm = kk := ⟨_, rfl⟩
          rw [hkk] at hk HK
          obtain ⟨F, hF⟩ : ∃ F, fnOf kk = F := ⟨_, rfl⟩
          have HCL := Lib.hid (call_any w.heap.size B p t vt vp vq vb v ws wK kk hk HRK.out HPK.out hbK HSr.out)
          have hen := fun W => call_enter kk hk (.pointer (some ⟨B, 0, none⟩)) v W
          rw [hF] at HCL hen
          have HQ1 := Lib.hid (fun (h : (lnOf t ws kk).1 ≠ 0) => show q = ((lnOf t ws kk).1, p, t) by
            have h2 : (lnOf t ws (keyOf (wAt ws 0))).1 = (lnOf t ws kk).1 := by rw [HK.out]
            have h3 := line_err h2 h
            rw [HQL.out, if_neg (by rw [h3]; exact h), h3])
          have HQ0 := Lib.hid (fun (h : (lnOf t ws kk).1 = 0) => show q = runL { (lnOf t ws kk).2 with lines := (lnOf t ws kk).2.lines + 1 } (p + x.length + 1) [] r' by
            have h3 := line_ok (t := t) (ws := ws) (by rw [← HK.out]; exact h)
            rw [HQL.out, h3, ← HK.out, lnOf_lines]; rfl)
          have HLN := Lib.hid (lnOf_lines t ws kk)
          have HBD := Lib.hid (lnOf_bd ws kk HSr.out)
          have HKK := Lib.hid hkk
          have HFF := Lib.hid hF
          have HLT := Lib.hid hk
          generalize lnOf t ws kk = rr at *
          clear hkk hF hk HK HKN HQL c13
          go_wp2_with fail
          refine HNM.out.mono ?_
          rintro e w' ⟨rfl, rfl⟩
          go_wp2_with (at_lookup; refine wpList_tab_yes _ rfl _ _ rfl M rfl HTK.out nm rfl (by omega) kk HKK.out HLT.out F HFF.out ?_)
          refine (need_ok B 12 wK).mono ?_
          rintro e w' ⟨rfl, rfl⟩
          go_wp2_with fail
          refine HCL.out.mono ?_
          rintro e w5 ⟨hO5, ⟨hz, rfl, vt', vp', vq', vb', hR5⟩ | ⟨hz, rfl⟩⟩
          · have HR5 := Lib.hid hR5
            have HO5 := Lib.hid (rdS_only HRK.out (Nat.le_refl _) HOK.out hO5)
            have HT5 := Lib.hid (HTK.out.only hO5 (rdS_tab HRK.out HTK.out))
            have HQE := Lib.hid (HQ0.out hz)
            have hll := HLN.out
            obtain ⟨m0, m1⟩ : 0 ≤ rr.2.lines ∧ rr.2.lines ≤ p := by omega
            have k13 : w5.cell? ⟨B, 13, none⟩ = some (.int .i64 p) := hR5.cell 13 rfl
            have k14 : w5.cell? ⟨B, 14, none⟩ = some (.int .i64 rr.2.lines) := hR5.cell 14 rfl
            have z13 := hR5.frz 13
            have z14 := hR5.frz 14
            clear hR5 hO5 hz hll
            go_wp2_with fail
            go_roundg (s.size - (p + (x.length + 1)))
            case measure => have := HG.out; omega
            case rel =>
              refine ⟨p + (x.length + 1), { rr.2 with lines := rr.2.lines + 1 }, vt', vp', vq', vb', rfl, by omega, ?_, ?_, ?_, ?_, HBD.out, ?_, ?_⟩
              · exact ((HR5.out.set (t' := { rr.2 with lines := rr.2.lines + 1 }) 14 _ rfl rfl rfl rfl rfl).set 13 _ (by simp [rdCells]) rfl rfl rfl rfl)
              · exact (HT5.out.only (S := fun k => k = B) (((Only.refl (fun k => k = B) w5).setCell (p := ⟨B, 14, none⟩) (.inl rfl) _).setCell (p := ⟨B, 13, none⟩) (.inl rfl) _) (fun e => by have := rdS_tab HR5.out HT5.out; exact this (.inl e)))
              · exact ((HO5.out.setCell (.inl rfl) _).setCell (.inl rfl) _)
              · rw [HRN.out]; exact HQE.out.symm
              · show 0 ≤ rr.2.lines + 1; omega
              · show rr.2.lines + 1 ≤ ((p + (x.length + 1) : Nat) : Int); omega
          · have HO5 := Lib.hid (rdS_only HRK.out (Nat.le_refl _) HOK.out hO5)
            have HQE := Lib.hid (HQ1.out hz)
            have HZ := Lib.hid hz
            clear hO5 hz
            go_wp2_with fail
            exact ⟨rfl, HO5.out, .inr ⟨by rw [HQE.out]; exact HZ.out, by rw [HQE.out]⟩⟩
        · have HQE := Lib.hid (show q = (12, p, t) by rw [HQL.out, line_none (by rw [← HKN.out]; exact hk)]; rfl)
          have HLT := Lib.hid hk
          clear hk HKN HQL c13
          go_wp2_with fail
          refine HNM.out.mono ?_
          rintro e w' ⟨rfl, rfl⟩
          go_wp2_with (at_lookup; refine wpList_tab_no _ rfl _ _ rfl M rfl HTK.out nm rfl (by omega) HLT.out ?_; intro v0)
          refine HNE.out.mono ?_
          rintro e w' ⟨rfl, rfl⟩
          go_wp2_with fail
          exact ⟨rfl, HOK.out, .inr ⟨by rw [HQE.out]; exact (show (12 : Int) ≠ 0 by decide), by rw [HQE.out]⟩⟩
    · obtain rfl : p = s.size := by omega
      have j1 : ¬ (s.size : Int) < s.size := by omega
      have HQE := Lib.hid (show q = if 4 ≤ t.lines then (0, 0, t) else (12, s.size, t) by
        rw [← HQr.out, List.drop_of_length_le (by rw [HL.out]; exact Nat.le_refl _)]
        show (if ([] : List UInt8) = [] ∧ 4 ≤ t.lines then _ else _) = _
        simp)
      have c14 : wr.cell? ⟨B, 14, none⟩ = some (.int .i64 t.lines) := HRr.out.cell 14 rfl
      have HNE := Lib.hid (need_no B s.size 12 wr c13)
      clear hlt hp
      by_cases h4 : 4 ≤ t.lines
      · have HQ2 := Lib.hid (show q = (0, 0, t) by rw [HQE.out, if_pos h4])
        clear hl1
        generalize t.lines = n at *
        go_wp2_with fail
        refine (need_ok B 12 wr).mono ?_
        rintro e w' ⟨rfl, rfl⟩
        go_wp2_with fail
        go_end0
        exact ⟨HOr.out, .inl ⟨by rw [HQ2.out], rfl, _, vt, vp, vq, vb, by rw [HQ2.out]; exact HRr.out⟩⟩
      · have HQ2 := Lib.hid (show q = (12, s.size, t) by rw [HQE.out, if_neg h4])
        clear hl1
        generalize t.lines = n at *
        go_wp2_with fail
        refine HNE.out.mono ?_
        rintro e w' ⟨rfl, rfl⟩
        go_wp2_with fail
        exact ⟨rfl, HOr.out, .inr ⟨by rw [HQ2.out]; exact (show (12 : Int) ≠ 0 by decide), by rw [HQ2.out]⟩⟩
end Go.Proofs.YteikkpiginfbkaaGreatDoor

namespace Go.Proofs.YteikkpiginfbkaaGreatDoor
open Go.RowKit

theorem ta_fault (v : Value) (w : World) : (Instr.typeAssert (.iface 80 v) 20 80 true).run Tryz.prog w = .ok (.tuple #[v, .bool true]) w := by kernel_rfl
theorem ta_nofault (w : World) : (Instr.typeAssert .nilIface 20 80 true).run Tryz.prog w = .ok (.tuple #[.agg #[.int .i64 0, .int .i64 0], .bool false]) w := by kernel_rfl
/-- A region whose first operation asks for the panic: the rest is walked as any region. -/
theorem wpS_rec {P : Program} {id : Nat} {o : Oper} {l : List Oper} {Q : Exit → Act → List Frame → World → Prop} {a : Act} {cs cs' : List Frame} {w : World} {v : Value} (hw : Region.wanted o (yielded (o :: l).toArray a.tmps) = true)
    (hx : (execOp a.eval o).run P w = .ok .recover w) (hr : recoverD cs = some (v, cs') ∨ (recoverD cs = none ∧ v = .nilIface ∧ cs' = cs))
    (h : wpList P (o :: l).toArray (fun e a w => Q e a cs' w) l (a.put o.dst v) w) : (Code.region id (o :: l).toArray false).wpS P Q a cs w := by
  intro b k hb _
  have h1 := wpOps_eq_wpList (P := P) (ops := (o :: l).toArray) (Q := fun e a w => Q e a cs' w) l 1 (fun j => by simp [Nat.add_comm 1 j])
  rw [← h1] at h
  obtain ⟨e, a', w', hq, harr⟩ := wp_ops _ _ _ h b k cs'
  have ho : (o :: l).toArray[0]? = some o := by simp
  have hrg : List.range (o :: l).toArray.size = 0 :: List.range' 1 l.length := by rw [List.range_eq_range']; simp [List.range'_succ]
  have hg := stepG_op (P := P) (b := b) (k := k) (cs := cs) (w := w) (rest := List.range' 1 l.length) ho hw
  have hfin : (b.at a (.inRegion (o :: l).toArray (0 :: List.range' 1 l.length) :: k)).finish v = b.at (a.put o.dst v) (.inRegion (o :: l).toArray (List.range' 1 l.length) :: k) := by
    rw [Frame.finish_at, ho]; rfl
  have hk : (b.at a (.inRegion (o :: l).toArray (0 :: List.range' 1 l.length) :: k)).kind = .deferred := hb
  have htr := tryRecover_deferred hk cs
  have hs : step P (lone (b.at a (.inRegion (o :: l).toArray (0 :: List.range' 1 l.length) :: k)) cs w) = .next (lone (b.at (a.put o.dst v) (.inRegion (o :: l).toArray (List.range' 1 l.length) :: k)) cs' w) := by
    refine step_lone_go ?_
    rw [hg, ← hfin]
    simp only [Frame.at] at htr ⊢
    rcases hr with hr | ⟨hr, rfl, rfl⟩
    · simp [stepG.apply, hx, htr, hr]
    · simp [stepG.apply, hx, htr, hr]
  have h0 := step_region (P := P) (b := b) (a := a) (k := k) (cs := cs) (w := w) (ops := (o :: l).toArray) (id := id)
  rw [hrg] at h0
  exact ⟨e, a', cs', w', hq, .of_steps (.head h0 (.one hs)) harr⟩
set_option maxHeartbeats 1000000 in
theorem catch_idle (a b c : Addr) (w : World) :
    CallsD Tryz.prog 33 #[.pointer (some a), .pointer (some b), .pointer (some c)] .returning w fun e u' w' => e = .returned (.tuple #[]) ∧ u' = .returning ∧ Only (fun _ => False) w w' := by
  have ta := ta_nofault
  refine callsD_of_wpS Tryz.func33 rfl fun c₀ cs hu => ?_
  simp only [Tryz.ntmps33, List.size_toArray, List.length_cons, List.length_nil, Nat.reduceAdd, Nat.reduceSub, Array.replicate_succ, Array.replicate_zero, List.push_toArray, List.append_toArray, List.nil_append, List.cons_append]
  apply wpS_seq
  refine wpS_rec rfl rfl (.inr ⟨by simp [recoverD, hu], rfl, rfl⟩) ?_
  go_wp2_with fail
  refine wpS_of_wp ?_
  go_wp2_with fail
  refine ⟨rfl, .returning, by cases c₀; simp_all, _, results_none rfl _ _ _, rfl, rfl, (Only.refl _ w).alloc _⟩
def zeroD : Array Value := #[.string ⟨#[]⟩, .int .i64 0, .int .i64 0, .int .i64 0, .int .i64 0, .int .i64 0, .slice none 0 0, .bool false, .slice none 0 0, .int .i64 0, .int .i64 0, .slice none 0 0, .slice none 0 0]
theorem stepR_store_row {P : Program} {w : World} {ops : Array Oper} {o : Oper} {a : Act} {K : Act → World → Prop} {Q : Exit → Act → World → Prop} {E : Prop} (hgd : o.guard = none) (ty : TypeId) (x y : Operand) (ho : o.op = .store ty x y)
    (g : Nat) (cells : Array Value) (hx : a.eval x = .pointer (some ⟨g, 0, none⟩)) (hy : a.eval y = .agg cells)
    (t : TypeId) (old : Array Value) (hg : w.heap[g]? = some (.cells old t (0, 0))) (hi : (P.info? ty).map (·.size) = some cells.size)
    (hold : old.size = cells.size) (h1 : cells.all (·.oneCell') = true)
    (h : K (a.put o.dst undef) (w.setRow g cells)) : if Region.wanted o (yielded ops a.tmps) = true then Oper.wp P o a w K Q else E := by
  have hw : Region.wanted o (yielded ops a.tmps) = true := by simp [Region.wanted, hgd]
  rw [if_pos hw]
  exact wp_store_row ty x y ho g cells hx hy t old hg hi hold h1 h
theorem onlyR_row {S : Nat → Prop} {a w : World} (h : Only S a w) {g : Nat} (hg : S g ∨ a.heap.size ≤ g) (cs : Array Value) : Only S a (w.setRow g cs) :=
  h.trans' (T := fun k => k = g) ⟨rfl, rfl, rfl, by simp, fun k _ hk => setRow_other w g k cs hk⟩
    (fun i hi e => by rcases hg with hg | hg
                      · rw [e]; exact hg
                      · omega)
theorem zeroD_one : zeroD.all (·.oneCell') = true := by kernel_rfl
theorem Tryz.infoDr : (Tryz.prog.info? 33).map (·.size) = some 13 := by kernel_rfl
/-- What the three results hold. -/
def ResAt (w : World) (P1 : Nat) (cs : Array Value) (pos err : Int) : Prop :=
  w.heap[P1]? = some (.cells cs 33 (0, 0)) ∧ w.heap[P1 + 1]? = some (.cells #[.int .i64 pos] 3 (0, 0)) ∧ w.heap[P1 + 2]? = some (.cells #[.int .i64 err] 35 (0, 0))
set_option maxRecDepth 100000 in
set_option maxHeartbeats 2000000 in
theorem catch_panicking (P1 : Nat) (cs0 : Array Value) (pos0 err0 pos err : Int) (older : List PanicEntry) (w : World) (hz : cs0.size = 13) (h : ResAt w P1 cs0 pos0 err0) :
    CallsD Tryz.prog 33 #[.pointer (some ⟨P1, 0, none⟩), .pointer (some ⟨P1 + 1, 0, none⟩), .pointer (some ⟨P1 + 2, 0, none⟩)] (.panicking ({ v := .iface 80 (.agg #[.int .i64 pos, .int .i64 err]), recovered := false } :: older)) w fun e u' w' =>
      e = .returned (.tuple #[]) ∧ u' = .panicking ({ v := .iface 80 (.agg #[.int .i64 pos, .int .i64 err]), recovered := true } :: older) ∧ ResAt w' P1 zeroD pos err ∧ Only (fun k => k = P1 ∨ k = P1 + 1 ∨ k = P1 + 2) w w' := by
  have ta := ta_fault
  obtain ⟨h1, h2, h3⟩ := h
  have l3 := (Array.getElem?_eq_some_iff.1 h3).1
  have H1 := Lib.hid h1
  have k2 : w.cell? ⟨P1 + 1, 0, none⟩ = some (.int .i64 pos0) := cell_of_row _ _ 0 _ _ _ h2
  have k3 : w.cell? ⟨P1 + 2, 0, none⟩ = some (.int .i64 err0) := cell_of_row _ _ 0 _ _ _ h3
  have z2 : w.frozen? ⟨P1 + 1, 0, none⟩ = false := frozen_of_row _ _ _ _ _ h2
  have z3 : w.frozen? ⟨P1 + 2, 0, none⟩ = false := frozen_of_row _ _ _ _ _ h3
  have H2 := Lib.hid h2
  have H3 := Lib.hid h3
  clear h1 h2 h3
  refine callsD_of_wpS Tryz.func33 rfl fun c₀ cs hu => ?_
  simp only [Tryz.ntmps33, List.size_toArray, List.length_cons, List.length_nil, Nat.reduceAdd, Nat.reduceSub, Array.replicate_succ, Array.replicate_zero, List.push_toArray, List.append_toArray, List.nil_append, List.cons_append]
  apply wpS_seq
  refine wpS_rec (v := .iface 80 (.agg #[.int .i64 pos, .int .i64 err])) (cs' := { c₀ with mode := .panicking ({ v := .iface 80 (.agg #[.int .i64 pos, .int .i64 err]), recovered := true } :: older) } :: cs) rfl rfl (.inl (by simp [recoverD, hu])) ?_
  go_wp2_with fail
  refine wpS_of_wp ?_
  go_wp2_with fail
  have HB := Lib.hid (heap_alloc_last w (.cells #[.int .i64 pos, .int .i64 err] 80))
  have HO := Lib.hid ((Only.refl (fun _ => False) w).alloc (.cells #[.int .i64 pos, .int .i64 err] 80))
  generalize World.alloc w _ = w1 at *
  have c0 : w1.cell? ⟨w.heap.size, 0, none⟩ = some (.int .i64 pos) := cell_of_row _ _ 0 _ _ _ HB.out
  have c1 : w1.cell? ⟨w.heap.size, 1, none⟩ = some (.int .i64 err) := cell_of_row _ _ 1 _ _ _ HB.out
  refine wp_region_held_drew (S := fun W => W.cell? ⟨w.heap.size, 0, none⟩ = some (.int .i64 pos) ∧ W.cell? ⟨w.heap.size, 1, none⟩ = some (.int .i64 err)) (by kernel_rfl) ⟨c0, c1⟩ fun hHeld => ?_
  refine' wpAnyH_take (i := 0) (v := _) rfl (by kernel_rfl) (by kernel_rfl) (by kernel_rfl) (fun _ _ _ h => h) (Or.inl ⟨by rfl, ?hy0⟩) hHeld ?r0
  case hy0 => (intro w hSw; obtain ⟨s0, s1⟩ := hSw; go_simp; with_reducible rfl)
  simp only [Act.put, List.getElem_toArray, List.getElem_cons_zero, List.setIfInBounds_toArray, List.set_cons_zero, List.set_cons_succ]
  refine' wpAnyH_take (i := 1) (v := _) rfl (by kernel_rfl) (by kernel_rfl) (by kernel_rfl) (fun _ _ _ h => h) (Or.inl ⟨by rfl, ?hy1⟩) hHeld ?r1
  case hy1 => (intro w hSw; obtain ⟨s0, s1⟩ := hSw; go_simp; with_reducible rfl)
  simp only [Act.put, List.getElem_toArray, List.getElem_cons_zero, List.getElem_cons_succ, List.setIfInBounds_toArray, List.set_cons_zero, List.set_cons_succ]
  refine' wpAnyH_take (i := 2) (v := _) rfl (by kernel_rfl) (by kernel_rfl) (by kernel_rfl) (fun _ _ _ h => h) (Or.inl ⟨by rfl, ?hy2⟩) hHeld ?r2
  case hy2 => (intro w hSw; obtain ⟨s0, s1⟩ := hSw; go_simp; with_reducible rfl)
  simp only [Act.put, List.getElem_toArray, List.getElem_cons_zero, List.getElem_cons_succ, List.setIfInBounds_toArray, List.set_cons_zero, List.set_cons_succ]
  refine' wpAnyH_take (i := 3) (v := _) rfl (by kernel_rfl) (by kernel_rfl) (by kernel_rfl) (fun _ _ _ h => h) (Or.inl ⟨by rfl, ?hy3⟩) hHeld ?r3
  case hy3 => (intro w hSw; obtain ⟨s0, s1⟩ := hSw; go_simp; with_reducible rfl)
  simp only [Act.put, List.getElem_toArray, List.getElem_cons_zero, List.getElem_cons_succ, List.setIfInBounds_toArray, List.set_cons_zero, List.set_cons_succ]
  refine' wpAnyH_take (i := 4) (v := _) rfl (by kernel_rfl) (by kernel_rfl) (by kernel_rfl) (fun _ _ _ h => h) (Or.inl ⟨by rfl, ?hy4⟩) hHeld ?r4
  case hy4 => (intro w hSw; obtain ⟨s0, s1⟩ := hSw; go_simp; with_reducible rfl)
  simp only [Act.put, List.getElem_toArray, List.getElem_cons_zero, List.getElem_cons_succ, List.setIfInBounds_toArray, List.set_cons_zero, List.set_cons_succ]
  have HW5 := Lib.hid (show Only (fun k => k = P1) w (w1.drew.setRow P1 zeroD) from onlyR_row (S := fun k => k = P1) ((HO.out.drew).mono (fun _ _ h => h.elim)) (.inl rfl) _)
  have B1 := Lib.hid (setRow_heap w1.drew P1 cs0 zeroD 33 (0, 0) ((HO.out.drew.block P1 (by omega) (fun h => h)).trans H1.out))
  have B2 := Lib.hid ((HW5.out.block (P1 + 1) (by omega) (by omega)).trans H2.out)
  have B3 := Lib.hid ((HW5.out.block (P1 + 2) (by omega) (by omega)).trans H3.out)
  have s0 := (cell_setRow_other w1.drew P1 zeroD ⟨w.heap.size, 0, none⟩ (by dsimp only; omega)).trans hHeld.1
  have s1 := (cell_setRow_other w1.drew P1 zeroD ⟨w.heap.size, 1, none⟩ (by dsimp only; omega)).trans hHeld.2
  refine wpAnyH_ready (rs := [5]) (by kernel_rfl) (by simp) ?_
  refine AllReadyH.cons rfl (fun K hK => ?_) AllReadyH.nil
  refine stepR_store_row rfl 33 (.tmp 0) (.tmp 11) rfl P1 zeroD rfl rfl 33 cs0 ((HO.out.drew.block P1 (by omega) (fun h => h)).trans H1.out) Tryz.infoDr hz zeroD_one ?_
  refine hK _ _ ⟨s0, s1⟩ (fun hHeld => ?_)
  clear hK K
  generalize w1.drew.setRow P1 zeroD = w5 at *
  simp only [Act.put, List.setIfInBounds_toArray]
  have k2 : w5.cell? ⟨P1 + 1, 0, none⟩ = some (.int .i64 pos0) := cell_of_row _ _ 0 _ _ _ B2.out
  have z2 : w5.frozen? ⟨P1 + 1, 0, none⟩ = false := frozen_of_row _ _ _ _ _ B2.out
  have k3 : w5.cell? ⟨P1 + 2, 0, none⟩ = some (.int .i64 err0) := cell_of_row _ _ 0 _ _ _ B3.out
  have z3 : w5.frozen? ⟨P1 + 2, 0, none⟩ = false := frozen_of_row _ _ _ _ _ B3.out
  refine wpAnyH_ready (rs := [6]) (by kernel_rfl) (by simp) ?_
  refine AllReadyH.cons rfl (fun K hK => ?_) AllReadyH.nil
  go_simp
  have HW6 := Lib.hid ((Only.refl (fun k => k = P1 + 1) w5).setCell (p := ⟨P1 + 1, 0, none⟩) (.inl rfl) (.int .i64 pos))
  refine hK _ _ ⟨HW6.out.cell s0 (by dsimp only; omega), HW6.out.cell s1 (by dsimp only; omega)⟩ (fun hHeld => ?_)
  clear hK K hHeld
  have D2 := Lib.hid (heap_setCell_same w5 (P1 + 1) 0 _ _ (.int .i64 pos) B2.out)
  have D1 := Lib.hid ((HW6.out.block P1 (by have := HW5.out.size; omega) (by omega)).trans B1.out)
  have D3 := Lib.hid ((HW6.out.block (P1 + 2) (by have := HW5.out.size; omega) (by omega)).trans B3.out)
  have HW7 := Lib.hid (HW5.out.mono (T := fun k => k = P1 ∨ k = P1 + 1 ∨ k = P1 + 2) (fun _ _ h => .inl h) |>.trans (HW6.out.mono (fun _ _ h => .inr (.inl h))))
  have t0 := HW6.out.cell s0 (by dsimp only; omega)
  have t1 := HW6.out.cell s1 (by dsimp only; omega)
  generalize w5.setCell ⟨P1 + 1, 0, none⟩ (.int .i64 pos) = w6 at *
  have m3 : w6.cell? ⟨P1 + 2, 0, none⟩ = some (.int .i64 err0) := cell_of_row _ _ 0 _ _ _ D3.out
  have y3 : w6.frozen? ⟨P1 + 2, 0, none⟩ = false := frozen_of_row _ _ _ _ _ D3.out
  refine wpAnyH_ready (rs := [7]) (by kernel_rfl) (by simp) ?_
  refine AllReadyH.cons rfl (fun K hK => ?_) AllReadyH.nil
  go_simp
  have HW8 := Lib.hid ((Only.refl (fun k => k = P1 + 2) w6).setCell (p := ⟨P1 + 2, 0, none⟩) (.inl rfl) (.int .i64 err))
  refine hK _ _ ⟨HW8.out.cell t0 (by dsimp only; omega), HW8.out.cell t1 (by dsimp only; omega)⟩ (fun hHeld => ?_)
  clear hK K hHeld
  refine wpAnyH_done (by kernel_rfl) ?_ _
  have hz6 : P1 + 2 < w6.heap.size := by have := HW7.out.size; omega
  exact ⟨rfl, _, rfl, _, results_none rfl _ _ _, rfl, rfl, ⟨(HW8.out.block P1 (by omega) (by omega)).trans D1.out, (HW8.out.block (P1 + 1) (by omega) (by omega)).trans D2.out, heap_setCell_same w6 (P1 + 2) 0 _ _ _ D3.out⟩, HW7.out.trans (HW8.out.mono (fun _ _ h => .inr (.inr h)))⟩
end Go.Proofs.YteikkpiginfbkaaGreatDoor

namespace Go.Proofs.YteikkpiginfbkaaGreatDoor
open Go.RowKit

def drCells (d : Dr) (vt vp vq vb : Value) : Array Value :=
  #[.string d.name, .int .i64 d.kind, .int .i64 d.round, .int .i64 d.price, .int .i64 d.pool, .int .i64 d.pick, vt, .bool d.roll, vp, .int .i64 d.cls, .int .i64 d.size, vq, vb]
/-- The lists of a draw, each in a block of its own from base on. -/
structure DrOwn (base : Nat) (W : World) (d : Dr) (vt vp vq vb : Value) : Prop where
  tiers : W.ownsRow base 50 2 vt d.tiers.length (trow d.tiers)
  places : W.ownsRow base 73 2 vp d.places.length (prow d.places)
  quotas : W.ownsRow base 75 3 vq d.quotas.length (qrow d.quotas)
  bars : W.ownsRow base 3 1 vb d.barred.length (irow d.barred)
theorem DrOwn.only {base : Nat} {w w' : World} {d : Dr} {vt vp vq vb : Value} {S : Nat → Prop} (h : DrOwn base w d vt vp vq vb) (hO : Only S w w') (hS : ∀ k, base ≤ k → ¬ S k) : DrOwn base w' d vt vp vq vb :=
  ⟨hO.owns h.tiers (fun g hg => hS g (ownR_ge h.tiers hg)), hO.owns h.places (fun g hg => hS g (ownR_ge h.places hg)), hO.owns h.quotas (fun g hg => hS g (ownR_ge h.quotas hg)), hO.owns h.bars (fun g hg => hS g (ownR_ge h.bars hg))⟩
theorem DrOwn.base {base base' : Nat} {w : World} {d : Dr} {vt vp vq vb : Value} (h : DrOwn base w d vt vp vq vb) (hb : base' ≤ base) : DrOwn base' w d vt vp vq vb :=
  ⟨ownR_base h.tiers hb, ownR_base h.places hb, ownR_base h.quotas hb, ownR_base h.bars hb⟩
theorem dr0_own (base : Nat) (W : World) : DrOwn base W dr0 (.slice none 0 0) (.slice none 0 0) (.slice none 0 0) (.slice none 0 0) :=
  ⟨World.ownsRow_nil _ _ _ _, World.ownsRow_nil _ _ _ _, World.ownsRow_nil _ _ _ _, World.ownsRow_nil _ _ _ _⟩
/-- What Parse leaves. -/
def ParseRu (q : Int × Nat × Dr) (w : World) (e : Ending) (w' : World) : Prop :=
  ∃ vt vp vq vb, e = .returned (.tuple #[.agg (drCells q.2.2 vt vp vq vb), .int .i64 q.2.1, .int .i64 q.1]) ∧ DrOwn w.heap.size w' q.2.2 vt vp vq vb ∧ Only (fun _ => False) w w'
theorem resAt_new (w : World) (cs : Array Value) (pos err : Int) : ResAt (((w.alloc (.cells cs 33)).alloc (.cells #[.int .i64 pos] 3)).alloc (.cells #[.int .i64 err] 35)) w.heap.size cs pos err := by
  have h1 := heap_alloc_last w (.cells cs 33)
  have h2 := heap_alloc_last (w.alloc (.cells cs 33)) (.cells #[.int .i64 pos] 3)
  have h3 := heap_alloc_last ((w.alloc (.cells cs 33)).alloc (.cells #[.int .i64 pos] 3)) (.cells #[.int .i64 err] 35)
  have o2 := (Only.refl (fun _ => False) (w.alloc (.cells cs 33))).alloc (.cells #[.int .i64 pos] 3)
  have o3 := (Only.refl (fun _ => False) ((w.alloc (.cells cs 33)).alloc (.cells #[.int .i64 pos] 3))).alloc (.cells #[.int .i64 err] 35)
  simp only [World.size_alloc] at h2 h3
  exact ⟨row_still (o2.trans o3) h1, row_still o3 h2, h3⟩
theorem results_parse {W : World} {tmps : Array Value} {P1 : Nat} {cs : Array Value} {pos err : Int} (h : ResAt W P1 cs pos err) (hz : cs.size = 13) (h2 : tmps.getD 2 undef = .pointer (some ⟨P1, 0, none⟩)) (h3 : tmps.getD 3 undef = .pointer (some ⟨P1 + 1, 0, none⟩)) (h4 : tmps.getD 4 undef = .pointer (some ⟨P1 + 2, 0, none⟩)) :
    (results Tryz.f13 tmps).run Tryz.prog W = .ok (.tuple #[.agg cs, .int .i64 pos, .int .i64 err]) W := by
  obtain ⟨r1, r2, r3⟩ := h
  have c2 : W.cell? ⟨P1 + 1, 0, none⟩ = some (.int .i64 pos) := cell_of_row _ _ 0 _ _ _ r2
  have c3 : W.cell? ⟨P1 + 2, 0, none⟩ = some (.int .i64 err) := cell_of_row _ _ 0 _ _ _ r3
  have h2' : tmps[2]?.getD undef = .pointer (some ⟨P1, 0, none⟩) := by simpa using h2
  have h3' : tmps[3]?.getD undef = .pointer (some ⟨P1 + 1, 0, none⟩) := by simpa using h3
  have h4' : tmps[4]?.getD undef = .pointer (some ⟨P1 + 2, 0, none⟩) := by simpa using h4
  have l1 := run_loadVar_row (P := Tryz.prog) W P1 33 33 cs (0, 0) _ r1 Tryz.underlying33 rfl (by rw [hz]; exact Tryz.infoDr)
  have l2 : (loadVar 3 ⟨P1 + 1, 0, none⟩).run Tryz.prog W = .ok (.int .i64 pos) W := by simp [go_sem, c2]
  have l3 : (loadVar 35 ⟨P1 + 2, 0, none⟩).run Tryz.prog W = .ok (.int .i64 err) W := by simp [go_sem, c3]
  simp [results, Tryz.results13, h2', h3', h4', asAddr, l1, l2, l3]
set_option maxRecDepth 100000 in
set_option maxHeartbeats 4000000 in
theorem parse_big (s : ByteArray) (w : World) (hs : ¬ s.size ≤ 4000) (hs2 : s.size ≤ 281474976710656) :
    Calls Tryz.prog 13 #[.string s] w fun e w' => ParseRu (parseZ s) w e w' := by
  have hq : parseZ s = (2, 4000, dr0) := by unfold parseZ; rw [if_neg hs]
  rw [hq]
  have i1 : (4000 : Int) < s.size := by omega
  clear hq hs
  have hmf : ∀ (fn : Fn) (first cap : Array Value) (w : World), (Instr.makeFunc fn first cap).run Tryz.prog w = .ok (.func fn first cap) w := fun _ _ _ _ => rfl
  go_enter_defers Tryz.func13, Tryz.ntmps13
  go_wp2_with fail
  exact ⟨_, results_parse (resAt_new w zeroD 4000 2) rfl rfl rfl rfl, _, _, _, _, rfl, dr0_own _ _, (((Only.refl _ w).alloc _).alloc _).alloc _⟩
theorem ResAt.still {w w' : World} {P1 : Nat} {cs : Array Value} {pos err : Int} (h : ResAt w P1 cs pos err) (hO : Only (fun _ => False) w w') : ResAt w' P1 cs pos err := ⟨row_still hO h.1, row_still hO h.2.1, row_still hO h.2.2⟩
theorem ResAt.put {w : World} {P1 : Nat} {cs : Array Value} {pos err : Int} (h : ResAt w P1 cs pos err) (p e : Int) : ResAt ((w.setCell ⟨P1 + 1, 0, none⟩ (.int .i64 p)).setCell ⟨P1 + 2, 0, none⟩ (.int .i64 e)) P1 cs p e := by
  obtain ⟨h1, h2, h3⟩ := h
  have a1 := (heap_setCell_other w ⟨P1 + 1, 0, none⟩ P1 (.int .i64 p) (by dsimp only; omega)).trans h1
  have a2 := heap_setCell_same w (P1 + 1) 0 _ _ (.int .i64 p) h2
  have a3 := (heap_setCell_other w ⟨P1 + 1, 0, none⟩ (P1 + 2) (.int .i64 p) (by dsimp only; omega)).trans h3
  refine ⟨?_, ?_, ?_⟩
  · exact (heap_setCell_other _ ⟨P1 + 2, 0, none⟩ P1 _ (by dsimp only; omega)).trans a1
  · exact (heap_setCell_other _ ⟨P1 + 2, 0, none⟩ (P1 + 1) _ (by dsimp only; omega)).trans a2
  · exact heap_setCell_same _ (P1 + 2) 0 _ _ _ a3
theorem rd_new (w : World) : RdAt (w.alloc (.cells (rdCells st0 0 (.slice none 0 0) (.slice none 0 0) (.slice none 0 0) (.slice none 0 0)) 84)).heap.size (w.alloc (.cells (rdCells st0 0 (.slice none 0 0) (.slice none 0 0) (.slice none 0 0) (.slice none 0 0)) 84)) w.heap.size st0 0 (.slice none 0 0) (.slice none 0 0) (.slice none 0 0) (.slice none 0 0) :=
  ⟨heap_alloc_last _ _, World.ownsRow_nil _ _ _ _, World.ownsRow_nil _ _ _ _, World.ownsRow_nil _ _ _ _, World.ownsRow_nil _ _ _ _⟩
set_option maxRecDepth 100000 in
set_option maxHeartbeats 4000000 in
theorem parse_small (s : ByteArray) (w : World) (hs : s.size ≤ 4000) (hm : LenR w) :
    Calls Tryz.prog 13 #[.string s] w fun e w' => ParseRu (parseZ s) w e w' := by
  have HQ := Lib.hid (show parseZ s = (let q := runL st0 0 [] s.data.toList; if q.1 = 0 then (0, 0, q.2.2.d) else (q.1, q.2.1, dr0)) by unfold parseZ; rw [if_pos hs])
  have i1 : ¬ (4000 : Int) < s.size := by omega
  have hmf : ∀ (fn : Fn) (first cap : Array Value) (w : World), (Instr.makeFunc fn first cap).run Tryz.prog w = .ok (.func fn first cap) w := fun _ _ _ _ => rfl
  have HR0 := Lib.hid (resAt_new w zeroD 0 0)
  have HO0 := Lib.hid ((((Only.refl (fun _ => False) w).alloc (.cells zeroD 33)).alloc (.cells #[.int .i64 0] 3)).alloc (.cells #[.int .i64 0] 35))
  have hsz : (((w.alloc (.cells zeroD 33)).alloc (.cells #[.int .i64 0] 3)).alloc (.cells #[.int .i64 0] 35)).heap.size = w.heap.size + 3 := by simp
  have HSZ := Lib.hid hsz
  have HRD := Lib.hid (rd_new (((w.alloc (.cells zeroD 33)).alloc (.cells #[.int .i64 0] 3)).alloc (.cells #[.int .i64 0] 35)))
  have HM := Lib.hid hm
  clear hsz hm
  go_enter_defers Tryz.func13, Tryz.ntmps13
  go_wp2_with fail
  have hRD := HRD.out
  rw [HSZ.out] at hRD
  have HO4 := Lib.hid (HO0.out.alloc (.cells (rdCells st0 0 (.slice none 0 0) (.slice none 0 0) (.slice none 0 0) (.slice none 0 0)) 84))
  have HR4 := Lib.hid (HR0.out.still ((Only.refl (fun _ => False) _).alloc (.cells (rdCells st0 0 (.slice none 0 0) (.slice none 0 0) (.slice none 0 0) (.slice none 0 0)) 84)))
  refine (read_any (w.heap.size + 3) s _ hRD hs (HM.out.only HO4.out (fun h => h)) (by obtain ⟨m, hm⟩ := HM.out; have := World.block_lt_of_cell? _ _ hm; dsimp only at this; omega)).mono ?_
  rintro e w5 ⟨hO5, hcase⟩
  have HO5 := Lib.hid (HO4.out.trans' hO5 (fun i hi e => by omega))
  have HR5 := Lib.hid (show ResAt w5 w.heap.size zeroD 0 0 from ⟨(hO5.block _ (Array.getElem?_eq_some_iff.1 HR4.out.1).1 (by omega)).trans HR4.out.1, (hO5.block _ (Array.getElem?_eq_some_iff.1 HR4.out.2.1).1 (by omega)).trans HR4.out.2.1, (hO5.block _ (Array.getElem?_eq_some_iff.1 HR4.out.2.2).1 (by omega)).trans HR4.out.2.2⟩)
  clear hO5 hRD HR4 HO4 HRD HR0 HO0
  generalize runL st0 0 [] s.data.toList = q at *
  rcases hcase with ⟨hz, rfl, p, vt, vp, vq, vb, hB5⟩ | ⟨hz, rfl⟩
  · obtain ⟨at1, ct, rfl⟩ := slice_of_own hB5.tiers
    obtain ⟨ap1, cp, rfl⟩ := slice_of_own hB5.places
    obtain ⟨aq1, cq, rfl⟩ := slice_of_own hB5.quotas
    obtain ⟨ab1, cb, rfl⟩ := slice_of_own hB5.bars
    obtain ⟨nt, hnt⟩ : ∃ n, q.2.2.d.tiers.length = n := ⟨_, rfl⟩
    obtain ⟨np, hnp⟩ : ∃ n, q.2.2.d.places.length = n := ⟨_, rfl⟩
    obtain ⟨nq, hnq⟩ : ∃ n, q.2.2.d.quotas.length = n := ⟨_, rfl⟩
    obtain ⟨nb, hnb⟩ : ∃ n, q.2.2.d.barred.length = n := ⟨_, rfl⟩
    rw [hnt, hnp, hnq, hnb] at hB5
    have HB5 := Lib.hid hB5
    have HQ0 := Lib.hid (show parseZ s = (0, 0, q.2.2.d) by rw [HQ.out]; exact if_pos hz)
    have HDR := Lib.hid (show DrOwn (w.heap.size + 3) w5 q.2.2.d (.slice at1 nt ct) (.slice ap1 np cp) (.slice aq1 nq cq) (.slice ab1 nb cb) from
      have e : w.heap.size + 3 ≤ (World.alloc (World.alloc (World.alloc (World.alloc w (.cells zeroD 33)) (.cells #[.int .i64 0] 3)) (.cells #[.int .i64 0] 35)) (.cells (rdCells st0 0 (.slice none 0 0) (.slice none 0 0) (.slice none 0 0) (.slice none 0 0)) 84)).heap.size := by simp
      ⟨ownR_base hB5.tiers e, ownR_base hB5.places e, ownR_base hB5.quotas e, ownR_base hB5.bars e⟩)
    clear hz hB5 hnt hnp hnq hnb
    have c0 : w5.cell? ⟨w.heap.size + 3, 0, none⟩ = some (Value.string q.2.2.d.name) := HB5.out.cell 0 rfl
    have c1 : w5.cell? ⟨w.heap.size + 3, 1, none⟩ = some (Value.int .i64 q.2.2.d.kind) := HB5.out.cell 1 rfl
    have c2 : w5.cell? ⟨w.heap.size + 3, 2, none⟩ = some (Value.int .i64 q.2.2.d.round) := HB5.out.cell 2 rfl
    have c3 : w5.cell? ⟨w.heap.size + 3, 3, none⟩ = some (Value.int .i64 q.2.2.d.price) := HB5.out.cell 3 rfl
    have c4 : w5.cell? ⟨w.heap.size + 3, 4, none⟩ = some (Value.int .i64 q.2.2.d.pool) := HB5.out.cell 4 rfl
    have c5 : w5.cell? ⟨w.heap.size + 3, 5, none⟩ = some (Value.int .i64 q.2.2.d.pick) := HB5.out.cell 5 rfl
    have c6 : w5.cell? ⟨w.heap.size + 3, 6, none⟩ = some (.slice at1 nt ct) := HB5.out.cell 6 rfl
    have c7 : w5.cell? ⟨w.heap.size + 3, 7, none⟩ = some (Value.bool q.2.2.d.roll) := HB5.out.cell 7 rfl
    have c8 : w5.cell? ⟨w.heap.size + 3, 8, none⟩ = some (.slice ap1 np cp) := HB5.out.cell 8 rfl
    have c9 : w5.cell? ⟨w.heap.size + 3, 9, none⟩ = some (Value.int .i64 q.2.2.d.cls) := HB5.out.cell 9 rfl
    have c10 : w5.cell? ⟨w.heap.size + 3, 10, none⟩ = some (Value.int .i64 q.2.2.d.size) := HB5.out.cell 10 rfl
    have c11 : w5.cell? ⟨w.heap.size + 3, 11, none⟩ = some (.slice aq1 nq cq) := HB5.out.cell 11 rfl
    have c12 : w5.cell? ⟨w.heap.size + 3, 12, none⟩ = some (.slice ab1 nb cb) := HB5.out.cell 12 rfl
    have HN5 := Lib.hid HR5.out.1
    have HON := Lib.hid (onlyR_row (S := fun k => k = w.heap.size) (Only.refl _ w5) (.inl rfl) #[.string q.2.2.d.name, .int .i64 q.2.2.d.kind, .int .i64 q.2.2.d.round, .int .i64 q.2.2.d.price, .int .i64 q.2.2.d.pool, .int .i64 q.2.2.d.pick, .slice at1 nt ct, .bool q.2.2.d.roll, .slice ap1 np cp, .int .i64 q.2.2.d.cls, .int .i64 q.2.2.d.size, .slice aq1 nq cq, .slice ab1 nb cb])
    obtain ⟨w6, hw6⟩ : ∃ w6, w5.setRow w.heap.size #[.string q.2.2.d.name, .int .i64 q.2.2.d.kind, .int .i64 q.2.2.d.round, .int .i64 q.2.2.d.price, .int .i64 q.2.2.d.pool, .int .i64 q.2.2.d.pick, .slice at1 nt ct, .bool q.2.2.d.roll, .slice ap1 np cp, .int .i64 q.2.2.d.cls, .int .i64 q.2.2.d.size, .slice aq1 nq cq, .slice ab1 nb cb] = w6 := ⟨_, rfl⟩
    rw [hw6] at HON
    have HR6 := Lib.hid (show ResAt w6 w.heap.size #[.string q.2.2.d.name, .int .i64 q.2.2.d.kind, .int .i64 q.2.2.d.round, .int .i64 q.2.2.d.price, .int .i64 q.2.2.d.pool, .int .i64 q.2.2.d.pick, .slice at1 nt ct, .bool q.2.2.d.roll, .slice ap1 np cp, .int .i64 q.2.2.d.cls, .int .i64 q.2.2.d.size, .slice aq1 nq cq, .slice ab1 nb cb] 0 0 from ⟨by rw [← hw6]; exact setRow_heap _ _ _ _ _ _ HR5.out.1, (HON.out.block _ (Array.getElem?_eq_some_iff.1 HR5.out.2.1).1 (by omega)).trans HR5.out.2.1, (HON.out.block _ (Array.getElem?_eq_some_iff.1 HR5.out.2.2).1 (by omega)).trans HR5.out.2.2⟩)
    have HW6 := Lib.hid hw6
    have k2 : w6.cell? ⟨w.heap.size + 1, 0, none⟩ = some (.int .i64 0) := cell_of_row _ _ 0 _ _ _ HR6.out.2.1
    have k3 : w6.cell? ⟨w.heap.size + 1 + 1, 0, none⟩ = some (.int .i64 0) := cell_of_row _ _ 0 _ _ _ HR6.out.2.2
    have z2 : w6.frozen? ⟨w.heap.size + 1, 0, none⟩ = false := frozen_of_row _ _ _ _ _ HR6.out.2.1
    have z3 : w6.frozen? ⟨w.heap.size + 1 + 1, 0, none⟩ = false := frozen_of_row _ _ _ _ _ HR6.out.2.2
    clear hw6
    go_wp2_with (first | (refine wpList_store_row rfl 33 _ _ rfl w.heap.size #[.string q.2.2.d.name, .int .i64 q.2.2.d.kind, .int .i64 q.2.2.d.round, .int .i64 q.2.2.d.price, .int .i64 q.2.2.d.pool, .int .i64 q.2.2.d.pick, .slice at1 nt ct, .bool q.2.2.d.roll, .slice ap1 np cp, .int .i64 q.2.2.d.cls, .int .i64 q.2.2.d.size, .slice aq1 nq cq, .slice ab1 nb cb] rfl rfl 33 _ HN5.out Tryz.infoDr rfl (by simp [Value.oneCell']) ?_; rw [HW6.out]))
    have HF := Lib.hid (HR6.out.put 0 0)
    have HO7 := Lib.hid (((Only.refl (fun k => k = w.heap.size + 1 ∨ k = w.heap.size + 2) w6).setCell (p := ⟨w.heap.size + 1, 0, none⟩) (.inl (.inl rfl)) (.int .i64 0)).setCell (p := ⟨w.heap.size + 2, 0, none⟩) (.inl (.inr rfl)) (.int .i64 0))
    generalize World.setCell (World.setCell w6 _ _) _ _ = w7 at *
    refine leaves_cons (f := 33) (args := #[.pointer (some ⟨w.heap.size, 0, none⟩), .pointer (some ⟨w.heap.size + 1, 0, none⟩), .pointer (some ⟨w.heap.size + 2, 0, none⟩)]) (by simp) (by simp [go_sem]) ?_
    refine (catch_idle _ _ _ _).mono ?_
    rintro e u' w8 ⟨rfl, rfl, hO8⟩
    refine ⟨_, results_parse (HF.out.still hO8) rfl rfl rfl rfl, ?_⟩
    rw [HQ0.out]
    have hd := ((HDR.out.only HON.out (fun k hk e => by omega)).only HO7.out (fun k hk e => by omega)).only hO8 (fun _ _ h => h)
    exact ⟨_, _, _, _, rfl, hd.base (by omega), ((HO5.out.trans' HON.out (fun i hi e => by omega)).trans' HO7.out (fun i hi e => by omega)).trans hO8⟩
  · have HQ0 := Lib.hid (show parseZ s = (q.1, q.2.1, dr0) by rw [HQ.out]; exact if_neg hz)
    clear hz
    go_wp2_with fail
    refine leaves_cons (f := 33) (args := #[.pointer (some ⟨w.heap.size, 0, none⟩), .pointer (some ⟨w.heap.size + 1, 0, none⟩), .pointer (some ⟨w.heap.size + 2, 0, none⟩)]) (by simp) (by simp [go_sem]) ?_
    refine (catch_panicking w.heap.size zeroD 0 0 q.2.1 q.1 [] w5 rfl HR5.out).mono ?_
    rintro e u' w8 ⟨rfl, rfl, hR8, hO8⟩
    refine ⟨_, results_parse hR8 rfl rfl rfl rfl, ?_⟩
    rw [HQ0.out]
    exact ⟨_, _, _, _, rfl, dr0_own _ _, HO5.out.trans' hO8 (fun i hi e => by omega)⟩
theorem parse_any (s : ByteArray) (w : World) (hs : s.size ≤ 281474976710656) (hm : LenR w) :
    Calls Tryz.prog 13 #[.string s] w fun e w' => ParseRu (parseZ s) w e w' := by
  by_cases h : s.size ≤ 4000
  · exact parse_small s w h hm
  · exact parse_big s w h hs
end Go.Proofs.YteikkpiginfbkaaGreatDoor

namespace Go.Proofs.YteikkpiginfbkaaGreatDoor
open Go.RowKit

def rgB (z : Int) : Bool := decide (0 ≤ z) && decide (z ≤ 1000000000)
def lotE (d : Dr) : Bool := d.pool == 0 && d.pick == 0 && decide (d.tiers.length = 0) && !d.roll
def balE (d : Dr) : Bool := d.cls == 0 && decide (d.places.length = 0)
def panE (d : Dr) : Bool := d.size == 0 && decide (d.quotas.length = 0)
def ownsZ (d : Dr) : Bool := if d.kind = 1 then balE d && panE d else if d.kind = 2 then lotE d && panE d else if d.kind = 3 then lotE d && balE d else false
def tierOk (l : List (Int × Int)) (i : Nat) : Bool := rgB (tAt l i).1 && rgB (tAt l i).2 && !hasTier (l.take i) (tAt l i).1
def placeOk (l : List (ByteArray × Int)) (i : Nat) : Bool := nameB (pAt l i).1 && rgB (pAt l i).2 && !hasPlace (l.take i) (pAt l i).1
def quotaOk (l : List (ByteArray × Int × Int)) (i : Nat) : Bool := nameB (qAt l i).1 && rgB (qAt l i).2.1 && rgB (qAt l i).2.2 && !hasQuota (l.take i) (qAt l i).1
def barOk (l : List Int) (i : Nat) : Bool := !hasBar (l.take i) (ptAt l i)
def listsZ (d : Dr) : Bool :=
  decide (d.tiers.length ≤ 12) && decide (d.places.length ≤ 12) && decide (d.quotas.length ≤ 12) && decide (d.barred.length ≤ 40) &&
  (List.range d.tiers.length).all (tierOk d.tiers) && (List.range d.places.length).all (placeOk d.places) && (List.range d.quotas.length).all (quotaOk d.quotas) && (List.range d.barred.length).all (barOk d.barred) && d.barred.all rgB
/-- Is a draw right? -/
def rightZ (d : Dr) : Bool := ownsZ d && nameB d.name && [d.round, d.price, d.pool, d.pick, d.cls, d.size].all rgB && listsZ d
set_option maxHeartbeats 2000000 in
theorem range_any (a : Option Addr) (c : Nat) (zs : List Int) (bb : Bool) (w : World) (hI : PtsAt w.heap.size w (.slice a zs.length c) zs) (hb : zs.all rgB = bb) (hl : zs.length ≤ 1000000) :
    Calls Tryz.prog 62 #[.slice a zs.length c] w fun e w' => e = .returned (.bool bb) ∧ w = w' := by
  have HI := Lib.hid hI
  have HB := Lib.hid hb
  clear hI hb
  go_enter Tryz.func62, Tryz.ntmps62
  go_wp2
  go_loop [7] (fun i => ∃ k : Nat, i = .int .i64 k ∧ k ≤ zs.length ∧ (zs.take k).all rgB = true) (fun i => zs.length - (intOf i).toNat)
  case atStart => exact ⟨0, rfl, Nat.zero_le _, rfl⟩
  case round =>
    obtain ⟨k, rfl, hk, hall⟩ := hrel
    have HA := Lib.hid hall
    clear hall
    by_cases hlt : k < zs.length
    · have j1 : (k : Int) < zs.length := by omega
      have j2 : 0 ≤ (k : Int) := by omega
      obtain ⟨b, off, rfl, hbl, hl0, hcp1, hcp2, hcell⟩ := HI.out.cellAt hlt
      have HN := Lib.hid (show (zs.take (k + 1)).all rgB = rgB (ptAt zs k) by
        rw [List.take_succ_eq_append_getElem hlt, List.all_append, HA.out]
        have e : zs[k] = ptAt zs k := by unfold ptAt; simp [List.getD, hlt]
        simp [e])
      have HF := Lib.hid (fun (h : rgB (ptAt zs k) = false) => show bb = false by
        rw [← HB.out, ← List.take_append_drop (k + 1) zs, List.all_append, HN.out, h]; rfl)
      generalize ptAt zs k = z at *
      have HD := Lib.hid (show rgB z = (decide (0 ≤ z) && decide (z ≤ 1000000000)) from rfl)
      clear hl0
      by_cases c1 : z < 0
      · obtain rfl := HF.out (by rw [HD.out]; simp; omega)
        go_wp2_with fail
        go_ret
        exact ⟨rfl, rfl⟩
      · by_cases c2 : 1000000000 < z
        · obtain rfl := HF.out (by rw [HD.out]; simp; omega)
          go_wp2_with fail
          go_ret
          exact ⟨rfl, rfl⟩
        · have HG := Lib.hid (show (zs.take (k + 1)).all rgB = true by rw [HN.out, HD.out]; simp; omega)
          go_wp2_with fail
          go_round
          case rel => exact ⟨k + 1, by go_num, hlt, HG.out⟩
          case measure => simp [intOf]; omega
    · obtain rfl : k = zs.length := by omega
      obtain rfl : true = bb := by rw [← HB.out]; have := HA.out; rwa [List.take_length, eq_comm] at this
      have j1 : ¬ (zs.length : Int) < zs.length := by omega
      go_wp2_with fail
      go_ret
      exact ⟨rfl, rfl⟩
end Go.Proofs.YteikkpiginfbkaaGreatDoor

namespace Go.Proofs.YteikkpiginfbkaaGreatDoor
open Go.RowKit

theorem len_z {n : Nat} {b : Bool} (h : decide (n = 0) = b) : ((n : Int) == 0) = b := by
  rw [← h]
  by_cases e : n = 0
  · subst e; rfl
  · rw [show decide (n = 0) = false by simpa using e]; simp; omega
set_option maxRecDepth 100000 in
set_option maxHeartbeats 4000000 in
theorem owns_any (d : Dr) (vt vp vq vb : Value) (bb : Bool) (base : Nat) (w : World) (hd : DrOwn base w d vt vp vq vb) (hb : ownsZ d = bb) :
    Calls Tryz.prog 61 #[.agg (drCells d vt vp vq vb)] w fun e w' => e = .returned (.bool bb) ∧ Only (fun _ => False) w w' := by
  obtain ⟨at1, ct, rfl⟩ := slice_of_own hd.tiers
  obtain ⟨ap1, cp, rfl⟩ := slice_of_own hd.places
  obtain ⟨aq1, cq, rfl⟩ := slice_of_own hd.quotas
  obtain ⟨ab1, cb, rfl⟩ := slice_of_own hd.bars
  have HB := Lib.hid hb
  have HZ := Lib.hid (heap_alloc_last w (.cells (drCells d (.slice at1 d.tiers.length ct) (.slice ap1 d.places.length cp) (.slice aq1 d.quotas.length cq) (.slice ab1 d.barred.length cb)) 33))
  have HO := Lib.hid ((Only.refl (fun _ => False) w).alloc (.cells (drCells d (.slice at1 d.tiers.length ct) (.slice ap1 d.places.length cp) (.slice aq1 d.quotas.length cq) (.slice ab1 d.barred.length cb)) 33))
  obtain ⟨lo, hlo⟩ : ∃ lo, lotE d = lo := ⟨_, rfl⟩
  obtain ⟨ba, hba⟩ : ∃ ba, balE d = ba := ⟨_, rfl⟩
  obtain ⟨pa, hpa⟩ : ∃ pa, panE d = pa := ⟨_, rfl⟩
  have HL := Lib.hid (show (d.pool == 0 && d.pick == 0 && decide (d.tiers.length = 0) && !d.roll) = lo from hlo)
  have HA := Lib.hid (show (d.cls == 0 && decide (d.places.length = 0)) = ba from hba)
  have HP := Lib.hid (show (d.size == 0 && decide (d.quotas.length = 0)) = pa from hpa)
  have HOW := Lib.hid (show bb = if d.kind = 1 then ba && pa else if d.kind = 2 then lo && pa else if d.kind = 3 then lo && ba else false by rw [← hb]; unfold ownsZ; rw [hlo, hba, hpa])
  clear hd hb hlo hba hpa
  unfold drCells at *
  go_enter Tryz.func61, Tryz.ntmps61
  go_upto_region 1 with (fail)
  generalize World.alloc w _ = w1 at *
  have c1 : w1.cell? ⟨w.heap.size, 1, none⟩ = some (.int .i64 d.kind) := cell_of_row _ _ 1 _ _ _ HZ.out
  have c4 : w1.cell? ⟨w.heap.size, 4, none⟩ = some (.int .i64 d.pool) := cell_of_row _ _ 4 _ _ _ HZ.out
  have c5 : w1.cell? ⟨w.heap.size, 5, none⟩ = some (.int .i64 d.pick) := cell_of_row _ _ 5 _ _ _ HZ.out
  have c6 : w1.cell? ⟨w.heap.size, 6, none⟩ = some (.slice at1 d.tiers.length ct) := cell_of_row _ _ 6 _ _ _ HZ.out
  have c7 : w1.cell? ⟨w.heap.size, 7, none⟩ = some (.bool d.roll) := cell_of_row _ _ 7 _ _ _ HZ.out
  have c8 : w1.cell? ⟨w.heap.size, 8, none⟩ = some (.slice ap1 d.places.length cp) := cell_of_row _ _ 8 _ _ _ HZ.out
  have c9 : w1.cell? ⟨w.heap.size, 9, none⟩ = some (.int .i64 d.cls) := cell_of_row _ _ 9 _ _ _ HZ.out
  have c10 : w1.cell? ⟨w.heap.size, 10, none⟩ = some (.int .i64 d.size) := cell_of_row _ _ 10 _ _ _ HZ.out
  have c11 : w1.cell? ⟨w.heap.size, 11, none⟩ = some (.slice aq1 d.quotas.length cq) := cell_of_row _ _ 11 _ _ _ HZ.out
  go_cut [3] (fun v wx => v = .bool lo ∧ wx = w1)
  case first =>
    cases h1 : (d.pool == 0)
    · have e : (false : Bool) = lo := by have := HL.out; rwa [h1] at this
      subst e
      go_wp2_with fail
      go_meet
      exact ⟨rfl, rfl⟩
    · cases h2 : (d.pick == 0)
      · have e : (false : Bool) = lo := by have := HL.out; rwa [h1, h2] at this
        subst e
        go_wp2_with fail
        go_meet
        exact ⟨rfl, rfl⟩
      · cases h3 : decide (d.tiers.length = 0)
        · have e : (false : Bool) = lo := by have := HL.out; rwa [h1, h2, h3] at this
          subst e
          have h3' := len_z h3
          clear h3
          go_wp2_with fail
          go_meet
          exact ⟨rfl, rfl⟩
        · have h3' := len_z h3
          have e : (!d.roll) = lo := by have := HL.out; rwa [h1, h2, h3] at this
          have HE := Lib.hid e
          clear h3 e
          go_wp2_with fail
          go_meet
          exact ⟨by rw [HE.out], rfl⟩
  case rest =>
    obtain ⟨rfl, hw⟩ := hcut
    obtain rfl := hw.symm
    clear hw
    go_upto_region 2 with (fail)
    go_cut [4] (fun v wx => v = .bool ba ∧ wx = w1)
    case first =>
      cases h1 : (d.cls == 0)
      · have e : (false : Bool) = ba := by have := HA.out; rwa [h1] at this
        subst e
        go_wp2_with fail
        go_meet
        exact ⟨rfl, rfl⟩
      · cases h3 : decide (d.places.length = 0)
        · have e : (false : Bool) = ba := by have := HA.out; rwa [h1, h3] at this
          subst e
          have h3' := len_z h3
          clear h3
          go_wp2_with fail
          go_meet
          exact ⟨rfl, rfl⟩
        · have e : (true : Bool) = ba := by have := HA.out; rwa [h1, h3] at this
          subst e
          have h3' := len_z h3
          clear h3
          go_wp2_with fail
          go_meet
          exact ⟨rfl, rfl⟩
    case rest =>
    obtain ⟨rfl, hw⟩ := hcut
    obtain rfl := hw.symm
    clear hw
    go_upto_region 3 with (fail)
    go_cut [5] (fun v wx => v = .bool pa ∧ wx = w1)
    case first =>
      cases h1 : (d.size == 0)
      · have e : (false : Bool) = pa := by have := HP.out; rwa [h1] at this
        subst e
        go_wp2_with fail
        go_meet
        exact ⟨rfl, rfl⟩
      · cases h3 : decide (d.quotas.length = 0)
        · have e : (false : Bool) = pa := by have := HP.out; rwa [h1, h3] at this
          subst e
          have h3' := len_z h3
          clear h3
          go_wp2_with fail
          go_meet
          exact ⟨rfl, rfl⟩
        · have e : (true : Bool) = pa := by have := HP.out; rwa [h1, h3] at this
          subst e
          have h3' := len_z h3
          clear h3
          go_wp2_with fail
          go_meet
          exact ⟨rfl, rfl⟩
    case rest =>
    obtain ⟨rfl, hw⟩ := hcut
    obtain rfl := hw.symm
    clear hw
    have HOW2 := HOW.out
    by_cases k1 : d.kind = 1
    · rw [if_pos k1] at HOW2
      rw [k1] at c1
      have HW := Lib.hid HOW2
      clear k1 HOW2 HOW HL HA HP
      cases ba <;> cases pa
      all_goals
        go_wp2_with fail
        go_ret
        exact ⟨by rw [HW.out]; rfl, HO.out⟩
    · rw [if_neg k1] at HOW2
      have n1 : (d.kind == 1) = false := by simpa using k1
      by_cases k2 : d.kind = 2
      · rw [if_pos k2] at HOW2
        rw [k2] at c1
        have HW := Lib.hid HOW2
        clear n1 k1 k2 HOW2 HOW HL HA HP
        cases lo <;> cases pa
        all_goals
          go_wp2_with fail
          go_ret
          exact ⟨by rw [HW.out]; rfl, HO.out⟩
      · rw [if_neg k2] at HOW2
        have n2 : (d.kind == 2) = false := by simpa using k2
        by_cases k3 : d.kind = 3
        · rw [if_pos k3] at HOW2
          rw [k3] at c1
          have HW := Lib.hid HOW2
          clear n1 n2 k1 k2 k3 HOW2 HOW HL HA HP
          cases lo <;> cases ba
          all_goals
            go_wp2_with fail
            go_ret
            exact ⟨by rw [HW.out]; rfl, HO.out⟩
        · rw [if_neg k3] at HOW2
          have n3 : (d.kind == 3) = false := by simpa using k3
          have HW := Lib.hid HOW2
          clear k1 k2 k3 HOW2 HOW HL HA HP
          go_wp2_with fail
          go_ret
          exact ⟨by rw [HW.out]; rfl, HO.out⟩
end Go.Proofs.YteikkpiginfbkaaGreatDoor

namespace Go.Proofs.YteikkpiginfbkaaGreatDoor
open Go.RowKit

/-- The pieces of a list between bytes c. -/
def cutC (c : UInt8) : List UInt8 → List (List UInt8)
  | [] => [[]]
  | x :: r => if x = c then [] :: cutC c r else (x :: (cutC c r).headD []) :: (cutC c r).tail
theorem cutC_ne (c : UInt8) : ∀ l, cutC c l ≠ []
  | [] => by simp [cutC]
  | x :: r => by unfold cutC; split <;> simp
theorem head_tail {α : Type} {d : α} : ∀ {l : List α}, l ≠ [] → l.headD d :: l.tail = l
  | [], h => absurd rfl h
  | _ :: _, _ => rfl
theorem cutC_eq {c : UInt8} {r : List UInt8} : cutC c (c :: r) = [] :: cutC c r := by
  show (if c = c then _ else _) = _
  rw [if_pos rfl]
theorem cutC_neq {c x : UInt8} {r : List UInt8} (h : x ≠ c) : cutC c (x :: r) = (x :: (cutC c r).headD []) :: (cutC c r).tail := by
  show (if x = c then _ else _) = _
  rw [if_neg h]
theorem cutC_free {c : UInt8} : ∀ {x : List UInt8}, noC c x → cutC c x = [x]
  | [], _ => rfl
  | a :: x, h => by
    rw [cutC_neq (h a List.mem_cons_self), cutC_free (fun b hb => h b (List.mem_cons_of_mem _ hb))]; rfl
theorem cutC_app {c : UInt8} {r : List UInt8} : ∀ {x : List UInt8}, noC c x → cutC c (x ++ c :: r) = x :: cutC c r
  | [], _ => cutC_eq
  | a :: x, h => by
    rw [List.cons_append, cutC_neq (h a List.mem_cons_self), cutC_app (fun b hb => h b (List.mem_cons_of_mem _ hb))]; rfl
theorem cutC_flat {c : UInt8} : ∀ {out : List (List UInt8)} {x : List UInt8}, (∀ l ∈ out, noC c l) → noC c x → cutC c (out.flatMap (· ++ [c]) ++ x) = out ++ [x]
  | [], x, _, hx => cutC_free hx
  | o :: out, x, h, hx => by
    rw [List.flatMap_cons, List.append_assoc, List.append_assoc, List.singleton_append, cutC_app (h o List.mem_cons_self), cutC_flat (fun l hl => h l (List.mem_cons_of_mem _ hl)) hx]; rfl
theorem cutC_noC (c : UInt8) : ∀ l, ∀ p ∈ cutC c l, noC c p
  | [], p, h => by rw [List.mem_singleton.1 h]; intro b hb; cases hb
  | x :: r, p, h => by
    have ih := cutC_noC c r
    by_cases hx : x = c
    · subst hx
      rw [cutC_eq] at h
      rcases List.mem_cons.1 h with rfl | h
      · intro b hb; cases hb
      · exact ih p h
    · rw [cutC_neq hx] at h
      have e := head_tail (d := []) (cutC_ne c r)
      rcases List.mem_cons.1 h with rfl | h
      · intro b hb
        rcases List.mem_cons.1 hb with rfl | hb
        · exact hx
        · exact ih _ (by rw [← e]; exact List.mem_cons_self) b hb
      · exact ih p (by rw [← e]; exact List.mem_cons_of_mem _ h)
theorem joinT_cons (c : UInt8) (x : List UInt8) (r : List (List UInt8)) : Lib.joinTail [c] (x :: r) = c :: (x ++ Lib.joinTail [c] r) := by simp [Lib.joinTail]
theorem cutC_join (c : UInt8) : ∀ l, Lib.join (cutC c l) [c] = l
  | [] => rfl
  | x :: r => by
    have ih := cutC_join c r
    have e := head_tail (d := []) (cutC_ne c r)
    by_cases hx : x = c
    · subst hx
      rw [cutC_eq, Lib.join_cons, List.nil_append, ← e, joinT_cons, ← Lib.join_cons, e, ih]
    · rw [cutC_neq hx, Lib.join_cons, List.cons_append, ← Lib.join_cons, e, ih]
theorem words_cut (s : ByteArray) : (wordsB s).map (·.data.toList) = cutC 32 s.data.toList := by
  have e := head_tail (d := []) (cutC_ne 32 s.data.toList)
  rw [← e]
  exact words_of s _ _ (fun l hl => cutC_noC 32 _ l (by rw [← e]; exact hl)) (by rw [e, cutC_join])
theorem arr_list (b : ByteArray) : (⟨b.data.toList.toArray⟩ : ByteArray) = b := by obtain ⟨⟨l⟩⟩ := b; rfl
theorem words_eq (s : ByteArray) : wordsB s = (cutC 32 s.data.toList).map (fun l => (⟨l.toArray⟩ : ByteArray)) := by
  rw [← words_cut, List.map_map]
  exact (List.map_id'' (fun b => arr_list b) _).symm
/-- A line of words. -/
def lineW (ws : List ByteArray) : List UInt8 := Lib.join (ws.map (·.data.toList)) [32]
theorem lineW_words (s : ByteArray) : lineW (wordsB s) = s.data.toList := by unfold lineW; rw [words_cut, cutC_join]
theorem lineW_one (a : ByteArray) : lineW [a] = a.data.toList := by unfold lineW; exact Lib.join_one _ _
theorem lineW_cons (a b : ByteArray) (r : List ByteArray) : lineW (a :: b :: r) = a.data.toList ++ 32 :: lineW (b :: r) := by
  unfold lineW
  rw [List.map_cons, List.map_cons, Lib.join_cons, joinT_cons, Lib.join_cons]
def clean (w : ByteArray) : Prop := noC 32 w.data.toList ∧ noC 10 w.data.toList
theorem words_lineW {ws : List ByteArray} (h0 : ws ≠ []) (h : ∀ w ∈ ws, clean w) : wordsB ⟨(lineW ws).toArray⟩ = ws := by
  cases ws with
  | nil => exact absurd rfl h0
  | cons a r =>
    have e := words_of ⟨(lineW (a :: r)).toArray⟩ a.data.toList (r.map (·.data.toList)) (fun l hl => by
      rw [← List.map_cons (f := fun b : ByteArray => b.data.toList)] at hl
      obtain ⟨w, hw, rfl⟩ := List.mem_map.1 hl
      exact (h w hw).1) rfl
    rw [← List.map_cons (f := fun b : ByteArray => b.data.toList)] at e
    have inj : ∀ a b : ByteArray, a.data.toList = b.data.toList → a = b := fun a b h => by rw [← arr_list a, h, arr_list]
    generalize wordsB ⟨(lineW (a :: r)).toArray⟩ = vs at e
    generalize a :: r = us at e
    clear h h0
    induction vs generalizing us with
    | nil => cases us with
      | nil => rfl
      | cons u us => cases e
    | cons v vs ih => cases us with
      | nil => cases e
      | cons u us =>
        simp only [List.map_cons, List.cons.injEq] at e
        rw [inj v u e.1, ih us e.2]
theorem lineW_nl {ws : List ByteArray} (h : ∀ w ∈ ws, clean w) : noC 10 (lineW ws) := by
  induction ws with
  | nil => intro b hb; cases hb
  | cons a r ih => cases r with
    | nil => rw [lineW_one]; exact (h a List.mem_cons_self).2
    | cons b r =>
      rw [lineW_cons]
      intro x hx
      rcases List.mem_append.1 hx with hx | hx
      · exact (h a List.mem_cons_self).2 x hx
      · rcases List.mem_cons.1 hx with rfl | hx
        · decide
        · exact ih (fun w hw => h w (List.mem_cons_of_mem _ hw)) x hx
theorem runL_ws {t : St} {p : Nat} {ws : List ByteArray} {r : List UInt8} (h0 : ws ≠ []) (h : ∀ w ∈ ws, clean w) : runL t p [] (lineW ws ++ 10 :: r) =
    if (lineZ t ws).1 = 0 then runL (lineZ t ws).2 (p + (lineW ws).length + 1) [] r else ((lineZ t ws).1, p, t) := by
  rw [runL_line (lineW_nl h), List.nil_append, words_lineW h0 h]
/-! Numerals. -/
def decW (n : Int) : ByteArray := decB n.toNat
theorem byte_at {s : ByteArray} {j : Nat} (h : j < s.data.toList.length) : byteZ s j = (s.data.toList[j].toNat : Int) := by
  unfold byteZ
  rw [List.getD_eq_getElem?_getD, List.getElem?_eq_getElem h]; rfl
theorem num_digs {s : ByteArray} (h : numB s = true) : ∀ b ∈ s.data.toList, 48 ≤ b.toNat ∧ b.toNat ≤ 57 := by
  intro b hb
  unfold numB at h
  rw [Bool.and_eq_true] at h
  obtain ⟨j, hj, rfl⟩ := List.getElem_of_mem hb
  have h1 := List.all_eq_true.1 h.2 j (List.mem_range.2 (by have e : s.data.toList.length = s.size := Array.length_toList; omega))
  unfold dgOk at h1
  rw [byte_at hj, Bool.and_eq_true, decide_eq_true_eq, decide_eq_true_eq] at h1
  omega
theorem decFold_snoc (l : List UInt8) (c : UInt8) (a : Nat) : decFold a (l ++ [c]) = decFold a l * 10 + (c.toNat - 48) := by
  unfold decFold; rw [List.foldl_append]; rfl
theorem cap_fold {s : ByteArray} (h : ∀ b ∈ s.data.toList, 48 ≤ b.toNat ∧ b.toNat ≤ 57) : ∀ k, k ≤ s.data.toList.length → capTo s k = min (decFold 0 (s.data.toList.take k) : Int) 1000000001
  | 0, _ => rfl
  | k + 1, hk => by
    have hlt : k < s.data.toList.length := by omega
    have ih := cap_fold h k (by omega)
    have hb := h _ (List.getElem_mem hlt)
    show min (10 * capTo s k + (byteZ s k - 48)) 1000000001 = _
    rw [ih, byte_at hlt, List.take_succ_eq_append_getElem hlt, decFold_snoc]
    omega
theorem amt_fold {s : ByteArray} (h : numB s = true) : amtV s = min (decFold 0 s.data.toList : Int) 1000000001 := by
  have e : s.data.toList.length = s.size := Array.length_toList
  unfold amtV
  rw [cap_fold (num_digs h) s.size (by omega), ← e, List.take_length]
theorem digs_fold : ∀ (n : Nat) (l : List UInt8), l.length = n → (∀ b ∈ l, 48 ≤ b.toNat ∧ b.toNat ≤ 57) → l ≠ [] → (l.length = 1 ∨ l.head? ≠ some 48) → Lib.decDigits (decFold 0 l) = l ∧ (l.head? ≠ some 48 → 0 < decFold 0 l)
  | 0, l, hl, _, h0, _ => absurd (List.length_eq_zero_iff.1 hl) h0
  | n + 1, l, hl, hd, h0, hz => by
    obtain ⟨r, c, rfl⟩ : ∃ r c, l = r ++ [c] := ⟨l.dropLast, l.getLast h0, (List.dropLast_concat_getLast h0).symm⟩
    have hc := hd c (List.mem_append_right _ List.mem_cons_self)
    have hcc : UInt8.ofNat (48 + (c.toNat - 48)) = c := by rw [show 48 + (c.toNat - 48) = c.toNat by omega]; exact UInt8.ofNat_toNat
    rw [decFold_snoc]
    cases r with
    | nil =>
      have e0 : decFold 0 ([] : List UInt8) = 0 := rfl
      rw [e0, Nat.zero_mul, Nat.zero_add, Lib.decDigits, dif_pos (by omega), hcc]
      refine ⟨rfl, fun hne => ?_⟩
      have : c ≠ 48 := fun e => hne (by rw [e]; rfl)
      have : c.toNat ≠ 48 := fun e => this (UInt8.toNat_inj.1 (by rw [e]; rfl))
      omega
    | cons a r =>
      have hne : (a :: r).head? ≠ some 48 := by
        rcases hz with hz | hz
        · simp at hz
        · exact hz
      have ih := digs_fold n (a :: r) (by simp at hl ⊢; omega) (fun b hb => hd b (List.mem_append_left _ hb)) (by simp) (.inr hne)
      have hp := ih.2 hne
      generalize decFold 0 (a :: r) = m at *
      refine ⟨?_, fun _ => by omega⟩
      rw [Lib.decDigits, dif_neg (by omega), show (m * 10 + (c.toNat - 48)) / 10 = m by omega, show (m * 10 + (c.toNat - 48)) % 10 = c.toNat - 48 by omega, hcc, ih.1]
theorem num_canon {s : ByteArray} (h : numB s = true) : s.data.toList ≠ [] ∧ (s.data.toList.length = 1 ∨ s.data.toList.head? ≠ some 48) := by
  have e : s.data.toList.length = s.size := Array.length_toList
  unfold numB at h
  rw [Bool.and_eq_true, Bool.and_eq_true, decide_eq_true_eq] at h
  obtain ⟨⟨h1, h2⟩, _⟩ := h
  refine ⟨fun hn => by rw [hn] at e; simp at e; omega, ?_⟩
  by_cases h3 : s.data.toList.length = 1
  · exact .inl h3
  · right
    intro h4
    rw [show decide (2 ≤ s.size) = true by simp; omega, Bool.true_and] at h2
    have : byteZ s 0 = 48 := by
      unfold byteZ
      cases hl : s.data.toList with
      | nil => rw [hl] at h4; cases h4
      | cons a r => rw [hl] at h4; simp only [List.head?_cons, Option.some.injEq] at h4; rw [h4]; rfl
    rw [this] at h2
    cases h2
theorem num_dec {s : ByteArray} (h : numB s = true) (hm : amtV s ≤ 1000000000) : s = decW (amtV s) := by
  have h1 := amt_fold h
  have h2 : amtV s = (decFold 0 s.data.toList : Int) := by omega
  have h3 := (digs_fold _ _ rfl (num_digs h) (num_canon h).1 (num_canon h).2).1
  unfold decW decB
  rw [h2, Int.toNat_natCast, h3, arr_list]
theorem amt_nonneg {s : ByteArray} (h : numB s = true) : 0 ≤ amtV s := by rw [amt_fold h]; omega
theorem digs_head (u : Nat) (h : 10 ≤ u) : (Lib.decDigits u).head? ≠ some 48 := by
  induction u using Nat.strongRecOn with
  | _ u ih =>
    rw [Lib.decDigits, dif_neg (by omega)]
    obtain ⟨c, r, hc, _⟩ := digs_cons (u / 10)
    by_cases h2 : 10 ≤ u / 10
    · have := ih (u / 10) (by omega) h2
      rw [hc] at this ⊢
      exact this
    · rw [Lib.decDigits, dif_pos (by omega)]
      show some _ ≠ _
      intro e
      have e := congrArg UInt8.toNat (Option.some.inj e)
      rw [dig_val (by omega)] at e
      have : (48 : UInt8).toNat = 48 := rfl
      omega
theorem dec_data (n : Int) : (decW n).data.toList = Lib.decDigits n.toNat := rfl
theorem dec_num (n : Int) : numB (decW n) = true := by
  have e : (decW n).data.toList.length = (decW n).size := Array.length_toList
  have hd := digs_range n.toNat
  obtain ⟨c, r, hc, c0, c1⟩ := digs_cons n.toNat
  rw [dec_data] at e
  have h1 : 1 ≤ (decW n).size := by rw [← e, hc]; simp
  rw [num_ofZ h1]
  · rw [List.all_eq_true]
    intro j hj
    have hj2 : j < (decW n).data.toList.length := by rw [dec_data, e]; exact List.mem_range.1 hj
    have h2 := hd _ (List.getElem_mem hj2)
    unfold dgOk
    rw [byte_at hj2, Bool.and_eq_true, decide_eq_true_eq, decide_eq_true_eq]
    omega
  · by_cases h2 : n.toNat < 10
    · left
      rw [← e, Lib.decDigits, dif_pos h2]; rfl
    · right
      intro h3
      apply digs_head n.toNat (by omega)
      unfold byteZ at h3
      rw [dec_data, hc] at h3
      rw [hc]
      simp only [List.getD_cons_zero] at h3
      rw [List.head?_cons]
      congr 1
      apply UInt8.toNat_inj.1
      show c.toNat = 48
      omega
theorem dec_amt {n : Int} (h0 : 0 ≤ n) (h1 : n ≤ 1000000000) : amtV (decW n) = n := by
  rw [amt_fold (dec_num n), dec_data, decFold_digs]
  omega
theorem dec_clean (n : Int) : clean (decW n) := by
  have hd := digs_range n.toNat
  refine ⟨fun b hb e => ?_, fun b hb e => ?_⟩
  · have := hd b hb; rw [e] at this; have : (32 : UInt8).toNat = 32 := rfl; omega
  · have := hd b hb; rw [e] at this; have : (10 : UInt8).toNat = 10 := rfl; omega
theorem name_bytes {s : ByteArray} (h : nameB s = true) : ∀ b ∈ s.data.toList, 45 ≤ b.toNat := by
  intro b hb
  unfold nameB at h
  rw [Bool.and_eq_true] at h
  obtain ⟨j, hj, rfl⟩ := List.getElem_of_mem hb
  have h1 := List.all_eq_true.1 h.2 j (List.mem_range.2 (by have e : s.data.toList.length = s.size := Array.length_toList; omega))
  unfold nmOk nmOkZ at h1
  rw [byte_at hj] at h1
  simp only [Bool.or_eq_true, Bool.and_eq_true, decide_eq_true_eq, beq_iff_eq] at h1
  omega
theorem name_clean {s : ByteArray} (h : nameB s = true) : clean s := by
  have hd := name_bytes h
  refine ⟨fun b hb e => ?_, fun b hb e => ?_⟩
  · have := hd b hb; rw [e] at this; have : (32 : UInt8).toNat = 32 := rfl; omega
  · have := hd b hb; rw [e] at this; have : (10 : UInt8).toNat = 10 := rfl; omega
theorem name_len {s : ByteArray} (h : nameB s = true) : s.data.toList.length ≤ 20 := by
  have e : s.data.toList.length = s.size := Array.length_toList
  unfold nameB at h
  rw [Bool.and_eq_true, Bool.and_eq_true, decide_eq_true_eq, decide_eq_true_eq] at h
  omega
theorem dec_len {n : Int} (h : n ≤ 1000000000) : (decW n).data.toList.length ≤ 10 := by
  rw [dec_data]
  exact (digs_len 9 n.toNat (by simp; omega)).1
/-! The lines of a draw. -/
def kindL (d : Dr) : List (List ByteArray) :=
  if d.kind = 1 then [[kLottery, decW d.pool, decW d.pick]] else if d.kind = 2 then [[kBallot, decW d.cls]] else if d.kind = 3 then [[kPanel, decW d.size]] else []
def tierL (x : Int × Int) : List ByteArray := [kTier, decW x.1, decW x.2]
def placeL (x : ByteArray × Int) : List ByteArray := [kPlace, x.1, decW x.2]
def quotaL (x : ByteArray × Int × Int) : List ByteArray := [kQuota, x.1, decW x.2.1, decW x.2.2]
def barL (x : Int) : List ByteArray := [kBar, decW x]
def rollL (b : Bool) : List (List ByteArray) := if b = true then [[kRoll]] else []
def headL (d : Dr) : List (List ByteArray) := [kDraw, d.name] :: (kindL d ++ [[kRound, decW d.round], [kPrice, decW d.price]])
def restL (d : Dr) : List (List ByteArray) := d.tiers.map tierL ++ (rollL d.roll ++ (d.places.map placeL ++ (d.quotas.map quotaL ++ d.barred.map barL)))
def lnsZ (d : Dr) : List (List ByteArray) := headL d ++ restL d
def flatL (ls : List (List ByteArray)) : List UInt8 := ls.flatMap fun ws => lineW ws ++ [10]
def writeL (d : Dr) : List UInt8 := flatL (lnsZ d)
/-- The text of a draw. -/
def writeB (d : Dr) : ByteArray := ⟨(writeL d).toArray⟩
theorem flatL_app (a b : List (List ByteArray)) : flatL (a ++ b) = flatL a ++ flatL b := List.flatMap_append
theorem flatL_cons (a : List ByteArray) (b : List (List ByteArray)) : flatL (a :: b) = lineW a ++ 10 :: flatL b := by
  unfold flatL; rw [List.flatMap_cons, List.append_assoc]; rfl
theorem flatL_one (a : List ByteArray) : flatL [a] = lineW a ++ [10] := by rw [flatL_cons]; rfl
/-- Lines, one after the other. -/
def goL (t : St) : List (List ByteArray) → Int × St
  | [] => (0, t)
  | ws :: r => if (lineZ t ws).1 = 0 then goL (lineZ t ws).2 r else lineZ t ws
def cleanL (ls : List (List ByteArray)) : Prop := ∀ ws ∈ ls, ws ≠ [] ∧ ∀ w ∈ ws, clean w
theorem runL_go {r : List UInt8} : ∀ {ls : List (List ByteArray)} {t : St} {p : Nat}, cleanL ls → (goL t ls).1 = 0 → runL t p [] (flatL ls ++ r) = runL (goL t ls).2 (p + (flatL ls).length) [] r
  | [], t, p, _, _ => rfl
  | ws :: ls, t, p, hc, h => by
    have h1 := hc ws List.mem_cons_self
    unfold goL at h ⊢
    by_cases h2 : (lineZ t ws).1 = 0
    · rw [if_pos h2] at h ⊢
      rw [flatL_cons, List.append_assoc, List.cons_append, runL_ws h1.1 h1.2, if_pos h2, runL_go (fun x hx => hc x (List.mem_cons_of_mem _ hx)) h, List.length_append, List.length_cons]
      congr 1
      omega
    · rw [if_neg h2] at h
      exact absurd h h2
theorem goL_yes {ws : List ByteArray} {r : List (List ByteArray)} {t : St} (h : (lineZ t ws).1 = 0) : goL t (ws :: r) = goL (lineZ t ws).2 r := by
  show (if _ then _ else _) = _
  rw [if_pos h]
theorem goL_no {ws : List ByteArray} {r : List (List ByteArray)} {t : St} (h : (lineZ t ws).1 ≠ 0) : goL t (ws :: r) = lineZ t ws := by
  show (if _ then _ else _) = _
  rw [if_neg h]
theorem goL_app : ∀ {a b : List (List ByteArray)} {t : St}, (goL t a).1 = 0 → goL t (a ++ b) = goL (goL t a).2 b
  | [], _, _, _ => rfl
  | ws :: a, b, t, h => by
    rw [List.cons_append]
    by_cases h2 : (lineZ t ws).1 = 0
    · rw [goL_yes h2] at h
      rw [goL_yes h2, goL_yes h2]
      exact goL_app h
    · rw [goL_no h2] at h
      exact absurd h h2
theorem goL_cons {ws : List ByteArray} {r : List (List ByteArray)} {t t' : St} (h : lineZ t ws = (0, t')) : goL t (ws :: r) = goL t' r := by
  rw [goL_yes (by rw [h]), h]
end Go.Proofs.YteikkpiginfbkaaGreatDoor

namespace Go.Proofs.YteikkpiginfbkaaGreatDoor
open Go.RowKit

structure Right (d : Dr) : Prop where
  owns : ownsZ d = true
  name : nameB d.name = true
  round : rgB d.round = true
  price : rgB d.price = true
  pool : rgB d.pool = true
  pick : rgB d.pick = true
  cls : rgB d.cls = true
  size : rgB d.size = true
  t12 : d.tiers.length ≤ 12
  p12 : d.places.length ≤ 12
  q12 : d.quotas.length ≤ 12
  b40 : d.barred.length ≤ 40
  tiers : ∀ i, i < d.tiers.length → tierOk d.tiers i = true
  places : ∀ i, i < d.places.length → placeOk d.places i = true
  quotas : ∀ i, i < d.quotas.length → quotaOk d.quotas i = true
  bars : ∀ i, i < d.barred.length → barOk d.barred i = true
  barR : ∀ x ∈ d.barred, rgB x = true
theorem right_iff {d : Dr} : rightZ d = true ↔ Right d := by
  constructor
  · intro h
    simp only [rightZ, listsZ, List.all_cons, List.all_nil, Bool.and_eq_true, Bool.and_true, List.all_eq_true, List.mem_range, decide_eq_true_eq] at h
    obtain ⟨⟨⟨h1, h2⟩, h3, h4, h5, h6, h7, h8⟩, ⟨⟨⟨⟨⟨⟨⟨h9, h10⟩, h11⟩, h12⟩, h13⟩, h14⟩, h15⟩, h16⟩, h17⟩ := h
    exact ⟨h1, h2, h3, h4, h5, h6, h7, h8, h9, h10, h11, h12, h13, h14, h15, h16, h17⟩
  · intro ⟨h1, h2, h3, h4, h5, h6, h7, h8, h9, h10, h11, h12, h13, h14, h15, h16, h17⟩
    simp only [rightZ, listsZ, List.all_cons, List.all_nil, Bool.and_eq_true, Bool.and_true, List.all_eq_true, List.mem_range, decide_eq_true_eq]
    exact ⟨⟨⟨h1, h2⟩, h3, h4, h5, h6, h7, h8⟩, ⟨⟨⟨⟨⟨⟨⟨h9, h10⟩, h11⟩, h12⟩, h13⟩, h14⟩, h15⟩, h16⟩, h17⟩
theorem len_nil {α : Type} {l : List α} : decide (l.length = 0) = true ↔ l = [] := by rw [decide_eq_true_eq, List.length_eq_zero_iff]
theorem owns_1 {d : Dr} (h : d.kind = 1) : ownsZ d = true ↔ d.cls = 0 ∧ d.places = [] ∧ d.size = 0 ∧ d.quotas = [] := by
  unfold ownsZ balE panE
  rw [if_pos h]
  simp only [Bool.and_eq_true, beq_iff_eq, len_nil]
  exact ⟨fun ⟨⟨a, b⟩, c, e⟩ => ⟨a, b, c, e⟩, fun ⟨a, b, c, e⟩ => ⟨⟨a, b⟩, c, e⟩⟩
theorem owns_2 {d : Dr} (h : d.kind = 2) : ownsZ d = true ↔ d.pool = 0 ∧ d.pick = 0 ∧ d.tiers = [] ∧ d.roll = false ∧ d.size = 0 ∧ d.quotas = [] := by
  unfold ownsZ lotE panE
  rw [if_neg (by rw [h]; decide), if_pos h]
  simp only [Bool.and_eq_true, beq_iff_eq, len_nil, Bool.not_eq_true']
  exact ⟨fun ⟨⟨⟨⟨a, b⟩, c⟩, f⟩, g, i⟩ => ⟨a, b, c, f, g, i⟩, fun ⟨a, b, c, f, g, i⟩ => ⟨⟨⟨⟨a, b⟩, c⟩, f⟩, g, i⟩⟩
theorem owns_3 {d : Dr} (h : d.kind = 3) : ownsZ d = true ↔ d.pool = 0 ∧ d.pick = 0 ∧ d.tiers = [] ∧ d.roll = false ∧ d.cls = 0 ∧ d.places = [] := by
  unfold ownsZ lotE balE
  rw [if_neg (by rw [h]; decide), if_neg (by rw [h]; decide), if_pos h]
  simp only [Bool.and_eq_true, beq_iff_eq, len_nil, Bool.not_eq_true']
  exact ⟨fun ⟨⟨⟨⟨a, b⟩, c⟩, f⟩, g, i⟩ => ⟨a, b, c, f, g, i⟩, fun ⟨a, b, c, f, g, i⟩ => ⟨⟨⟨⟨a, b⟩, c⟩, f⟩, g, i⟩⟩
theorem owns_k {d : Dr} (h : ownsZ d = true) : d.kind = 1 ∨ d.kind = 2 ∨ d.kind = 3 := by
  unfold ownsZ at h
  split at h
  · next h1 => exact .inl h1
  · split at h
    · next h1 => exact .inr (.inl h1)
    · split at h
      · next h1 => exact .inr (.inr h1)
      · cases h
theorem fit_2n {ws : List ByteArray} (h : fitB [true, true] ws = true) : ∃ a b, ws = [a, b] ∧ nameB a = true ∧ nameB b = true := by
  have hl := (fit_at h).1
  rcases ws with _ | ⟨a, _ | ⟨b, _ | ⟨zz, rr⟩⟩⟩ <;> simp only [List.length_cons, List.length_nil] at hl
  all_goals first | omega | skip
  simp [fitB] at h
  exact ⟨a, b, rfl, h⟩
theorem fit_1 {ws : List ByteArray} (h : fitB [true] ws = true) : ∃ a, ws = [a] ∧ nameB a = true := by
  have hl := (fit_at h).1
  rcases ws with _ | ⟨a, _ | ⟨zz, rr⟩⟩ <;> simp only [List.length_cons, List.length_nil] at hl
  all_goals first | omega | skip
  simp [fitB] at h
  exact ⟨a, rfl, h⟩
theorem fit_2 {ws : List ByteArray} (h : fitB [true, false] ws = true) : ∃ a b, ws = [a, b] ∧ nameB a = true ∧ numB b = true := by
  have hl := (fit_at h).1
  rcases ws with _ | ⟨a, _ | ⟨b, _ | ⟨zz, rr⟩⟩⟩ <;> simp only [List.length_cons, List.length_nil] at hl
  all_goals first | omega | skip
  simp [fitB] at h
  exact ⟨a, b, rfl, h⟩
theorem fit_3 {ws : List ByteArray} (h : fitB [true, false, false] ws = true) : ∃ a b c, ws = [a, b, c] ∧ nameB a = true ∧ numB b = true ∧ numB c = true := by
  have hl := (fit_at h).1
  rcases ws with _ | ⟨a, _ | ⟨b, _ | ⟨c, _ | ⟨zz, rr⟩⟩⟩⟩ <;> simp only [List.length_cons, List.length_nil] at hl
  all_goals first | omega | skip
  simp [fitB] at h
  exact ⟨a, b, c, rfl, h⟩
theorem fit_3n {ws : List ByteArray} (h : fitB [true, true, false] ws = true) : ∃ a b c, ws = [a, b, c] ∧ nameB a = true ∧ nameB b = true ∧ numB c = true := by
  have hl := (fit_at h).1
  rcases ws with _ | ⟨a, _ | ⟨b, _ | ⟨c, _ | ⟨zz, rr⟩⟩⟩⟩ <;> simp only [List.length_cons, List.length_nil] at hl
  all_goals first | omega | skip
  simp [fitB] at h
  exact ⟨a, b, c, rfl, h⟩
theorem fit_4 {ws : List ByteArray} (h : fitB [true, true, false, false] ws = true) : ∃ a b c e, ws = [a, b, c, e] ∧ nameB a = true ∧ nameB b = true ∧ numB c = true ∧ numB e = true := by
  have hl := (fit_at h).1
  rcases ws with _ | ⟨a, _ | ⟨b, _ | ⟨c, _ | ⟨e, _ | ⟨zz, rr⟩⟩⟩⟩⟩ <;> simp only [List.length_cons, List.length_nil] at hl
  all_goals first | omega | skip
  simp [fitB] at h
  exact ⟨a, b, c, e, rfl, h⟩
theorem headZ_iff {t : St} {line : Int} {f : List Bool} {ws : List ByteArray} : headZ t line f ws = 0 ↔ t.lines = line ∧ fitB f ws = true ∧ smallB ws = true := by
  unfold headZ
  split
  · next h =>
    split
    · next h2 => exact ⟨fun _ => ⟨h.1, h.2, h2⟩, fun _ => rfl⟩
    · next h2 => exact ⟨fun e => (by cases e), fun e => absurd e.2.2 h2⟩
  · next h => exact ⟨fun e => (by cases e), fun e => absurd ⟨e.1, e.2.1⟩ h⟩
theorem specZ_iff {t : St} {kind : Int} {f : List Bool} {ws : List ByteArray} : specZ t kind f ws = 0 ↔ 4 ≤ t.lines ∧ fitB f ws = true ∧ t.barred = false ∧ t.d.kind = kind ∧ t.rolled = false ∧ smallB ws = true := by
  unfold specZ
  split
  · next h =>
    split
    · next h2 =>
      split
      · next h3 =>
        split
        · next h4 => exact ⟨fun _ => ⟨h.1, h.2.1, h.2.2, h2, h3, h4⟩, fun _ => rfl⟩
        · next h4 => exact ⟨fun e => (by cases e), fun e => absurd e.2.2.2.2.2 h4⟩
      · next h3 => exact ⟨fun e => (by cases e), fun e => absurd e.2.2.2.2.1 h3⟩
    · next h2 => exact ⟨fun e => (by cases e), fun e => absurd e.2.2.2.1 h2⟩
  · next h => exact ⟨fun e => (by cases e), fun e => absurd ⟨e.1, e.2.1, e.2.2.1⟩ h⟩
theorem barZ_iff {t : St} {ws : List ByteArray} : barZ t ws = 0 ↔ 4 ≤ t.lines ∧ fitB [true, false] ws = true ∧ smallB ws = true := by
  unfold barZ
  split
  · next h =>
    split
    · next h2 => exact ⟨fun _ => ⟨h.1, h.2, h2⟩, fun _ => rfl⟩
    · next h2 => exact ⟨fun e => (by cases e), fun e => absurd e.2.2 h2⟩
  · next h => exact ⟨fun e => (by cases e), fun e => absurd ⟨e.1, e.2.1⟩ h⟩
theorem headTo_iff {e : Int} {t t' : St} (h : (headTo e t t').1 = 0) : e = 0 ∧ headTo e t t' = (0, t') := by
  unfold headTo at h ⊢
  split at h
  · next h2 => exact ⟨h2, if_pos h2⟩
  · next h2 => exact absurd h h2
theorem addTo_iff {e : Int} {tw : Bool} {n m : Nat} {t t' : St} (h : (addTo e tw n m t t').1 = 0) : e = 0 ∧ tw = false ∧ n < m ∧ addTo e tw n m t t' = (0, t') := by
  unfold addTo at h ⊢
  split at h
  · next h2 =>
    split at h
    · cases h
    · next h3 =>
      split at h
      · next h4 => refine ⟨h2, by simpa using h3, h4, ?_⟩; rw [if_pos h2, if_neg h3, if_pos h4]
      · cases h
  · next h2 => exact absurd h h2
def keyW : Nat → ByteArray
  | 0 => kDraw
  | 1 => kLottery
  | 2 => kBallot
  | 3 => kPanel
  | 4 => kRound
  | 5 => kPrice
  | 6 => kTier
  | 7 => kRoll
  | 8 => kPlace
  | 9 => kQuota
  | _ => kBar
theorem key_is {w : ByteArray} (h : keyOf w < 11) : w = keyW (keyOf w) := by
  unfold keyOf at h ⊢
  repeat' split
  all_goals first | assumption | skip
  rename_i h1 h2 h3 h4 h5 h6 h7 h8 h9 h10 h11
  rw [if_neg h1, if_neg h2, if_neg h3, if_neg h4, if_neg h5, if_neg h6, if_neg h7, if_neg h8, if_neg h9, if_neg h10, if_neg h11] at h
  omega
theorem key_word : ∀ k, k < 11 → keyOf (keyW k) = k := by decide
theorem key_nameB : ∀ k, k < 11 → nameB (keyW k) = true := by decide
theorem small_at {ws : List ByteArray} (h : smallB ws = true) {w : ByteArray} (hm : w ∈ ws) (hn : numB w = true) : amtV w ≤ 1000000000 := by
  have := List.all_eq_true.1 h w hm
  rw [hn] at this
  simpa using this
theorem rg_amt {w : ByteArray} (hn : numB w = true) (h : amtV w ≤ 1000000000) : rgB (amtV w) = true := by
  have := amt_nonneg hn
  simp [rgB, this, h]
theorem tierOk_old {l : List (Int × Int)} {x : Int × Int} {i : Nat} (h : i < l.length) : tierOk (l ++ [x]) i = tierOk l i := by
  unfold tierOk tAt
  rw [List.take_append_of_le_length (by omega)]
  simp [List.getD, List.getElem?_append_left h]
theorem tierOk_new {l : List (Int × Int)} {x : Int × Int} : tierOk (l ++ [x]) l.length = (rgB x.1 && rgB x.2 && !hasTier l x.1) := by
  unfold tierOk tAt
  simp [List.getD]
theorem placeOk_old {l : List (ByteArray × Int)} {x : ByteArray × Int} {i : Nat} (h : i < l.length) : placeOk (l ++ [x]) i = placeOk l i := by
  unfold placeOk pAt
  rw [List.take_append_of_le_length (by omega)]
  simp [List.getD, List.getElem?_append_left h]
theorem placeOk_new {l : List (ByteArray × Int)} {x : ByteArray × Int} : placeOk (l ++ [x]) l.length = (nameB x.1 && rgB x.2 && !hasPlace l x.1) := by
  unfold placeOk pAt
  simp [List.getD]
theorem quotaOk_old {l : List (ByteArray × Int × Int)} {x : ByteArray × Int × Int} {i : Nat} (h : i < l.length) : quotaOk (l ++ [x]) i = quotaOk l i := by
  unfold quotaOk qAt
  rw [List.take_append_of_le_length (by omega)]
  simp [List.getD, List.getElem?_append_left h]
theorem quotaOk_new {l : List (ByteArray × Int × Int)} {x : ByteArray × Int × Int} : quotaOk (l ++ [x]) l.length = (nameB x.1 && rgB x.2.1 && rgB x.2.2 && !hasQuota l x.1) := by
  unfold quotaOk qAt
  simp [List.getD]
theorem barOk_old {l : List Int} {x : Int} {i : Nat} (h : i < l.length) : barOk (l ++ [x]) i = barOk l i := by
  unfold barOk ptAt
  rw [List.take_append_of_le_length (by omega)]
  simp [List.getD, List.getElem?_append_left h]
theorem barOk_new {l : List Int} {x : Int} : barOk (l ++ [x]) l.length = !hasBar l x := by
  unfold barOk ptAt
  simp [List.getD]
theorem snoc_all {α : Type} {l : List α} {x : α} {p q : Nat → Bool} (h : ∀ i, i < l.length → q i = true) (ho : ∀ i, i < l.length → p i = q i) (hn : p l.length = true) : ∀ i, i < (l ++ [x]).length → p i = true := by
  intro i hi
  rw [List.length_append, List.length_singleton] at hi
  by_cases h2 : i < l.length
  · rw [ho i h2]; exact h i h2
  · rw [show i = l.length by omega]; exact hn
/-- A draw whose lists are empty. -/
structure Bare (d : Dr) : Prop where
  tiers : d.tiers = []
  roll : d.roll = false
  places : d.places = []
  quotas : d.quotas = []
  barred : d.barred = []
theorem Bare.rest {d : Dr} (h : Bare d) : restL d = [] := by
  unfold restL rollL
  rw [h.tiers, h.roll, h.places, h.quotas, h.barred]; rfl
theorem right_bare {d : Dr} (hb : Bare d) (h1 : ownsZ d = true) (h2 : nameB d.name = true) (h3 : rgB d.round = true) (h4 : rgB d.price = true) (h5 : rgB d.pool = true) (h6 : rgB d.pick = true) (h7 : rgB d.cls = true) (h8 : rgB d.size = true) : Right d := by
  refine ⟨h1, h2, h3, h4, h5, h6, h7, h8, ?_, ?_, ?_, ?_, ?_, ?_, ?_, ?_, ?_⟩
  · rw [hb.tiers]; decide
  · rw [hb.places]; decide
  · rw [hb.quotas]; decide
  · rw [hb.barred]; decide
  · rw [hb.tiers]; intro i hi; cases hi
  · rw [hb.places]; intro i hi; cases hi
  · rw [hb.quotas]; intro i hi; cases hi
  · rw [hb.barred]; intro i hi; cases hi
  · rw [hb.barred]; intro i hi; cases hi
/-- How far reading has come: a state, and the lines that were read. -/
inductive Stage : St → List UInt8 → Prop
  | s0 : Stage st0 []
  | s1 (n : ByteArray) (h : nameB n = true) : Stage ⟨{ dr0 with name := n }, 1, false, false⟩ (flatL [[kDraw, n]])
  | s2 (d : Dr) (h : Right d) (hb : Bare d) (h1 : d.round = 0) (h2 : d.price = 0) : Stage ⟨d, 2, false, false⟩ (flatL ([kDraw, d.name] :: kindL d))
  | s3 (d : Dr) (h : Right d) (hb : Bare d) (h2 : d.price = 0) : Stage ⟨d, 3, false, false⟩ (flatL ([kDraw, d.name] :: (kindL d ++ [[kRound, decW d.round]])))
  | s4 (d : Dr) (n : Int) (hn : 4 ≤ n) (r b : Bool) (h : Right d) (hr : r = d.roll) (hb : b = false → d.barred = []) : Stage ⟨d, n, r, b⟩ (writeL d)
theorem stage_line {t : St} {x : List UInt8} {ws : List ByteArray} (hS : Stage t x) (h : (lineZ t ws).1 = 0) : Stage (lineZ t ws).2 (x ++ lineW ws ++ [10]) := by
  have hk : keyOf (wAt ws 0) < 11 := by
    by_cases h2 : keyOf (wAt ws 0) < 11
    · exact h2
    · rw [line_none h2] at h; cases h
  have h1 : (lnOf t ws (keyOf (wAt ws 0))).1 = 0 := by
    by_cases h2 : (lnOf t ws (keyOf (wAt ws 0))).1 = 0
    · exact h2
    · rw [line_err rfl h2] at h; exact absurd h h2
  rw [line_ok h1]
  have hw := key_is hk
  generalize keyOf (wAt ws 0) = k at *
  clear h
  have sc : ∀ y : List UInt8, y ++ lineW ws ++ [10] = y ++ flatL [ws] := fun y => by rw [flatL_one, List.append_assoc]
  rw [sc]
  match k, hk, h1, hw with
  | 0, _, h1, hw =>
    obtain ⟨he, hr⟩ := headTo_iff (show (lnDraw t ws).1 = 0 from h1)
    obtain ⟨hl, hf, hs⟩ := headZ_iff.1 he
    obtain ⟨a, b, rfl, _, hb⟩ := fit_2n hf
    show Stage { (lnDraw t [a, b]).2 with lines := t.lines + 1 } _
    have hr : lnDraw t [a, b] = _ := hr
    rw [hr]
    obtain rfl : a = kDraw := hw
    cases hS with
    | s0 => exact Stage.s1 b hb
    | s1 => cases hl
    | s2 => cases hl
    | s3 => cases hl
    | s4 d n hn => dsimp only at hl; omega
  | 1, _, h1, hw =>
    obtain ⟨he, hr⟩ := headTo_iff (show (lnLottery t ws).1 = 0 from h1)
    obtain ⟨hl, hf, hs⟩ := headZ_iff.1 he
    obtain ⟨a, b, c, rfl, _, hb, hc⟩ := fit_3 hf
    have hb2 := small_at hs (w := b) (by simp) hb
    have hc2 := small_at hs (w := c) (by simp) hc
    have hr : lnLottery t [a, b, c] = _ := hr
    show Stage { (lnLottery t [a, b, c]).2 with lines := t.lines + 1 } _
    rw [hr]
    obtain rfl : a = kLottery := hw
    cases hS with
    | s0 => cases hl
    | s1 n hn =>
      have hbare : Bare { dr0 with name := n, kind := 1, pool := amtV b, pick := amtV c } := ⟨rfl, rfl, rfl, rfl, rfl⟩
      have := Stage.s2 { dr0 with name := n, kind := 1, pool := amtV b, pick := amtV c } (right_bare hbare ((owns_1 rfl).2 ⟨rfl, rfl, rfl, rfl⟩) hn rfl rfl (rg_amt hb hb2) (rg_amt hc hc2) rfl rfl) hbare rfl rfl
      rw [← flatL_app]
      have e : [kDraw, n] :: kindL { dr0 with name := n, kind := 1, pool := amtV b, pick := amtV c } = [[kDraw, n]] ++ [[kLottery, b, c]] := by
        show [[kDraw, n], [kLottery, decW (amtV b), decW (amtV c)]] = _
        rw [← num_dec hb hb2, ← num_dec hc hc2]; rfl
      rw [← e]
      exact this
    | s2 => cases hl
    | s3 => cases hl
    | s4 d n hn => dsimp only at hl; omega
  | 2, _, h1, hw =>
    obtain ⟨he, hr⟩ := headTo_iff (show (lnBallot t ws).1 = 0 from h1)
    obtain ⟨hl, hf, hs⟩ := headZ_iff.1 he
    obtain ⟨a, b, rfl, _, hb⟩ := fit_2 hf
    have hb2 := small_at hs (w := b) (by simp) hb
    have hr : lnBallot t [a, b] = _ := hr
    show Stage { (lnBallot t [a, b]).2 with lines := t.lines + 1 } _
    rw [hr]
    obtain rfl : a = kBallot := hw
    cases hS with
    | s0 => cases hl
    | s1 n hn =>
      have hbare : Bare { dr0 with name := n, kind := 2, cls := amtV b } := ⟨rfl, rfl, rfl, rfl, rfl⟩
      have := Stage.s2 { dr0 with name := n, kind := 2, cls := amtV b } (right_bare hbare ((owns_2 rfl).2 ⟨rfl, rfl, rfl, rfl, rfl, rfl⟩) hn rfl rfl rfl rfl (rg_amt hb hb2) rfl) hbare rfl rfl
      rw [← flatL_app]
      have e : [kDraw, n] :: kindL { dr0 with name := n, kind := 2, cls := amtV b } = [[kDraw, n]] ++ [[kBallot, b]] := by
        show [[kDraw, n], [kBallot, decW (amtV b)]] = _
        rw [← num_dec hb hb2]; rfl
      rw [← e]
      exact this
    | s2 => cases hl
    | s3 => cases hl
    | s4 d n hn => dsimp only at hl; omega
  | 3, _, h1, hw =>
    obtain ⟨he, hr⟩ := headTo_iff (show (lnPanel t ws).1 = 0 from h1)
    obtain ⟨hl, hf, hs⟩ := headZ_iff.1 he
    obtain ⟨a, b, rfl, _, hb⟩ := fit_2 hf
    have hb2 := small_at hs (w := b) (by simp) hb
    have hr : lnPanel t [a, b] = _ := hr
    show Stage { (lnPanel t [a, b]).2 with lines := t.lines + 1 } _
    rw [hr]
    obtain rfl : a = kPanel := hw
    cases hS with
    | s0 => cases hl
    | s1 n hn =>
      have hbare : Bare { dr0 with name := n, kind := 3, size := amtV b } := ⟨rfl, rfl, rfl, rfl, rfl⟩
      have := Stage.s2 { dr0 with name := n, kind := 3, size := amtV b } (right_bare hbare ((owns_3 rfl).2 ⟨rfl, rfl, rfl, rfl, rfl, rfl⟩) hn rfl rfl rfl rfl rfl (rg_amt hb hb2)) hbare rfl rfl
      rw [← flatL_app]
      have e : [kDraw, n] :: kindL { dr0 with name := n, kind := 3, size := amtV b } = [[kDraw, n]] ++ [[kPanel, b]] := by
        show [[kDraw, n], [kPanel, decW (amtV b)]] = _
        rw [← num_dec hb hb2]; rfl
      rw [← e]
      exact this
    | s2 => cases hl
    | s3 => cases hl
    | s4 d n hn => dsimp only at hl; omega
  | 4, _, h1, hw =>
    obtain ⟨he, hr⟩ := headTo_iff (show (lnRound t ws).1 = 0 from h1)
    obtain ⟨hl, hf, hs⟩ := headZ_iff.1 he
    obtain ⟨a, b, rfl, _, hb⟩ := fit_2 hf
    have hb2 := small_at hs (w := b) (by simp) hb
    have hr : lnRound t [a, b] = _ := hr
    show Stage { (lnRound t [a, b]).2 with lines := t.lines + 1 } _
    rw [hr]
    obtain rfl : a = kRound := hw
    cases hS with
    | s0 => cases hl
    | s1 => cases hl
    | s2 d h hba hz1 hz2 =>
      have := Stage.s3 { d with round := amtV b } ⟨h.1, h.2, rg_amt hb hb2, h.4, h.5, h.6, h.7, h.8, h.9, h.10, h.11, h.12, h.13, h.14, h.15, h.16, h.17⟩ ⟨hba.1, hba.2, hba.3, hba.4, hba.5⟩ hz2
      rw [← flatL_app]
      have e : [kDraw, d.name] :: (kindL { d with round := amtV b } ++ [[kRound, decW (amtV b)]]) = ([kDraw, d.name] :: kindL d) ++ [[kRound, b]] := by
        rw [← num_dec hb hb2]; rfl
      rw [← e]
      exact this
    | s3 => cases hl
    | s4 d n hn => dsimp only at hl; omega
  | 5, _, h1, hw =>
    obtain ⟨he, hr⟩ := headTo_iff (show (lnPrice t ws).1 = 0 from h1)
    obtain ⟨hl, hf, hs⟩ := headZ_iff.1 he
    obtain ⟨a, b, rfl, _, hb⟩ := fit_2 hf
    have hb2 := small_at hs (w := b) (by simp) hb
    have hr : lnPrice t [a, b] = _ := hr
    show Stage { (lnPrice t [a, b]).2 with lines := t.lines + 1 } _
    rw [hr]
    obtain rfl : a = kPrice := hw
    cases hS with
    | s0 => cases hl
    | s1 => cases hl
    | s2 => cases hl
    | s3 d h hba hz2 =>
      have hbare : Bare { d with price := amtV b } := ⟨hba.1, hba.2, hba.3, hba.4, hba.5⟩
      have := Stage.s4 { d with price := amtV b } 4 (Int.le_refl _) false false ⟨h.1, h.2, h.3, rg_amt hb hb2, h.5, h.6, h.7, h.8, h.9, h.10, h.11, h.12, h.13, h.14, h.15, h.16, h.17⟩ hba.2.symm (fun _ => hba.5)
      rw [← flatL_app]
      have e : lnsZ { d with price := amtV b } = ([kDraw, d.name] :: (kindL d ++ [[kRound, decW d.round]])) ++ [[kPrice, b]] := by
        unfold lnsZ
        rw [hbare.rest, List.append_nil]
        show [kDraw, d.name] :: (kindL d ++ [[kRound, decW d.round], [kPrice, decW (amtV b)]]) = _
        rw [← num_dec hb hb2]; simp
      rw [← e]
      exact this
    | s4 d n hn => dsimp only at hl; omega
  | 6, _, h1, hw =>
    obtain ⟨he, htw, hlt, hr⟩ := addTo_iff (show (lnTier t ws).1 = 0 from h1)
    obtain ⟨hl, hf, hba, hkd, hro, hs⟩ := specZ_iff.1 he
    obtain ⟨a, b, c, rfl, _, hb, hc⟩ := fit_3 hf
    have hb2 := small_at hs (w := b) (by simp) hb
    have hc2 := small_at hs (w := c) (by simp) hc
    have hr : lnTier t [a, b, c] = _ := hr
    show Stage { (lnTier t [a, b, c]).2 with lines := t.lines + 1 } _
    rw [hr]
    obtain rfl : a = kTier := hw
    cases hS with
    | s0 => exact absurd hl (by decide)
    | s1 => exact absurd hl (by dsimp only; omega)
    | s2 => exact absurd hl (by dsimp only; omega)
    | s3 => exact absurd hl (by dsimp only; omega)
    | s4 d n hn r bb h hrr hbb =>
      dsimp only at *
      subst hba
      obtain ⟨o1, o2, o3, o4⟩ := (owns_1 hkd).1 h.owns
      have := Stage.s4 { d with tiers := d.tiers ++ [(amtV b, amtV c)] } (n + 1) (by omega) r false ⟨(owns_1 (by exact hkd)).2 ⟨o1, o2, o3, o4⟩, h.2, h.3, h.4, h.5, h.6, h.7, h.8, by show (d.tiers ++ [_]).length ≤ 12; rw [List.length_append, List.length_singleton]; omega, h.10, h.11, h.12,
        snoc_all h.13 (fun i hi => tierOk_old hi) (by rw [tierOk_new, rg_amt hb hb2, rg_amt hc hc2]; have htw : hasTier d.tiers (amtV b) = false := htw; simpa using htw), h.14, h.15, h.16, h.17⟩ hrr hbb
      have e : lnsZ { d with tiers := d.tiers ++ [(amtV b, amtV c)] } = lnsZ d ++ [[kTier, b, c]] := by
        unfold lnsZ restL rollL
        dsimp only
        rw [← hrr, hro, o2, o4, hbb rfl]
        show headL d ++ ((d.tiers ++ [(amtV b, amtV c)]).map tierL ++ []) = (headL d ++ (d.tiers.map tierL ++ [])) ++ _
        rw [List.map_append, List.append_nil, List.append_nil, List.append_assoc]
        show _ ++ (_ ++ [[kTier, decW (amtV b), decW (amtV c)]]) = _
        rw [← num_dec hb hb2, ← num_dec hc hc2]
      unfold writeL at this ⊢
      rw [← flatL_app, ← e]
      exact this
  | 7, _, h1, hw =>
    obtain ⟨he, hr⟩ := headTo_iff (show (lnRoll t ws).1 = 0 from h1)
    obtain ⟨hl, hf, hba, hkd, hro, hs⟩ := specZ_iff.1 he
    obtain ⟨a, rfl, _⟩ := fit_1 hf
    have hr : lnRoll t [a] = _ := hr
    show Stage { (lnRoll t [a]).2 with lines := t.lines + 1 } _
    rw [hr]
    obtain rfl : a = kRoll := hw
    cases hS with
    | s0 => exact absurd hl (by decide)
    | s1 => exact absurd hl (by dsimp only; omega)
    | s2 => exact absurd hl (by dsimp only; omega)
    | s3 => exact absurd hl (by dsimp only; omega)
    | s4 d n hn r bb h hrr hbb =>
      dsimp only at *
      subst hba
      obtain ⟨o1, o2, o3, o4⟩ := (owns_1 hkd).1 h.owns
      have := Stage.s4 { d with roll := true } (n + 1) (by omega) true false ⟨(owns_1 (by exact hkd)).2 ⟨o1, o2, o3, o4⟩, h.2, h.3, h.4, h.5, h.6, h.7, h.8, h.9, h.10, h.11, h.12, h.13, h.14, h.15, h.16, h.17⟩ rfl hbb
      have e : lnsZ { d with roll := true } = lnsZ d ++ [[kRoll]] := by
        unfold lnsZ restL rollL
        dsimp only
        rw [← hrr, hro, o2, o4, hbb rfl]
        show headL d ++ (d.tiers.map tierL ++ [[kRoll]]) = (headL d ++ (d.tiers.map tierL ++ [])) ++ _
        rw [List.append_nil, List.append_assoc]
      unfold writeL at this ⊢
      rw [← flatL_app, ← e]
      exact this
  | 8, _, h1, hw =>
    obtain ⟨he, htw, hlt, hr⟩ := addTo_iff (show (lnPlace t ws).1 = 0 from h1)
    obtain ⟨hl, hf, hba, hkd, hro, hs⟩ := specZ_iff.1 he
    obtain ⟨a, b, c, rfl, _, hb, hc⟩ := fit_3n hf
    have hc2 := small_at hs (w := c) (by simp) hc
    have hr : lnPlace t [a, b, c] = _ := hr
    show Stage { (lnPlace t [a, b, c]).2 with lines := t.lines + 1 } _
    rw [hr]
    obtain rfl : a = kPlace := hw
    cases hS with
    | s0 => exact absurd hl (by decide)
    | s1 => exact absurd hl (by dsimp only; omega)
    | s2 => exact absurd hl (by dsimp only; omega)
    | s3 => exact absurd hl (by dsimp only; omega)
    | s4 d n hn r bb h hrr hbb =>
      dsimp only at *
      subst hba
      obtain ⟨o1, o2, o3, o4, o5, o6⟩ := (owns_2 hkd).1 h.owns
      have := Stage.s4 { d with places := d.places ++ [(b, amtV c)] } (n + 1) (by omega) r false ⟨(owns_2 (by exact hkd)).2 ⟨o1, o2, o3, o4, o5, o6⟩, h.2, h.3, h.4, h.5, h.6, h.7, h.8, h.9, by show (d.places ++ [_]).length ≤ 12; rw [List.length_append, List.length_singleton]; omega, h.11, h.12, h.13,
        snoc_all h.14 (fun i hi => placeOk_old hi) (by rw [placeOk_new, hb, rg_amt hc hc2]; have htw : hasPlace d.places b = false := htw; simpa using htw), h.15, h.16, h.17⟩ hrr hbb
      have e : lnsZ { d with places := d.places ++ [(b, amtV c)] } = lnsZ d ++ [[kPlace, b, c]] := by
        unfold lnsZ restL
        dsimp only
        rw [o6, hbb rfl]
        show headL d ++ (d.tiers.map tierL ++ (rollL d.roll ++ ((d.places ++ [(b, amtV c)]).map placeL ++ []))) = (headL d ++ (d.tiers.map tierL ++ (rollL d.roll ++ (d.places.map placeL ++ [])))) ++ _
        simp only [List.map_append, List.append_nil, List.append_assoc]
        show _ ++ (_ ++ (_ ++ (_ ++ [[kPlace, b, decW (amtV c)]]))) = _
        rw [← num_dec hc hc2]
      unfold writeL at this ⊢
      rw [← flatL_app, ← e]
      exact this
  | 9, _, h1, hw =>
    obtain ⟨he, htw, hlt, hr⟩ := addTo_iff (show (lnQuota t ws).1 = 0 from h1)
    obtain ⟨hl, hf, hba, hkd, hro, hs⟩ := specZ_iff.1 he
    obtain ⟨a, b, c, f, rfl, _, hb, hc, hg⟩ := fit_4 hf
    have hc2 := small_at hs (w := c) (by simp) hc
    have hg2 := small_at hs (w := f) (by simp) hg
    have hr : lnQuota t [a, b, c, f] = _ := hr
    show Stage { (lnQuota t [a, b, c, f]).2 with lines := t.lines + 1 } _
    rw [hr]
    obtain rfl : a = kQuota := hw
    cases hS with
    | s0 => exact absurd hl (by decide)
    | s1 => exact absurd hl (by dsimp only; omega)
    | s2 => exact absurd hl (by dsimp only; omega)
    | s3 => exact absurd hl (by dsimp only; omega)
    | s4 d n hn r bb h hrr hbb =>
      dsimp only at *
      subst hba
      obtain ⟨o1, o2, o3, o4, o5, o6⟩ := (owns_3 hkd).1 h.owns
      have := Stage.s4 { d with quotas := d.quotas ++ [(b, amtV c, amtV f)] } (n + 1) (by omega) r false ⟨(owns_3 (by exact hkd)).2 ⟨o1, o2, o3, o4, o5, o6⟩, h.2, h.3, h.4, h.5, h.6, h.7, h.8, h.9, h.10, by show (d.quotas ++ [_]).length ≤ 12; rw [List.length_append, List.length_singleton]; omega, h.12, h.13, h.14,
        snoc_all h.15 (fun i hi => quotaOk_old hi) (by rw [quotaOk_new, hb, rg_amt hc hc2, rg_amt hg hg2]; have htw : hasQuota d.quotas b = false := htw; simpa using htw), h.16, h.17⟩ hrr hbb
      have e : lnsZ { d with quotas := d.quotas ++ [(b, amtV c, amtV f)] } = lnsZ d ++ [[kQuota, b, c, f]] := by
        unfold lnsZ restL
        dsimp only
        rw [hbb rfl]
        show headL d ++ (d.tiers.map tierL ++ (rollL d.roll ++ (d.places.map placeL ++ ((d.quotas ++ [(b, amtV c, amtV f)]).map quotaL ++ [])))) = (headL d ++ (d.tiers.map tierL ++ (rollL d.roll ++ (d.places.map placeL ++ (d.quotas.map quotaL ++ []))))) ++ _
        simp only [List.map_append, List.append_nil, List.append_assoc]
        show _ ++ (_ ++ (_ ++ (_ ++ (_ ++ [[kQuota, b, decW (amtV c), decW (amtV f)]])))) = _
        rw [← num_dec hc hc2, ← num_dec hg hg2]
      unfold writeL at this ⊢
      rw [← flatL_app, ← e]
      exact this
  | 10, _, h1, hw =>
    obtain ⟨he, htw, hlt, hr⟩ := addTo_iff (show (lnBar t ws).1 = 0 from h1)
    obtain ⟨hl, hf, hs⟩ := barZ_iff.1 he
    obtain ⟨a, b, rfl, _, hb⟩ := fit_2 hf
    have hb2 := small_at hs (w := b) (by simp) hb
    have hr : lnBar t [a, b] = _ := hr
    show Stage { (lnBar t [a, b]).2 with lines := t.lines + 1 } _
    rw [hr]
    obtain rfl : a = kBar := hw
    cases hS with
    | s0 => exact absurd hl (by decide)
    | s1 => exact absurd hl (by dsimp only; omega)
    | s2 => exact absurd hl (by dsimp only; omega)
    | s3 => exact absurd hl (by dsimp only; omega)
    | s4 d n hn r bb h hrr hbb =>
      dsimp only at *
      have := Stage.s4 { d with barred := d.barred ++ [amtV b] } (n + 1) (by omega) r true ⟨h.1, h.2, h.3, h.4, h.5, h.6, h.7, h.8, h.9, h.10, h.11, by show (d.barred ++ [_]).length ≤ 40; rw [List.length_append, List.length_singleton]; omega, h.13, h.14, h.15,
        snoc_all h.16 (fun i hi => barOk_old hi) (by rw [barOk_new]; have htw : hasBar d.barred (amtV b) = false := htw; simpa using htw), fun y hy => by
          rcases List.mem_append.1 hy with hy | hy
          · exact h.17 y hy
          · rw [List.mem_singleton.1 hy]; exact rg_amt hb hb2⟩ hrr (fun e => by cases e)
      have e : lnsZ { d with barred := d.barred ++ [amtV b] } = lnsZ d ++ [[kBar, b]] := by
        unfold lnsZ restL
        dsimp only
        show headL d ++ (d.tiers.map tierL ++ (rollL d.roll ++ (d.places.map placeL ++ (d.quotas.map quotaL ++ (d.barred ++ [amtV b]).map barL)))) = _
        simp only [List.map_append, List.append_assoc]
        show _ ++ (_ ++ (_ ++ (_ ++ (_ ++ (_ ++ [[kBar, decW (amtV b)]]))))) = _
        rw [← num_dec hb hb2]
      unfold writeL at this ⊢
      rw [← flatL_app, ← e]
      exact this
theorem stage_end {t : St} {x : List UInt8} (h : Stage t x) (hl : 4 ≤ t.lines) : Right t.d ∧ x = writeL t.d := by
  cases h with
  | s0 => exact absurd hl (by decide)
  | s1 => exact absurd hl (by dsimp only; omega)
  | s2 => exact absurd hl (by dsimp only; omega)
  | s3 => exact absurd hl (by dsimp only; omega)
  | s4 d n hn r b h => exact ⟨h, rfl⟩
theorem runL_right : ∀ (r : List UInt8) (t : St) (p : Nat) (cur x : List UInt8), Stage t x → (runL t p cur r).1 = 0 → Right (runL t p cur r).2.2.d ∧ x ++ cur ++ r = writeL (runL t p cur r).2.2.d ∧ (runL t p cur r).2.1 = 0
  | [], t, p, cur, x, hS, h => by
    unfold runL at h ⊢
    by_cases h2 : cur = [] ∧ 4 ≤ t.lines
    · rw [if_pos h2] at h ⊢
      obtain ⟨h3, h4⟩ := stage_end hS h2.2
      exact ⟨h3, by rw [h2.1, List.append_nil, List.append_nil]; exact h4, rfl⟩
    · rw [if_neg h2] at h; cases h
  | c :: r, t, p, cur, x, hS, h => by
    by_cases hc : c = 10
    · subst hc
      have e : runL t p cur (10 :: r) = if (lineZ t (wordsB ⟨cur.toArray⟩)).1 = 0 then runL (lineZ t (wordsB ⟨cur.toArray⟩)).2 (p + cur.length + 1) [] r else ((lineZ t (wordsB ⟨cur.toArray⟩)).1, p, t) := rfl
      rw [e] at h ⊢
      by_cases h2 : (lineZ t (wordsB ⟨cur.toArray⟩)).1 = 0
      · rw [if_pos h2] at h ⊢
        have h3 := stage_line hS h2
        rw [lineW_words] at h3
        obtain ⟨i1, i2, i3⟩ := runL_right r _ _ [] _ h3 h
        refine ⟨i1, ?_, i3⟩
        rw [← i2]; simp
      · rw [if_neg h2] at h
        exact absurd h h2
    · rw [runL_step hc] at h ⊢
      obtain ⟨i1, i2, i3⟩ := runL_right r t p (cur ++ [c]) x hS h
      refine ⟨i1, ?_, i3⟩
      rw [← i2]; simp
/-- What is read is right, and its text is what was read. -/
theorem parse_right {s : ByteArray} (h : (parseZ s).1 = 0) : Right (parseZ s).2.2 ∧ s = writeB (parseZ s).2.2 ∧ (parseZ s).2.1 = 0 := by
  unfold parseZ at h ⊢
  by_cases h2 : s.size ≤ 4000
  · rw [if_pos h2] at h ⊢
    by_cases h3 : (runL st0 0 [] s.data.toList).1 = 0
    · rw [if_pos h3]
      obtain ⟨i1, i2, i3⟩ := runL_right s.data.toList st0 0 [] [] Stage.s0 h3
      refine ⟨i1, ?_, rfl⟩
      unfold writeB
      rw [← i2]
      exact (arr_list s).symm
    · rw [if_neg h3] at h
      exact absurd h h3
  · rw [if_neg h2] at h; cases h
end Go.Proofs.YteikkpiginfbkaaGreatDoor

namespace Go.Proofs.YteikkpiginfbkaaGreatDoor
open Go.RowKit

theorem rg_le {z : Int} (h : rgB z = true) : 0 ≤ z ∧ z ≤ 1000000000 := by
  unfold rgB at h
  rw [Bool.and_eq_true, decide_eq_true_eq, decide_eq_true_eq] at h
  exact h
theorem dec_rg {z : Int} (h : rgB z = true) : amtV (decW z) = z := dec_amt (rg_le h).1 (rg_le h).2
theorem small_all {ws : List ByteArray} (h : ∀ w ∈ ws, numB w = true → amtV w ≤ 1000000000) : smallB ws = true := by
  unfold smallB
  rw [List.all_eq_true]
  intro w hw
  cases hn : numB w with
  | false => rfl
  | true => simpa using h w hw hn
theorem small_dec {n : ByteArray} (hn : numB n = false) {z : Int} (h : rgB z = true) : smallB [n, decW z] = true := small_all fun w hw hnw => by
  simp only [List.mem_cons, List.not_mem_nil, or_false] at hw
  rcases hw with rfl | rfl
  · rw [hn] at hnw; cases hnw
  · rw [dec_rg h]; exact (rg_le h).2
theorem small_dec2 {n : ByteArray} (hn : numB n = false) {z y : Int} (h : rgB z = true) (h' : rgB y = true) : smallB [n, decW z, decW y] = true := small_all fun w hw hnw => by
  simp only [List.mem_cons, List.not_mem_nil, or_false] at hw
  rcases hw with rfl | rfl | rfl
  · rw [hn] at hnw; cases hnw
  · rw [dec_rg h]; exact (rg_le h).2
  · rw [dec_rg h']; exact (rg_le h').2
theorem name_not_num {s : ByteArray} (h : nameB s = true) : numB s = false := by
  cases hn : numB s with
  | false => rfl
  | true => rw [num_not_name hn] at h; cases h
theorem small_nd {n m : ByteArray} (hn : numB n = false) (hm : numB m = false) {z : Int} (h : rgB z = true) : smallB [n, m, decW z] = true := small_all fun w hw hnw => by
  simp only [List.mem_cons, List.not_mem_nil, or_false] at hw
  rcases hw with rfl | rfl | rfl
  · rw [hn] at hnw; cases hnw
  · rw [hm] at hnw; cases hnw
  · rw [dec_rg h]; exact (rg_le h).2
theorem small_ndd {n m : ByteArray} (hn : numB n = false) (hm : numB m = false) {z y : Int} (h : rgB z = true) (h' : rgB y = true) : smallB [n, m, decW z, decW y] = true := small_all fun w hw hnw => by
  simp only [List.mem_cons, List.not_mem_nil, or_false] at hw
  rcases hw with rfl | rfl | rfl | rfl
  · rw [hn] at hnw; cases hnw
  · rw [hm] at hnw; cases hnw
  · rw [dec_rg h]; exact (rg_le h).2
  · rw [dec_rg h']; exact (rg_le h').2
theorem small_nn {n m : ByteArray} (hn : numB n = false) (hm : numB m = false) : smallB [n, m] = true := small_all fun w hw hnw => by
  simp only [List.mem_cons, List.not_mem_nil, or_false] at hw
  rcases hw with rfl | rfl
  · rw [hn] at hnw; cases hnw
  · rw [hm] at hnw; cases hnw
theorem line_of {t t' : St} {ws : List ByteArray} {k : Nat} (hk : keyOf (wAt ws 0) = k) (h : lnOf t ws k = (0, t')) : lineZ t ws = (0, { t' with lines := t.lines + 1 }) := by
  subst hk
  rw [line_ok (by rw [h]), h]
theorem fb2n {a b : ByteArray} (ha : nameB a = true) (hb : nameB b = true) : fitB [true, true] [a, b] = true := by simp [fitB, ha, hb]
theorem fb1 {a : ByteArray} (ha : nameB a = true) : fitB [true] [a] = true := by simp [fitB, ha]
theorem fb2 {a b : ByteArray} (ha : nameB a = true) (hb : numB b = true) : fitB [true, false] [a, b] = true := by simp [fitB, ha, hb]
theorem fb3 {a b c : ByteArray} (ha : nameB a = true) (hb : numB b = true) (hc : numB c = true) : fitB [true, false, false] [a, b, c] = true := by simp [fitB, ha, hb, hc]
theorem fb3n {a b c : ByteArray} (ha : nameB a = true) (hb : nameB b = true) (hc : numB c = true) : fitB [true, true, false] [a, b, c] = true := by simp [fitB, ha, hb, hc]
theorem fb4 {a b c e : ByteArray} (ha : nameB a = true) (hb : nameB b = true) (hc : numB c = true) (he : numB e = true) : fitB [true, true, false, false] [a, b, c, e] = true := by simp [fitB, ha, hb, hc, he]
theorem ln_draw {t : St} {n : ByteArray} (hl : t.lines = 0) (hn : nameB n = true) : lineZ t [kDraw, n] = (0, { t with d := { t.d with name := n }, lines := t.lines + 1 }) :=
  line_of (k := 0) rfl (headTo_z (headZ_iff.2 ⟨hl, fb2n (by decide) hn, small_nn (by decide) (name_not_num hn)⟩))
theorem ln_lottery {t : St} {x y : Int} (hl : t.lines = 1) (hx : rgB x = true) (hy : rgB y = true) : lineZ t [kLottery, decW x, decW y] = (0, { t with d := { t.d with kind := 1, pool := x, pick := y }, lines := t.lines + 1 }) := by
  have h := line_of (t := t) (ws := [kLottery, decW x, decW y]) (k := 1) rfl (headTo_z (headZ_iff.2 ⟨hl, fb3 (by decide) (dec_num x) (dec_num y), small_dec2 (by decide) hx hy⟩))
  rw [show aAt [kLottery, decW x, decW y] 1 = x from dec_rg hx, show aAt [kLottery, decW x, decW y] 2 = y from dec_rg hy] at h
  exact h
theorem ln_ballot {t : St} {x : Int} (hl : t.lines = 1) (hx : rgB x = true) : lineZ t [kBallot, decW x] = (0, { t with d := { t.d with kind := 2, cls := x }, lines := t.lines + 1 }) := by
  have h := line_of (t := t) (ws := [kBallot, decW x]) (k := 2) rfl (headTo_z (headZ_iff.2 ⟨hl, fb2 (by decide) (dec_num x), small_dec (by decide) hx⟩))
  rw [show aAt [kBallot, decW x] 1 = x from dec_rg hx] at h
  exact h
theorem ln_panel {t : St} {x : Int} (hl : t.lines = 1) (hx : rgB x = true) : lineZ t [kPanel, decW x] = (0, { t with d := { t.d with kind := 3, size := x }, lines := t.lines + 1 }) := by
  have h := line_of (t := t) (ws := [kPanel, decW x]) (k := 3) rfl (headTo_z (headZ_iff.2 ⟨hl, fb2 (by decide) (dec_num x), small_dec (by decide) hx⟩))
  rw [show aAt [kPanel, decW x] 1 = x from dec_rg hx] at h
  exact h
theorem ln_round {t : St} {x : Int} (hl : t.lines = 2) (hx : rgB x = true) : lineZ t [kRound, decW x] = (0, { t with d := { t.d with round := x }, lines := t.lines + 1 }) := by
  have h := line_of (t := t) (ws := [kRound, decW x]) (k := 4) rfl (headTo_z (headZ_iff.2 ⟨hl, fb2 (by decide) (dec_num x), small_dec (by decide) hx⟩))
  rw [show aAt [kRound, decW x] 1 = x from dec_rg hx] at h
  exact h
theorem ln_price {t : St} {x : Int} (hl : t.lines = 3) (hx : rgB x = true) : lineZ t [kPrice, decW x] = (0, { t with d := { t.d with price := x }, lines := t.lines + 1 }) := by
  have h := line_of (t := t) (ws := [kPrice, decW x]) (k := 5) rfl (headTo_z (headZ_iff.2 ⟨hl, fb2 (by decide) (dec_num x), small_dec (by decide) hx⟩))
  rw [show aAt [kPrice, decW x] 1 = x from dec_rg hx] at h
  exact h
theorem addTo_z {e : Int} {n m : Nat} {t t' : St} {b : Bool} (h : e = 0) (h1 : b = false) (h2 : n < m) : addTo e b n m t t' = (0, t') := by
  subst h1
  unfold addTo
  rw [if_pos h, if_neg (by decide), if_pos h2]
theorem ln_tier {t : St} {x : Int × Int} (hl : 4 ≤ t.lines) (hb : t.barred = false) (hk : t.d.kind = 1) (hr : t.rolled = false) (hx : rgB x.1 = true) (hy : rgB x.2 = true) (ht : hasTier t.d.tiers x.1 = false) (hn : t.d.tiers.length < 12) :
    lineZ t (tierL x) = (0, { t with d := { t.d with tiers := t.d.tiers ++ [x] }, lines := t.lines + 1 }) := by
  have e1 : aAt (tierL x) 1 = x.1 := dec_rg hx
  have e2 : aAt (tierL x) 2 = x.2 := dec_rg hy
  have h := line_of (t := t) (ws := tierL x) (k := 6) rfl (addTo_z (specZ_iff.2 ⟨hl, fb3 (by decide) (dec_num x.1) (dec_num x.2), hb, hk, hr, small_dec2 (by decide) hx hy⟩) (by rw [e1]; exact ht) hn)
  rw [e1, e2] at h
  exact h
theorem ln_roll {t : St} (hl : 4 ≤ t.lines) (hb : t.barred = false) (hk : t.d.kind = 1) (hr : t.rolled = false) : lineZ t [kRoll] = (0, { t with d := { t.d with roll := true }, rolled := true, lines := t.lines + 1 }) :=
  line_of (k := 7) rfl (headTo_z (specZ_iff.2 ⟨hl, fb1 (by decide), hb, hk, hr, by decide⟩))
theorem ln_place {t : St} {x : ByteArray × Int} (hl : 4 ≤ t.lines) (hb : t.barred = false) (hk : t.d.kind = 2) (hr : t.rolled = false) (hx : nameB x.1 = true) (hy : rgB x.2 = true) (ht : hasPlace t.d.places x.1 = false) (hn : t.d.places.length < 12) :
    lineZ t (placeL x) = (0, { t with d := { t.d with places := t.d.places ++ [x] }, lines := t.lines + 1 }) := by
  have e2 : aAt (placeL x) 2 = x.2 := dec_rg hy
  have h := line_of (t := t) (ws := placeL x) (k := 8) rfl (addTo_z (specZ_iff.2 ⟨hl, fb3n (by decide) hx (dec_num x.2), hb, hk, hr, small_nd (by decide) (name_not_num hx) hy⟩) (by exact ht) hn)
  rw [e2] at h
  exact h
theorem ln_quota {t : St} {x : ByteArray × Int × Int} (hl : 4 ≤ t.lines) (hb : t.barred = false) (hk : t.d.kind = 3) (hr : t.rolled = false) (hx : nameB x.1 = true) (hy : rgB x.2.1 = true) (hz : rgB x.2.2 = true) (ht : hasQuota t.d.quotas x.1 = false) (hn : t.d.quotas.length < 12) :
    lineZ t (quotaL x) = (0, { t with d := { t.d with quotas := t.d.quotas ++ [x] }, lines := t.lines + 1 }) := by
  have e2 : aAt (quotaL x) 2 = x.2.1 := dec_rg hy
  have e3 : aAt (quotaL x) 3 = x.2.2 := dec_rg hz
  have h := line_of (t := t) (ws := quotaL x) (k := 9) rfl (addTo_z (specZ_iff.2 ⟨hl, fb4 (by decide) hx (dec_num x.2.1) (dec_num x.2.2), hb, hk, hr, small_ndd (by decide) (name_not_num hx) hy hz⟩) (by exact ht) hn)
  rw [e2, e3] at h
  exact h
theorem ln_bar {t : St} {x : Int} (hl : 4 ≤ t.lines) (hx : rgB x = true) (ht : hasBar t.d.barred x = false) (hn : t.d.barred.length < 40) :
    lineZ t (barL x) = (0, { t with d := { t.d with barred := t.d.barred ++ [x] }, barred := true, lines := t.lines + 1 }) := by
  have e1 : aAt (barL x) 1 = x := dec_rg hx
  have h := line_of (t := t) (ws := barL x) (k := 10) rfl (addTo_z (barZ_iff.2 ⟨hl, fb2 (by decide) (dec_num x), small_dec (by decide) hx⟩) (by rw [e1]; exact ht) hn)
  rw [e1] at h
  exact h
theorem take_snoc {α : Type} {l : List α} {k : Nat} (h : k < l.length) : l.take (k + 1) = l.take k ++ [l[k]] := List.take_succ_eq_append_getElem h
/-- A state that holds parts of a draw. -/
def stW (d : Dr) (a : List (Int × Int)) (r : Bool) (b : List (ByteArray × Int)) (c : List (ByteArray × Int × Int)) (e : List Int) (n : Int) : St :=
  ⟨{ d with tiers := a, roll := r, places := b, quotas := c, barred := e }, n, r, !e.isEmpty⟩
theorem go_head {d : Dr} (h : Right d) : goL st0 (headL d) = (0, stW d [] false [] [] [] 4) := by
  unfold headL
  rw [goL_cons (ln_draw rfl h.name)]
  rcases owns_k h.owns with hk | hk | hk
  · obtain ⟨o1, o2, o3, o4⟩ := (owns_1 hk).1 h.owns
    rw [show kindL d = [[kLottery, decW d.pool, decW d.pick]] by unfold kindL; rw [if_pos hk]]
    show goL _ ([kLottery, decW d.pool, decW d.pick] :: [kRound, decW d.round] :: [[kPrice, decW d.price]]) = _
    rw [goL_cons (ln_lottery rfl h.pool h.pick), goL_cons (ln_round rfl h.round), goL_cons (ln_price rfl h.price)]
    clear h
    obtain ⟨nm, kd, ro, pr, po, pi, ti, rl, pl, cl, sz, qu, ba⟩ := d
    dsimp only at hk o1 o3
    subst hk o1 o3
    rfl
  · obtain ⟨o1, o2, o3, o4, o5, o6⟩ := (owns_2 hk).1 h.owns
    rw [show kindL d = [[kBallot, decW d.cls]] by unfold kindL; rw [if_neg (by rw [hk]; decide), if_pos hk]]
    show goL _ ([kBallot, decW d.cls] :: [kRound, decW d.round] :: [[kPrice, decW d.price]]) = _
    rw [goL_cons (ln_ballot rfl h.cls), goL_cons (ln_round rfl h.round), goL_cons (ln_price rfl h.price)]
    clear h
    obtain ⟨nm, kd, ro, pr, po, pi, ti, rl, pl, cl, sz, qu, ba⟩ := d
    dsimp only at hk o1 o2 o5
    subst hk o1 o2 o5
    rfl
  · obtain ⟨o1, o2, o3, o4, o5, o6⟩ := (owns_3 hk).1 h.owns
    rw [show kindL d = [[kPanel, decW d.size]] by unfold kindL; rw [if_neg (by rw [hk]; decide), if_neg (by rw [hk]; decide), if_pos hk]]
    show goL _ ([kPanel, decW d.size] :: [kRound, decW d.round] :: [[kPrice, decW d.price]]) = _
    rw [goL_cons (ln_panel rfl h.size), goL_cons (ln_round rfl h.round), goL_cons (ln_price rfl h.price)]
    clear h
    obtain ⟨nm, kd, ro, pr, po, pi, ti, rl, pl, cl, sz, qu, ba⟩ := d
    dsimp only at hk o1 o2 o5
    subst hk o1 o2 o5
    rfl
theorem tier_kind {d : Dr} (h : Right d) (hp : 0 < d.tiers.length) : d.kind = 1 := by
  rcases owns_k h.owns with hk | hk | hk
  · exact hk
  · rw [((owns_2 hk).1 h.owns).2.2.1] at hp; cases hp
  · rw [((owns_3 hk).1 h.owns).2.2.1] at hp; cases hp
theorem roll_kind {d : Dr} (h : Right d) (hp : d.roll = true) : d.kind = 1 := by
  rcases owns_k h.owns with hk | hk | hk
  · exact hk
  · rw [((owns_2 hk).1 h.owns).2.2.2.1] at hp; cases hp
  · rw [((owns_3 hk).1 h.owns).2.2.2.1] at hp; cases hp
theorem place_kind {d : Dr} (h : Right d) (hp : 0 < d.places.length) : d.kind = 2 ∧ d.roll = false := by
  rcases owns_k h.owns with hk | hk | hk
  · rw [((owns_1 hk).1 h.owns).2.1] at hp; cases hp
  · exact ⟨hk, ((owns_2 hk).1 h.owns).2.2.2.1⟩
  · rw [((owns_3 hk).1 h.owns).2.2.2.2.2] at hp; cases hp
theorem quota_kind {d : Dr} (h : Right d) (hp : 0 < d.quotas.length) : d.kind = 3 ∧ d.roll = false := by
  rcases owns_k h.owns with hk | hk | hk
  · rw [((owns_1 hk).1 h.owns).2.2.2] at hp; cases hp
  · rw [((owns_2 hk).1 h.owns).2.2.2.2.2] at hp; cases hp
  · exact ⟨hk, ((owns_3 hk).1 h.owns).2.2.2.1⟩
theorem tierOk_at {l : List (Int × Int)} {i : Nat} (h : i < l.length) (h2 : tierOk l i = true) : rgB l[i].1 = true ∧ rgB l[i].2 = true ∧ hasTier (l.take i) l[i].1 = false := by
  unfold tierOk tAt at h2
  have e : l.getD i (0, 0) = l[i] := by simp [List.getD, h]
  rw [e] at h2
  simp only [Bool.and_eq_true, Bool.not_eq_true'] at h2
  exact ⟨h2.1.1, h2.1.2, h2.2⟩
theorem placeOk_at {l : List (ByteArray × Int)} {i : Nat} (h : i < l.length) (h2 : placeOk l i = true) : nameB l[i].1 = true ∧ rgB l[i].2 = true ∧ hasPlace (l.take i) l[i].1 = false := by
  unfold placeOk pAt at h2
  have e : l.getD i (ByteArray.empty, 0) = l[i] := by simp [List.getD, h]
  rw [e] at h2
  simp only [Bool.and_eq_true, Bool.not_eq_true'] at h2
  exact ⟨h2.1.1, h2.1.2, h2.2⟩
theorem quotaOk_at {l : List (ByteArray × Int × Int)} {i : Nat} (h : i < l.length) (h2 : quotaOk l i = true) : nameB l[i].1 = true ∧ rgB l[i].2.1 = true ∧ rgB l[i].2.2 = true ∧ hasQuota (l.take i) l[i].1 = false := by
  unfold quotaOk qAt at h2
  have e : l.getD i (ByteArray.empty, 0, 0) = l[i] := by simp [List.getD, h]
  rw [e] at h2
  simp only [Bool.and_eq_true, Bool.not_eq_true'] at h2
  exact ⟨h2.1.1.1, h2.1.1.2, h2.1.2, h2.2⟩
theorem barOk_at {l : List Int} {i : Nat} (h : i < l.length) (h2 : barOk l i = true) : hasBar (l.take i) l[i] = false := by
  unfold barOk ptAt at h2
  have e : l.getD i 0 = l[i] := by simp [List.getD, h]
  rw [e] at h2
  simpa using h2
theorem take_len {α : Type} {l : List α} {k : Nat} (h : k < l.length) : (l.take k).length = k := by rw [List.length_take]; omega
theorem go_tiers {d : Dr} (h : Right d) : ∀ k, k ≤ d.tiers.length → goL (stW d [] false [] [] [] 4) ((d.tiers.take k).map tierL) = (0, stW d (d.tiers.take k) false [] [] [] (4 + k))
  | 0, _ => rfl
  | k + 1, hk => by
    have hlt : k < d.tiers.length := by omega
    have ih := go_tiers h k (by omega)
    obtain ⟨h1, h2, h3⟩ := tierOk_at hlt (h.tiers k hlt)
    have := h.t12
    rw [take_snoc hlt, List.map_append, goL_app (by rw [ih]), ih, List.map_singleton, goL_cons (ln_tier (by show (4 : Int) ≤ 4 + k; omega) rfl (show d.kind = 1 from tier_kind h (by omega)) rfl h1 h2 h3 (by show (d.tiers.take k).length < 12; rw [take_len hlt]; omega))]
    show (0, _) = (0, _)
    unfold stW
    congr 2
    all_goals (show (4 + (k : Int)) + 1 = 4 + ((k + 1 : Nat) : Int); omega)
theorem go_roll {d : Dr} (h : Right d) (n : Int) (hn : 4 ≤ n) : ∃ m, n ≤ m ∧ goL (stW d d.tiers false [] [] [] n) (rollL d.roll) = (0, stW d d.tiers d.roll [] [] [] m) := by
  unfold rollL
  cases hr : d.roll with
  | false => exact ⟨n, Int.le_refl _, rfl⟩
  | true =>
    refine ⟨n + 1, by omega, ?_⟩
    rw [if_pos rfl, goL_cons (ln_roll hn rfl (show d.kind = 1 from roll_kind h hr) rfl)]
    rfl
theorem go_places {d : Dr} (h : Right d) (n : Int) (hn : 4 ≤ n) : ∀ k, k ≤ d.places.length → goL (stW d d.tiers d.roll [] [] [] n) ((d.places.take k).map placeL) = (0, stW d d.tiers d.roll (d.places.take k) [] [] (n + k))
  | 0, _ => by show (0, _) = (0, _); rw [show n + ((0 : Nat) : Int) = n by simp]; rfl
  | k + 1, hk => by
    have hlt : k < d.places.length := by omega
    have ih := go_places h n hn k (by omega)
    obtain ⟨h1, h2, h3⟩ := placeOk_at hlt (h.places k hlt)
    obtain ⟨k1, k2⟩ := place_kind h (by omega)
    have := h.p12
    rw [take_snoc hlt, List.map_append, goL_app (by rw [ih]), ih, List.map_singleton, goL_cons (ln_place (by show (4 : Int) ≤ n + k; omega) rfl k1 k2 h1 h2 h3 (by show (d.places.take k).length < 12; rw [take_len hlt]; omega))]
    show (0, _) = (0, _)
    unfold stW
    congr 2
    all_goals (show (n + (k : Int)) + 1 = n + ((k + 1 : Nat) : Int); omega)
theorem go_quotas {d : Dr} (h : Right d) (n : Int) (hn : 4 ≤ n) : ∀ k, k ≤ d.quotas.length → goL (stW d d.tiers d.roll d.places [] [] n) ((d.quotas.take k).map quotaL) = (0, stW d d.tiers d.roll d.places (d.quotas.take k) [] (n + k))
  | 0, _ => by show (0, _) = (0, _); rw [show n + ((0 : Nat) : Int) = n by simp]; rfl
  | k + 1, hk => by
    have hlt : k < d.quotas.length := by omega
    have ih := go_quotas h n hn k (by omega)
    obtain ⟨h1, h2, h3, h4⟩ := quotaOk_at hlt (h.quotas k hlt)
    obtain ⟨k1, k2⟩ := quota_kind h (by omega)
    have := h.q12
    rw [take_snoc hlt, List.map_append, goL_app (by rw [ih]), ih, List.map_singleton, goL_cons (ln_quota (by show (4 : Int) ≤ n + k; omega) rfl k1 k2 h1 h2 h3 h4 (by show (d.quotas.take k).length < 12; rw [take_len hlt]; omega))]
    show (0, _) = (0, _)
    unfold stW
    congr 2
    all_goals (show (n + (k : Int)) + 1 = n + ((k + 1 : Nat) : Int); omega)
theorem not_empty_snoc {α : Type} (l : List α) (x : α) : (!(l ++ [x]).isEmpty) = true := by cases l <;> rfl
theorem go_bars {d : Dr} (h : Right d) (n : Int) (hn : 4 ≤ n) : ∀ k, k ≤ d.barred.length → goL (stW d d.tiers d.roll d.places d.quotas [] n) ((d.barred.take k).map barL) = (0, stW d d.tiers d.roll d.places d.quotas (d.barred.take k) (n + k))
  | 0, _ => by show (0, _) = (0, _); rw [show n + ((0 : Nat) : Int) = n by simp]; rfl
  | k + 1, hk => by
    have hlt : k < d.barred.length := by omega
    have ih := go_bars h n hn k (by omega)
    have h1 := barOk_at hlt (h.bars k hlt)
    have h2 := h.barR _ (List.getElem_mem hlt)
    have := h.b40
    rw [take_snoc hlt, List.map_append, goL_app (by rw [ih]), ih, List.map_singleton, goL_cons (ln_bar (by show (4 : Int) ≤ n + k; omega) h2 h1 (by show (d.barred.take k).length < 40; rw [take_len hlt]; omega))]
    show (0, _) = (0, _)
    unfold stW
    rw [not_empty_snoc]
    congr 2
    all_goals (show (n + (k : Int)) + 1 = n + ((k + 1 : Nat) : Int); omega)
theorem go_lines {d : Dr} (h : Right d) : ∃ m, 4 ≤ m ∧ goL st0 (lnsZ d) = (0, ⟨d, m, d.roll, !d.barred.isEmpty⟩) := by
  unfold lnsZ restL
  have h1 := go_tiers h d.tiers.length (Nat.le_refl _)
  rw [List.take_length] at h1
  obtain ⟨m, hm, h2⟩ := go_roll h (4 + d.tiers.length) (by omega)
  have h3 := go_places h m (by omega) d.places.length (Nat.le_refl _)
  rw [List.take_length] at h3
  have h4 := go_quotas h (m + d.places.length) (by omega) d.quotas.length (Nat.le_refl _)
  rw [List.take_length] at h4
  have h5 := go_bars h (m + d.places.length + d.quotas.length) (by omega) d.barred.length (Nat.le_refl _)
  rw [List.take_length] at h5
  refine ⟨m + d.places.length + d.quotas.length + d.barred.length, by omega, ?_⟩
  rw [goL_app (by rw [go_head h]), go_head h, goL_app (by rw [h1]), h1, goL_app (by rw [h2]), h2, goL_app (by rw [h3]), h3, goL_app (by rw [h4]), h4, h5]
  rfl
theorem clean_2 {a b : ByteArray} (ha : clean a) (hb : clean b) : [a, b] ≠ [] ∧ ∀ w ∈ [a, b], clean w := ⟨by simp, fun w hw => by
  simp only [List.mem_cons, List.not_mem_nil, or_false] at hw
  rcases hw with rfl | rfl
  · exact ha
  · exact hb⟩
theorem clean_3 {a b c : ByteArray} (ha : clean a) (hb : clean b) (hc : clean c) : [a, b, c] ≠ [] ∧ ∀ w ∈ [a, b, c], clean w := ⟨by simp, fun w hw => by
  simp only [List.mem_cons, List.not_mem_nil, or_false] at hw
  rcases hw with rfl | rfl | rfl
  · exact ha
  · exact hb
  · exact hc⟩
theorem clean_4 {a b c e : ByteArray} (ha : clean a) (hb : clean b) (hc : clean c) (he : clean e) : [a, b, c, e] ≠ [] ∧ ∀ w ∈ [a, b, c, e], clean w := ⟨by simp, fun w hw => by
  simp only [List.mem_cons, List.not_mem_nil, or_false] at hw
  rcases hw with rfl | rfl | rfl | rfl
  · exact ha
  · exact hb
  · exact hc
  · exact he⟩
theorem key_clean (k : Nat) (hk : k < 11) : clean (keyW k) := name_clean (key_nameB k hk)
theorem clean_app {a b : List (List ByteArray)} (ha : cleanL a) (hb : cleanL b) : cleanL (a ++ b) := fun ws hw => by
  rcases List.mem_append.1 hw with h | h
  · exact ha ws h
  · exact hb ws h
theorem clean_cons {a : List ByteArray} {b : List (List ByteArray)} (ha : a ≠ [] ∧ ∀ w ∈ a, clean w) (hb : cleanL b) : cleanL (a :: b) := fun ws hw => by
  rcases List.mem_cons.1 hw with rfl | h
  · exact ha
  · exact hb ws h
theorem clean_nil : cleanL [] := fun ws hw => by cases hw
theorem lines_clean {d : Dr} (hn : nameB d.name = true) (hp : ∀ x ∈ d.places, nameB x.1 = true) (hq : ∀ x ∈ d.quotas, nameB x.1 = true) : cleanL (lnsZ d) := by
  unfold lnsZ restL headL
  refine clean_app (clean_cons (clean_2 (key_clean 0 (by decide)) (name_clean hn)) (clean_app ?_ (clean_cons (clean_2 (key_clean 4 (by decide)) (dec_clean _)) (clean_cons (clean_2 (key_clean 5 (by decide)) (dec_clean _)) clean_nil)))) (clean_app ?_ (clean_app ?_ (clean_app ?_ (clean_app ?_ ?_))))
  · unfold kindL
    split
    · exact clean_cons (clean_3 (key_clean 1 (by decide)) (dec_clean _) (dec_clean _)) clean_nil
    · split
      · exact clean_cons (clean_2 (key_clean 2 (by decide)) (dec_clean _)) clean_nil
      · split
        · exact clean_cons (clean_2 (key_clean 3 (by decide)) (dec_clean _)) clean_nil
        · exact clean_nil
  · intro ws hw
    obtain ⟨x, _, rfl⟩ := List.mem_map.1 hw
    exact clean_3 (key_clean 6 (by decide)) (dec_clean _) (dec_clean _)
  · unfold rollL
    split
    · exact clean_cons ⟨by simp, fun w hw => by rw [List.mem_singleton.1 hw]; exact key_clean 7 (by decide)⟩ clean_nil
    · exact clean_nil
  · intro ws hw
    obtain ⟨x, hx, rfl⟩ := List.mem_map.1 hw
    exact clean_3 (key_clean 8 (by decide)) (name_clean (hp x hx)) (dec_clean _)
  · intro ws hw
    obtain ⟨x, hx, rfl⟩ := List.mem_map.1 hw
    exact clean_4 (key_clean 9 (by decide)) (name_clean (hq x hx)) (dec_clean _) (dec_clean _)
  · intro ws hw
    obtain ⟨x, hx, rfl⟩ := List.mem_map.1 hw
    exact clean_2 (key_clean 10 (by decide)) (dec_clean _)
theorem right_clean {d : Dr} (h : Right d) : cleanL (lnsZ d) := lines_clean h.name
  (fun x hx => by obtain ⟨j, hj, rfl⟩ := List.getElem_of_mem hx; exact (placeOk_at hj (h.places j hj)).1)
  (fun x hx => by obtain ⟨j, hj, rfl⟩ := List.getElem_of_mem hx; exact (quotaOk_at hj (h.quotas j hj)).1)
theorem runL_write {d : Dr} (h : Right d) : ∃ t, runL st0 0 [] (writeL d) = (0, 0, t) ∧ t.d = d := by
  obtain ⟨m, hm, h1⟩ := go_lines h
  have h2 := runL_go (r := []) (p := 0) (right_clean h) (by rw [h1])
  rw [List.append_nil, h1] at h2
  refine ⟨_, h2.trans (if_pos ⟨rfl, hm⟩), rfl⟩
/-! Lengths. -/
theorem flat_le {c : Nat} : ∀ {ls : List (List ByteArray)}, (∀ ws ∈ ls, (lineW ws).length + 1 ≤ c) → (flatL ls).length ≤ ls.length * c
  | [], _ => Nat.zero_le _
  | ws :: ls, h => by
    have h1 := h ws List.mem_cons_self
    have h2 := flat_le (fun x hx => h x (List.mem_cons_of_mem _ hx))
    rw [flatL_cons, List.length_append, List.length_cons, List.length_cons, Nat.succ_mul]
    omega
theorem lw_2 (a b : ByteArray) : (lineW [a, b]).length = a.data.toList.length + 1 + b.data.toList.length := by
  rw [lineW_cons, lineW_one, List.length_append, List.length_cons]; omega
theorem lw_3 (a b c : ByteArray) : (lineW [a, b, c]).length = a.data.toList.length + 1 + b.data.toList.length + 1 + c.data.toList.length := by
  rw [lineW_cons, lineW_cons, lineW_one, List.length_append, List.length_cons, List.length_append, List.length_cons]; omega
theorem lw_4 (a b c e : ByteArray) : (lineW [a, b, c, e]).length = a.data.toList.length + 1 + b.data.toList.length + 1 + c.data.toList.length + 1 + e.data.toList.length := by
  rw [lineW_cons, lineW_cons, lineW_cons, lineW_one]
  simp only [List.length_append, List.length_cons]; omega
theorem lnsZ_len (d : Dr) : (lnsZ d).length ≤ 5 + d.tiers.length + d.places.length + d.quotas.length + d.barred.length := by
  unfold lnsZ headL restL
  have h1 : (kindL d).length ≤ 1 := by
    unfold kindL
    split
    · exact Nat.le_refl _
    · split
      · exact Nat.le_refl _
      · split
        · exact Nat.le_refl _
        · exact Nat.zero_le _
  have h2 : (rollL d.roll).length ≤ 1 := by unfold rollL; split <;> simp
  simp only [List.length_append, List.length_cons, List.length_map, List.length_nil]
  omega
/-- The numbers and names of a draw are short: names of n bytes, numbers of m digits. -/
structure Short (n m : Nat) (d : Dr) : Prop where
  name : d.name.data.toList.length ≤ n
  round : (decW d.round).data.toList.length ≤ m
  price : (decW d.price).data.toList.length ≤ m
  pool : (decW d.pool).data.toList.length ≤ m
  pick : (decW d.pick).data.toList.length ≤ m
  cls : (decW d.cls).data.toList.length ≤ m
  size : (decW d.size).data.toList.length ≤ m
  tiers : ∀ x ∈ d.tiers, (decW x.1).data.toList.length ≤ m ∧ (decW x.2).data.toList.length ≤ m
  places : ∀ x ∈ d.places, x.1.data.toList.length ≤ n ∧ (decW x.2).data.toList.length ≤ m
  quotas : ∀ x ∈ d.quotas, x.1.data.toList.length ≤ n ∧ (decW x.2.1).data.toList.length ≤ m ∧ (decW x.2.2).data.toList.length ≤ m
  barred : ∀ x ∈ d.barred, (decW x).data.toList.length ≤ m
theorem key_len : ∀ k, k < 11 → (keyW k).data.toList.length ≤ 7 := by decide
theorem lines_short {n m : Nat} {d : Dr} (h : Short n m d) : ∀ ws ∈ lnsZ d, (lineW ws).length + 1 ≤ 11 + n + 2 * m := by
  have k0 : kDraw.data.toList.length ≤ 7 := key_len 0 (by decide)
  have k1 : kLottery.data.toList.length ≤ 7 := key_len 1 (by decide)
  have k2 : kBallot.data.toList.length ≤ 7 := key_len 2 (by decide)
  have k3 : kPanel.data.toList.length ≤ 7 := key_len 3 (by decide)
  have k4 : kRound.data.toList.length ≤ 7 := key_len 4 (by decide)
  have k5 : kPrice.data.toList.length ≤ 7 := key_len 5 (by decide)
  have k6 : kTier.data.toList.length ≤ 7 := key_len 6 (by decide)
  have k7 : kRoll.data.toList.length ≤ 7 := key_len 7 (by decide)
  have k8 : kPlace.data.toList.length ≤ 7 := key_len 8 (by decide)
  have k9 : kQuota.data.toList.length ≤ 7 := key_len 9 (by decide)
  have k10 : kBar.data.toList.length ≤ 7 := key_len 10 (by decide)
  have h1 := h.name; have h2 := h.round; have h3 := h.price; have h4 := h.pool; have h5 := h.pick; have h6 := h.cls; have h7 := h.size
  intro ws hw
  unfold lnsZ headL restL kindL rollL at hw
  simp only [List.mem_append, List.mem_cons, List.mem_map, List.not_mem_nil, or_false] at hw
  rcases hw with (rfl | hw | rfl | rfl) | ⟨x, hx, rfl⟩ | hw | ⟨x, hx, rfl⟩ | ⟨x, hx, rfl⟩ | ⟨x, hx, rfl⟩
  · rw [lw_2]; omega
  · split at hw
    · rw [List.mem_singleton.1 hw, lw_3]; omega
    · split at hw
      · rw [List.mem_singleton.1 hw, lw_2]; omega
      · split at hw
        · rw [List.mem_singleton.1 hw, lw_2]; omega
        · cases hw
  · rw [lw_2]; omega
  · rw [lw_2]; omega
  · have := h.tiers x hx
    unfold tierL
    rw [lw_3]; omega
  · split at hw
    · rw [List.mem_singleton.1 hw, lineW_one]; omega
    · cases hw
  · have := h.places x hx
    unfold placeL
    rw [lw_3]; omega
  · have := h.quotas x hx
    unfold quotaL
    rw [lw_4]; omega
  · have := h.barred x hx
    unfold barL
    rw [lw_2]; omega
theorem write_len {n m c : Nat} {d : Dr} (h : Short n m d) (hc : 5 + d.tiers.length + d.places.length + d.quotas.length + d.barred.length ≤ c) : (writeL d).length ≤ c * (11 + n + 2 * m) := by
  have h1 := flat_le (lines_short h)
  have h2 := Nat.le_trans (lnsZ_len d) hc
  exact Nat.le_trans h1 (Nat.mul_le_mul_right _ h2)
theorem rg_len {z : Int} (h : rgB z = true) : (decW z).data.toList.length ≤ 10 := dec_len (rg_le h).2
theorem right_short {d : Dr} (h : Right d) : Short 20 10 d :=
  ⟨name_len h.name, rg_len h.round, rg_len h.price, rg_len h.pool, rg_len h.pick, rg_len h.cls, rg_len h.size,
    fun x hx => by obtain ⟨j, hj, rfl⟩ := List.getElem_of_mem hx; have := tierOk_at hj (h.tiers j hj); exact ⟨rg_len this.1, rg_len this.2.1⟩,
    fun x hx => by obtain ⟨j, hj, rfl⟩ := List.getElem_of_mem hx; have := placeOk_at hj (h.places j hj); exact ⟨name_len this.1, rg_len this.2.1⟩,
    fun x hx => by obtain ⟨j, hj, rfl⟩ := List.getElem_of_mem hx; have := quotaOk_at hj (h.quotas j hj); exact ⟨name_len this.1, rg_len this.2.1, rg_len this.2.2.1⟩,
    fun x hx => rg_len (h.barR x hx)⟩
theorem right_many {d : Dr} (h : Right d) : d.tiers.length + d.places.length + d.quotas.length ≤ 12 := by
  have h1 := h.t12; have h2 := h.p12; have h3 := h.q12
  rcases owns_k h.owns with hk | hk | hk
  · obtain ⟨_, o2, _, o4⟩ := (owns_1 hk).1 h.owns
    rw [o2, o4]; simpa using h1
  · obtain ⟨_, _, o3, _, _, o6⟩ := (owns_2 hk).1 h.owns
    rw [o3, o6]; simpa using h2
  · obtain ⟨_, _, o3, _, _, o6⟩ := (owns_3 hk).1 h.owns
    rw [o3, o6]; simpa using h3
theorem right_size {d : Dr} (h : Right d) : (writeB d).size ≤ 3000 := by
  have h1 := right_many h
  have h2 := h.b40
  have h3 := write_len (c := 57) (right_short h) (by omega)
  have e : (writeB d).size = (writeL d).length := by unfold writeB; simp [ByteArray.size]
  omega
/-- The text of a right draw is read as this draw. -/
theorem parse_write {d : Dr} (h : Right d) : parseZ (writeB d) = (0, 0, d) := by
  obtain ⟨t, h1, h2⟩ := runL_write h
  have h3 := right_size h
  unfold parseZ
  rw [if_pos (by omega), show (writeB d).data.toList = writeL d from rfl, h1, ← h2]
  rfl
theorem write_inj {a b : Dr} (ha : Right a) (hb : Right b) (h : writeB a = writeB b) : a = b := by
  have := parse_write ha
  rw [h, parse_write hb] at this
  exact (Prod.mk.inj (Prod.mk.inj this).2).2.symm
/-- What Print gives. -/
def printZ (d : Dr) : ByteArray := if rightZ d = true then writeB d else ByteArray.empty
theorem print_yes {d : Dr} (h : (parseZ (writeB d)).1 = 0) (h2 : (parseZ (writeB d)).2.2 = d) : rightZ d = true := by
  rw [right_iff, ← h2]; exact (parse_right h).1
theorem print_no {d : Dr} (h : rightZ d = true) : (parseZ (writeB d)).1 = 0 ∧ (parseZ (writeB d)).2.2 = d := by
  rw [parse_write (right_iff.1 h)]; exact ⟨rfl, rfl⟩
theorem write_pos (d : Dr) : writeB d ≠ ByteArray.empty := by
  intro h
  have : (writeL d).length = 0 := by
    have e : (writeB d).size = (writeL d).length := by unfold writeB; simp [ByteArray.size]
    rw [← e, h]; rfl
  unfold writeL lnsZ headL at this
  rw [List.cons_append, flatL_cons, List.length_append, List.length_cons] at this
  omega
theorem print_some {d : Dr} : printZ d ≠ ByteArray.empty ↔ rightZ d = true := by
  unfold printZ
  constructor
  · intro h
    by_cases h2 : rightZ d = true
    · exact h2
    · rw [if_neg h2] at h; exact absurd rfl h
  · intro h
    rw [if_pos h]
    exact write_pos d
end Go.Proofs.YteikkpiginfbkaaGreatDoor

namespace Go.Proofs.YteikkpiginfbkaaGreatDoor
open Go.RowKit

theorem nat0 : natB 0 = ⟨#[]⟩ := by unfold natB; rw [beL_zero]
theorem decFold_lt : ∀ (n : Nat) (l : List UInt8), l.length = n → (∀ b ∈ l, 48 ≤ b.toNat ∧ b.toNat ≤ 57) → decFold 0 l < 10 ^ n
  | 0, l, hl, _ => by rw [List.length_eq_zero_iff.1 hl]; decide
  | n + 1, l, hl, h => by
    have hne : l ≠ [] := by intro e; rw [e] at hl; cases hl
    have e := List.dropLast_concat_getLast hne
    have ih := decFold_lt n l.dropLast (by rw [List.length_dropLast]; omega) (fun b hb => h b (List.dropLast_subset l hb))
    have hc := h _ (List.getLast_mem hne)
    rw [← e, decFold_snoc, Nat.pow_succ]
    omega
theorem decFold_size {l : List UInt8} (h : ∀ b ∈ l, 48 ≤ b.toNat ∧ b.toNat ≤ 57) : (natB (decFold 0 l)).size ≤ l.length := by
  rw [natB_size]
  exact beL_len (Nat.lt_of_lt_of_le (decFold_lt _ l rfl h) (Nat.pow_le_pow_left (by decide) _))
/-- The digits of the first k bytes. -/
def digK (s : ByteArray) (k : Nat) : Prop := ∀ b ∈ s.data.toList.take k, 48 ≤ b.toNat ∧ b.toNat ≤ 57
theorem digK_succ {s : ByteArray} {k : Nat} (h : digK s k) (hk : k < s.size) (h0 : 48 ≤ byteZ s k) (h1 : byteZ s k ≤ 57) : digK s (k + 1) := by
  have e : s.data.toList.length = s.size := Array.length_toList
  intro b hb
  rw [take_snoc (by omega)] at hb
  rcases List.mem_append.1 hb with hb | hb
  · exact h b hb
  · rw [List.mem_singleton.1 hb]
    rw [byte_at (by omega)] at h0 h1
    omega
theorem digK_fold {s : ByteArray} {k : Nat} (hk : k < s.size) (h0 : 48 ≤ byteZ s k) : decFold 0 (s.data.toList.take (k + 1)) = decFold 0 (s.data.toList.take k) * 10 + (byteZ s k - 48).toNat := by
  have e : s.data.toList.length = s.size := Array.length_toList
  rw [byte_at (by omega)] at h0
  rw [take_snoc (by omega), decFold_snoc, byte_at (by omega)]
  omega
theorem num_noD {s : ByteArray} {k : Nat} (hk : k < s.size) (h : byteZ s k < 48 ∨ 57 < byteZ s k) : numB s = false := by
  unfold numB
  rw [all_range_no hk (by unfold dgOk; rw [Bool.and_eq_false_iff, decide_eq_false_iff_not, decide_eq_false_iff_not]; omega)]
  simp
theorem num_yesD {s : ByteArray} (h1 : 1 ≤ s.size) (h0 : s.size = 1 ∨ byteZ s 0 ≠ 48) (h : digK s s.size) : numB s = true := by
  have e : s.data.toList.length = s.size := Array.length_toList
  rw [num_ofZ h1 h0, List.all_eq_true]
  intro j hj
  have hj := List.mem_range.1 hj
  have := h _ (by rw [← e, List.take_length]; exact List.getElem_mem (by omega : j < s.data.toList.length))
  unfold dgOk
  rw [byte_at (by omega), Bool.and_eq_true, decide_eq_true_eq, decide_eq_true_eq]
  omega
def prsV (s : ByteArray) : Value := if numB s = true then .tuple #[.string (natB (decFold 0 s.data.toList)), .bool true] else .tuple #[.string ⟨#[]⟩, .bool false]
theorem prs_no {s : ByteArray} (h : numB s = false) : prsV s = .tuple #[.string ⟨#[]⟩, .bool false] := if_neg (by rw [h]; decide)
theorem prs_yes {s : ByteArray} (h : numB s = true) : prsV s = .tuple #[.string (natB (decFold 0 s.data.toList)), .bool true] := if_pos h
set_option maxRecDepth 100000 in
set_option maxHeartbeats 4000000 in
theorem rparse1_any (s : ByteArray) (w : World) (hs : s.size ≤ 5000) :
    Calls Tryz.prog 126 #[.string s] w fun e w' => e = .returned (prsV s) ∧ Only (fun _ => False) w w' := by
  by_cases h0 : s.size = 0
  · rw [prs_no (num_noE h0)]
    have q0 : ((s.size : Int) == 0) = true := by rw [h0]; rfl
    clear h0
    go_enter Tryz.func126, Tryz.ntmps126
    go_wp2_with fail
    go_ret2
    exact ⟨rfl, Only.refl _ _⟩
  have q0 : ((s.size : Int) == 0) = false := beq_eq_false_iff_ne.2 (by omega)
  have hp : 0 < s.size := by omega
  have b0 := byteZ_eq s 0 hp
  by_cases h1 : 2 ≤ s.size ∧ byteZ s 0 = 48
  · rw [prs_no (num_noZ h1.1 h1.2)]
    have q1 : (1 : Int) < s.size := by omega
    rw [h1.2] at b0
    clear h0 h1
    go_enter Tryz.func126, Tryz.ntmps126
    go_wp2_with fail
    go_ret2
    exact ⟨rfl, Only.refl _ _⟩
  have HH := Lib.hid (show s.size = 1 ∨ byteZ s 0 ≠ 48 by
    by_cases h2 : 2 ≤ s.size
    · exact .inr fun e => h1 ⟨h2, e⟩
    · left; omega)
  have HQ := Lib.hid (fun w => rof_any 10 w (by decide))
  have HNE := Lib.hid h1
  clear h0 h1
  go_enter Tryz.func126, Tryz.ntmps126
  go_upto_region 1 with (fail)
  go_cut [18] (fun v wx => v = .bool false ∧ wx = w)
  case first =>
    by_cases h2 : 1 < s.size
    · have q1 : (1 : Int) < s.size := by omega
      have q2 : (byteZ s 0 == 48) = false := beq_eq_false_iff_ne.2 (fun e => HNE.out ⟨h2, e⟩)
      clear h2
      go_wp2_with fail
      go_meet
      exact ⟨rfl, rfl⟩
    · have q1 : ¬ (1 : Int) < s.size := by omega
      clear h2
      go_wp2_with fail
      go_meet
      exact ⟨rfl, rfl⟩
  case rest =>
    obtain ⟨rfl, rfl⟩ := hcut
    have HP := Lib.hid hp
    clear q0 hp b0
    go_wp2_with fail
    go_loopw [4, 5] (fun va vi wr => ∃ k : Nat, vi = .int .i64 k ∧ k ≤ s.size ∧ va = .string (natB (decFold 0 (s.data.toList.take k))) ∧ digK s k ∧ Only (fun _ => False) wc wr) (fun _ vi _ => s.size - (intOf vi).toNat)
    case atStart => exact ⟨0, rfl, Nat.zero_le _, by rw [List.take_zero]; exact congrArg Value.string nat0.symm, (fun b hb => by simp at hb), Only.refl _ _⟩
    case round =>
      obtain ⟨k, rfl, hk, rfl, hd, hO⟩ := hrel
      have HD := Lib.hid hd
      have HO := Lib.hid hO
      clear hd hO
      by_cases hlt : k < s.size
      · have j1 : (k : Int) < s.size := by omega
        have j0 : 0 ≤ (k : Int) := by omega
        have b0 := byteZ_eq s k hlt
        obtain ⟨r0, r1⟩ := byteZ_bdR s k
        by_cases c1 : byteZ s k < 48
        · have HPV := Lib.hid (prs_no (num_noD hlt (.inl c1)))
          generalize byteZ s k = y at *
          go_wp2_with fail
          go_ret2
          rw [HPV.out]
          exact ⟨rfl, HO.out⟩
        · by_cases c2 : 57 < byteZ s k
          · have HPV := Lib.hid (prs_no (num_noD hlt (.inr c2)))
            generalize byteZ s k = y at *
            go_wp2_with fail
            go_ret2
            rw [HPV.out]
            exact ⟨rfl, HO.out⟩
          · have HD2 := Lib.hid (digK_succ HD.out hlt (by omega) (by omega))
            have HF := Lib.hid (digK_fold hlt (by omega))
            have hsz : (natB (decFold 0 (s.data.toList.take k))).size ≤ 9000 := by
              have := decFold_size HD.out
              rw [List.length_take] at this
              omega
            have HS2 := Lib.hid (show (natB (decFold 0 (s.data.toList.take k) * 10)).size ≤ 9000 by
              have := decFold_size HD2.out
              rw [List.length_take] at this
              rw [natB_size]
              refine Nat.le_trans (beL_len (k := (natB (decFold 0 (s.data.toList.take k))).size + 1) ?_) (by
                have h3 := decFold_size HD.out
                rw [List.length_take] at h3
                omega)
              have := natB_small (decFold 0 (s.data.toList.take k)) _ (Nat.le_refl _)
              rw [Nat.pow_succ]
              omega)
            have HM := Lib.hid (fun w => rmul10_any (decFold 0 (s.data.toList.take k)) w hsz)
            have hd10 : (byteZ s k - 48).toNat < 256 := by omega
            have HAD := Lib.hid (fun w => bigadd_any (decFold 0 (s.data.toList.take k) * 10) (byteZ s k - 48).toNat w HS2.out hd10)
            have HOD := Lib.hid (fun w => rofI_any (byteZ s k - 48) w (by omega) (by omega))
            rw [← HF.out] at HAD
            have HHI := Lib.hid hlt
            clear HS2 hsz HF
            generalize decFold 0 (s.data.toList.take k) = n at *
            generalize byteZ s k = y at *
            clear hd10
            go_wp2_with fail
            refine wp_region_quiet_below (by kernel_rfl) (by kernel_rfl) ?_
            repeat (go_big_quiet_step ((first
              | (go_at_call 24; with_reducible exact Calls.regrown_of ((HQ.out _).mono fun _ _ h => ⟨h.1, h.2.below (Nat.le_refl _) (fun _ _ h => h)⟩))
              | (go_at_call 24; with_reducible exact Calls.regrown_of (HOD.out _))
              | (go_at_call 135; with_reducible exact Calls.regrown_of ((HM.out _).mono fun _ _ h => ⟨h.1, h.2.below (Nat.le_refl _) (fun _ _ h => h)⟩))
              | (go_at_call 134; with_reducible exact Calls.regrown_of ((HAD.out _).mono fun _ _ h => ⟨h.1, h.2.below (Nat.le_refl _) (fun _ _ h => h)⟩)))))
            refine wpQuiet_nil ?_
            intro w2 hw'
            obtain ⟨pq, hw''⟩ := hw'
            have HO2 := Lib.hid (HO.out.trans (Only.ofBelow (below_regrown wr pq.d pq.os) (fun _ => False)))
            rw [← hw''] at HO2
            clear hw''
            go_wp2_with fail
            go_roundw
            case rel => exact ⟨k + 1, by go_num, HHI.out, rfl, HD2.out, HO2.out⟩
            case measure => simp [intOf]; have := HHI.out; omega
      · obtain rfl : k = s.size := by omega
        have j1 : ¬ (s.size : Int) < s.size := by omega
        have HY := Lib.hid (num_yesD (by have := HP.out; omega) HH.out HD.out)
        have e : s.data.toList.length = s.size := Array.length_toList
        have HPV := Lib.hid (prs_yes HY.out)
        have HTL := Lib.hid (show s.data.toList.take s.size = s.data.toList by rw [← e, List.take_length])
        clear e
        rw [HTL.out]
        go_wp2_with fail
        go_ret2
        rw [HPV.out]
        exact ⟨rfl, HO.out⟩
end Go.Proofs.YteikkpiginfbkaaGreatDoor

namespace Go.Proofs.YteikkpiginfbkaaGreatDoor
open Go.RowKit

theorem tierC_same (x : Int × Int) (tb : Nat) (m : Int) (bb : Bool) (w : World) (hm : w.cell? ⟨tb, 0, none⟩ = some (.int .i64 m)) (hb : (x.1 == m) = bb) :
    Calls Tryz.prog 85 #[.agg #[.int .i64 x.1, .int .i64 x.2], .pointer (some ⟨tb, 0, none⟩)] w fun e w' => e = .returned (.bool bb) ∧ Only (fun _ => False) w w' := by
  have i1 : (x.1 == m) = bb := hb
  have hlt := World.block_lt_of_cell? _ _ hm
  have hne : ¬ tb = w.heap.size := by dsimp only at hlt; omega
  clear hb
  go_enter Tryz.func85, Tryz.ntmps85
  go_wp2
  go_ret
  exact ⟨rfl, (Only.refl _ w).alloc _⟩
theorem tierC_take {l : List (Int × Int)} {k j : Nat} {m : Int} (hj : j < k) (hk : k ≤ l.length) (h : hasTier (l.take j) m = false) : hasTier (l.take (j + 1)) m = ((tAt l j).1 == m) := by
  unfold hasTier at *
  have hjl : j < l.length := by omega
  rw [any_take_succ hjl h, tAt_get hjl]
theorem tierC_yes {l : List (Int × Int)} {k j : Nat} {m : Int} (hj : j < k) (h : hasTier (l.take (j + 1)) m = true) : hasTier (l.take k) m = true := by
  unfold hasTier at *
  refine any_take_yes (k := j + 1) ?_
  rw [List.take_take, Nat.min_eq_left (by omega)]
  exact h
def tierCIdxR (has : Bool) (w : World) (e : Ending) (w' : World) : Prop := ∃ r : Int, e = .returned (.int .i64 r) ∧ decide (0 ≤ r) = has ∧ Only (fun _ => False) w w'
set_option maxHeartbeats 2000000 in
theorem tierC_idx (base c tb k : Nat) (a : Option Addr) (l : List (Int × Int)) (m : Int) (w : World) (hown : w.ownsRow base 50 2 (.slice a l.length c) l.length (trow l)) (hk : k ≤ l.length) (hl : l.length ≤ 1000000)
    (hm : w.cell? ⟨tb, 0, none⟩ = some (.int .i64 m)) :
    Calls Tryz.prog 113 #[.slice a k c, .func (.func 85) #[] #[.pointer (some ⟨tb, 0, none⟩)]] w fun e w' => tierCIdxR (hasTier (l.take k) m) w e w' := by
  have HOWN := Lib.hid hown
  have HM := Lib.hid hm
  clear hown hm
  go_enter Tryz.func113, Tryz.ntmps113
  go_wp2_with fail
  go_loopw [8] (fun iv wr => ∃ j : Nat, iv = .int .i64 j ∧ j ≤ k ∧ hasTier (l.take j) m = false ∧ Only (fun _ => False) w wr) (fun iv _ => k - (intOf iv).toNat)
  case atStart => exact ⟨0, rfl, Nat.zero_le _, rfl, Only.refl _ _⟩
  case round =>
    obtain ⟨j, rfl, hj, hno, hO⟩ := hrel
    have HNO := Lib.hid hno
    have HO := Lib.hid hO
    by_cases hlt : j < k
    · have j1 : (j : Int) < k := by omega
      have j2 : 0 ≤ (j : Int) := by omega
      have hjl : j < l.length := by omega
      have hown := hO.owns HOWN.out (fun _ _ h => h)
      have h0 := flat_at (fun x : Int × Int => [Value.int .i64 x.1, Value.int .i64 x.2]) 2 (fun _ => rfl) l j 0 hjl (by decide)
      have h1 := flat_at (fun x : Int × Int => [Value.int .i64 x.1, Value.int .i64 x.2]) 2 (fun _ => rfl) l j 1 hjl (by decide)
      obtain ⟨g, cap, hv, hg, hc1, hc2, d0⟩ := own_cell hown h0
      obtain ⟨g1, cap1, hv1, _, _, _, d1⟩ := own_cell hown h1
      rw [hv] at hv1
      simp only [Value.slice.injEq, Option.some.injEq, Addr.mk.injEq, and_true, true_and] at hv hv1
      obtain ⟨rfl, rfl⟩ := hv
      obtain ⟨rfl, rfl⟩ := hv1
      have HST := Lib.hid (tierC_take hlt hk hno)
      have hcl := hO.cell HM.out (fun h => h)
      have HYS := Lib.hid (fun (h : hasTier (l.take (j + 1)) m = true) => tierC_yes hlt h)
      rw [tAt_get hjl] at h0 h1
      have e0 := tAt_get hjl
      rw [e0] at d0 d1
      obtain ⟨bb, hbb⟩ : ∃ bb, ((tAt l j).1 == m) = bb := ⟨_, rfl⟩
      have HCL := Lib.hid (tierC_same (tAt l j) tb m bb wr hcl hbb)
      rw [hbb] at HST
      generalize tAt l j = y at *
      obtain ⟨ya, yb⟩ := y
      dsimp only at HCL
      change _ = some (Value.int .i64 ya) at d0
      change _ = some (Value.int .i64 yb) at d1
      rw [Nat.add_zero] at d0
      clear h0 h1 e0 hbb hcl hno hO hown hjl
      cases bb
      · go_wp2_with fail
        refine HCL.out.mono ?_
        rintro e w5 ⟨rfl, hO5⟩
        have HO5 := Lib.hid (HO.out.trans hO5)
        clear hO5
        go_wp2_with fail
        go_roundw
        case rel => exact ⟨j + 1, by go_num, hlt, HST.out, HO5.out⟩
        case measure => simp [intOf]; omega
      · go_wp2_with fail
        refine HCL.out.mono ?_
        rintro e w5 ⟨rfl, hO5⟩
        have HO5 := Lib.hid (HO.out.trans hO5)
        clear hO5
        go_wp2_with fail
        go_ret
        exact ⟨_, rfl, by rw [HYS.out HST.out]; simp, HO5.out⟩
    · obtain rfl : j = k := by omega
      have j1 : ¬ (j : Int) < j := by omega
      go_wp2_with fail
      go_ret
      exact ⟨_, rfl, by first | rfl | (rw [HNO.out]; rfl), HO.out⟩
set_option maxHeartbeats 2000000 in
theorem tierC_has (base c tb k : Nat) (a : Option Addr) (l : List (Int × Int)) (m : Int) (bb : Bool) (w : World) (hown : w.ownsRow base 50 2 (.slice a l.length c) l.length (trow l)) (hk : k ≤ l.length) (hl : l.length ≤ 1000000)
    (hm : w.cell? ⟨tb, 0, none⟩ = some (.int .i64 m)) (hb : hasTier (l.take k) m = bb) :
    Calls Tryz.prog 86 #[.slice a k c, .func (.func 85) #[] #[.pointer (some ⟨tb, 0, none⟩)]] w fun e w' => e = .returned (.bool bb) ∧ Only (fun _ => False) w w' := by
  have HI := Lib.hid (tierC_idx base c tb k a l m w hown hk hl hm)
  rw [hb] at HI
  clear hown hm hb
  go_enter Tryz.func86, Tryz.ntmps86
  go_wp2_with fail
  refine HI.out.mono ?_
  rintro e w5 ⟨r, rfl, hr, hO5⟩
  have HO5 := Lib.hid hO5
  clear hO5
  go_wp2_with fail
  go_ret
  exact ⟨rfl, HO5.out⟩
theorem placeC_same (x : ByteArray × Int) (tb : Nat) (m : ByteArray) (bb : Bool) (w : World) (hm : w.cell? ⟨tb, 0, none⟩ = some (.string m)) (hb : decide (x.1 = m) = bb) :
    Calls Tryz.prog 87 #[.agg #[.string x.1, .int .i64 x.2], .pointer (some ⟨tb, 0, none⟩)] w fun e w' => e = .returned (.bool bb) ∧ Only (fun _ => False) w w' := by
  have i1 : (x.1.toList == m.toList) = bb := by
    by_cases e : x.1 = m
    · rw [str_eq e, ← hb]; simpa using e.symm ▸ rfl
    · rw [str_ne e, ← hb]; simpa using fun h => e h
  have hlt := World.block_lt_of_cell? _ _ hm
  have hne : ¬ tb = w.heap.size := by dsimp only at hlt; omega
  clear hb
  go_enter Tryz.func87, Tryz.ntmps87
  go_wp2
  go_ret
  exact ⟨rfl, (Only.refl _ w).alloc _⟩
theorem placeC_take {l : List (ByteArray × Int)} {k j : Nat} {m : ByteArray} (hj : j < k) (hk : k ≤ l.length) (h : hasPlace (l.take j) m = false) : hasPlace (l.take (j + 1)) m = decide ((pAt l j).1 = m) := by
  unfold hasPlace at *
  have hjl : j < l.length := by omega
  rw [any_take_succ hjl h, pAt_get hjl]
theorem placeC_yes {l : List (ByteArray × Int)} {k j : Nat} {m : ByteArray} (hj : j < k) (h : hasPlace (l.take (j + 1)) m = true) : hasPlace (l.take k) m = true := by
  unfold hasPlace at *
  refine any_take_yes (k := j + 1) ?_
  rw [List.take_take, Nat.min_eq_left (by omega)]
  exact h
def placeCIdxR (has : Bool) (w : World) (e : Ending) (w' : World) : Prop := ∃ r : Int, e = .returned (.int .i64 r) ∧ decide (0 ≤ r) = has ∧ Only (fun _ => False) w w'
set_option maxHeartbeats 2000000 in
theorem placeC_idx (base c tb k : Nat) (a : Option Addr) (l : List (ByteArray × Int)) (m : ByteArray) (w : World) (hown : w.ownsRow base 73 2 (.slice a l.length c) l.length (prow l)) (hk : k ≤ l.length) (hl : l.length ≤ 1000000)
    (hm : w.cell? ⟨tb, 0, none⟩ = some (.string m)) :
    Calls Tryz.prog 114 #[.slice a k c, .func (.func 87) #[] #[.pointer (some ⟨tb, 0, none⟩)]] w fun e w' => placeCIdxR (hasPlace (l.take k) m) w e w' := by
  have HOWN := Lib.hid hown
  have HM := Lib.hid hm
  clear hown hm
  go_enter Tryz.func114, Tryz.ntmps114
  go_wp2_with fail
  go_loopw [8] (fun iv wr => ∃ j : Nat, iv = .int .i64 j ∧ j ≤ k ∧ hasPlace (l.take j) m = false ∧ Only (fun _ => False) w wr) (fun iv _ => k - (intOf iv).toNat)
  case atStart => exact ⟨0, rfl, Nat.zero_le _, rfl, Only.refl _ _⟩
  case round =>
    obtain ⟨j, rfl, hj, hno, hO⟩ := hrel
    have HNO := Lib.hid hno
    have HO := Lib.hid hO
    by_cases hlt : j < k
    · have j1 : (j : Int) < k := by omega
      have j2 : 0 ≤ (j : Int) := by omega
      have hjl : j < l.length := by omega
      have hown := hO.owns HOWN.out (fun _ _ h => h)
      have h0 := flat_at (fun x : ByteArray × Int => [Value.string x.1, Value.int .i64 x.2]) 2 (fun _ => rfl) l j 0 hjl (by decide)
      have h1 := flat_at (fun x : ByteArray × Int => [Value.string x.1, Value.int .i64 x.2]) 2 (fun _ => rfl) l j 1 hjl (by decide)
      obtain ⟨g, cap, hv, hg, hc1, hc2, d0⟩ := own_cell hown h0
      obtain ⟨g1, cap1, hv1, _, _, _, d1⟩ := own_cell hown h1
      rw [hv] at hv1
      simp only [Value.slice.injEq, Option.some.injEq, Addr.mk.injEq, and_true, true_and] at hv hv1
      obtain ⟨rfl, rfl⟩ := hv
      obtain ⟨rfl, rfl⟩ := hv1
      have HST := Lib.hid (placeC_take hlt hk hno)
      have hcl := hO.cell HM.out (fun h => h)
      have HYS := Lib.hid (fun (h : hasPlace (l.take (j + 1)) m = true) => placeC_yes hlt h)
      rw [pAt_get hjl] at h0 h1
      have e0 := pAt_get hjl
      rw [e0] at d0 d1
      obtain ⟨bb, hbb⟩ : ∃ bb, decide ((pAt l j).1 = m) = bb := ⟨_, rfl⟩
      have HCL := Lib.hid (placeC_same (pAt l j) tb m bb wr hcl hbb)
      rw [hbb] at HST
      generalize pAt l j = y at *
      obtain ⟨ya, yb⟩ := y
      dsimp only at HCL
      change _ = some (Value.string ya) at d0
      change _ = some (Value.int .i64 yb) at d1
      rw [Nat.add_zero] at d0
      clear h0 h1 e0 hbb hcl hno hO hown hjl
      cases bb
      · go_wp2_with fail
        refine HCL.out.mono ?_
        rintro e w5 ⟨rfl, hO5⟩
        have HO5 := Lib.hid (HO.out.trans hO5)
        clear hO5
        go_wp2_with fail
        go_roundw
        case rel => exact ⟨j + 1, by go_num, hlt, HST.out, HO5.out⟩
        case measure => simp [intOf]; omega
      · go_wp2_with fail
        refine HCL.out.mono ?_
        rintro e w5 ⟨rfl, hO5⟩
        have HO5 := Lib.hid (HO.out.trans hO5)
        clear hO5
        go_wp2_with fail
        go_ret
        exact ⟨_, rfl, by rw [HYS.out HST.out]; simp, HO5.out⟩
    · obtain rfl : j = k := by omega
      have j1 : ¬ (j : Int) < j := by omega
      go_wp2_with fail
      go_ret
      exact ⟨_, rfl, by first | rfl | (rw [HNO.out]; rfl), HO.out⟩
set_option maxHeartbeats 2000000 in
theorem placeC_has (base c tb k : Nat) (a : Option Addr) (l : List (ByteArray × Int)) (m : ByteArray) (bb : Bool) (w : World) (hown : w.ownsRow base 73 2 (.slice a l.length c) l.length (prow l)) (hk : k ≤ l.length) (hl : l.length ≤ 1000000)
    (hm : w.cell? ⟨tb, 0, none⟩ = some (.string m)) (hb : hasPlace (l.take k) m = bb) :
    Calls Tryz.prog 88 #[.slice a k c, .func (.func 87) #[] #[.pointer (some ⟨tb, 0, none⟩)]] w fun e w' => e = .returned (.bool bb) ∧ Only (fun _ => False) w w' := by
  have HI := Lib.hid (placeC_idx base c tb k a l m w hown hk hl hm)
  rw [hb] at HI
  clear hown hm hb
  go_enter Tryz.func88, Tryz.ntmps88
  go_wp2_with fail
  refine HI.out.mono ?_
  rintro e w5 ⟨r, rfl, hr, hO5⟩
  have HO5 := Lib.hid hO5
  clear hO5
  go_wp2_with fail
  go_ret
  exact ⟨rfl, HO5.out⟩
theorem quotaC_same (x : ByteArray × Int × Int) (tb : Nat) (m : ByteArray) (bb : Bool) (w : World) (hm : w.cell? ⟨tb, 0, none⟩ = some (.string m)) (hb : decide (x.1 = m) = bb) :
    Calls Tryz.prog 89 #[.agg #[.string x.1, .int .i64 x.2.1, .int .i64 x.2.2], .pointer (some ⟨tb, 0, none⟩)] w fun e w' => e = .returned (.bool bb) ∧ Only (fun _ => False) w w' := by
  have i1 : (x.1.toList == m.toList) = bb := by
    by_cases e : x.1 = m
    · rw [str_eq e, ← hb]; simpa using e.symm ▸ rfl
    · rw [str_ne e, ← hb]; simpa using fun h => e h
  have hlt := World.block_lt_of_cell? _ _ hm
  have hne : ¬ tb = w.heap.size := by dsimp only at hlt; omega
  clear hb
  go_enter Tryz.func89, Tryz.ntmps89
  go_wp2
  go_ret
  exact ⟨rfl, (Only.refl _ w).alloc _⟩
theorem quotaC_take {l : List (ByteArray × Int × Int)} {k j : Nat} {m : ByteArray} (hj : j < k) (hk : k ≤ l.length) (h : hasQuota (l.take j) m = false) : hasQuota (l.take (j + 1)) m = decide ((qAt l j).1 = m) := by
  unfold hasQuota at *
  have hjl : j < l.length := by omega
  rw [any_take_succ hjl h, qAt_get hjl]
theorem quotaC_yes {l : List (ByteArray × Int × Int)} {k j : Nat} {m : ByteArray} (hj : j < k) (h : hasQuota (l.take (j + 1)) m = true) : hasQuota (l.take k) m = true := by
  unfold hasQuota at *
  refine any_take_yes (k := j + 1) ?_
  rw [List.take_take, Nat.min_eq_left (by omega)]
  exact h
def quotaCIdxR (has : Bool) (w : World) (e : Ending) (w' : World) : Prop := ∃ r : Int, e = .returned (.int .i64 r) ∧ decide (0 ≤ r) = has ∧ Only (fun _ => False) w w'
set_option maxHeartbeats 2000000 in
theorem quotaC_idx (base c tb k : Nat) (a : Option Addr) (l : List (ByteArray × Int × Int)) (m : ByteArray) (w : World) (hown : w.ownsRow base 75 3 (.slice a l.length c) l.length (qrow l)) (hk : k ≤ l.length) (hl : l.length ≤ 1000000)
    (hm : w.cell? ⟨tb, 0, none⟩ = some (.string m)) :
    Calls Tryz.prog 115 #[.slice a k c, .func (.func 89) #[] #[.pointer (some ⟨tb, 0, none⟩)]] w fun e w' => quotaCIdxR (hasQuota (l.take k) m) w e w' := by
  have HOWN := Lib.hid hown
  have HM := Lib.hid hm
  clear hown hm
  go_enter Tryz.func115, Tryz.ntmps115
  go_wp2_with fail
  go_loopw [8] (fun iv wr => ∃ j : Nat, iv = .int .i64 j ∧ j ≤ k ∧ hasQuota (l.take j) m = false ∧ Only (fun _ => False) w wr) (fun iv _ => k - (intOf iv).toNat)
  case atStart => exact ⟨0, rfl, Nat.zero_le _, rfl, Only.refl _ _⟩
  case round =>
    obtain ⟨j, rfl, hj, hno, hO⟩ := hrel
    have HNO := Lib.hid hno
    have HO := Lib.hid hO
    by_cases hlt : j < k
    · have j1 : (j : Int) < k := by omega
      have j2 : 0 ≤ (j : Int) := by omega
      have hjl : j < l.length := by omega
      have hown := hO.owns HOWN.out (fun _ _ h => h)
      have h0 := flat_at (fun x : ByteArray × Int × Int => [Value.string x.1, Value.int .i64 x.2.1, Value.int .i64 x.2.2]) 3 (fun _ => rfl) l j 0 hjl (by decide)
      have h1 := flat_at (fun x : ByteArray × Int × Int => [Value.string x.1, Value.int .i64 x.2.1, Value.int .i64 x.2.2]) 3 (fun _ => rfl) l j 1 hjl (by decide)
      have h2 := flat_at (fun x : ByteArray × Int × Int => [Value.string x.1, Value.int .i64 x.2.1, Value.int .i64 x.2.2]) 3 (fun _ => rfl) l j 2 hjl (by decide)
      obtain ⟨g, cap, hv, hg, hc1, hc2, d0⟩ := own_cell hown h0
      obtain ⟨g1, cap1, hv1, _, _, _, d1⟩ := own_cell hown h1
      rw [hv] at hv1
      obtain ⟨g2, cap2, hv2, _, _, _, d2⟩ := own_cell hown h2
      rw [hv] at hv2
      simp only [Value.slice.injEq, Option.some.injEq, Addr.mk.injEq, and_true, true_and] at hv hv1 hv2
      obtain ⟨rfl, rfl⟩ := hv
      obtain ⟨rfl, rfl⟩ := hv1
      obtain ⟨rfl, rfl⟩ := hv2
      have HST := Lib.hid (quotaC_take hlt hk hno)
      have hcl := hO.cell HM.out (fun h => h)
      have HYS := Lib.hid (fun (h : hasQuota (l.take (j + 1)) m = true) => quotaC_yes hlt h)
      rw [qAt_get hjl] at h0 h1 h2
      have e0 := qAt_get hjl
      rw [e0] at d0 d1 d2
      obtain ⟨bb, hbb⟩ : ∃ bb, decide ((qAt l j).1 = m) = bb := ⟨_, rfl⟩
      have HCL := Lib.hid (quotaC_same (qAt l j) tb m bb wr hcl hbb)
      rw [hbb] at HST
      generalize qAt l j = y at *
      obtain ⟨ya, yb, yc⟩ := y
      dsimp only at HCL
      change _ = some (Value.string ya) at d0
      change _ = some (Value.int .i64 yb) at d1
      change _ = some (Value.int .i64 yc) at d2
      rw [Nat.add_zero] at d0
      clear h0 h1 h2 e0 hbb hcl hno hO hown hjl
      cases bb
      · go_wp2_with fail
        refine HCL.out.mono ?_
        rintro e w5 ⟨rfl, hO5⟩
        have HO5 := Lib.hid (HO.out.trans hO5)
        clear hO5
        go_wp2_with fail
        go_roundw
        case rel => exact ⟨j + 1, by go_num, hlt, HST.out, HO5.out⟩
        case measure => simp [intOf]; omega
      · go_wp2_with fail
        refine HCL.out.mono ?_
        rintro e w5 ⟨rfl, hO5⟩
        have HO5 := Lib.hid (HO.out.trans hO5)
        clear hO5
        go_wp2_with fail
        go_ret
        exact ⟨_, rfl, by rw [HYS.out HST.out]; simp, HO5.out⟩
    · obtain rfl : j = k := by omega
      have j1 : ¬ (j : Int) < j := by omega
      go_wp2_with fail
      go_ret
      exact ⟨_, rfl, by first | rfl | (rw [HNO.out]; rfl), HO.out⟩
set_option maxHeartbeats 2000000 in
theorem quotaC_has (base c tb k : Nat) (a : Option Addr) (l : List (ByteArray × Int × Int)) (m : ByteArray) (bb : Bool) (w : World) (hown : w.ownsRow base 75 3 (.slice a l.length c) l.length (qrow l)) (hk : k ≤ l.length) (hl : l.length ≤ 1000000)
    (hm : w.cell? ⟨tb, 0, none⟩ = some (.string m)) (hb : hasQuota (l.take k) m = bb) :
    Calls Tryz.prog 90 #[.slice a k c, .func (.func 89) #[] #[.pointer (some ⟨tb, 0, none⟩)]] w fun e w' => e = .returned (.bool bb) ∧ Only (fun _ => False) w w' := by
  have HI := Lib.hid (quotaC_idx base c tb k a l m w hown hk hl hm)
  rw [hb] at HI
  clear hown hm hb
  go_enter Tryz.func90, Tryz.ntmps90
  go_wp2_with fail
  refine HI.out.mono ?_
  rintro e w5 ⟨r, rfl, hr, hO5⟩
  have HO5 := Lib.hid hO5
  clear hO5
  go_wp2_with fail
  go_ret
  exact ⟨rfl, HO5.out⟩
end Go.Proofs.YteikkpiginfbkaaGreatDoor

namespace Go.Proofs.YteikkpiginfbkaaGreatDoor
open Go.RowKit

theorem contains_pre (base c k : Nat) (a : Option Addr) (zs : List Int) (x : Int) (bb : Bool) (w : World) (h : w.ownsRow base 3 1 (.slice a zs.length c) zs.length (irow zs)) (hk : k < zs.length) (hb : hasBar (zs.take k) x = bb) :
    Calls Tryz.prog 91 #[.slice a k c, .int .i64 x] w fun e w' => e = .returned (.bool bb) ∧ w = w' := by
  have hc : (zs.take k).contains x = bb := by
    rw [← hb]
    unfold hasBar
    rw [List.contains_eq_any_beq]
    congr 1
    funext u
    rw [Bool.eq_iff_iff, beq_iff_eq, beq_iff_eq]
    exact eq_comm
  rcases h.2 with ⟨hv, h0⟩ | ⟨g, cap, cur, hv, _, hg, h1, h2, h3, h4⟩
  · omega
  · simp only [Value.slice.injEq, true_and] at hv
    obtain ⟨rfl, rfl⟩ := hv
    refine (Tryz.slices_Contains_int g 0 k c zs x w (by omega) (by unfold maxLen at h2; omega) (fun j hj => ?_)).mono ?_
    · have hu : (irow zs)[j]? = some (.int .i64 (zs.getD j 0)) := by unfold irow; simp [List.getD, hj]
      obtain ⟨g', cap', hv', _, _, _, hcell⟩ := own_cell h hu
      simp only [Value.slice.injEq, Option.some.injEq, Addr.mk.injEq, and_true, true_and] at hv'
      obtain ⟨rfl, rfl⟩ := hv'
      rw [Nat.zero_add]; exact hcell
    rintro e w' ⟨rfl, rfl⟩
    refine ⟨?_, rfl⟩
    rw [hc]
theorem ptsR_of_own {w : World} {base c : Nat} {a : Option Addr} {zs : List Int} (h : w.ownsRow base 3 1 (.slice a zs.length c) zs.length (irow zs)) : PtsAt w.heap.size w (.slice a zs.length c) zs := by
  rcases Nat.eq_zero_or_pos zs.length with h0 | h0
  · left
    have hz : zs = [] := List.length_eq_zero_iff.1 h0
    subst hz
    exact ⟨a, c, rfl, rfl⟩
  · right
    have hu : ∀ j, j < zs.length → (irow zs)[j]? = some (.int .i64 (ptAt zs j)) := fun j hj => by unfold irow ptAt; simp [List.getD, hj]
    obtain ⟨g, cap, hv, hg, h1, h2, _⟩ := own_cell h (hu 0 h0)
    simp only [Value.slice.injEq, true_and] at hv
    obtain ⟨rfl, rfl⟩ := hv
    refine ⟨g, 0, c, rfl, hg, h1, h2, fun j hj => ?_⟩
    obtain ⟨g', cap', hv', _, _, _, hcell⟩ := own_cell h (hu j hj)
    simp only [Value.slice.injEq, Option.some.injEq, Addr.mk.injEq, and_true, true_and] at hv'
    obtain ⟨rfl, rfl⟩ := hv'
    rw [Nat.zero_add]; exact hcell
theorem pts_new (w : World) (zs : List Int) (h0 : 0 < zs.length) (hl : zs.length ≤ 1000) : PtsAt (w.alloc (.cells (irow zs).toArray 3)).heap.size (w.alloc (.cells (irow zs).toArray 3)) (.slice (some ⟨w.heap.size, 0, none⟩) zs.length zs.length) zs := by
  refine .inr ⟨w.heap.size, 0, zs.length, rfl, by simp, Nat.le_refl _, by omega, fun j hj => ?_⟩
  rw [Nat.zero_add]
  refine (cell_of_row _ _ j _ _ _ (heap_alloc_last w _)).trans ?_
  rw [List.getElem?_toArray]
  unfold irow ptAt; simp [List.getD, hj]
theorem pts_pair (w : World) (A : Obj) (x y : Int) : PtsAt ((w.alloc A).alloc (.cells #[.int .i64 x, .int .i64 y] 3)).heap.size ((w.alloc A).alloc (.cells #[.int .i64 x, .int .i64 y] 3)) (.slice (some ⟨w.heap.size + 1, 0, none⟩) [x, y].length 2) [x, y] := by
  have h := pts_new (w.alloc A) [x, y] (by simp) (by simp)
  rw [show (w.alloc A).heap.size = w.heap.size + 1 by simp] at h
  exact h
theorem pts_one (w : World) (A : Obj) (x : Int) : PtsAt ((w.alloc A).alloc (.cells #[.int .i64 x] 3)).heap.size ((w.alloc A).alloc (.cells #[.int .i64 x] 3)) (.slice (some ⟨w.heap.size + 1, 0, none⟩) [x].length 1) [x] := by
  have h := pts_new (w.alloc A) [x] (by simp) (by simp)
  rw [show (w.alloc A).heap.size = w.heap.size + 1 by simp] at h
  exact h
theorem lists_len {d : Dr} (h : ¬ (d.tiers.length ≤ 12 ∧ d.places.length ≤ 12 ∧ d.quotas.length ≤ 12)) : listsZ d = false := by
  unfold listsZ
  by_cases h1 : d.tiers.length ≤ 12
  · by_cases h2 : d.places.length ≤ 12
    · have h3 : ¬ d.quotas.length ≤ 12 := fun h3 => h ⟨h1, h2, h3⟩
      simp [h3]
    · simp [h2]
  · simp [h1]
theorem lists_len4 {d : Dr} (h : ¬ d.barred.length ≤ 40) : listsZ d = false := by unfold listsZ; simp [h]
theorem lists_1 {d : Dr} (h : (List.range d.tiers.length).all (tierOk d.tiers) = false) : listsZ d = false := by unfold listsZ; rw [h]; simp
theorem lists_2 {d : Dr} (h : (List.range d.places.length).all (placeOk d.places) = false) : listsZ d = false := by unfold listsZ; rw [h]; simp
theorem lists_3 {d : Dr} (h : (List.range d.quotas.length).all (quotaOk d.quotas) = false) : listsZ d = false := by unfold listsZ; rw [h]; simp
theorem lists_4 {d : Dr} (h : (List.range d.barred.length).all (barOk d.barred) = false) : listsZ d = false := by unfold listsZ; rw [h]; simp
theorem lists_y {d : Dr} (h : d.tiers.length ≤ 12 ∧ d.places.length ≤ 12 ∧ d.quotas.length ≤ 12) (h4 : d.barred.length ≤ 40) (h1 : (List.range d.tiers.length).all (tierOk d.tiers) = true) (h2 : (List.range d.places.length).all (placeOk d.places) = true)
    (h3 : (List.range d.quotas.length).all (quotaOk d.quotas) = true) (h5 : (List.range d.barred.length).all (barOk d.barred) = true) : listsZ d = d.barred.all rgB := by
  unfold listsZ
  rw [h1, h2, h3, h5]
  simp [h.1, h.2.1, h.2.2, h4]
set_option maxRecDepth 100000 in
set_option maxHeartbeats 8000000 in
theorem lists_any (d : Dr) (vt vp vq vb : Value) (bb : Bool) (base : Nat) (w : World) (hd : DrOwn base w d vt vp vq vb) (hb : listsZ d = bb) (hbig : d.tiers.length ≤ 1000000 ∧ d.places.length ≤ 1000000 ∧ d.quotas.length ≤ 1000000 ∧ d.barred.length ≤ 1000000) :
    Calls Tryz.prog 63 #[.agg (drCells d vt vp vq vb)] w fun e w' => e = .returned (.bool bb) ∧ Only (fun _ => False) w w' := by
  obtain ⟨at1, ct, rfl⟩ := slice_of_own hd.tiers
  obtain ⟨ap1, cp, rfl⟩ := slice_of_own hd.places
  obtain ⟨aq1, cq, rfl⟩ := slice_of_own hd.quotas
  obtain ⟨ab1, cb, rfl⟩ := slice_of_own hd.bars
  have HB := Lib.hid hb
  have HZ := Lib.hid (heap_alloc_last w (.cells (drCells d (.slice at1 d.tiers.length ct) (.slice ap1 d.places.length cp) (.slice aq1 d.quotas.length cq) (.slice ab1 d.barred.length cb)) 33))
  have HO := Lib.hid ((Only.refl (fun _ => False) w).alloc (.cells (drCells d (.slice at1 d.tiers.length ct) (.slice ap1 d.places.length cp) (.slice aq1 d.quotas.length cq) (.slice ab1 d.barred.length cb)) 33))
  have HD := Lib.hid (hd.only HO.out (fun _ _ h => h))
  have hmf : ∀ (fn : Fn) (first cap : Array Value) (w : World), (Instr.makeFunc fn first cap).run Tryz.prog w = .ok (.func fn first cap) w := fun _ _ _ _ => rfl
  have hsz : w.heap.size < (w.alloc (.cells (drCells d (.slice at1 d.tiers.length ct) (.slice ap1 d.places.length cp) (.slice aq1 d.quotas.length cq) (.slice ab1 d.barred.length cb)) 33)).heap.size := by simp
  obtain ⟨b1, b2, b3, b4⟩ := hbig
  clear hd hb
  unfold drCells at *
  go_enter Tryz.func63, Tryz.ntmps63
  go_upto_region 1 with (fail)
  generalize World.alloc w _ = w1 at *
  have c6 : w1.cell? ⟨w.heap.size, 6, none⟩ = some (.slice at1 d.tiers.length ct) := cell_of_row _ _ 6 _ _ _ HZ.out
  have c8 : w1.cell? ⟨w.heap.size, 8, none⟩ = some (.slice ap1 d.places.length cp) := cell_of_row _ _ 8 _ _ _ HZ.out
  have c11 : w1.cell? ⟨w.heap.size, 11, none⟩ = some (.slice aq1 d.quotas.length cq) := cell_of_row _ _ 11 _ _ _ HZ.out
  have c12 : w1.cell? ⟨w.heap.size, 12, none⟩ = some (.slice ab1 d.barred.length cb) := cell_of_row _ _ 12 _ _ _ HZ.out
  go_cut [30] (fun v wx => v = .bool (!(decide (d.tiers.length ≤ 12 ∧ d.places.length ≤ 12 ∧ d.quotas.length ≤ 12) && decide (d.barred.length ≤ 40))) ∧ wx = w1)
  case first =>
    by_cases hA : d.tiers.length ≤ 12 ∧ d.places.length ≤ 12 ∧ d.quotas.length ≤ 12
    · by_cases hA4 : d.barred.length ≤ 40
      · have HE := Lib.hid (show (!(decide (d.tiers.length ≤ 12 ∧ d.places.length ≤ 12 ∧ d.quotas.length ≤ 12) && decide (d.barred.length ≤ 40))) = false by simp [hA, hA4])
        obtain ⟨a1, a2, a3⟩ := hA
        have i2 : ¬ (40 : Int) < d.barred.length := by omega
        go_wp2_with fail
        all_goals go_meet
        all_goals exact ⟨by rw [HE.out] <;> first | rfl | (congr 1; simp; omega), rfl⟩
      · have HE := Lib.hid (show (!(decide (d.tiers.length ≤ 12 ∧ d.places.length ≤ 12 ∧ d.quotas.length ≤ 12) && decide (d.barred.length ≤ 40))) = true by simp [hA4])
        obtain ⟨a1, a2, a3⟩ := hA
        have i2 : (40 : Int) < d.barred.length := by omega
        go_wp2_with fail
        all_goals go_meet
        all_goals exact ⟨by rw [HE.out] <;> first | rfl | (congr 1; simp; omega), rfl⟩
    · have HE := Lib.hid (show (!(decide (d.tiers.length ≤ 12 ∧ d.places.length ≤ 12 ∧ d.quotas.length ≤ 12) && decide (d.barred.length ≤ 40))) = true by simp [hA])
      have hA2 : 12 < d.tiers.length ∨ 12 < d.places.length ∨ 12 < d.quotas.length := by omega
      go_wp2_with fail
      all_goals go_meet
      all_goals exact ⟨by rw [HE.out] <;> first | rfl | (exfalso; omega) | (congr 1; simp; omega), rfl⟩
  case rest =>
    obtain ⟨rfl, hw⟩ := hcut
    obtain rfl := hw.symm
    clear hw
    by_cases hA : d.tiers.length ≤ 12 ∧ d.places.length ≤ 12 ∧ d.quotas.length ≤ 12
    · by_cases hA4 : d.barred.length ≤ 40
      · have HE := Lib.hid (show (!(decide (d.tiers.length ≤ 12 ∧ d.places.length ≤ 12 ∧ d.quotas.length ≤ 12) && decide (d.barred.length ≤ 40))) = false by simp [hA, hA4])
        have HA := Lib.hid hA
        obtain ⟨a1, a2, a3⟩ := hA
        rw [HE.out]
        have HOT0 := HO
        have HZ0 := HZ
        have HD0 := HD
        have HA4 := Lib.hid hA4
        clear HE hA4
        go_wp2_with fail
        go_loopw [34] (fun iv wr => ∃ k : Nat, iv = .int .i64 k ∧ k ≤ d.tiers.length ∧ (List.range k).all (tierOk d.tiers) = true ∧ Only (fun _ => False) w1 wr) (fun iv _ => d.tiers.length - (intOf iv).toNat)
        case atStart => exact ⟨0, rfl, Nat.zero_le _, rfl, Only.refl _ _⟩
        case round =>
          obtain ⟨k, rfl, hk, hall, hO1⟩ := hrel
          have HALL := Lib.hid hall
          have HO1 := Lib.hid hO1
          have HZ1 := Lib.hid (row_still hO1 HZ0.out)
          have HD1 := Lib.hid (HD0.out.only hO1 (fun _ _ h => h))
          have HOT1 := Lib.hid (HOT0.out.trans hO1)
          have c6 : wr.cell? ⟨w.heap.size, 6, none⟩ = some (.slice at1 d.tiers.length ct) := cell_of_row _ _ 6 _ _ _ HZ1.out
          have c8 : wr.cell? ⟨w.heap.size, 8, none⟩ = some (.slice ap1 d.places.length cp) := cell_of_row _ _ 8 _ _ _ HZ1.out
          have c11 : wr.cell? ⟨w.heap.size, 11, none⟩ = some (.slice aq1 d.quotas.length cq) := cell_of_row _ _ 11 _ _ _ HZ1.out
          have c12 : wr.cell? ⟨w.heap.size, 12, none⟩ = some (.slice ab1 d.barred.length cb) := cell_of_row _ _ 12 _ _ _ HZ1.out
          clear hall
          by_cases hlt : k < d.tiers.length
          · have j1 : (k : Int) < d.tiers.length := by omega
            have j2 : 0 ≤ (k : Int) := by omega
            have HF := Lib.hid (fun (h : tierOk d.tiers k = false) => show bb = false from HB.out.symm.trans (lists_1 (all_range_no hlt h)))
            have HT := Lib.hid (fun (h : tierOk d.tiers k = true) => all_range_succ HALL.out h)
            have h0 := flat_at (fun x : Int × Int => [Value.int .i64 x.1, Value.int .i64 x.2]) 2 (fun _ => rfl) d.tiers k 0 hlt (by decide)
            have h1 := flat_at (fun x : Int × Int => [Value.int .i64 x.1, Value.int .i64 x.2]) 2 (fun _ => rfl) d.tiers k 1 hlt (by decide)
            obtain ⟨g, cap, hv, hg, hc1, hc2, d0⟩ := own_cell HD1.out.tiers h0
            obtain ⟨g1, cap1, hv1, _, _, _, d1⟩ := own_cell HD1.out.tiers h1
            rw [hv] at hv1
            simp only [Value.slice.injEq, Option.some.injEq, Addr.mk.injEq, and_true, true_and] at hv hv1
            obtain ⟨rfl, rfl⟩ := hv
            obtain ⟨rfl, rfl⟩ := hv1
            have HE := Lib.hid (show tierOk d.tiers k = (rgB (tAt d.tiers k).1 && rgB (tAt d.tiers k).2 && !hasTier (d.tiers.take k) (tAt d.tiers k).1) from rfl)
            have e0 := tAt_get hlt
            rw [e0] at d0 d1
            generalize tAt d.tiers k = y at *
            obtain ⟨ya, yb⟩ := y
            change _ = some (Value.int .i64 ya) at d0
            change _ = some (Value.int .i64 yb) at d1
            rw [Nat.add_zero] at d0
            have hszr : w.heap.size < wr.heap.size := (Array.getElem?_eq_some_iff.1 HZ1.out).1
            have HOWN3 := Lib.hid ((HD1.out.tiers.alloc (.cells #[.int .i64 ya, .int .i64 yb] 50)).alloc (.cells #[.int .i64 ya, .int .i64 yb] 3))
            have HM3 := Lib.hid (((Only.refl (fun _ => False) (wr.alloc (.cells #[.int .i64 ya, .int .i64 yb] 50))).alloc (.cells #[.int .i64 ya, .int .i64 yb] 3)).cell (cell_of_row _ _ 0 _ _ _ (heap_alloc_last wr (.cells #[.int .i64 ya, .int .i64 yb] 50))) (fun h => h))
            have HOb := Lib.hid ((HO1.out.alloc (.cells #[.int .i64 ya, .int .i64 yb] 50)).alloc (.cells #[.int .i64 ya, .int .i64 yb] 3))
            obtain ⟨r, hr⟩ : ∃ r, [ya, yb].all rgB = r := ⟨_, rfl⟩
            obtain ⟨hh, hhh⟩ : ∃ r, hasTier (d.tiers.take k) ya = r := ⟨_, rfl⟩
            have HRR := Lib.hid hr
            have HHH := Lib.hid hhh
            have hr2 : (rgB ya && rgB yb) = r := by simpa using hr
            dsimp only at HE
            rw [hr2, hhh] at HE
            clear h0 h1 e0 hr hhh hr2 c8 c11 c12
            cases r
            · obtain rfl := HF.out (by rw [HE.out]; rfl)
              go_wp2_with fail
              refine (range_any _ _ [ya, yb] false _ (by exact pts_pair _ _ _ _) HRR.out (by simp)).mono ?_
              rintro e w' ⟨rfl, rfl⟩
              go_wp2_with fail
              go_ret
              exact ⟨rfl, HOT0.out.trans HOb.out⟩
            · go_wp2_with fail
              refine (range_any _ _ [ya, yb] true _ (by exact pts_pair _ _ _ _) HRR.out (by simp)).mono ?_
              rintro e w' ⟨rfl, rfl⟩
              go_wp2_with fail
              refine (tierC_has _ _ _ k _ d.tiers ya hh _ HOWN3.out (by omega) (by omega) HM3.out HHH.out).mono ?_
              rintro e w5 ⟨rfl, hO5⟩
              have HO5 := Lib.hid (HOb.out.trans hO5)
              clear hO5
              cases hh
              · have HG := Lib.hid (HT.out (by rw [HE.out]; rfl))
                go_wp2_with fail
                go_roundw
                case rel => exact ⟨k + 1, by go_num, hlt, HG.out, HO5.out⟩
                case measure => simp [intOf]; omega
              · obtain rfl := HF.out (by rw [HE.out]; rfl)
                go_wp2_with fail
                go_ret
                exact ⟨rfl, HOT0.out.trans HO5.out⟩
          · obtain rfl : k = d.tiers.length := by omega
            have j1 : ¬ (d.tiers.length : Int) < d.tiers.length := by omega
            have HL1 := Lib.hid HALL.out
            clear hlt hk HALL
            go_wp2_with fail
            obtain ⟨wa, hwa⟩ : ∃ wq : World, wq = wr := ⟨_, rfl⟩
            subst hwa
            go_loopw [59] (fun iv wr => ∃ k : Nat, iv = .int .i64 k ∧ k ≤ d.places.length ∧ (List.range k).all (placeOk d.places) = true ∧ Only (fun _ => False) wa wr) (fun iv _ => d.places.length - (intOf iv).toNat)
            case atStart => exact ⟨0, rfl, Nat.zero_le _, rfl, Only.refl _ _⟩
            case round =>
              obtain ⟨k, rfl, hk, hall, hO2⟩ := hrel
              have HALL := Lib.hid hall
              have HO2 := Lib.hid hO2
              have HZ2 := Lib.hid (row_still hO2 HZ1.out)
              have HD2 := Lib.hid (HD1.out.only hO2 (fun _ _ h => h))
              have HOT2 := Lib.hid (HOT1.out.trans hO2)
              have c6 : wr.cell? ⟨w.heap.size, 6, none⟩ = some (.slice at1 d.tiers.length ct) := cell_of_row _ _ 6 _ _ _ HZ2.out
              have c8 : wr.cell? ⟨w.heap.size, 8, none⟩ = some (.slice ap1 d.places.length cp) := cell_of_row _ _ 8 _ _ _ HZ2.out
              have c11 : wr.cell? ⟨w.heap.size, 11, none⟩ = some (.slice aq1 d.quotas.length cq) := cell_of_row _ _ 11 _ _ _ HZ2.out
              have c12 : wr.cell? ⟨w.heap.size, 12, none⟩ = some (.slice ab1 d.barred.length cb) := cell_of_row _ _ 12 _ _ _ HZ2.out
              clear hall
              by_cases hlt : k < d.places.length
              · have j1 : (k : Int) < d.places.length := by omega
                have j2 : 0 ≤ (k : Int) := by omega
                have HF := Lib.hid (fun (h : placeOk d.places k = false) => show bb = false from HB.out.symm.trans (lists_2 (all_range_no hlt h)))
                have HT := Lib.hid (fun (h : placeOk d.places k = true) => all_range_succ HALL.out h)
                have h0 := flat_at (fun x : ByteArray × Int => [Value.string x.1, Value.int .i64 x.2]) 2 (fun _ => rfl) d.places k 0 hlt (by decide)
                have h1 := flat_at (fun x : ByteArray × Int => [Value.string x.1, Value.int .i64 x.2]) 2 (fun _ => rfl) d.places k 1 hlt (by decide)
                obtain ⟨g, cap, hv, hg, hc1, hc2, d0⟩ := own_cell HD2.out.places h0
                obtain ⟨g1, cap1, hv1, _, _, _, d1⟩ := own_cell HD2.out.places h1
                rw [hv] at hv1
                simp only [Value.slice.injEq, Option.some.injEq, Addr.mk.injEq, and_true, true_and] at hv hv1
                obtain ⟨rfl, rfl⟩ := hv
                obtain ⟨rfl, rfl⟩ := hv1
                have HE := Lib.hid (show placeOk d.places k = (nameB (pAt d.places k).1 && rgB (pAt d.places k).2 && !hasPlace (d.places.take k) (pAt d.places k).1) from rfl)
                have e0 := pAt_get hlt
                rw [e0] at d0 d1
                generalize pAt d.places k = y at *
                obtain ⟨ya, yb⟩ := y
                change _ = some (Value.string ya) at d0
                change _ = some (Value.int .i64 yb) at d1
                rw [Nat.add_zero] at d0
                have hszr : w.heap.size < wr.heap.size := (Array.getElem?_eq_some_iff.1 HZ2.out).1
                have HOWN3 := Lib.hid ((HD2.out.places.alloc (.cells #[.string ya, .int .i64 yb] 73)).alloc (.cells #[.int .i64 yb] 3))
                have HM3 := Lib.hid (((Only.refl (fun _ => False) (wr.alloc (.cells #[.string ya, .int .i64 yb] 73))).alloc (.cells #[.int .i64 yb] 3)).cell (cell_of_row _ _ 0 _ _ _ (heap_alloc_last wr (.cells #[.string ya, .int .i64 yb] 73))) (fun h => h))
                have HOa := Lib.hid (HO2.out.alloc (.cells #[.string ya, .int .i64 yb] 73))
                have HOb := Lib.hid ((HO2.out.alloc (.cells #[.string ya, .int .i64 yb] 73)).alloc (.cells #[.int .i64 yb] 3))
                obtain ⟨q, hq⟩ : ∃ r, nameB ya = r := ⟨_, rfl⟩
                obtain ⟨r, hr⟩ : ∃ r, [yb].all rgB = r := ⟨_, rfl⟩
                obtain ⟨hh, hhh⟩ : ∃ r, hasPlace (d.places.take k) ya = r := ⟨_, rfl⟩
                have HQQ := Lib.hid hq
                have HRR := Lib.hid hr
                have HHH := Lib.hid hhh
                have hr2 : rgB yb = r := by simpa using hr
                dsimp only at HE
                rw [hq, hr2, hhh] at HE
                clear h0 h1 e0 hq hr hhh hr2 c6 c11 c12
                cases q
                · obtain rfl := HF.out (by rw [HE.out]; rfl)
                  go_wp2_with fail
                  refine (isname_any ya false _ HQQ.out).mono ?_
                  rintro e w' ⟨rfl, rfl⟩
                  go_wp2_with fail
                  go_ret
                  exact ⟨rfl, HOT1.out.trans HOa.out⟩
                · cases r
                  · obtain rfl := HF.out (by rw [HE.out]; rfl)
                    go_wp2_with fail
                    refine (isname_any ya true _ HQQ.out).mono ?_
                    rintro e w' ⟨rfl, rfl⟩
                    go_wp2_with fail
                    refine (range_any _ _ [yb] false _ (by exact pts_one _ _ _) HRR.out (by simp)).mono ?_
                    rintro e w' ⟨rfl, rfl⟩
                    go_wp2_with fail
                    go_ret
                    exact ⟨rfl, HOT1.out.trans HOb.out⟩
                  · go_wp2_with fail
                    refine (isname_any ya true _ HQQ.out).mono ?_
                    rintro e w' ⟨rfl, rfl⟩
                    go_wp2_with fail
                    refine (range_any _ _ [yb] true _ (by exact pts_one _ _ _) HRR.out (by simp)).mono ?_
                    rintro e w' ⟨rfl, rfl⟩
                    go_wp2_with fail
                    refine (placeC_has _ _ _ k _ d.places ya hh _ HOWN3.out (by omega) (by omega) HM3.out HHH.out).mono ?_
                    rintro e w5 ⟨rfl, hO5⟩
                    have HO5 := Lib.hid (HOb.out.trans hO5)
                    clear hO5
                    cases hh
                    · have HG := Lib.hid (HT.out (by rw [HE.out]; rfl))
                      go_wp2_with fail
                      go_roundw
                      case rel => exact ⟨k + 1, by go_num, hlt, HG.out, HO5.out⟩
                      case measure => simp [intOf]; omega
                    · obtain rfl := HF.out (by rw [HE.out]; rfl)
                      go_wp2_with fail
                      go_ret
                      exact ⟨rfl, HOT1.out.trans HO5.out⟩
              · obtain rfl : k = d.places.length := by omega
                have j1 : ¬ (d.places.length : Int) < d.places.length := by omega
                have HL2 := Lib.hid HALL.out
                clear hlt hk HALL
                go_wp2_with fail
                obtain ⟨wb, hwb⟩ : ∃ wq : World, wq = wr := ⟨_, rfl⟩
                subst hwb
                go_loopw [88] (fun iv wr => ∃ k : Nat, iv = .int .i64 k ∧ k ≤ d.quotas.length ∧ (List.range k).all (quotaOk d.quotas) = true ∧ Only (fun _ => False) wb wr) (fun iv _ => d.quotas.length - (intOf iv).toNat)
                case atStart => exact ⟨0, rfl, Nat.zero_le _, rfl, Only.refl _ _⟩
                case round =>
                  obtain ⟨k, rfl, hk, hall, hO3⟩ := hrel
                  have HALL := Lib.hid hall
                  have HO3 := Lib.hid hO3
                  have HZ3 := Lib.hid (row_still hO3 HZ2.out)
                  have HD3 := Lib.hid (HD2.out.only hO3 (fun _ _ h => h))
                  have HOT3 := Lib.hid (HOT2.out.trans hO3)
                  have c6 : wr.cell? ⟨w.heap.size, 6, none⟩ = some (.slice at1 d.tiers.length ct) := cell_of_row _ _ 6 _ _ _ HZ3.out
                  have c8 : wr.cell? ⟨w.heap.size, 8, none⟩ = some (.slice ap1 d.places.length cp) := cell_of_row _ _ 8 _ _ _ HZ3.out
                  have c11 : wr.cell? ⟨w.heap.size, 11, none⟩ = some (.slice aq1 d.quotas.length cq) := cell_of_row _ _ 11 _ _ _ HZ3.out
                  have c12 : wr.cell? ⟨w.heap.size, 12, none⟩ = some (.slice ab1 d.barred.length cb) := cell_of_row _ _ 12 _ _ _ HZ3.out
                  clear hall
                  by_cases hlt : k < d.quotas.length
                  · have j1 : (k : Int) < d.quotas.length := by omega
                    have j2 : 0 ≤ (k : Int) := by omega
                    have HF := Lib.hid (fun (h : quotaOk d.quotas k = false) => show bb = false from HB.out.symm.trans (lists_3 (all_range_no hlt h)))
                    have HT := Lib.hid (fun (h : quotaOk d.quotas k = true) => all_range_succ HALL.out h)
                    have h0 := flat_at (fun x : ByteArray × Int × Int => [Value.string x.1, Value.int .i64 x.2.1, Value.int .i64 x.2.2]) 3 (fun _ => rfl) d.quotas k 0 hlt (by decide)
                    have h2 := flat_at (fun x : ByteArray × Int × Int => [Value.string x.1, Value.int .i64 x.2.1, Value.int .i64 x.2.2]) 3 (fun _ => rfl) d.quotas k 2 hlt (by decide)
                    have h1 := flat_at (fun x : ByteArray × Int × Int => [Value.string x.1, Value.int .i64 x.2.1, Value.int .i64 x.2.2]) 3 (fun _ => rfl) d.quotas k 1 hlt (by decide)
                    obtain ⟨g, cap, hv, hg, hc1, hc2, d0⟩ := own_cell HD3.out.quotas h0
                    obtain ⟨g1, cap1, hv1, _, _, _, d1⟩ := own_cell HD3.out.quotas h1
                    obtain ⟨g2, cap2, hv2, _, _, _, d2⟩ := own_cell HD3.out.quotas h2
                    rw [hv] at hv1
                    rw [hv] at hv2
                    simp only [Value.slice.injEq, Option.some.injEq, Addr.mk.injEq, and_true, true_and] at hv hv1 hv2
                    obtain ⟨rfl, rfl⟩ := hv
                    obtain ⟨rfl, rfl⟩ := hv1
                    obtain ⟨rfl, rfl⟩ := hv2
                    have HE := Lib.hid (show quotaOk d.quotas k = (nameB (qAt d.quotas k).1 && rgB (qAt d.quotas k).2.1 && rgB (qAt d.quotas k).2.2 && !hasQuota (d.quotas.take k) (qAt d.quotas k).1) from rfl)
                    have e0 := qAt_get hlt
                    rw [e0] at d0 d1 d2
                    generalize qAt d.quotas k = y at *
                    obtain ⟨ya, yb, yc⟩ := y
                    change _ = some (Value.string ya) at d0
                    change _ = some (Value.int .i64 yb) at d1
                    change _ = some (Value.int .i64 yc) at d2
                    rw [Nat.add_zero] at d0
                    have hszr : w.heap.size < wr.heap.size := (Array.getElem?_eq_some_iff.1 HZ3.out).1
                    have HOWN3 := Lib.hid ((HD3.out.quotas.alloc (.cells #[.string ya, .int .i64 yb, .int .i64 yc] 75)).alloc (.cells #[.int .i64 yb, .int .i64 yc] 3))
                    have HM3 := Lib.hid (((Only.refl (fun _ => False) (wr.alloc (.cells #[.string ya, .int .i64 yb, .int .i64 yc] 75))).alloc (.cells #[.int .i64 yb, .int .i64 yc] 3)).cell (cell_of_row _ _ 0 _ _ _ (heap_alloc_last wr (.cells #[.string ya, .int .i64 yb, .int .i64 yc] 75))) (fun h => h))
                    have HOa := Lib.hid (HO3.out.alloc (.cells #[.string ya, .int .i64 yb, .int .i64 yc] 75))
                    have HOb := Lib.hid ((HO3.out.alloc (.cells #[.string ya, .int .i64 yb, .int .i64 yc] 75)).alloc (.cells #[.int .i64 yb, .int .i64 yc] 3))
                    obtain ⟨q, hq⟩ : ∃ r, nameB ya = r := ⟨_, rfl⟩
                    obtain ⟨r, hr⟩ : ∃ r, [yb, yc].all rgB = r := ⟨_, rfl⟩
                    obtain ⟨hh, hhh⟩ : ∃ r, hasQuota (d.quotas.take k) ya = r := ⟨_, rfl⟩
                    have HQQ := Lib.hid hq
                    have HRR := Lib.hid hr
                    have HHH := Lib.hid hhh
                    have hr2 : (rgB yb && rgB yc) = r := by simpa using hr
                    dsimp only at HE
                    rw [hq, Bool.and_assoc q, hr2, hhh] at HE
                    clear h0 h1 h2 e0 hq hr hhh hr2 c6 c8 c12
                    cases q
                    · obtain rfl := HF.out (by rw [HE.out]; rfl)
                      go_wp2_with fail
                      refine (isname_any ya false _ HQQ.out).mono ?_
                      rintro e w' ⟨rfl, rfl⟩
                      go_wp2_with fail
                      go_ret
                      exact ⟨rfl, HOT2.out.trans HOa.out⟩
                    · cases r
                      · obtain rfl := HF.out (by rw [HE.out]; rfl)
                        go_wp2_with fail
                        refine (isname_any ya true _ HQQ.out).mono ?_
                        rintro e w' ⟨rfl, rfl⟩
                        go_wp2_with fail
                        refine (range_any _ _ [yb, yc] false _ (by exact pts_pair _ _ _ _) HRR.out (by simp)).mono ?_
                        rintro e w' ⟨rfl, rfl⟩
                        go_wp2_with fail
                        go_ret
                        exact ⟨rfl, HOT2.out.trans HOb.out⟩
                      · go_wp2_with fail
                        refine (isname_any ya true _ HQQ.out).mono ?_
                        rintro e w' ⟨rfl, rfl⟩
                        go_wp2_with fail
                        refine (range_any _ _ [yb, yc] true _ (by exact pts_pair _ _ _ _) HRR.out (by simp)).mono ?_
                        rintro e w' ⟨rfl, rfl⟩
                        go_wp2_with fail
                        refine (quotaC_has _ _ _ k _ d.quotas ya hh _ HOWN3.out (by omega) (by omega) HM3.out HHH.out).mono ?_
                        rintro e w5 ⟨rfl, hO5⟩
                        have HO5 := Lib.hid (HOb.out.trans hO5)
                        clear hO5
                        cases hh
                        · have HG := Lib.hid (HT.out (by rw [HE.out]; rfl))
                          go_wp2_with fail
                          go_roundw
                          case rel => exact ⟨k + 1, by go_num, hlt, HG.out, HO5.out⟩
                          case measure => simp [intOf]; omega
                        · obtain rfl := HF.out (by rw [HE.out]; rfl)
                          go_wp2_with fail
                          go_ret
                          exact ⟨rfl, HOT2.out.trans HO5.out⟩
                  · obtain rfl : k = d.quotas.length := by omega
                    have j1 : ¬ (d.quotas.length : Int) < d.quotas.length := by omega
                    have HL3 := Lib.hid HALL.out
                    clear hlt hk HALL
                    go_wp2_with fail
                    obtain ⟨wd, hwd⟩ : ∃ wq : World, wq = wr := ⟨_, rfl⟩
                    subst hwd
                    go_loopw [119] (fun iv wr => ∃ k : Nat, iv = .int .i64 k ∧ k ≤ d.barred.length ∧ (List.range k).all (barOk d.barred) = true ∧ Only (fun _ => False) wd wr) (fun iv _ => d.barred.length - (intOf iv).toNat)
                    case atStart => exact ⟨0, rfl, Nat.zero_le _, rfl, Only.refl _ _⟩
                    case round =>
                      obtain ⟨k, rfl, hk, hall, hO4⟩ := hrel
                      have HALL := Lib.hid hall
                      have HO4 := Lib.hid hO4
                      have HZ4 := Lib.hid (row_still hO4 HZ3.out)
                      have HD4 := Lib.hid (HD3.out.only hO4 (fun _ _ h => h))
                      have HOT4 := Lib.hid (HOT3.out.trans hO4)
                      have c6 : wr.cell? ⟨w.heap.size, 6, none⟩ = some (.slice at1 d.tiers.length ct) := cell_of_row _ _ 6 _ _ _ HZ4.out
                      have c8 : wr.cell? ⟨w.heap.size, 8, none⟩ = some (.slice ap1 d.places.length cp) := cell_of_row _ _ 8 _ _ _ HZ4.out
                      have c11 : wr.cell? ⟨w.heap.size, 11, none⟩ = some (.slice aq1 d.quotas.length cq) := cell_of_row _ _ 11 _ _ _ HZ4.out
                      have c12 : wr.cell? ⟨w.heap.size, 12, none⟩ = some (.slice ab1 d.barred.length cb) := cell_of_row _ _ 12 _ _ _ HZ4.out
                      clear hall
                      by_cases hlt : k < d.barred.length
                      · have j1 : (k : Int) < d.barred.length := by omega
                        have j2 : 0 ≤ (k : Int) := by omega
                        have HF := Lib.hid (fun (h : barOk d.barred k = false) => show bb = false from HB.out.symm.trans (lists_4 (all_range_no hlt h)))
                        have HT := Lib.hid (fun (h : barOk d.barred k = true) => all_range_succ HALL.out h)
                        have hu : (irow d.barred)[k]? = some (.int .i64 (ptAt d.barred k)) := by unfold irow ptAt; simp [List.getD, hlt]
                        obtain ⟨g, cap, hv, hg, hc1, hc2, d0⟩ := own_cell HD4.out.bars hu
                        simp only [Value.slice.injEq, true_and] at hv
                        obtain ⟨rfl, rfl⟩ := hv
                        have HE := Lib.hid (show barOk d.barred k = !hasBar (d.barred.take k) (ptAt d.barred k) from rfl)
                        have hszr : w.heap.size < wr.heap.size := (Array.getElem?_eq_some_iff.1 HZ4.out).1
                        generalize ptAt d.barred k = y at *
                        obtain ⟨hh, hhh⟩ : ∃ r, hasBar (d.barred.take k) y = r := ⟨_, rfl⟩
                        have HCC := Lib.hid (contains_pre _ _ k _ d.barred y hh wr HD4.out.bars hlt hhh)
                        rw [hhh] at HE
                        clear hu hhh c6 c8 c11
                        cases hh
                        · have HG := Lib.hid (HT.out (by rw [HE.out]; rfl))
                          go_wp2_with fail
                          refine HCC.out.mono ?_
                          rintro e w5 ⟨rfl, rfl⟩
                          go_wp2_with fail
                          go_roundw
                          case rel => exact ⟨k + 1, by go_num, hlt, HG.out, HO4.out⟩
                          case measure => simp [intOf]; omega
                        · obtain rfl := HF.out (by rw [HE.out]; rfl)
                          go_wp2_with fail
                          refine HCC.out.mono ?_
                          rintro e w5 ⟨rfl, rfl⟩
                          go_wp2_with fail
                          go_ret
                          exact ⟨rfl, HOT3.out.trans HO4.out⟩
                      · obtain rfl : k = d.barred.length := by omega
                        have j1 : ¬ (d.barred.length : Int) < d.barred.length := by omega
                        have HL4 := Lib.hid HALL.out
                        clear hlt hk HALL
                        go_wp2_with fail
                        have HFI := Lib.hid (show d.barred.all rgB = bb by rw [← HB.out, lists_y HA.out HA4.out HL1.out HL2.out HL3.out HL4.out])
                        have HPB := Lib.hid (ptsR_of_own HD4.out.bars)
                        refine (range_any _ _ d.barred bb _ HPB.out HFI.out (by omega)).mono ?_
                        rintro e w' ⟨rfl, rfl⟩
                        go_wp2_with fail
                        go_ret
                        exact ⟨rfl, HOT4.out⟩
      · obtain rfl : bb = false := HB.out.symm.trans (lists_len4 hA4)
        rw [show (!(decide (d.tiers.length ≤ 12 ∧ d.places.length ≤ 12 ∧ d.quotas.length ≤ 12) && decide (d.barred.length ≤ 40))) = true by simp [hA4]]
        clear hA hA4
        go_wp2_with fail
        go_ret
        exact ⟨rfl, HO.out⟩
    · obtain rfl : bb = false := HB.out.symm.trans (lists_len hA)
      rw [show (!(decide (d.tiers.length ≤ 12 ∧ d.places.length ≤ 12 ∧ d.quotas.length ≤ 12) && decide (d.barred.length ≤ 40))) = true by simp [hA]]
      clear hA
      go_wp2_with fail
      go_ret
      exact ⟨rfl, HO.out⟩
end Go.Proofs.YteikkpiginfbkaaGreatDoor
