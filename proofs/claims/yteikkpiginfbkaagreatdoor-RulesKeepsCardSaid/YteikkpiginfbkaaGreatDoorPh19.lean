/-
  Rules: the line bar.
  Rules: the table of what reads a line.
  Rules: the program's parts.
  Rules, plain: a text line by line.
  Rules: the program's reader of a text.
-/
import Derived.Test.YteikkpiginfbkaaGreatDoorPh17
import Derived.Test.YteikkpiginfbkaaGreatDoorPh09
import Derived.Maps.OwnSet
import Derived.StringKeys
import Derived.Lib.IndexLaws
import Derived.Lib.IndexBytes
import Derived.Deep.LoopGhost
import Derived.Deep.RegionHeld3
namespace Go.Proofs.YteikkpiginfbkaaGreatDoor
open Go.RowKit

theorem Tryz.infoBi : (Tryz.prog.info? 3).map (fun i => (i.zero, i.size, i.bytes)) = some (some (.int .i64 0), 1, 8) := by kernel_rfl
theorem contains_any (base c : Nat) (a : Option Addr) (zs : List Int) (x : Int) (bb : Bool) (w : World) (h : w.ownsRow base 3 1 (.slice a zs.length c) zs.length (irow zs)) (hb : hasBar zs x = bb) :
    Calls Tryz.prog 91 #[.slice a zs.length c, .int .i64 x] w fun e w' => e = .returned (.bool bb) ∧ w = w' := by
  have hc : zs.contains x = bb := by
    rw [← hb]
    unfold hasBar
    rw [List.contains_eq_any_beq]
    congr 1
    funext u
    rw [Bool.eq_iff_iff, beq_iff_eq, beq_iff_eq]
    exact eq_comm
  rcases h.2 with ⟨hv, h0⟩ | ⟨g, cap, cur, hv, _, hg, h1, h2, h3, h4⟩
  · have hz : zs = [] := List.length_eq_zero_iff.1 h0
    subst hz
    refine (Tryz.slices_Contains_int_empty a c x w).mono ?_
    rintro e w' ⟨rfl, rfl⟩
    refine ⟨?_, rfl⟩
    rw [← hc]; rfl
  · simp only [Value.slice.injEq, true_and] at hv
    obtain ⟨rfl, rfl⟩ := hv
    refine (Tryz.slices_Contains_int g 0 zs.length c zs x w (Nat.le_refl _) (by unfold maxLen at h2; omega) (fun j hj => ?_)).mono ?_
    · have hu : (irow zs)[j]? = some (.int .i64 (zs.getD j 0)) := by unfold irow; simp [List.getD, hj]
      obtain ⟨g', cap', hv', _, _, _, hcell⟩ := own_cell h hu
      simp only [Value.slice.injEq, Option.some.injEq, Addr.mk.injEq, and_true, true_and] at hv'
      obtain ⟨rfl, rfl⟩ := hv'
      rw [Nat.zero_add]; exact hcell
    rintro e w' ⟨rfl, rfl⟩
    refine ⟨?_, rfl⟩
    rw [List.take_length, hc]
theorem RdAt.barBack {base B : Nat} {w w1 : World} {t : St} {pos : Int} {vt vp vq vb v : Value} {x : Int} (h : RdAt base w B t pos vt vp vq vb) (hg : w.grownBy w1 vb.ownBlock)
    (ho : w1.ownsRow base 3 1 v (t.d.barred.length + 1) (irow t.d.barred ++ [.int .i64 x])) :
    RdAt base ((w1.setCell ⟨B, 12, none⟩ v).setCell ⟨B, 16, none⟩ (.bool true)) B { t with d := { t.d with barred := t.d.barred ++ [x] }, barred := true } pos vt vp vq v := by
  have hO := (Only.refl (fun k => vb.ownBlock = some k) w).grown hg (fun k e _ => e)
  have hb : w1.heap[B]? = _ := (hO.block B h.lt (ownR_blk h.bars h.blk (by decide))).trans h.blk
  have hv : w1.ownsRow base 3 1 v (t.d.barred ++ [x]).length (irow (t.d.barred ++ [x])) := by rw [irow_app, List.length_append]; exact ho
  have h1 : RdAt base (w1.setCell ⟨B, 12, none⟩ v) B { t with d := { t.d with barred := t.d.barred ++ [x] } } pos vt vp vq v := ⟨heap_setCell_same w1 B 12 _ _ v hb,
    set_own (hO.owns h.tiers (fun g hg e => ownR_ne h.tiers h.bars (by decide) g hg e)) (by have := ownR_blk h.tiers h.blk (by decide); exact this),
    set_own (hO.owns h.places (fun g hg e => ownR_ne h.places h.bars (by decide) g hg e)) (by have := ownR_blk h.places h.blk (by decide); exact this),
    set_own (hO.owns h.quotas (fun g hg e => ownR_ne h.quotas h.bars (by decide) g hg e)) (by have := ownR_blk h.quotas h.blk (by decide); exact this), set_own hv (ownR_blk hv hb (by decide))⟩
  exact h1.set 16 _ rfl rfl rfl rfl rfl
theorem bar_chk {t : St} {ws : List ByteArray} (h1 : 4 ≤ t.lines) (h2 : fitB [true, false] ws = true) : barZ t ws = if smallB ws = true then 0 else 3 := by unfold barZ; rw [if_pos ⟨h1, h2⟩]
theorem bar_n {t : St} {ws : List ByteArray} (h : ¬ (4 ≤ t.lines ∧ fitB [true, false] ws = true)) : barZ t ws = 12 := by unfold barZ; rw [if_neg h]
theorem newsR' (w : World) (cs : List Value) (T : TypeId) : ∀ j u, cs[j]? = some u → ((w.alloc (.cells cs.toArray T))).cell? ((⟨w.heap.size, 0, none⟩ : Addr).add j) = some u := by
  have h : ((w.alloc (.cells cs.toArray T))).heap[w.heap.size]? = some (.cells cs.toArray T) := heap_alloc_last w (.cells cs.toArray T)
  intro j u hu
  exact World.news_of_block h j u (by simpa using hu)
theorem one_laterR' (w : World) (A : Obj) {p : Addr} {v : Value} (hc : w.cell? p = some v) (hf : w.frozen? p = false) :
    ((w.alloc A)).cell? p = some v ∧ ((w.alloc A)).frozen? p = false ∧ p.block < ((w.alloc A)).heap.size := by
  have hb := (Below.refl _ w).alloc (Nat.le_refl _) A
  have hlt := World.block_lt_of_cell? w _ hc
  exact ⟨(hb.cell hlt).trans hc, (hb.frozen hlt).trans hf, Nat.lt_of_lt_of_le hlt hb.size⟩
theorem one_oneR (a : Value) (ha : a.oneCell' = true) : ∀ u ∈ [a], u.oneCell' = true := by
  intro u hu
  simp only [List.mem_cons, List.not_mem_nil, or_false] at hu
  rcases hu with rfl; assumption
set_option maxRecDepth 100000 in
set_option maxHeartbeats 4000000 in
theorem bar_any (base B : Nat) (pos : Int) (t : St) (vt vp vq vb sv : Value) (ws : List ByteArray) (w : World) (hR : RdAt base w B t pos vt vp vq vb) (hp : PrtAt w sv ws) (hb : base ≤ w.heap.size) (hlen : t.d.barred.length ≤ 1000) :
    Calls Tryz.prog 103 #[.pointer (some ⟨B, 0, none⟩), sv] w fun e w' => LineR base B pos vt vp vq vb (lnBar t ws) w e w' := by
  have HR := Lib.hid hR
  have c13 : w.cell? ⟨B, 13, none⟩ = some (.int .i64 pos) := hR.cell 13 rfl
  have c14 : w.cell? ⟨B, 14, none⟩ = some (.int .i64 t.lines) := hR.cell 14 rfl
  by_cases hl : 4 ≤ t.lines
  · cases hfit : fitB [true, false] ws
    · have HV := Lib.hid (show (lnBar t ws).1 = 12 by unfold lnBar; rw [bar_n (by rw [hfit]; simp), addTo_e (by decide)])
      have HF := Lib.hid (fits_any sv ws [true, false] false w hp hfit)
      have HNE := Lib.hid (need_no B pos 12 w c13)
      generalize t.lines = n at *
      clear hp hfit c13 hR
      go_enter Tryz.func103, Tryz.ntmps103
      go_wp2_with fail
      refine HF.out.mono ?_
      rintro e w' ⟨rfl, rfl⟩
      go_wp2_with fail
      refine HNE.out.mono ?_
      rintro e w' ⟨rfl, rfl⟩
      go_wp2_with fail
      exact ⟨rfl, lineR_no (by decide) HV.out rfl (Only.refl _ _)⟩
    · have HF := Lib.hid (fits_any sv ws [true, false] true w hp hfit)
      have HS := Lib.hid (small_any B pos sv ws w hp c13)
      have hbz := bar_chk hl hfit
      cases hsm : smallB ws
      · have HV := Lib.hid (show (lnBar t ws).1 = 3 by unfold lnBar; rw [hbz, hsm, addTo_e (by decide)]; rfl)
        rw [hsm] at HS
        generalize t.lines = n at *
        clear hp hfit c13 hR hbz hsm
        go_enter Tryz.func103, Tryz.ntmps103
        go_wp2_with fail
        refine HF.out.mono ?_
        rintro e w' ⟨rfl, rfl⟩
        go_wp2_with fail
        refine (need_ok B 12 w).mono ?_
        rintro e w' ⟨rfl, rfl⟩
        go_wp2_with fail
        refine HS.out.mono ?_
        rintro e w' ⟨he, rfl⟩
        obtain rfl : e = .panicked (faultC pos 3) := he
        go_wp2_with fail
        exact ⟨rfl, lineR_no (by decide) HV.out rfl (Only.refl _ _)⟩
      · rw [hsm] at HS hbz
        have hbz2 : barZ t ws = 0 := hbz
        obtain ⟨hl3, hat⟩ := fit_at hfit
        have hl2 : ws.length = 2 := hl3.symm
        have HZ := Lib.hid hbz2
        have HN0 := Lib.hid (number_any sv ws 1 (aAt ws 1) w hp (by omega) ((hat 1 (by decide)).2 rfl).2)
        obtain ⟨i0, hi, hz0, hz1, hz2⟩ := info_parts Tryz.infoBi
        have HI := Lib.hid hi
        have HI0 := Lib.hid hz0
        have HI1 := Lib.hid hz1
        have HI2 := Lib.hid hz2
        obtain ⟨a12, c12, rfl⟩ := slice_of_own hR.bars
        have HLT := Lib.hid (show lnBar t ws = addTo (barZ t ws) (hasBar t.d.barred (aAt ws 1)) t.d.barred.length 40 t _ from rfl)
        generalize aAt ws 1 = xa at *
        have k12 : w.cell? ⟨B, 12, none⟩ = some (.slice a12 t.d.barred.length c12) := hR.cell 12 rfl
        have k16 : w.cell? ⟨B, 16, none⟩ = some (.bool t.barred) := hR.cell 16 rfl
        have HNE := Lib.hid (fun er => need_no B pos er w c13)
        obtain ⟨bd, hbd⟩ : ∃ bd, hasBar t.d.barred xa = bd := ⟨_, rfl⟩
        have HCT := Lib.hid (contains_any base c12 a12 t.d.barred xa bd w hR.bars hbd)
        have HBD := Lib.hid hbd
        clear hp hfit c13 hbz hbz2 hsm hl3 hat hl2 hi hz0 hz1 hz2 hR hbd
        go_enter Tryz.func103, Tryz.ntmps103
        go_wp2_with fail
        refine HF.out.mono ?_
        rintro e w' ⟨rfl, rfl⟩
        go_wp2_with fail
        refine (need_ok B 12 w).mono ?_
        rintro e w' ⟨rfl, rfl⟩
        go_wp2_with fail
        refine HS.out.mono ?_
        rintro e w' ⟨he, rfl⟩
        obtain rfl : e = .returned (.tuple #[]) := he
        go_wp2_with fail
        refine HN0.out.mono ?_
        rintro e w' ⟨rfl, rfl⟩
        go_wp2_with fail
        refine HCT.out.mono ?_
        rintro e w' ⟨rfl, rfl⟩
        cases bd
        · go_wp2_with fail
          refine (need_ok B 13 w).mono ?_
          rintro e w' ⟨rfl, rfl⟩
          by_cases hm : t.d.barred.length < 40
          · have i1 : (t.d.barred.length : Int) < 40 := by omega
            have HV := Lib.hid (show lnBar t ws = (0, _) by rw [HLT.out, addTo_y HZ.out HBD.out hm])
            have z12 := HR.out.frz 12
            have z16 := HR.out.frz 16
            go_wp2_with fail
            refine (need_ok B 2 w).mono ?_
            rintro e w' ⟨rfl, rfl⟩
            have HON := Lib.hid HR.out.bars
            have hvb := ownR_blk HR.out.bars HR.out.blk (by decide)
            go_wp2_with (first | (refine wpList_append_lies _ rfl _ _ 24 rfl base 3 i0 _ 1 8 Tryz.underlying24 HI.out HI0.out HI1.out HI2.out rfl (by decide) _ _ _ rfl (HON.out.alloc _) ⟨w.heap.size, 0, none⟩ 1 1 [.int .i64 xa] rfl rfl (by exact newsR' w _ _) (one_oneR _ rfl) (by decide) (by unfold maxLen; omega) (by omega) (by simp; omega) _ rfl ?_; intro g cap w1 hown1 hgrow hat hlt; have c1 := hgrow.cell (one_laterR' w _ k12 z12).1 (Ne.symm hvb); have f1 := (hgrow.frozen_far ⟨B, 12, none⟩ (one_laterR' w _ k12 z12).2.2 (Ne.symm hvb)).trans (one_laterR' w _ k12 z12).2.1; have c2 := hgrow.cell (one_laterR' w _ k16 z16).1 (Ne.symm hvb); have f2 := (hgrow.frozen_far ⟨B, 16, none⟩ (one_laterR' w _ k16 z16).2.2 (Ne.symm hvb)).trans (one_laterR' w _ k16 z16).2.1))
            go_end0
            exact lineR_yes HV.out rfl (RdS.set (RdS.set ((((Only.refl _ w).alloc _)).grown hgrow (fun k e _ => .inr (.inr (.inr (.inr e))))) 12 _) 16 _) ((HR.out.still (((Only.refl _ w).alloc _))).barBack (x := xa) hgrow hown1)
          · have i1 : ¬ (t.d.barred.length : Int) < 40 := by omega
            have HV := Lib.hid (show (lnBar t ws).1 = 2 by rw [HLT.out, addTo_m HZ.out HBD.out hm])
            have i2 : decide ((t.d.barred.length : Int) < 40) = false := by simp; omega
            clear hm
            go_wp2_with fail
            refine (HNE.out 2).mono ?_
            rintro e w' ⟨rfl, rfl⟩
            go_wp2_with fail
            exact ⟨rfl, lineR_no (by decide) HV.out rfl (Only.refl _ _)⟩
        · have HV := Lib.hid (show (lnBar t ws).1 = 13 by rw [HLT.out, addTo_t HZ.out HBD.out])
          go_wp2_with fail
          refine (HNE.out 13).mono ?_
          rintro e w' ⟨rfl, rfl⟩
          go_wp2_with fail
          exact ⟨rfl, lineR_no (by decide) HV.out rfl (Only.refl _ _)⟩
  · have HV := Lib.hid (show (lnBar t ws).1 = 12 by unfold lnBar; rw [bar_n (fun h => hl h.1), addTo_e (by decide)])
    have HNE := Lib.hid (need_no B pos 12 w c13)
    generalize t.lines = n at *
    clear hp c13 hR
    go_enter Tryz.func103, Tryz.ntmps103
    go_wp2_with fail
    refine HNE.out.mono ?_
    rintro e w' ⟨rfl, rfl⟩
    go_wp2_with fail
    exact ⟨rfl, lineR_no (by decide) HV.out rfl (Only.refl _ _)⟩
end Go.Proofs.YteikkpiginfbkaaGreatDoor

namespace Go.Proofs.YteikkpiginfbkaaGreatDoor
open Go.RowKit Go.Maps

theorem Tryz.keyS : Keyed Tryz.prog 9 := string_keyed Tryz.underlying9
def fnElem : Value → Option (DataW Unit × List MemPlace)
  | .func (.func n) a b => if a.size = 0 ∧ b.size = 0 then some (.lit (.int .i64 n), []) else some (.nil, [])
  | _ => some (.nil, [])
theorem fnElem_inv {v : Value} {n : Int} {ps : List MemPlace} (h : fnElem v = some (.lit (.int .i64 n), ps)) : ∃ m : Nat, n = m ∧ v = .func (.func m) #[] #[] := by
  unfold fnElem at h
  split at h
  · split at h
    · next h2 =>
      simp only [Option.some.injEq, Prod.mk.injEq, DataW.lit.injEq, Lit.int.injEq, true_and] at h
      refine ⟨_, h.1.symm, ?_⟩
      rw [Array.eq_empty_of_size_eq_zero h2.1, Array.eq_empty_of_size_eq_zero h2.2]
    · simp at h
  · simp at h
def tabD : DataW Unit := DataW.put (DataW.put (DataW.put (DataW.put (DataW.put (DataW.put (DataW.put (DataW.put (DataW.put (DataW.put (DataW.put (.map []) (.string kDraw.data.toList) (.lit (.int .i64 93))) (.string kLottery.data.toList) (.lit (.int .i64 94))) (.string kBallot.data.toList) (.lit (.int .i64 95))) (.string kPanel.data.toList) (.lit (.int .i64 96))) (.string kRound.data.toList) (.lit (.int .i64 97))) (.string kPrice.data.toList) (.lit (.int .i64 98))) (.string kTier.data.toList) (.lit (.int .i64 99))) (.string kRoll.data.toList) (.lit (.int .i64 100))) (.string kPlace.data.toList) (.lit (.int .i64 101))) (.string kQuota.data.toList) (.lit (.int .i64 102))) (.string kBar.data.toList) (.lit (.int .i64 103))
/-- The table, in block M. -/
def TabAt (W : World) (M : Nat) : Prop := W.ownsMap Tryz.prog 9 fnElem M 11 tabD
def fnOf : Nat → Nat
  | 0 => 93
  | 1 => 94
  | 2 => 95
  | 3 => 96
  | 4 => 97
  | 5 => 98
  | 6 => 99
  | 7 => 100
  | 8 => 101
  | 9 => 102
  | 10 => 103
  | _ => 0
theorem tl_inj {a b : ByteArray} (h : a.data.toList = b.data.toList) : a = b := by
  obtain ⟨⟨a⟩⟩ := a
  obtain ⟨⟨b⟩⟩ := b
  exact congrArg (fun l => ByteArray.mk (Array.mk l)) h
theorem key_lit (s : ByteArray) : WideAt.IsKeyLit (.string s.data.toList) := by
  first | exact .inr (.inr ⟨_, rfl⟩) | exact .inl ⟨_, rfl⟩ | exact .inr (.inl ⟨_, rfl⟩) | simp [WideAt.IsKeyLit]
theorem put_look {D : DataW Unit} (hD : IsMap D) (w k : ByteArray) (d zd : DataW Unit) : (D.put (.string k.data.toList) d).atKey (.string w.data.toList) zd = if w = k then d else D.atKey (.string w.data.toList) zd := by
  split
  · next h => subst h; exact atKey_put_same hD (key_lit _) _ _
  · next h => exact atKey_put_other (fun e => h (tl_inj (by injection e))) _ _
theorem put_has {D : DataW Unit} (hD : IsMap D) (w k : ByteArray) (d : DataW Unit) : has (D.put (.string k.data.toList) d) (.string w.data.toList) = if w = k then true else has D (.string w.data.toList) := by
  split
  · next h => subst h; exact has_put_same hD (key_lit _) _
  · next h => exact has_put_other (fun e => h (tl_inj (by injection e))) _
theorem tab_look (w : ByteArray) (zd : DataW Unit) : tabD.atKey (.string w.data.toList) zd = if keyOf w < 11 then .lit (.int .i64 (fnOf (keyOf w))) else zd := by
  unfold tabD
  rw [put_look ((((((((((isMap_empty.put _ _).put _ _).put _ _).put _ _).put _ _).put _ _).put _ _).put _ _).put _ _).put _ _)]
  rw [put_look (((((((((isMap_empty.put _ _).put _ _).put _ _).put _ _).put _ _).put _ _).put _ _).put _ _).put _ _)]
  rw [put_look ((((((((isMap_empty.put _ _).put _ _).put _ _).put _ _).put _ _).put _ _).put _ _).put _ _)]
  rw [put_look (((((((isMap_empty.put _ _).put _ _).put _ _).put _ _).put _ _).put _ _).put _ _)]
  rw [put_look ((((((isMap_empty.put _ _).put _ _).put _ _).put _ _).put _ _).put _ _)]
  rw [put_look (((((isMap_empty.put _ _).put _ _).put _ _).put _ _).put _ _)]
  rw [put_look ((((isMap_empty.put _ _).put _ _).put _ _).put _ _)]
  rw [put_look (((isMap_empty.put _ _).put _ _).put _ _)]
  rw [put_look ((isMap_empty.put _ _).put _ _)]
  rw [put_look (isMap_empty.put _ _)]
  rw [put_look isMap_empty]
  by_cases hBar : w = kBar
  · subst hBar; rfl
  rw [if_neg hBar]
  by_cases hQuota : w = kQuota
  · subst hQuota; rfl
  rw [if_neg hQuota]
  by_cases hPlace : w = kPlace
  · subst hPlace; rfl
  rw [if_neg hPlace]
  by_cases hRoll : w = kRoll
  · subst hRoll; rfl
  rw [if_neg hRoll]
  by_cases hTier : w = kTier
  · subst hTier; rfl
  rw [if_neg hTier]
  by_cases hPrice : w = kPrice
  · subst hPrice; rfl
  rw [if_neg hPrice]
  by_cases hRound : w = kRound
  · subst hRound; rfl
  rw [if_neg hRound]
  by_cases hPanel : w = kPanel
  · subst hPanel; rfl
  rw [if_neg hPanel]
  by_cases hBallot : w = kBallot
  · subst hBallot; rfl
  rw [if_neg hBallot]
  by_cases hLottery : w = kLottery
  · subst hLottery; rfl
  rw [if_neg hLottery]
  by_cases hDraw : w = kDraw
  · subst hDraw; rfl
  rw [if_neg hDraw]
  have e : keyOf w = 11 := by unfold keyOf; simp only [hDraw, hLottery, hBallot, hPanel, hRound, hPrice, hTier, hRoll, hPlace, hQuota, hBar, if_false]
  rw [e]; rfl
theorem tab_has (w : ByteArray) : has tabD (.string w.data.toList) = decide (keyOf w < 11) := by
  unfold tabD
  rw [put_has ((((((((((isMap_empty.put _ _).put _ _).put _ _).put _ _).put _ _).put _ _).put _ _).put _ _).put _ _).put _ _)]
  rw [put_has (((((((((isMap_empty.put _ _).put _ _).put _ _).put _ _).put _ _).put _ _).put _ _).put _ _).put _ _)]
  rw [put_has ((((((((isMap_empty.put _ _).put _ _).put _ _).put _ _).put _ _).put _ _).put _ _).put _ _)]
  rw [put_has (((((((isMap_empty.put _ _).put _ _).put _ _).put _ _).put _ _).put _ _).put _ _)]
  rw [put_has ((((((isMap_empty.put _ _).put _ _).put _ _).put _ _).put _ _).put _ _)]
  rw [put_has (((((isMap_empty.put _ _).put _ _).put _ _).put _ _).put _ _)]
  rw [put_has ((((isMap_empty.put _ _).put _ _).put _ _).put _ _)]
  rw [put_has (((isMap_empty.put _ _).put _ _).put _ _)]
  rw [put_has ((isMap_empty.put _ _).put _ _)]
  rw [put_has (isMap_empty.put _ _)]
  rw [put_has isMap_empty]
  by_cases hBar : w = kBar
  · subst hBar; rfl
  rw [if_neg hBar]
  by_cases hQuota : w = kQuota
  · subst hQuota; rfl
  rw [if_neg hQuota]
  by_cases hPlace : w = kPlace
  · subst hPlace; rfl
  rw [if_neg hPlace]
  by_cases hRoll : w = kRoll
  · subst hRoll; rfl
  rw [if_neg hRoll]
  by_cases hTier : w = kTier
  · subst hTier; rfl
  rw [if_neg hTier]
  by_cases hPrice : w = kPrice
  · subst hPrice; rfl
  rw [if_neg hPrice]
  by_cases hRound : w = kRound
  · subst hRound; rfl
  rw [if_neg hRound]
  by_cases hPanel : w = kPanel
  · subst hPanel; rfl
  rw [if_neg hPanel]
  by_cases hBallot : w = kBallot
  · subst hBallot; rfl
  rw [if_neg hBallot]
  by_cases hLottery : w = kLottery
  · subst hLottery; rfl
  rw [if_neg hLottery]
  by_cases hDraw : w = kDraw
  · subst hDraw; rfl
  rw [if_neg hDraw]
  have e : keyOf w = 11 := by unfold keyOf; simp only [hDraw, hLottery, hBallot, hPanel, hRound, hPrice, hTier, hRoll, hPlace, hQuota, hBar, if_false]
  rw [e]; rfl
set_option maxHeartbeats 4000000 in
theorem table_any (w : World) : Calls Tryz.prog 65 #[] w fun e w' => ∃ M, e = .returned (.map (some M)) ∧ TabAt w' M ∧ w.heap.size ≤ M ∧ Only (fun _ => False) w w' := by
  have hmm := @run_makeMap Tryz.prog
  have o0 := World.ownsMap_made w Tryz.prog 9 fnElem
  have O0 := (Only.refl (fun _ => False) w).alloc (.map #[] 0)
  have hs0 : w.heap.size < (w.alloc (.map #[] 0)).heap.size := by simp
  obtain ⟨w1, r1, o1, t1⟩ := o0.store Tryz.keyS Tryz.underlying122 (by unfold maxLen; decide) (key := .string kDraw) (val := .func (.func 93) #[] #[]) (WideMaps.keyOf_string_mk Tryz.underlying9 (by unfold maxLen; decide)) rfl
  obtain ⟨w2, r2, o2, t2⟩ := o1.store Tryz.keyS Tryz.underlying122 (by unfold maxLen; decide) (key := .string kLottery) (val := .func (.func 94) #[] #[]) (WideMaps.keyOf_string_mk Tryz.underlying9 (by unfold maxLen; decide)) rfl
  obtain ⟨w3, r3, o3, t3⟩ := o2.store Tryz.keyS Tryz.underlying122 (by unfold maxLen; decide) (key := .string kBallot) (val := .func (.func 95) #[] #[]) (WideMaps.keyOf_string_mk Tryz.underlying9 (by unfold maxLen; decide)) rfl
  obtain ⟨w4, r4, o4, t4⟩ := o3.store Tryz.keyS Tryz.underlying122 (by unfold maxLen; decide) (key := .string kPanel) (val := .func (.func 96) #[] #[]) (WideMaps.keyOf_string_mk Tryz.underlying9 (by unfold maxLen; decide)) rfl
  obtain ⟨w5, r5, o5, t5⟩ := o4.store Tryz.keyS Tryz.underlying122 (by unfold maxLen; decide) (key := .string kRound) (val := .func (.func 97) #[] #[]) (WideMaps.keyOf_string_mk Tryz.underlying9 (by unfold maxLen; decide)) rfl
  obtain ⟨w6, r6, o6, t6⟩ := o5.store Tryz.keyS Tryz.underlying122 (by unfold maxLen; decide) (key := .string kPrice) (val := .func (.func 98) #[] #[]) (WideMaps.keyOf_string_mk Tryz.underlying9 (by unfold maxLen; decide)) rfl
  obtain ⟨w7, r7, o7, t7⟩ := o6.store Tryz.keyS Tryz.underlying122 (by unfold maxLen; decide) (key := .string kTier) (val := .func (.func 99) #[] #[]) (WideMaps.keyOf_string_mk Tryz.underlying9 (by unfold maxLen; decide)) rfl
  obtain ⟨w8, r8, o8, t8⟩ := o7.store Tryz.keyS Tryz.underlying122 (by unfold maxLen; decide) (key := .string kRoll) (val := .func (.func 100) #[] #[]) (WideMaps.keyOf_string_mk Tryz.underlying9 (by unfold maxLen; decide)) rfl
  obtain ⟨w9, r9, o9, t9⟩ := o8.store Tryz.keyS Tryz.underlying122 (by unfold maxLen; decide) (key := .string kPlace) (val := .func (.func 101) #[] #[]) (WideMaps.keyOf_string_mk Tryz.underlying9 (by unfold maxLen; decide)) rfl
  obtain ⟨w10, r10, o10, t10⟩ := o9.store Tryz.keyS Tryz.underlying122 (by unfold maxLen; decide) (key := .string kQuota) (val := .func (.func 102) #[] #[]) (WideMaps.keyOf_string_mk Tryz.underlying9 (by unfold maxLen; decide)) rfl
  obtain ⟨w11, r11, o11, t11⟩ := o10.store Tryz.keyS Tryz.underlying122 (by unfold maxLen; decide) (key := .string kBar) (val := .func (.func 103) #[] #[]) (WideMaps.keyOf_string_mk Tryz.underlying9 (by unfold maxLen; decide)) rfl
  have HO := Lib.hid o11
  have G1 := t1.grown
  have G2 := t2.grown
  have G3 := t3.grown
  have G4 := t4.grown
  have G5 := t5.grown
  have G6 := t6.grown
  have G7 := t7.grown
  have G8 := t8.grown
  have G9 := t9.grown
  have G10 := t10.grown
  have G11 := t11.grown
  have HW := Lib.hid (show Only (fun _ => False) w w11 from by
    have h0 := O0.mono (T := fun k => k = w.heap.size) (fun _ _ h => h.elim)
    have h1 := h0.grown G1 (fun k e _ => by simpa using e.symm)
    have h2 := h1.grown G2 (fun k e _ => by simpa using e.symm)
    have h3 := h2.grown G3 (fun k e _ => by simpa using e.symm)
    have h4 := h3.grown G4 (fun k e _ => by simpa using e.symm)
    have h5 := h4.grown G5 (fun k e _ => by simpa using e.symm)
    have h6 := h5.grown G6 (fun k e _ => by simpa using e.symm)
    have h7 := h6.grown G7 (fun k e _ => by simpa using e.symm)
    have h8 := h7.grown G8 (fun k e _ => by simpa using e.symm)
    have h9 := h8.grown G9 (fun k e _ => by simpa using e.symm)
    have h10 := h9.grown G10 (fun k e _ => by simpa using e.symm)
    have h11 := h10.grown G11 (fun k e _ => by simpa using e.symm)
    exact h11.mono (fun i hi e => absurd e (by omega)))
  clear o0 O0 o1 o2 o3 o4 o5 o6 o7 o8 o9 o10 o11 t1 t2 t3 t4 t5 t6 t7 t8 t9 t10 t11 G1 G2 G3 G4 G5 G6 G7 G8 G9 G10 G11
  unfold kDraw at r1
  unfold kLottery at r2
  unfold kBallot at r3
  unfold kPanel at r4
  unfold kRound at r5
  unfold kPrice at r6
  unfold kTier at r7
  unfold kRoll at r8
  unfold kPlace at r9
  unfold kQuota at r10
  unfold kBar at r11
  go_enter Tryz.func65, Tryz.ntmps65
  go_wp2
  go_ret
  exact ⟨_, rfl, HO.out, Nat.le_refl _, HW.out⟩
end Go.Proofs.YteikkpiginfbkaaGreatDoor

namespace Go.Proofs.YteikkpiginfbkaaGreatDoor
open Go.RowKit

/-- The library's variable that strings.Split reads. -/
def LenR (w : World) : Prop := ∃ m, w.cell? ⟨0, 0, none⟩ = some (.int .i64 m)
theorem LenR.only {S : Nat → Prop} {a b : World} (h : LenR a) (hO : Only S a b) (hS : ¬ S 0) : LenR b := by
  obtain ⟨m, hm⟩ := h
  exact ⟨m, hO.cell hm hS⟩
theorem wAt_get {ws : List ByteArray} {k : Nat} (h : k < ws.length) : ws[k] = wAt ws k := by unfold wAt; simp [List.getD, h]
theorem prt_of_own {w : World} {base : Nat} {v : Value} {ws : List ByteArray} (h : w.ownsRow base 20 1 v ws.length (ws.map partV)) (h0 : 0 < ws.length) : PrtAt w v ws := by
  have hu : ∀ j, j < ws.length → (ws.map partV)[j]? = some (partV (wAt ws j)) := fun j hj => by rw [List.getElem?_map, List.getElem?_eq_getElem hj, wAt_get hj]; rfl
  obtain ⟨g, cap, rfl, hg, h1, h2, _⟩ := own_cell h (hu 0 h0)
  refine ⟨g, 0, cap, rfl, hg, h1, h2, fun j hj => ?_⟩
  obtain ⟨g', cap', hv', _, _, _, hcell⟩ := own_cell h (hu j hj)
  simp only [Value.slice.injEq, Option.some.injEq, Addr.mk.injEq, and_true, true_and] at hv'
  obtain ⟨rfl, rfl⟩ := hv'
  rw [Nat.zero_add]; exact hcell
theorem Tryz.infoAny : (Tryz.prog.info? 20).map (fun i => (i.zero, i.size, i.bytes)) = some (some .nilIface, 1, 16) := by kernel_rfl
def PartsR (s : ByteArray) (w : World) (e : Ending) (w' : World) : Prop := ∃ v, e = .returned v ∧ w'.ownsRow w.heap.size 20 1 v (wordsB s).length ((wordsB s).map partV) ∧ Only (fun _ => False) w w'
theorem words_pos (s : ByteArray) : 0 < (wordsB s).length := by rw [wordsB_len]; omega
theorem words_cnt (s : ByteArray) : (wordsB s).length ≤ s.size + 1 := by
  rw [wordsB_len]
  have := Lib.countB_le ⟨#[32]⟩ (by decide) s.size s (Nat.le_refl _)
  omega
set_option maxRecDepth 100000 in
set_option maxHeartbeats 4000000 in
theorem parts_any (s : ByteArray) (w : World) (hs : s.size ≤ 100000) (hG : LenR w) :
    Calls Tryz.prog 55 #[.string s] w fun e w' => PartsR s w e w' := by
  obtain ⟨m, hm⟩ := hG
  have HSP := Lib.hid (Tryz.strings_Split s ⟨#[32]⟩ m w (by omega) hm (by decide))
  have HWL := Lib.hid (wordsB_len s)
  have HWC := Lib.hid (words_cnt s)
  have HWS := Lib.hid (fun P (h : P ∈ wordsB s) => words_le s P h)
  obtain ⟨i0, hi, hz0, hz1, hz2⟩ := info_parts Tryz.infoAny
  have HI := Lib.hid hi
  have HI0 := Lib.hid hz0
  have HI1 := Lib.hid hz1
  have HI2 := Lib.hid hz2
  clear hm hi hz0 hz1 hz2
  go_enter Tryz.func55, Tryz.ntmps55
  go_wp2_with fail
  refine HSP.out.mono ?_
  rintro e w2 ⟨rfl, hw2⟩
  have hx1 := heap_alloc_last w (.cells ((wordsB s).map Value.string).toArray 9)
  have hx2 := (Only.refl (fun _ => False) w).alloc (.cells ((wordsB s).map Value.string).toArray 9)
  rw [show w.alloc (.cells ((wordsB s).map Value.string).toArray 9) = w2 from hw2.symm] at hx1 hx2
  have HX1 := Lib.hid hx1
  have HX2 := Lib.hid hx2
  rw [show Lib.countB s ⟨#[32]⟩ + 1 = (wordsB s).length from HWL.out.symm]
  have hl := HWC.out
  obtain ⟨ws, hws⟩ : ∃ ws, wordsB s = ws := ⟨_, rfl⟩
  rw [hws] at hl HX1 HWC HWS ⊢
  have HWD := Lib.hid hws
  clear hws
  clear hx1 hx2 hw2 HSP HWL
  go_wp2_with fail
  go_loopw [3, 11] (fun v iv wr => ∃ k : Nat, iv = .int .i64 k ∧ k ≤ ws.length ∧ wr.ownsRow w2.heap.size 20 1 v k ((ws.take k).map partV) ∧ Only (fun _ => False) w2 wr) (fun _ iv _ => ws.length - (intOf iv).toNat)
  case atStart => exact ⟨0, rfl, Nat.zero_le _, World.ownsRow_nil _ _ _ _, Only.refl _ _⟩
  case round =>
    obtain ⟨k, rfl, hk, hown, hO⟩ := hrel
    have HOWN := Lib.hid hown
    have HO := Lib.hid hO
    have HXR := Lib.hid (row_still hO HX1.out)
    obtain ⟨a3, c3, rfl⟩ := slice_of_own hown
    have hbs : w2.heap.size ≤ wr.heap.size := hO.size
    clear hown hO
    by_cases hlt : k < ws.length
    · have j1 : (k : Int) < ws.length := by omega
      have j2 : 0 ≤ (k : Int) := by omega
      have hc : _ = some (Value.string ws[k]) := (cell_of_row _ _ k _ _ _ HXR.out).trans (by rw [List.getElem?_toArray, List.getElem?_map, List.getElem?_eq_getElem hlt]; rfl)
      have HNX := Lib.hid (show (ws.take (k + 1)).map partV = (ws.take k).map partV ++ [partV ws[k]] by rw [List.take_succ_eq_append_getElem hlt, List.map_append]; rfl)
      have hsz := HWS.out _ (List.getElem_mem hlt)
      generalize ws[k] = x at *
      have hg0 : w.heap.size < wr.heap.size := World.block_lt_of_cell? _ _ hc
      cases hn : numB x
      · have HN := Lib.hid (numeral_any x false 0 wr (by omega) hn rfl)
        rw [partV_str hn] at HNX
        clear hn hsz
        go_wp2_with fail
        refine HN.out.mono ?_
        rintro e w' ⟨rfl, rfl⟩
        go_wp2_with (first | (refine wpList_append_lies _ rfl _ _ 114 rfl w2.heap.size 20 i0 _ 1 16 Tryz.underlying114 HI.out HI0.out HI1.out HI2.out rfl (by decide) _ _ _ rfl (HOWN.out.alloc _) ⟨wr.heap.size, 0, none⟩ 1 1 [.iface 9 (.string x)] rfl rfl (by exact newsR' wr _ _) (one_oneR _ rfl) (by decide) (by unfold maxLen; omega) (by omega) (by simp; omega) _ rfl ?_; intro g cap w5 hown1 hgrow hat hlt2))
        go_roundw
        case rel => exact ⟨k + 1, by go_num, hlt, by rw [HNX.out]; exact hown1, (HO.out.alloc _).trans' (S := fun _ => False) (T := fun i => (Value.slice a3 k c3).ownBlock = some i) ((Only.refl _ _).grown hgrow (fun i e _ => e)) (fun i hi e => by have := ownR_ge HOWN.out e; omega)⟩
        case measure => simp [intOf]; omega
      · have HN := Lib.hid (numeral_any x true (amtV x) wr (by omega) hn rfl)
        rw [partV_num hn] at HNX
        generalize amtV x = z at *
        clear hn hsz
        go_wp2_with fail
        refine HN.out.mono ?_
        rintro e w' ⟨rfl, rfl⟩
        go_wp2_with (first | (refine wpList_append_lies _ rfl _ _ 114 rfl w2.heap.size 20 i0 _ 1 16 Tryz.underlying114 HI.out HI0.out HI1.out HI2.out rfl (by decide) _ _ _ rfl (HOWN.out.alloc _) ⟨wr.heap.size, 0, none⟩ 1 1 [.iface 3 (.int .i64 z)] rfl rfl (by exact newsR' wr _ _) (one_oneR _ rfl) (by decide) (by unfold maxLen; omega) (by omega) (by simp; omega) _ rfl ?_; intro g cap w5 hown1 hgrow hat hlt2))
        go_roundw
        case rel => exact ⟨k + 1, by go_num, hlt, by rw [HNX.out]; exact hown1, (HO.out.alloc _).trans' (S := fun _ => False) (T := fun i => (Value.slice a3 k c3).ownBlock = some i) ((Only.refl _ _).grown hgrow (fun i e _ => e)) (fun i hi e => by have := ownR_ge HOWN.out e; omega)⟩
        case measure => simp [intOf]; omega
    · obtain rfl : k = ws.length := by omega
      have j1 : ¬ (ws.length : Int) < ws.length := by omega
      have HEND := Lib.hid (show wr.ownsRow w.heap.size 20 1 (.slice a3 ws.length c3) ws.length (ws.map partV) by have := HOWN.out; rw [List.take_length] at this; exact ownR_base this HX2.out.size)
      have HOE := Lib.hid (HX2.out.trans HO.out)
      go_wp2_with fail
      go_ret
      exact ⟨_, rfl, by rw [HWD.out]; exact HEND.out, HOE.out⟩
end Go.Proofs.YteikkpiginfbkaaGreatDoor

namespace Go.Proofs.YteikkpiginfbkaaGreatDoor
open Go.RowKit

theorem cut_nl : ∀ r : List UInt8, (noC 10 r ∧ Lib.indexByte r 10 = -1) ∨ ∃ x r', r = x ++ 10 :: r' ∧ noC 10 x ∧ Lib.indexByte r 10 = x.length
  | [] => .inl ⟨(fun b hb => (by cases hb)), rfl⟩
  | c :: r => by
    by_cases hc : c = 10
    · subst hc
      exact .inr ⟨[], r, rfl, (fun b hb => (by cases hb)), by simp [Lib.indexByte]⟩
    · have e : (c == 10) = false := by simpa using hc
      rcases cut_nl r with ⟨h1, h2⟩ | ⟨x, r', rfl, h1, h2⟩
      · refine .inl ⟨fun b hb => ?_, ?_⟩
        · rcases List.mem_cons.1 hb with rfl | hb
          · exact hc
          · exact h1 b hb
        · unfold Lib.indexByte
          rw [e, h2]; rfl
      · refine .inr ⟨c :: x, r', rfl, fun b hb => ?_, ?_⟩
        · rcases List.mem_cons.1 hb with rfl | hb
          · exact hc
          · exact h1 b hb
        · unfold Lib.indexByte
          rw [e, h2]
          have : ¬ ((x.length : Int) == -1) = true := fun e => by have := beq_iff_eq.1 e; omega
          simp only [Bool.false_eq_true, if_false, if_neg this, List.length_cons]
          omega
theorem runL_step {t : St} {p : Nat} {cur r : List UInt8} {c : UInt8} (hc : c ≠ 10) : runL t p cur (c :: r) = runL t p (cur ++ [c]) r := by
  show (if c = 10 then _ else _) = _
  rw [if_neg hc]
theorem runL_none {t : St} {p : Nat} : ∀ {r cur : List UInt8}, noC 10 r → runL t p cur r = if cur ++ r = [] ∧ 4 ≤ t.lines then (0, 0, t) else (12, p, t)
  | [], cur, _ => by rw [List.append_nil]; rfl
  | c :: r, cur, h => by
    have hc : c ≠ 10 := h c List.mem_cons_self
    rw [runL_step hc, runL_none (fun b hb => h b (List.mem_cons_of_mem _ hb))]
    simp
theorem runL_line {t : St} {p : Nat} {r : List UInt8} : ∀ {x cur : List UInt8}, noC 10 x → runL t p cur (x ++ 10 :: r) =
    if (lineZ t (wordsB ⟨(cur ++ x).toArray⟩)).1 = 0 then runL (lineZ t (wordsB ⟨(cur ++ x).toArray⟩)).2 (p + (cur ++ x).length + 1) [] r else ((lineZ t (wordsB ⟨(cur ++ x).toArray⟩)).1, p, t)
  | [], cur, _ => by rw [List.append_nil]; rfl
  | c :: x, cur, h => by
    have hc : c ≠ 10 := h c List.mem_cons_self
    rw [List.cons_append, runL_step hc, runL_line (fun b hb => h b (List.mem_cons_of_mem _ hb))]
    simp only [List.append_assoc, List.singleton_append]
/-- How long the lists of a draw that is being read can be. -/
def StB (t : St) : Prop := t.d.tiers.length ≤ 12 ∧ t.d.places.length ≤ 12 ∧ t.d.quotas.length ≤ 12 ∧ t.d.barred.length ≤ 40
theorem headTo_p {P : St → Prop} {e : Int} {t t' : St} (h : P t) (h' : P t') : P (headTo e t t').2 := by unfold headTo; split <;> assumption
theorem addTo_p {P : St → Prop} {e : Int} {tw : Bool} {n most : Nat} {t t' : St} (h : P t) (h' : n < most → P t') : P (addTo e tw n most t t').2 := by
  unfold addTo
  split
  · split
    · exact h
    · split
      · next hlt => exact h' hlt
      · exact h
  · exact h
theorem lnOf_p (P : St → Prop) (t : St) (ws : List ByteArray) (k : Nat) (h : P t) (hd : ∀ d', d'.tiers = t.d.tiers → d'.places = t.d.places → d'.quotas = t.d.quotas → d'.barred = t.d.barred → P { t with d := d' })
    (h7 : P { t with d := { t.d with roll := true }, rolled := true })
    (h6 : ∀ x, t.d.tiers.length < 12 → P { t with d := { t.d with tiers := t.d.tiers ++ [x] } }) (h8 : ∀ x, t.d.places.length < 12 → P { t with d := { t.d with places := t.d.places ++ [x] } })
    (h9 : ∀ x, t.d.quotas.length < 12 → P { t with d := { t.d with quotas := t.d.quotas ++ [x] } }) (h10 : ∀ x, t.d.barred.length < 40 → P { t with d := { t.d with barred := t.d.barred ++ [x] }, barred := true }) : P (lnOf t ws k).2 := by
  unfold lnOf
  split
  · exact headTo_p h (hd _ rfl rfl rfl rfl)
  · exact headTo_p h (hd _ rfl rfl rfl rfl)
  · exact headTo_p h (hd _ rfl rfl rfl rfl)
  · exact headTo_p h (hd _ rfl rfl rfl rfl)
  · exact headTo_p h (hd _ rfl rfl rfl rfl)
  · exact headTo_p h (hd _ rfl rfl rfl rfl)
  · exact addTo_p h (h6 _)
  · exact headTo_p h h7
  · exact addTo_p h (h8 _)
  · exact addTo_p h (h9 _)
  · exact addTo_p h (h10 _)
  · exact h
theorem lnOf_bd {t : St} (ws : List ByteArray) (k : Nat) (h : StB t) : StB (lnOf t ws k).2 := by
  obtain ⟨a, b, c, d⟩ := h
  refine lnOf_p StB t ws k ⟨a, b, c, d⟩ (fun d' h1 h2 h3 h4 => ⟨?_, ?_, ?_, ?_⟩) ⟨a, b, c, d⟩ (fun x hx => ⟨?_, b, c, d⟩) (fun x hx => ⟨a, ?_, c, d⟩) (fun x hx => ⟨a, b, ?_, d⟩) (fun x hx => ⟨a, b, c, ?_⟩)
  · show d'.tiers.length ≤ 12; rw [h1]; exact a
  · show d'.places.length ≤ 12; rw [h2]; exact b
  · show d'.quotas.length ≤ 12; rw [h3]; exact c
  · show d'.barred.length ≤ 40; rw [h4]; exact d
  · show (t.d.tiers ++ [x]).length ≤ 12; rw [List.length_append, List.length_singleton]; omega
  · show (t.d.places ++ [x]).length ≤ 12; rw [List.length_append, List.length_singleton]; omega
  · show (t.d.quotas ++ [x]).length ≤ 12; rw [List.length_append, List.length_singleton]; omega
  · show (t.d.barred ++ [x]).length ≤ 40; rw [List.length_append, List.length_singleton]; omega
theorem lnOf_lines (t : St) (ws : List ByteArray) (k : Nat) : (lnOf t ws k).2.lines = t.lines :=
  lnOf_p (fun u => u.lines = t.lines) t ws k rfl (fun _ _ _ _ _ => rfl) rfl (fun _ _ => rfl) (fun _ _ => rfl) (fun _ _ => rfl) (fun _ _ => rfl)
theorem key_num {w : ByteArray} (h : numB w = true) : keyOf w = 11 := by
  have e : ∀ k : ByteArray, numB k = false → w ≠ k := fun k hk e => by rw [e, hk] at h; cases h
  unfold keyOf
  rw [if_neg (e _ (by decide)), if_neg (e _ (by decide)), if_neg (e _ (by decide)), if_neg (e _ (by decide)), if_neg (e _ (by decide)), if_neg (e _ (by decide)), if_neg (e _ (by decide)), if_neg (e _ (by decide)), if_neg (e _ (by decide)), if_neg (e _ (by decide)), if_neg (e _ (by decide))]
theorem key_name (ws : List ByteArray) : keyOf (nameV ws 0) = keyOf (wAt ws 0) := by
  unfold nameV
  split
  · next h => rw [key_num h]; rfl
  · rfl
theorem lnOf_none (t : St) (ws : List ByteArray) {k : Nat} (h : ¬ k < 11) : lnOf t ws k = (12, t) := by
  unfold lnOf
  split <;> first | omega | rfl
theorem line_none {t : St} {ws : List ByteArray} (h : ¬ keyOf (wAt ws 0) < 11) : lineZ t ws = (12, t) := by
  unfold lineZ
  rw [lnOf_none _ _ h]; rfl
theorem line_err {t : St} {ws : List ByteArray} {e : Int} (h : (lnOf t ws (keyOf (wAt ws 0))).1 = e) (he : e ≠ 0) : (lineZ t ws).1 = e := by
  unfold lineZ
  rw [if_neg (by rw [h]; exact he)]; exact h
theorem line_ok {t : St} {ws : List ByteArray} (h : (lnOf t ws (keyOf (wAt ws 0))).1 = 0) : lineZ t ws = (0, { (lnOf t ws (keyOf (wAt ws 0))).2 with lines := t.lines + 1 }) := by
  unfold lineZ
  rw [if_pos h, lnOf_lines]
end Go.Proofs.YteikkpiginfbkaaGreatDoor

namespace Go.Proofs.YteikkpiginfbkaaGreatDoor
open Go.RowKit Go.Maps

theorem Tryz.zeroFn (w : World) : (zeroValue 125).run Tryz.prog w = .ok .nilFunc w := by kernel_rfl
theorem call_any (base B : Nat) (pos : Int) (t : St) (vt vp vq vb sv : Value) (ws : List ByteArray) (w : World) (k : Nat) (hk : k < 11) (hR : RdAt base w B t pos vt vp vq vb) (hp : PrtAt w sv ws) (hb : base ≤ w.heap.size) (hS : StB t) :
    Calls Tryz.prog (fnOf k) #[.pointer (some ⟨B, 0, none⟩), sv] w fun e w' => LineR base B pos vt vp vq vb (lnOf t ws k) w e w' := by
  obtain ⟨h1, h2, h3, h4⟩ := hS
  match k, hk with
  | 0, _ => exact draw_any base B pos t vt vp vq vb sv ws w hR hp
  | 1, _ => exact lottery_any base B pos t vt vp vq vb sv ws w hR hp
  | 2, _ => exact ballot_any base B pos t vt vp vq vb sv ws w hR hp
  | 3, _ => exact panel_any base B pos t vt vp vq vb sv ws w hR hp
  | 4, _ => exact round_any base B pos t vt vp vq vb sv ws w hR hp
  | 5, _ => exact price_any base B pos t vt vp vq vb sv ws w hR hp
  | 6, _ => exact tier_any base B pos t vt vp vq vb sv ws w hR hp hb (by omega)
  | 7, _ => exact roll_any base B pos t vt vp vq vb sv ws w hR hp
  | 8, _ => exact place_any base B pos t vt vp vq vb sv ws w hR hp hb (by omega)
  | 9, _ => exact quota_any base B pos t vt vp vq vb sv ws w hR hp hb (by omega)
  | 10, _ => exact bar_any base B pos t vt vp vq vb sv ws w hR hp hb (by omega)
  | k + 11, h => omega
theorem call_enter (k : Nat) (hk : k < 11) (a b : Value) (w : World) : (callFunc (fnOf k) #[a, b]).run Tryz.prog w = .ok (.enter (fnOf k) #[a, b]) w := by
  match k, hk with
  | 0, _ => exact (show (callFunc 93 #[a, b]).run Tryz.prog w = .ok (.enter 93 #[a, b]) w by kernel_rfl)
  | 1, _ => exact (show (callFunc 94 #[a, b]).run Tryz.prog w = .ok (.enter 94 #[a, b]) w by kernel_rfl)
  | 2, _ => exact (show (callFunc 95 #[a, b]).run Tryz.prog w = .ok (.enter 95 #[a, b]) w by kernel_rfl)
  | 3, _ => exact (show (callFunc 96 #[a, b]).run Tryz.prog w = .ok (.enter 96 #[a, b]) w by kernel_rfl)
  | 4, _ => exact (show (callFunc 97 #[a, b]).run Tryz.prog w = .ok (.enter 97 #[a, b]) w by kernel_rfl)
  | 5, _ => exact (show (callFunc 98 #[a, b]).run Tryz.prog w = .ok (.enter 98 #[a, b]) w by kernel_rfl)
  | 6, _ => exact (show (callFunc 99 #[a, b]).run Tryz.prog w = .ok (.enter 99 #[a, b]) w by kernel_rfl)
  | 7, _ => exact (show (callFunc 100 #[a, b]).run Tryz.prog w = .ok (.enter 100 #[a, b]) w by kernel_rfl)
  | 8, _ => exact (show (callFunc 101 #[a, b]).run Tryz.prog w = .ok (.enter 101 #[a, b]) w by kernel_rfl)
  | 9, _ => exact (show (callFunc 102 #[a, b]).run Tryz.prog w = .ok (.enter 102 #[a, b]) w by kernel_rfl)
  | 10, _ => exact (show (callFunc 103 #[a, b]).run Tryz.prog w = .ok (.enter 103 #[a, b]) w by kernel_rfl)
  | k + 11, h => omega
theorem TabAt.only {w w' : World} {M : Nat} {S : Nat → Prop} (h : TabAt w M) (hO : Only S w w') (hM : ¬ S M) : TabAt w' M := by
  obtain ⟨es, clock, hb, rest⟩ := h
  exact ⟨es, clock, (hO.block M (Array.getElem?_eq_some_iff.1 hb).1 hM).trans hb, rest⟩
theorem rdS_tab {base B M : Nat} {w : World} {t : St} {pos : Int} {vt vp vq vb : Value} (h : RdAt base w B t pos vt vp vq vb) (hT : TabAt w M) : ¬ RdS B vt vp vq vb M := by
  obtain ⟨es, clock, hb, _⟩ := hT
  rintro (e | e | e | e | e)
  · rw [e, h.blk] at hb; cases hb
  · obtain ⟨c, hc⟩ := ownR_ty h.tiers e; rw [hc] at hb; cases hb
  · obtain ⟨c, hc⟩ := ownR_ty h.places e; rw [hc] at hb; cases hb
  · obtain ⟨c, hc⟩ := ownR_ty h.quotas e; rw [hc] at hb; cases hb
  · obtain ⟨c, hc⟩ := ownR_ty h.bars e; rw [hc] at hb; cases hb
theorem rdS_only {base B : Nat} {w wr wr' : World} {t : St} {pos : Int} {vt vp vq vb : Value} (h : RdAt base wr B t pos vt vp vq vb) (hb : w.heap.size ≤ base) (hO : Only (fun k => k = B) w wr) (hS : Only (RdS B vt vp vq vb) wr wr') : Only (fun k => k = B) w wr' :=
  hO.trans' hS (fun i hi e => by
    rcases e with e | e | e | e | e
    · exact e
    · have := ownR_ge h.tiers e; omega
    · have := ownR_ge h.places e; omega
    · have := ownR_ge h.quotas e; omega
    · have := ownR_ge h.bars e; omega)
/-- What reading leaves. -/
def ReadRu (B : Nat) (q : Int × Nat × St) (w : World) (e : Ending) (w' : World) : Prop :=
  Only (fun k => k = B) w w' ∧ ((q.1 = 0 ∧ e = .returned (.tuple #[]) ∧ ∃ p vt vp vq vb, RdAt w.heap.size w' B q.2.2 p vt vp vq vb) ∨ (q.1 ≠ 0 ∧ e = .panicked (faultC q.2.1 q.1)))
section
variable {ops : Array Oper} {rest : List Oper} {o : Oper} {a : Act} {Q : Exit → Act → World → Prop}
theorem wpList_tab_yes (w : World) (hg : o.guard = none) (m x : Operand) (hop : o.op = Op.lookup 122 m x true) (M : Nat) (hm : a.eval m = .map (some M)) (hT : TabAt w M) (nm : ByteArray) (hx : a.eval x = .string nm)
    (hsz : nm.size ≤ 1000000) (k : Nat) (hk : keyOf nm = k) (hlt : k < 11) (F : Nat) (hF : fnOf k = F) (hK : wpList Tryz.prog ops Q rest (a.put o.dst (.tuple #[.func (.func F) #[] #[], .bool true])) w) : wpList Tryz.prog ops Q (o :: rest) a w := by
  refine wpList_lookup_own_ok w hg m x _ hop 9 125 Tryz.keyS Tryz.underlying122 fnElem (Tryz.zeroFn w) .nil [] rfl M 11 tabD hm hT _ _ hx (WideMaps.keyOf_string_mk Tryz.underlying9 (by unfold maxLen; omega)) ?_
  intro v ps hv
  rw [tab_has, hk, show decide (k < 11) = true by simpa using hlt]
  rw [tab_look, hk, if_pos hlt] at hv
  obtain ⟨n, hn, rfl⟩ := fnElem_inv hv
  obtain rfl : F = n := by rw [hF] at hn; exact Int.ofNat_inj.1 hn
  exact hK
theorem wpList_tab_no (w : World) (hg : o.guard = none) (m x : Operand) (hop : o.op = Op.lookup 122 m x true) (M : Nat) (hm : a.eval m = .map (some M)) (hT : TabAt w M) (nm : ByteArray) (hx : a.eval x = .string nm)
    (hsz : nm.size ≤ 1000000) (hlt : ¬ keyOf nm < 11) (hK : ∀ v, wpList Tryz.prog ops Q rest (a.put o.dst (.tuple #[v, .bool false])) w) : wpList Tryz.prog ops Q (o :: rest) a w := by
  refine wpList_lookup_own_ok w hg m x _ hop 9 125 Tryz.keyS Tryz.underlying122 fnElem (Tryz.zeroFn w) .nil [] rfl M 11 tabD hm hT _ _ hx (WideMaps.keyOf_string_mk Tryz.underlying9 (by unfold maxLen; omega)) ?_
  intro v ps hv
  rw [tab_has, show decide (keyOf nm < 11) = false by simpa using hlt]
  exact hK v
end
theorem wAt_mem {ws : List ByteArray} (h : 0 < ws.length) : wAt ws 0 ∈ ws := by rw [← wAt_get h]; exact List.getElem_mem h
theorem nameV_size {ws : List ByteArray} {n : Nat} (h : 0 < ws.length) (hl : ∀ P ∈ ws, P.size ≤ n) : (nameV ws 0).size ≤ n := by
  unfold nameV
  split
  · exact Nat.zero_le _
  · exact hl _ (wAt_mem h)
set_option maxRecDepth 100000 in
set_option maxHeartbeats 8000000 in
theorem read_any (B : Nat) (s : ByteArray) (w : World) (hR : RdAt w.heap.size w B st0 0 (.slice none 0 0) (.slice none 0 0) (.slice none 0 0) (.slice none 0 0)) (hs : s.size ≤ 4000) (hm : LenR w) (hB : 0 ≠ B) :
    Calls Tryz.prog 34 #[.pointer (some ⟨B, 0, none⟩), .string s] w fun e w' => ReadRu B (runL st0 0 [] s.data.toList) w e w' := by
  have HT := Lib.hid (table_any w)
  have HR := Lib.hid hR
  have HM := Lib.hid hm
  obtain ⟨q, hq⟩ : ∃ q, runL st0 0 [] s.data.toList = q := ⟨_, rfl⟩
  rw [hq]
  have HQ := Lib.hid hq
  have hlen : s.data.toList.length = s.size := Array.length_toList
  have HL := Lib.hid hlen
  clear hR hm hq hlen
  go_enter Tryz.func34, Tryz.ntmps34
  go_wp2_with fail
  refine HT.out.mono ?_
  rintro e w1 ⟨M, rfl, hT, hMs, hO1⟩
  have HT1 := Lib.hid hT
  have HR1 := Lib.hid (HR.out.still hO1)
  have HO1 := Lib.hid (hO1.mono (T := fun k => k = B) (fun _ _ h => h.elim))
  clear hT hO1 HT
  go_wp2_with fail
  go_loopg [5] (s.size) (fun k _ wr => ∃ (p : Nat) (t : St) (vt vp vq vb : Value), k = s.size - p ∧ p ≤ s.size ∧ RdAt w.heap.size wr B t p vt vp vq vb ∧ TabAt wr M ∧ Only (fun k => k = B) w wr ∧ runL t p [] (s.data.toList.drop p) = q ∧ StB t ∧ 0 ≤ t.lines ∧ t.lines ≤ p)
  case atStart => exact ⟨0, st0, _, _, _, _, rfl, Nat.zero_le _, HR1.out, HT1.out, HO1.out, HQ.out, ⟨by decide, by decide, by decide, by decide⟩, by decide, by decide⟩
  case round =>
    obtain ⟨p, t, vt, vp, vq, vb, hgk, hp, hRr, hTr, hOr, hqr, hSr, hl0, hl1⟩ := hrel
    have HG := Lib.hid hgk
    have HRr := Lib.hid hRr
    have HTr := Lib.hid hTr
    have HOr := Lib.hid hOr
    have HSr := Lib.hid hSr
    have HQr := Lib.hid hqr
    have c13 : wr.cell? ⟨B, 13, none⟩ = some (.int .i64 p) := hRr.cell 13 rfl
    have hbase : w.heap.size ≤ wr.heap.size := hOr.size
    clear hgk hRr hTr hOr hSr hqr HR1 HT1 HO1
    by_cases hlt : p < s.size
    · have j1 : (p : Int) < s.size := by omega
      have j2 : 0 ≤ (p : Int) := by omega
      have HIX := Lib.hid (Tryz.strings_IndexByte (s.extract p s.size) 10 wr)
      rw [Lib.extract_to_end] at HIX
      have HCUT := Lib.hid (cut_nl (s.data.toList.drop p))
      have HLD := Lib.hid (show (s.data.toList.drop p).length = s.size - p by rw [List.length_drop, HL.out])
      obtain ⟨r, hr⟩ : ∃ r, s.data.toList.drop p = r := ⟨_, rfl⟩
      rw [hr] at HIX HCUT HQr HLD
      have HRD := Lib.hid hr
      clear hr
      rcases HCUT.out with ⟨hno, hix⟩ | ⟨x, r', hrx, hno, hix⟩
      · have HQE := Lib.hid (show q = (12, p, t) by
          rw [← HQr.out, runL_none hno, if_neg]
          rintro ⟨h1, _⟩
          have h2 := HLD.out
          rw [show r = [] from h1] at h2
          simp at h2; omega)
        have hix2 : Lib.indexByte r (10 : Int).toNat.toUInt8 = -1 := hix
        rw [hix2] at HIX
        have HNE := Lib.hid (need_no B p 12 wr c13)
        clear hix hix2 hno
        go_wp2_with fail
        refine HIX.out.mono ?_
        rintro e w' ⟨rfl, hw'⟩
        obtain rfl := hw'.symm
        clear hw'
        go_wp2_with fail
        refine HNE.out.mono ?_
        rintro e w' ⟨rfl, rfl⟩
        go_wp2_with fail
        exact ⟨rfl, HOr.out, .inr ⟨by rw [HQE.out]; exact (show (12 : Int) ≠ 0 by decide), by rw [HQE.out]⟩⟩
      · have hix2 : Lib.indexByte r (10 : Int).toNat.toUInt8 = x.length := hix
        rw [hix2] at HIX
        have hxl : x.length + 1 + p ≤ s.size := by
          have h2 := HLD.out
          rw [hrx] at h2
          simp at h2; omega
        have HX := Lib.hid (show s.extract p (p + x.length) = ⟨x.toArray⟩ from tl_inj (by rw [Lib.extract_data, HRD.out, hrx, Nat.add_sub_cancel_left, List.take_left]))
        have HRN := Lib.hid (show s.data.toList.drop (p + (x.length + 1)) = r' by rw [← List.drop_drop, HRD.out, hrx, ← List.drop_drop, List.drop_left]; rfl)
        have HQL := Lib.hid (HQr.out.symm.trans ((congrArg (runL t p []) hrx).trans (runL_line (cur := []) hno)))
        rw [List.nil_append] at HQL
        have hsx : (⟨x.toArray⟩ : ByteArray).size = x.length := by simp [ByteArray.size]
        have HPT := Lib.hid (fun W (hW : W.cell? ⟨B, 13, none⟩ = some (.int .i64 p) ∧ Only (fun _ => False) wr W) => show Calls Tryz.prog 55 #[.string (s.extract p (p + x.length))] W (fun e wT => (∃ v, e = .returned v ∧ wT.ownsRow wr.heap.size 20 1 v (wordsB ⟨x.toArray⟩).length ((wordsB ⟨x.toArray⟩).map partV)) ∧ wT.cell? ⟨B, 13, none⟩ = some (.int .i64 p) ∧ Only (fun _ => False) wr wT) from by
          rw [HX.out]
          refine (parts_any ⟨x.toArray⟩ W (by rw [hsx]; omega) ((HM.out.only HOr.out hB).only hW.2 (fun h => h))).mono ?_
          rintro e wT ⟨v, rfl, hv, hT⟩
          exact ⟨⟨v, rfl, ownR_base hv hW.2.size⟩, hT.cell hW.1 (fun h => h), hW.2.trans hT⟩)
        have HKS := Lib.hid (show ∀ W, Only (fun _ => False) wr W → (W.cell? ⟨B, 13, none⟩ = some (.int .i64 p) ∧ Only (fun _ => False) wr W) from fun W h => ⟨h.cell c13 id, h⟩)
        have e1 : IntKind.i64.wrap ((p : Int) + x.length) = (p : Int) + x.length := IntWalk.i64_in _ (by omega)
        have e2 : 0 ≤ (p : Int) + x.length := by omega
        have e3 : ((p : Int) + x.length).toNat = p + x.length := by omega
        have e4 : (p : Int) + x.length ≤ s.size := by omega
        have e5 : (p : Int) ≤ (p : Int) + x.length := by omega
        have hws := words_pos ⟨x.toArray⟩
        have hwl := fun P (h : P ∈ wordsB ⟨x.toArray⟩) => words_le ⟨x.toArray⟩ P h
        rw [hsx] at hwl
        obtain ⟨ws, hwz⟩ : ∃ ws, wordsB ⟨x.toArray⟩ = ws := ⟨_, rfl⟩
        rw [hwz] at HPT HQL hws hwl
        have hns := nameV_size (n := x.length) hws hwl
        clear hix hix2 hno hrx hwz hsx hwl
        go_wp2_with fail
        refine HIX.out.mono ?_
        rintro e w' ⟨rfl, hw'⟩
        obtain rfl := hw'.symm
        clear hw'
        go_wp2_with fail
        refine (need_ok B 12 wr).mono ?_
        rintro e w' ⟨rfl, rfl⟩
        go_wp2_with fail
        go_region_held3 (fun W => W.cell? ⟨B, 13, none⟩ = some (.int .i64 p) ∧ Only (fun _ => False) wr W)
          (first | with_reducible exact HKS.out _ ((Only.refl _ wr).drew) | with_reducible exact hSK)
          ((go_at_call 55; refine (HPT.out _ (by assumption)).mono ?_; rintro e wK ⟨⟨v, rfl, hvK⟩, hSK⟩))
        clear e1 e3
        have HPK := Lib.hid (prt_of_own hvK hws)
        have HRK := Lib.hid (HRr.out.still hSK.2)
        have HTK := Lib.hid (HTr.out.only hSK.2 (fun h => h))
        have HOK := Lib.hid (HOr.out.trans' hSK.2 (fun _ _ h => h.elim))
        have HNM := Lib.hid (name_any v ws 0 (nameV ws 0) wK HPK.out hws rfl)
        have HKN := Lib.hid (key_name ws)
        have c13 := hSK.1
        have hbK := HOK.out.size
        have HNE := Lib.hid (need_no B p 12 wK c13)
        obtain ⟨nm, hnm⟩ : ∃ nm, nameV ws 0 = nm := ⟨_, rfl⟩
        rw [hnm] at HNM HKN hns
        clear hvK hSK HIX HPT HKS hnm
        by_cases hk : keyOf nm < 11
        · have HK := Lib.hid (HKN.out)
          obtain ⟨kk, hkk⟩ : ∃ kk, keyOf nm = kk := ⟨_, rfl⟩
          rw [hkk] at hk HK
          obtain ⟨F, hF⟩ : ∃ F, fnOf kk = F := ⟨_, rfl⟩
          have HCL := Lib.hid (call_any w.heap.size B p t vt vp vq vb v ws wK kk hk HRK.out HPK.out hbK HSr.out)
          have hen := fun W => call_enter kk hk (.pointer (some ⟨B, 0, none⟩)) v W
          rw [hF] at HCL hen
          have HQ1 := Lib.hid (fun (h : (lnOf t ws kk).1 ≠ 0) => show q = ((lnOf t ws kk).1, p, t) by
            have h2 : (lnOf t ws (keyOf (wAt ws 0))).1 = (lnOf t ws kk).1 := by rw [HK.out]
            have h3 := line_err h2 h
            rw [HQL.out, if_neg (by rw [h3]; exact h), h3])
          have HQ0 := Lib.hid (fun (h : (lnOf t ws kk).1 = 0) => show q = runL { (lnOf t ws kk).2 with lines := (lnOf t ws kk).2.lines + 1 } (p + x.length + 1) [] r' by
            have h3 := line_ok (t := t) (ws := ws) (by rw [← HK.out]; exact h)
            rw [HQL.out, h3, ← HK.out, lnOf_lines]; rfl)
          have HLN := Lib.hid (lnOf_lines t ws kk)
          have HBD := Lib.hid (lnOf_bd ws kk HSr.out)
          have HKK := Lib.hid hkk
          have HFF := Lib.hid hF
          have HLT := Lib.hid hk
          generalize lnOf t ws kk = rr at *
          clear hkk hF hk HK HKN HQL c13
          go_wp2_with fail
          refine HNM.out.mono ?_
          rintro e w' ⟨rfl, rfl⟩
          go_wp2_with (at_lookup; refine wpList_tab_yes _ rfl _ _ rfl M rfl HTK.out nm rfl (by omega) kk HKK.out HLT.out F HFF.out ?_)
          refine (need_ok B 12 wK).mono ?_
          rintro e w' ⟨rfl, rfl⟩
          go_wp2_with fail
          refine HCL.out.mono ?_
          rintro e w5 ⟨hO5, ⟨hz, rfl, vt', vp', vq', vb', hR5⟩ | ⟨hz, rfl⟩⟩
          · have HR5 := Lib.hid hR5
            have HO5 := Lib.hid (rdS_only HRK.out (Nat.le_refl _) HOK.out hO5)
            have HT5 := Lib.hid (HTK.out.only hO5 (rdS_tab HRK.out HTK.out))
            have HQE := Lib.hid (HQ0.out hz)
            have hll := HLN.out
            obtain ⟨m0, m1⟩ : 0 ≤ rr.2.lines ∧ rr.2.lines ≤ p := by omega
            have k13 : w5.cell? ⟨B, 13, none⟩ = some (.int .i64 p) := hR5.cell 13 rfl
            have k14 : w5.cell? ⟨B, 14, none⟩ = some (.int .i64 rr.2.lines) := hR5.cell 14 rfl
            have z13 := hR5.frz 13
            have z14 := hR5.frz 14
            clear hR5 hO5 hz hll
            go_wp2_with fail
            go_roundg (s.size - (p + (x.length + 1)))
            case measure => have := HG.out; omega
            case rel =>
              refine ⟨p + (x.length + 1), { rr.2 with lines := rr.2.lines + 1 }, vt', vp', vq', vb', rfl, by omega, ?_, ?_, ?_, ?_, HBD.out, ?_, ?_⟩
              · exact ((HR5.out.set (t' := { rr.2 with lines := rr.2.lines + 1 }) 14 _ rfl rfl rfl rfl rfl).set 13 _ (by simp [rdCells]) rfl rfl rfl rfl)
              · exact (HT5.out.only (S := fun k => k = B) (((Only.refl (fun k => k = B) w5).setCell (p := ⟨B, 14, none⟩) (.inl rfl) _).setCell (p := ⟨B, 13, none⟩) (.inl rfl) _) (fun e => by have := rdS_tab HR5.out HT5.out; exact this (.inl e)))
              · exact ((HO5.out.setCell (.inl rfl) _).setCell (.inl rfl) _)
              · rw [HRN.out]; exact HQE.out.symm
              · show 0 ≤ rr.2.lines + 1; omega
              · show rr.2.lines + 1 ≤ ((p + (x.length + 1) : Nat) : Int); omega
          · have HO5 := Lib.hid (rdS_only HRK.out (Nat.le_refl _) HOK.out hO5)
            have HQE := Lib.hid (HQ1.out hz)
            have HZ := Lib.hid hz
            clear hO5 hz
            go_wp2_with fail
            exact ⟨rfl, HO5.out, .inr ⟨by rw [HQE.out]; exact HZ.out, by rw [HQE.out]⟩⟩
        · have HQE := Lib.hid (show q = (12, p, t) by rw [HQL.out, line_none (by rw [← HKN.out]; exact hk)]; rfl)
          have HLT := Lib.hid hk
          clear hk HKN HQL c13
          go_wp2_with fail
          refine HNM.out.mono ?_
          rintro e w' ⟨rfl, rfl⟩
          go_wp2_with (at_lookup; refine wpList_tab_no _ rfl _ _ rfl M rfl HTK.out nm rfl (by omega) HLT.out ?_; intro v0)
          refine HNE.out.mono ?_
          rintro e w' ⟨rfl, rfl⟩
          go_wp2_with fail
          exact ⟨rfl, HOK.out, .inr ⟨by rw [HQE.out]; exact (show (12 : Int) ≠ 0 by decide), by rw [HQE.out]⟩⟩
    · obtain rfl : p = s.size := by omega
      have j1 : ¬ (s.size : Int) < s.size := by omega
      have HQE := Lib.hid (show q = if 4 ≤ t.lines then (0, 0, t) else (12, s.size, t) by
        rw [← HQr.out, List.drop_of_length_le (by rw [HL.out]; exact Nat.le_refl _)]
        show (if ([] : List UInt8) = [] ∧ 4 ≤ t.lines then _ else _) = _
        simp)
      have c14 : wr.cell? ⟨B, 14, none⟩ = some (.int .i64 t.lines) := HRr.out.cell 14 rfl
      have HNE := Lib.hid (need_no B s.size 12 wr c13)
      clear hlt hp
      by_cases h4 : 4 ≤ t.lines
      · have HQ2 := Lib.hid (show q = (0, 0, t) by rw [HQE.out, if_pos h4])
        clear hl1
        generalize t.lines = n at *
        go_wp2_with fail
        refine (need_ok B 12 wr).mono ?_
        rintro e w' ⟨rfl, rfl⟩
        go_wp2_with fail
        go_end0
        exact ⟨HOr.out, .inl ⟨by rw [HQ2.out], rfl, _, vt, vp, vq, vb, by rw [HQ2.out]; exact HRr.out⟩⟩
      · have HQ2 := Lib.hid (show q = (12, s.size, t) by rw [HQE.out, if_neg h4])
        clear hl1
        generalize t.lines = n at *
        go_wp2_with fail
        refine HNE.out.mono ?_
        rintro e w' ⟨rfl, rfl⟩
        go_wp2_with fail
        exact ⟨rfl, HOr.out, .inr ⟨by rw [HQ2.out]; exact (show (12 : Int) ≠ 0 by decide), by rw [HQ2.out]⟩⟩
end Go.Proofs.YteikkpiginfbkaaGreatDoor
