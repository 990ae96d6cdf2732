/-
  The walk of the law WeightOwn.
-/
import Derived.Test.YtalclldccnichaaGreatPtsOwn
import Derived.Test.YtalclldccnichaaGreatAgain
import Derived.Test.YtalclldccnichaaGreatWtF
import Derived.Test.YtalclldccnichaaGreatJnLaw
import Derived.Test.YtalclldccnichaaGreatOpen
namespace Go.Proofs.YtalclldccnichaaGreat
open Go.RowKit

theorem own_form' {w : World} {base e size n : Nat} {v : Value} {xs : List Value} (h : w.ownsRow base e size v n xs) (hn : 0 < n) : ∃ g cap, v = .slice (some ⟨g, 0, none⟩) n cap ∧ g < w.heap.size ∧ n ≤ cap ∧ cap ≤ 9223372036854775807 ∧ base ≤ g := by
  rcases h.2 with ⟨_, h0⟩ | ⟨g, cap, cur, rfl, hb, hg, hcap, hcap2, _⟩
  · omega
  · unfold maxLen at hcap2
    exact ⟨g, cap, rfl, (Array.getElem?_eq_some_iff.1 hg).1, hcap, by omega, hb⟩
theorem own_cellU {w : World} {base e g n cap i : Nat} {xs : List Value} (h : w.ownsRow base e 1 (.slice (some ⟨g, 0, none⟩) n cap) n xs) (hi : i < n) :
    g < w.heap.size ∧ n ≤ cap ∧ cap ≤ 9223372036854775807 ∧ w.cell? ⟨g, i, none⟩ = some (xs.getD i undef) := by
  rcases h.2 with ⟨hn, _⟩ | ⟨g', cap', cur, hv, hb, hg, hcap, hcap2, hsz, htk⟩
  · simp at hn
  · simp only [Value.slice.injEq, Option.some.injEq, Addr.mk.injEq, and_true, true_and] at hv
    obtain ⟨rfl, rfl⟩ := hv
    unfold maxLen at hcap2
    refine ⟨(Array.getElem?_eq_some_iff.1 hg).1, hcap, by omega, ?_⟩
    rw [cell_of_row w g i cur e (0, 0) hg]
    have hl := h.1
    have h1 : xs[i]? = some (xs.getD i undef) := by simp [List.getD, (show i < xs.length by omega)]
    rw [← h1, ← htk, List.getElem?_take_of_lt (by omega)]
    simp
theorem row_put {W : World} {b n g k : Nat} {v : Value} {L : List Int} (h : W.ownsRow b 3 1 v n (irow L)) : ∃ L', L'.length = L.length ∧ (W.setCell ⟨g, k, none⟩ (.int .i64 0)).ownsRow b 3 1 v n (irow L') := by
  by_cases e : v.ownBlock = some g
  · have h2 := h
    rcases h.2 with ⟨rfl, _⟩ | ⟨g', cap, cur, rfl, _⟩
    · simp [Value.ownBlock] at e
    · obtain rfl : g' = g := by simpa [Value.ownBlock] using e
      refine ⟨L.set k 0, List.length_set .., ?_⟩
      rw [← irow_set]
      exact own_set' h2 _
  · exact ⟨L, rfl, ownsRow_setCell_other h (by simpa using e) _⟩
/-- Keys that no one else holds, and what else stays. -/
structure OwAt (w3 W : World) (A : Nat) (vc vp : Value) (n : Nat) (us : List Value) (rows : List (List Int)) : Prop where
  cm : ∃ L, L.length = n ∧ W.ownsRow w3.heap.size 3 1 vc n (irow L)
  out : W.ownsRow w3.heap.size 22 1 vp us.length us
  own : ∀ j, j < us.length → ∃ R, R.length = (rows.getD j []).length ∧ W.ownsRow w3.heap.size 3 1 (us.getD j undef) (rows.getD j []).length (irow R)
  blk : W.heap[A]? = some (.cells #[vc, vp] 28 (0, 0))
  only : Only (fun _ => False) w3 W
theorem OwAt.put {w3 W : World} {A n m k g cap : Nat} {vc vp : Value} {us : List Value} {rows : List (List Int)} {R : List Int} (h : OwAt w3 W A vc vp n us rows) (hr : W.ownsRow w3.heap.size 3 1 (.slice (some ⟨g, 0, none⟩) m cap) m (irow R)) :
    OwAt w3 (W.setCell ⟨g, k, none⟩ (.int .i64 0)) A vc vp n us rows := by
  have hob : (Value.slice (some ⟨g, 0, none⟩) m cap).ownBlock = some g := rfl
  have hge := own_low' hr hob
  refine ⟨?_, ownsRow_setCell_other h.out ?_ _, fun j hj => ?_, ?_, h.only.setCell (.inr hge) _⟩
  · obtain ⟨L, hl, ho⟩ := h.cm
    obtain ⟨L', hl', ho'⟩ := row_put (g := g) (k := k) ho
    exact ⟨L', by omega, ho'⟩
  · have := own_ne_ty hr h.out (by decide) g hob
    simpa using this
  · obtain ⟨L, hl, ho⟩ := h.own j hj
    obtain ⟨L', hl', ho'⟩ := row_put (g := g) (k := k) ho
    exact ⟨L', by omega, ho'⟩
  · have hne := own_ne_blk hr h.blk (by decide)
    rw [hob] at hne
    exact ((Only.refl (fun i => i = g) W).setCell (p := ⟨g, k, none⟩) (.inl rfl) _).block A (own_lt0 h.blk) (fun e => hne (by rw [e])) |>.trans h.blk
theorem ow_end {W : World} {B : Nat} {vc vp : Value} {KC : List Int} {rows : List (List Int)} (hB : W.heap[B]? = some (.cells #[.slice none 0 0, .slice none 0 0] 28 (0, 0))) (hP : PtsAt W.heap.size W vc KC) (hG : GridAt W vp rows) (hne : ∀ j, j < rows.length → 0 < (rows.getD j []).length) :
    ((W.setCell ⟨B, 0, none⟩ vc).setCell ⟨B, 1, none⟩ vp).heap[B]? = some (.cells #[vc, vp] 28 (0, 0)) ∧ PtsAt ((W.setCell ⟨B, 0, none⟩ vc).setCell ⟨B, 1, none⟩ vp).heap.size ((W.setCell ⟨B, 0, none⟩ vc).setCell ⟨B, 1, none⟩ vp) vc KC ∧ GridAt ((W.setCell ⟨B, 0, none⟩ vc).setCell ⟨B, 1, none⟩ vp) vp rows := by
  have hA : Only (fun k => k = B) W ((W.setCell ⟨B, 0, none⟩ vc).setCell ⟨B, 1, none⟩ vp) := ((Only.refl (fun k => k = B) W).setCell (p := ⟨B, 0, none⟩) (.inl rfl) vc).setCell (p := ⟨B, 1, none⟩) (.inl rfl) vp
  exact ⟨heap_setCell_same _ B 1 _ _ _ (heap_setCell_same _ B 0 _ _ _ hB), pts_kept hA (keys_empty hB).1 hP, grid_kept hA (keys_empty hB).1 (keys_empty hB).2 hne hG⟩
/-- Fresh keys in a block. -/
def OwMid (w7 wx : World) (KC : List Int) (rows : List (List Int)) (v : Value) : Prop := ∃ B vc vp, v = .pointer (some ⟨B, 0, none⟩) ∧ wx.heap[B]? = some (.cells #[vc, vp] 28 (0, 0)) ∧ PtsAt wx.heap.size wx vc KC ∧ GridAt wx vp rows ∧ Only (fun _ => False) w7 wx
theorem ow_mid1 {w7 wE : World} {vc vp : Value} {KC : List Int} {rows : List (List Int)} (hP : PtsAt wE.heap.size wE vc KC) (hG : GridAt wE vp rows) (hO : Only (fun _ => False) w7 wE) :
    OwMid w7 (wE.alloc (.cells #[vc, vp] 28)) KC rows (.pointer (some ⟨wE.heap.size, 0, none⟩)) :=
  have hA : Only (fun _ => False) wE (wE.alloc (.cells #[vc, vp] 28)) := (Only.refl _ wE).alloc _
  ⟨_, vc, vp, rfl, heap_alloc_last wE _, hP.only hA, hG.only hA, hO.trans hA⟩
theorem ow_mid2 {w7 wE : World} {B : Nat} {vc vp : Value} {KC : List Int} {rows : List (List Int)} (hB : wE.heap[B]? = some (.cells #[.slice none 0 0, .slice none 0 0] 28 (0, 0))) (hP : PtsAt wE.heap.size wE vc KC) (hG : GridAt wE vp rows) (hne : ∀ j, j < rows.length → 0 < (rows.getD j []).length)
    (hge : w7.heap.size ≤ B) (hO : Only (fun _ => False) w7 wE) : OwMid w7 ((wE.setCell ⟨B, 0, none⟩ vc).setCell ⟨B, 1, none⟩ vp) KC rows (.pointer (some ⟨B, 0, none⟩)) := by
  obtain ⟨h1, h2, h3⟩ := ow_end hB hP hG hne
  exact ⟨B, vc, vp, rfl, h1, h2, h3, (hO.setCell (.inr hge) _).setCell (.inr hge) _⟩
theorem Tryz.fieldL (a0 : Option Addr) (n0 c0 : Nat) (a1 : Option Addr) (n1 c1 : Nat) (a2 : Option Addr) (n2 c2 : Nat) (a3 : Option Addr) (n3 c3 : Nat) (a4 : Option Addr) (n4 c4 : Nat) (w : World) : (Instr.field 30 (.agg #[.slice a0 n0 c0, .slice a1 n1 c1, .slice a2 n2 c2, .slice a3 n3 c3, .slice a4 n4 c4]) 0).run Tryz.prog w = .ok (.slice a0 n0 c0) w := by kernel_rfl
theorem choZ_w (zs : List Int) (n nd : Nat) (h : nd ≤ n) (hn : n ≤ 60) : IntsW (choZ zs n nd) := ⟨fun j => by
  by_cases hj : j < (choZ zs n nd).length
  · have : ptAt (choZ zs n nd) j = (choZ zs n nd)[j] := by simp [ptAt, List.getD, hj]
    have := choZ_mem zs n nd h _ (List.getElem_mem hj)
    omega
  · have : ptAt (choZ zs n nd) j = 0 := by unfold ptAt; rw [List.getD_eq_getElem?_getD, List.getElem?_eq_none (by omega)]; rfl
    omega⟩

set_option maxRecDepth 100000 in
set_option maxHeartbeats 4000000 in
theorem ow_walk (lv : Value) (zs : List Int) (w : World) (hl : PtsAt w.heap.size w lv zs)
    (hlc : ∃ a c, lv = .slice a zs.length c ∧ zs.length ≤ c ∧ c ≤ 9223372036854775807) :
    Calls Tryz.prog 5 #[lv] w fun e w' => e = .returned (.bool true) ∧ Below w.heap.size w w' := by
  obtain ⟨la, lc, rfl, hl1, hl2⟩ := hlc
  have HL := Lib.hid hl
  go_enter Tryz.func5, Tryz.ntmps5
  go_wp2_with fail
  refine (sanity_any _).mono ?_
  rintro e w1 ⟨rfl, hO1⟩
  have HO1 := Lib.hid hO1
  clear hO1
  go_wp2_with fail
  refine (rmade_any _ zs w1 (hl.only HO1.out) (by omega)).mono ?_
  rintro e w2 ⟨hO2, vm, vs, vc, vk, vp, rfl, hM, hS, hC, hK, hG⟩
  have HO2 := Lib.hid (HO1.out.trans hO2)
  have HR := Lib.hid (made_right zs)
  have HOK := Lib.hid (made_ok zs)
  have HFT := Lib.hid (made_fit zs)
  have HCOL := Lib.hid (made_col zs)
  have HCC := Lib.hid (comm_coef zs)
  have HCM := Lib.hid (comm_mem zs)
  have HM := Lib.hid hM
  have HC := Lib.hid hC
  have HK := Lib.hid hK
  have HG := Lib.hid hG
  have HWT := Lib.hid (fun j => crew_wt zs 1 (manyZ zs) j)
  have hcl : (coefZ zs).length = ndZ zs := coefTo_len _ _ _
  have hkl : (commZ zs).length = ndZ zs := mixL_len _ _ _
  have HCB := Lib.hid (fun j => show 0 ≤ ptAt (coefZ zs) j ∧ ptAt (coefZ zs) j ≤ 9223372036854775807 from by have := coefTo_bd (crewZ zs) (ndZ zs) (crewZ zs).length j; unfold coefZ; omega)
  have hnd60 : ndZ zs ≤ 60 := Nat.le_trans HOK.out.nd2 HOK.out.many
  obtain ⟨bm, om, cm, hvm, hbm, hcm1, hcm2, hmc⟩ : ∃ b off c, vm = .slice (some ⟨b, off, none⟩) (crewZ zs).length c ∧ b < w2.heap.size ∧ (crewZ zs).length ≤ c ∧ c ≤ 9223372036854775807 ∧ ∀ j, j < (crewZ zs).length → w2.cell? ⟨b, off + j * 3, none⟩ = some (.int .i64 (mbAt (crewZ zs) j).id) ∧ w2.cell? ⟨b, off + j * 3 + 1, none⟩ = some (.int .i64 (mbAt (crewZ zs) j).wt) ∧ w2.cell? ⟨b, off + j * 3 + 2, none⟩ = some (.int .i64 (mbAt (crewZ zs) j).pb) := by
    rcases hM with ⟨_, _, _, h0⟩ | ⟨b, off, cap, hv, hb, h1, h2, hc⟩
    · have := HOK.out.len1; rw [h0] at this; simp at this
    · exact ⟨b, off, cap, hv, hb, h1, h2, hc⟩
  subst hvm
  obtain ⟨ax, cx, rfl⟩ := hS.slice
  obtain ⟨ac, cc, rfl⟩ := hC.slice
  obtain ⟨ak, ck, rfl⟩ := hK.slice
  obtain ⟨ap, cp, rfl⟩ := hG.slice
  have HMC := Lib.hid hmc
  have HDS := Lib.hid (fun q h => deals_short (qs := q) (l := crewZ zs) (seed := firstS) (nd := ndZ zs) (k := (crewZ zs).length) h)
  have HCL := Lib.hid hcl
  have HKL := Lib.hid hkl
  generalize (secTo 1 (manyZ zs)).length = ns at *
  have HCZ := Lib.hid (show crewZ zs = crewTo zs 1 (manyZ zs) from rfl)
  rw [← HCZ.out] at HWT
  have HDZ := Lib.hid (show dealsZ zs = dlsTo (crewZ zs) firstS (ndZ zs) (crewZ zs).length from rfl)
  clear hO2 hM hS hC hK hG hmc hcl hkl HCZ
  have HNF := Lib.hid (show ndZ zs = ndOf (crewZ zs) from rfl)
  have HMADE := Lib.hid (fun (w' : World) (h : Only (fun _ => False) w2 w') => show Calls Tryz.prog 7 #[.slice la zs.length lc] w' (fun e wM => (∃ am cm aq ns cs ac nc cc ak nk ck ap np cp, e = .returned (.agg #[.slice am (crewZ zs).length cm, .slice aq ns cs, .slice ac nc cc, .slice ak nk ck, .slice ap np cp]) ∧ MbsAt wM (.slice am (crewZ zs).length cm) (crewZ zs)) ∧ Only (fun _ => False) w' wM) from (rmade_any _ zs w' (HL.out.only (HO2.out.trans h)) (by omega)).mono fun e wM hh => by
    obtain ⟨hO, vm, vs, vc, vk, vp, he, hM, hS, hC, hK, hG⟩ := hh
    obtain ⟨am, cm, rfl⟩ := hM.slice
    obtain ⟨aq, cs, rfl⟩ := hS.slice
    obtain ⟨ac, cc, rfl⟩ := hC.slice
    obtain ⟨ak, ck, rfl⟩ := hK.slice
    obtain ⟨ap, cp, rfl⟩ := hG.slice
    exact ⟨⟨am, cm, aq, _, cs, ac, _, cc, ak, _, ck, ap, _, cp, he, hM⟩, hO⟩)
  generalize crewZ zs = M at *
  generalize hnd0 : ndZ zs = nd at *
  generalize coefZ zs = C at *
  generalize commZ zs = KC at *
  generalize dealsZ zs = DZ at *
  have ROWd : True := trivial
  have HB := Lib.hid (heap_alloc_last w2 (.cells #[.slice (some ⟨bm, om, none⟩) M.length cm, .slice ax ns cx, .slice ac C.length cc, .slice ak KC.length ck, .slice ap (pointsOf M).length cp] 30))
  have hA3 : Only (fun _ => False) w2 (w2.alloc (.cells #[.slice (some ⟨bm, om, none⟩) M.length cm, .slice ax ns cx, .slice ac C.length cc, .slice ak KC.length ck, .slice ap (pointsOf M).length cp] 30)) := (Only.refl _ w2).alloc _
  have HA3 := Lib.hid hA3
  have hM1 := HOK.out.len1
  have hM2 := HOK.out.len2
  have hb3 : bm < (w2.alloc (.cells #[.slice (some ⟨bm, om, none⟩) M.length cm, .slice ax ns cx, .slice ac C.length cc, .slice ak KC.length ck, .slice ap (pointsOf M).length cp] 30)).heap.size := by rw [World.size_alloc]; omega
  have HB3 := Lib.hid hb3
  clear hA3 hb3 ROWd
  go_wp2_with fail
  refine (rdealings_some bm om cm M ⟨#[102, 105, 114, 115, 116]⟩ nd _ HB3.out hcm1 hcm2 HOK.out (by decide) (fun j hj => ⟨HA3.out.cell (HMC.out j hj).1 id, HA3.out.cell (HMC.out j hj).2.1 id, HA3.out.cell (HMC.out j hj).2.2 id⟩)).mono ?_
  rintro e w3 ⟨vd, qs, rfl, hD, hqs⟩
  have HN3 := Lib.hid (HA3.out.trans hD.only)
  have HQE := Lib.hid (show qs.length = M.length from by have := congrArg List.length hqs; rw [List.length_map, dlsTo_len] at this; exact this)
  have HD1 := hD.mine.dls (fun q hq => by have := HDS.out qs hqs q hq; have := HOK.out.nd2; have := HOK.out.many; omega)
  have HD2 : DlsS DZ := by
    have hqs : qs.map (·.2.1) = dlsTo M firstS nd M.length := hqs
    rw [HDZ.out]
    refine ⟨by rw [dlsTo_len]; omega, fun j hj => ?_⟩
    rw [dlsTo_len] at hj
    have hq : (qs.map (·.2.1)).length = M.length := by rw [hqs, dlsTo_len]
    rw [List.length_map] at hq
    have h1 := HDS.out qs hqs qs[j] (List.getElem_mem (by omega))
    have h2 : qs[j].2.1 = dlAt (dlsTo M firstS nd M.length) j := by rw [← hqs]; simp [dlAt, List.getD, (show j < qs.length by omega)]
    rw [← h2]
    have := HOK.out.nd2; have := HOK.out.many; omega
  have HDL := Lib.hid (show DlsAt w3 vd DZ by rw [HDZ.out]; exact hqs ▸ HD1)
  have HDSS := Lib.hid (HD2)
  have HB4 := Lib.hid (row_still hD.only HB.out)
  have HM3 := Lib.hid (HM.out.only HN3.out)
  obtain ⟨ad, nd0, cd, hvd⟩ : ∃ a n c, vd = .slice a n c := by obtain ⟨a, c, h⟩ := slice_of_own hD.own; exact ⟨a, _, c, h⟩
  subst hvd
  have e0 := cell_of_row _ _ 0 _ _ _ HB4.out
  have l3 := own_lt0 HB4.out
  clear hD hqs HD1 HD2 HB
  go_wp2_with fail
  refine (begin_own _ _ M DZ w3 HM3.out HOK.out.w HDL.out HDSS.out).mono ?_
  rintro e w4 ⟨hO4, ⟨_, v1, v2, us, rfl, hown1, hG1, hGO1⟩ | ⟨hb, rfl⟩⟩
  rotate_left
  · exact absurd hb (by rw [HFT.out]; decide)
  rw [HCOL.out] at hown1
  have hA4 : Only (fun _ => False) w4 (w4.alloc (.cells #[v1, v2] 28)) := (Only.refl _ w4).alloc _
  have HOW0 := Lib.hid (show OwAt w3 (w4.alloc (.cells #[v1, v2] 28)) w4.heap.size v1 v2 KC.length us (pointsOf M) from
    ⟨⟨KC, rfl, hA4.owns (own_base hown1 (by omega)) (fun _ _ h => h)⟩, hA4.owns (own_base hGO1.out (by omega)) (fun _ _ h => h), fun j hj => ⟨_, rfl, hA4.owns (own_base (hGO1.own j hj) (by omega)) (fun _ _ h => h)⟩, heap_alloc_last w4 _, hO4.trans hA4⟩)
  have hul := hGO1.len
  have hnk : 0 < KC.length := by rw [HKL.out]; have := HOK.out.nd1; omega
  have hpl := pointsOf_len M
  obtain ⟨g1, c1, rfl, _⟩ := own_form' hown1 hnk
  obtain ⟨g2, c2, rfl, _⟩ := own_form' hGO1.out (by omega)
  have hkl60 : KC.length ≤ 60 := by rw [HKL.out]; omega
  have HUL := Lib.hid hul
  have hul13 : us.length ≤ 13 := by omega
  clear hO4 hown1 hG1 hGO1 hA4 e0 l3 hul hpl
  go_wp2_with fail
  go_loopw [8] (fun vi wr => ∃ k : Nat, k ≤ KC.length ∧ vi = .int .i64 k ∧ OwAt w3 wr w4.heap.size (.slice (some ⟨g1, 0, none⟩) KC.length c1) (.slice (some ⟨g2, 0, none⟩) us.length c2) KC.length us (pointsOf M)) (fun vi _ => KC.length - (intOf vi).toNat)
  case atStart => exact ⟨0, Nat.zero_le _, rfl, HOW0.out⟩
  case round =>
    clear HOW0
    obtain ⟨k, hk, rfl, hOw⟩ := hrel
    have HOW := Lib.hid hOw
    have k0 := cell_of_row _ _ 0 _ _ _ hOw.blk
    have k1 := cell_of_row _ _ 1 _ _ _ hOw.blk
    have kl := own_lt0 hOw.blk
    simp at k0 k1
    clear hOw
    by_cases hlt : k < KC.length
    · have i1 : (k : Int) < KC.length := by omega
      have i2 : 0 ≤ (k : Int) := by omega
      obtain ⟨L, hLl, hLo⟩ := HOW.out.cm
      have hLo2 := hLo
      rw [← hLl] at hLo
      obtain ⟨o1, o2, o3, o4, o5⟩ := own_at (n := L.length) hLo rfl (by omega : k < L.length)
      rw [hLl] at o2
      have HPUT := Lib.hid (HOW.out.put (k := k) hLo2)
      clear hLo hLo2 hLl
      go_wp2
      go_roundw
      case rel => exact ⟨k + 1, by omega, by go_num, HPUT.out⟩
      case measure => simp [intOf]; omega
    · obtain rfl : k = KC.length := by omega
      have i1 : ¬ (KC.length : Int) < KC.length := by omega
      go_wp2_with fail
      go_loopw [9] (fun vi wr => ∃ k : Nat, k ≤ us.length ∧ vi = .int .i64 k ∧ OwAt w3 wr w4.heap.size (.slice (some ⟨g1, 0, none⟩) KC.length c1) (.slice (some ⟨g2, 0, none⟩) us.length c2) KC.length us (pointsOf M)) (fun vi _ => us.length - (intOf vi).toNat)
      case atStart => exact ⟨0, Nat.zero_le _, rfl, HOW.out⟩
      case round =>
        clear HOW k0 k1 kl
        obtain ⟨k, hk, rfl, hOw⟩ := hrel
        have HOW := Lib.hid hOw
        have k0 := cell_of_row _ _ 0 _ _ _ hOw.blk
        have k1 := cell_of_row _ _ 1 _ _ _ hOw.blk
        have kl := own_lt0 hOw.blk
        simp at k0 k1
        clear hOw
        by_cases hlt : k < us.length
        · have i2 : (k : Int) < us.length := by omega
          have i3 : 0 ≤ (k : Int) := by omega
          have hne := points_ne HR.out k (by have := HUL.out; omega)
          obtain ⟨R0, hR0, hRo0⟩ := HOW.out.own k hlt
          obtain ⟨g3, c3, hu3, _⟩ := own_form' hRo0 hne
          have HU3 := Lib.hid hu3
          obtain ⟨m, hm⟩ : ∃ m, ((pointsOf M).getD k []).length = m := ⟨_, rfl⟩
          rw [hm] at hu3 hne
          have HMM := Lib.hid hm
          clear hRo0 hR0 hm
          go_wp2_with fail
          go_loopw [10] (fun vi wr => ∃ t : Nat, t ≤ m ∧ vi = .int .i64 t ∧ OwAt w3 wr w4.heap.size (.slice (some ⟨g1, 0, none⟩) KC.length c1) (.slice (some ⟨g2, 0, none⟩) us.length c2) KC.length us (pointsOf M)) (fun vi _ => m - (intOf vi).toNat)
          case atStart => exact ⟨0, Nat.zero_le _, rfl, HOW.out⟩
          case round =>
            clear HOW k0 k1 kl
            obtain ⟨t, ht, rfl, hOw⟩ := hrel
            have HOW := Lib.hid hOw
            have k0 := cell_of_row _ _ 0 _ _ _ hOw.blk
            have k1 := cell_of_row _ _ 1 _ _ _ hOw.blk
            have kl := own_lt0 hOw.blk
            obtain ⟨p1, p2, p3, p4⟩ := own_cellU hOw.out hlt
            obtain ⟨R, hRl, hRo⟩ := hOw.own k hlt
            rw [hu3] at p4 hRo
            rw [HMM.out] at hRl hRo
            have hRo2 := hRo
            simp at k0 k1
            have HPUT := Lib.hid (hOw.put (k := t) hRo2)
            by_cases htl : t < m
            · have i4 : (t : Int) < m := by omega
              have i5 : 0 ≤ (t : Int) := by omega
              rw [← hRl] at hRo
              obtain ⟨o1, o2, o3, o4, o5⟩ := own_at (n := R.length) hRo rfl (by omega : t < R.length)
              rw [hRl] at o2
              clear hRo hRo2 hRl hOw
              go_wp2
              go_roundw
              case rel => exact ⟨t + 1, by omega, by go_num, HPUT.out⟩
              case measure => simp [intOf]; omega
            · obtain rfl : t = m := by omega
              have i4 : ¬ (t : Int) < t := by omega
              clear hRo hRo2 hRl hOw HPUT
              go_wp2
              go_roundw
              case rel => exact ⟨k + 1, by omega, by go_num, HOW.out⟩
              case measure => simp [intOf]; omega
        · obtain rfl : k = us.length := by omega
          have i2 : ¬ (us.length : Int) < us.length := by omega
          have HO6 := Lib.hid HOW.out.only
          generalize wr = w6 at *
          clear HOW
          have HBK := Lib.hid (row_still HO6.out HB4.out)
          have HTS := Lib.hid (show ∀ w', Only (fun _ => False) w6 w' → w'.cell? ⟨w2.heap.size, 0, none⟩ = some (.slice (some ⟨bm, om, none⟩) M.length cm) ∧ w'.cell? ⟨w2.heap.size, 1, none⟩ = some (.slice ax ns cx) ∧ w'.cell? ⟨w2.heap.size, 2, none⟩ = some (.slice ac C.length cc) ∧ w'.cell? ⟨w2.heap.size, 3, none⟩ = some (.slice ak KC.length ck) ∧ w'.cell? ⟨w2.heap.size, 4, none⟩ = some (.slice ap (pointsOf M).length cp) ∧ Only (fun _ => False) w6 w' from fun w' h => by
            have hb := row_still h HBK.out
            exact ⟨cell_of_row _ _ 0 _ _ _ hb, cell_of_row _ _ 1 _ _ _ hb, cell_of_row _ _ 2 _ _ _ hb, cell_of_row _ _ 3 _ _ _ hb, cell_of_row _ _ 4 _ _ _ hb, h⟩)
          obtain ⟨s1, s2, s3, s4, s5, s6, s7, s8⟩ := right_sum HR.out
          have hkn : KC.length ≤ nOf M := by rw [HKL.out, HNF.out]; exact s7
          have HO26 := Lib.hid (HN3.out.trans HO6.out)
          obtain ⟨FC, hFC⟩ : ∃ F, choZ [] (nOf M) KC.length = F := ⟨_, rfl⟩
          have HFW := Lib.hid (show IntsW FC by rw [← hFC]; exact choZ_w _ _ _ hkn s4)
          have HFL := Lib.hid (show FC.length ≤ 60 by rw [← hFC, choZ_len _ _ _ hkn]; omega)
          have HCH := Lib.hid (show ∀ w', (w'.cell? ⟨w2.heap.size, 0, none⟩ = some (.slice (some ⟨bm, om, none⟩) M.length cm) ∧ w'.cell? ⟨w2.heap.size, 1, none⟩ = some (.slice ax ns cx) ∧ w'.cell? ⟨w2.heap.size, 2, none⟩ = some (.slice ac C.length cc) ∧ w'.cell? ⟨w2.heap.size, 3, none⟩ = some (.slice ak KC.length ck) ∧ w'.cell? ⟨w2.heap.size, 4, none⟩ = some (.slice ap (pointsOf M).length cp) ∧ Only (fun _ => False) w6 w') → Calls Tryz.prog 17 #[.agg #[.slice (some ⟨bm, om, none⟩) M.length cm, .slice ax ns cx, .slice ac C.length cc, .slice ak KC.length ck, .slice ap (pointsOf M).length cp], .slice none 0 0] w' (fun e wC => ∃ v, e = .returned v ∧ PtsAt wC.heap.size wC v FC ∧ Only (fun _ => False) w6 wC) from fun w' h => by
            have h7 := h.2.2.2.2.2
            refine (rchosen_any ax ac ak ap ns C.length (pointsOf M).length cx cc ck cp (.slice none 0 0) _ M [] (nOf M) KC.length w' (HM3.out.only (HO6.out.trans h7)) HOK.out.w s8 hkn s4 (.inl ⟨_, _, rfl, rfl⟩) (by decide)).mono fun e wC hh => ?_
            obtain ⟨v, he, hv, hO⟩ := hh
            rw [hFC] at hv
            exact ⟨v, he, pts_of_own hv (by have := HFL.out; omega), h7.trans hO⟩)
          have HAG := Lib.hid (show ∀ wC v w', PtsAt wC.heap.size wC v FC → Only (fun _ => False) wC w' → (w'.cell? ⟨w2.heap.size, 0, none⟩ = some (.slice (some ⟨bm, om, none⟩) M.length cm) ∧ w'.cell? ⟨w2.heap.size, 1, none⟩ = some (.slice ax ns cx) ∧ w'.cell? ⟨w2.heap.size, 2, none⟩ = some (.slice ac C.length cc) ∧ w'.cell? ⟨w2.heap.size, 3, none⟩ = some (.slice ak KC.length ck) ∧ w'.cell? ⟨w2.heap.size, 4, none⟩ = some (.slice ap (pointsOf M).length cp) ∧ Only (fun _ => False) w6 w') → Calls Tryz.prog 19 #[.agg #[.slice ak KC.length ck, .slice ap (pointsOf M).length cp], .slice (some ⟨bm, om, none⟩) M.length cm, v, .slice ad nd0 cd] w' (fun e wX => (∃ x b, e = .returned (.tuple #[x, .bool b])) ∧ Only (fun _ => False) w6 wX) from fun wC v w' hp hO h => by
            have h7 := h.2.2.2.2.2
            refine (again_is ak ap ck cp _ v _ (pointsOf M) KC M FC DZ w' (HK.out.only (HO26.out.trans h7)) (HG.out.only (HO26.out.trans h7)) (fun k hk => s1 k (by rw [pointsOf_len] at hk; exact hk)) (by omega) (HM3.out.only (HO6.out.trans h7)) HOK.out.w (hp.only hO) HFW.out (by have := HFL.out; omega) (HDL.out.only (HO6.out.trans h7)) HDSS.out).mono fun e wX hh => ?_
            refine ⟨?_, h7.trans hh.1⟩
            rcases hh.2 with ⟨_, vc, vp, he, _⟩ | ⟨_, he⟩
            · exact ⟨_, _, he⟩
            · exact ⟨_, _, he⟩)
          obtain ⟨y0, y1, y2, y3, y4, _⟩ := HTS.out w6 (Only.refl _ _)
          have lg := own_lt0 HBK.out
          clear s1 s2 s5
          go_upto_region 16 with fail
          go_cut [5] (fun v5 wx => v5 = .slice ad nd0 cd ∧ Only (fun _ => False) w6 wx)
          case first =>
            go_region_held3 (fun w' => w'.cell? ⟨w2.heap.size, 0, none⟩ = some (.slice (some ⟨bm, om, none⟩) M.length cm) ∧ w'.cell? ⟨w2.heap.size, 1, none⟩ = some (.slice ax ns cx) ∧ w'.cell? ⟨w2.heap.size, 2, none⟩ = some (.slice ac C.length cc) ∧ w'.cell? ⟨w2.heap.size, 3, none⟩ = some (.slice ak KC.length ck) ∧ w'.cell? ⟨w2.heap.size, 4, none⟩ = some (.slice ap (pointsOf M).length cp) ∧ Only (fun _ => False) w6 w')
              (first
                | with_reducible exact HTS.out _ ((Only.refl _ w6).drew)
                | with_reducible exact HTS.out _ hSX
                | with_reducible exact HTS.out _ hSC)
              (first
                | (go_at_call 17; refine (HCH.out _ (by assumption)).mono ?_; rintro e wC ⟨vC, rfl, hvC, hSC⟩; obtain ⟨aC, cC, rfl⟩ := hvC.slice)
                | (go_at_call 19; refine (HAG.out _ _ _ hvC (by first | exact Only.refl _ _) (by assumption)).mono ?_; rintro e wX ⟨⟨xX, bX, rfl⟩, hSX⟩))
            all_goals (clear HTS HCH HAG)
            all_goals (go_wp2_with fail)
            all_goals (go_meet)
            all_goals (exact ⟨rfl, hSX⟩)
          case rest =>
            obtain ⟨rfl, hOc⟩ := hcut
            have HO36 := Lib.hid (HO6.out.trans hOc)
            have hbk := row_still hOc HBK.out
            have z0 := cell_of_row _ _ 0 _ _ _ hbk
            have zl := own_lt0 hbk
            clear hOc hbk y0 y1 y2 y3 y4 lg HTS HCH HAG
            generalize wc = wd at *
            go_wp2_with fail
            refine (begin_is _ _ M DZ wd (HM3.out.only HO36.out) HOK.out.w (HDL.out.only HO36.out) HDSS.out).mono ?_
            rintro e w7a ⟨hO7, ⟨_, v3, v4, rfl, hown3, hG3⟩ | ⟨hb, rfl⟩⟩
            rotate_left
            · exact absurd hb (by rw [HFT.out]; decide)
            rw [HCOL.out] at hown3
            have hP3 := pts_of_own hown3 (by omega)
            obtain ⟨a3, c3, rfl⟩ := slice_of_own hown3
            obtain ⟨a4, c4, rfl⟩ := hG3.slice
            have hA7 : Only (fun _ => False) w7a (w7a.alloc (.cells #[.slice a3 KC.length c3, .slice a4 (pointsOf M).length c4] 28)) := (Only.refl _ w7a).alloc _
            have HP3 := Lib.hid (hP3.only hA7)
            have HG3 := Lib.hid (hG3.only hA7)
            have HK3 := Lib.hid (heap_alloc_last w7a (.cells #[.slice a3 KC.length c3, .slice a4 (pointsOf M).length c4] 28))
            have HO37 := Lib.hid ((HO36.out.trans hO7).trans hA7)
            clear hO7 hown3 hP3 hG3 hA7 z0 zl
            go_upto_region 18 with fail
            generalize hw7 : w7a.alloc (.cells #[.slice a3 KC.length c3, .slice a4 (pointsOf M).length c4] 28) = w7 at *
            have HBK7 := Lib.hid (row_still HO37.out HB4.out)
            have HTS := Lib.hid (show ∀ w', Only (fun _ => False) w7 w' → w'.cell? ⟨w2.heap.size, 0, none⟩ = some (.slice (some ⟨bm, om, none⟩) M.length cm) ∧ Only (fun _ => False) w7 w' from fun w' h => ⟨cell_of_row _ _ 0 _ _ _ (row_still h HBK7.out), h⟩)
            have HMD := Lib.hid (show ∀ w', (w'.cell? ⟨w2.heap.size, 0, none⟩ = some (.slice (some ⟨bm, om, none⟩) M.length cm) ∧ Only (fun _ => False) w7 w') → Calls Tryz.prog 7 #[.slice la zs.length lc] w' (fun e wM => (∃ am cm aq ns cs ac nc cc ak nk ck ap np cp, e = .returned (.agg #[.slice am M.length cm, .slice aq ns cs, .slice ac nc cc, .slice ak nk ck, .slice ap np cp]) ∧ MbsAt wM (.slice am M.length cm) M) ∧ Only (fun _ => False) w' wM ∧ Only (fun _ => False) w7 wM) from fun w' h =>
              (HMADE.out w' ((HN3.out.trans HO37.out).trans h.2)).mono fun e wM hh => ⟨hh.1, hh.2, h.2.trans hh.2⟩)
            have HDG := Lib.hid (show ∀ w', (w'.cell? ⟨w2.heap.size, 0, none⟩ = some (.slice (some ⟨bm, om, none⟩) M.length cm) ∧ Only (fun _ => False) w7 w') → Calls Tryz.prog 8 #[.slice (some ⟨bm, om, none⟩) M.length cm, .string ⟨#[102, 105, 114, 115, 116]⟩] w' (fun e wD => (∃ v, e = .returned v ∧ DlsAt wD v DZ) ∧ Only (fun _ => False) w' wD ∧ Only (fun _ => False) w7 wD) from fun w' h => by
              have hN := (HN3.out.trans HO37.out).trans h.2
              refine (rdealings_some bm om cm M firstS nd w' (by have := hN.size; omega) hcm1 hcm2 HOK.out (by decide) (fun j hj => ⟨hN.cell (HMC.out j hj).1 id, hN.cell (HMC.out j hj).2.1 id, hN.cell (HMC.out j hj).2.2 id⟩)).mono fun e wD hh => ?_
              obtain ⟨v, qs, he, hD, hqs⟩ := hh
              refine ⟨⟨v, he, ?_⟩, hD.only, h.2.trans hD.only⟩
              rw [HDZ.out, ← hqs]
              exact hD.mine.dls (fun q hq => by have := HDS.out qs hqs q hq; have := HOK.out.nd2; have := HOK.out.many; omega))
            have HBG := Lib.hid (show ∀ wM vm wD vd w', MbsAt wM vm M → Only (fun _ => False) wM w' → DlsAt wD vd DZ → Only (fun _ => False) wD w' → (w'.cell? ⟨w2.heap.size, 0, none⟩ = some (.slice (some ⟨bm, om, none⟩) M.length cm) ∧ Only (fun _ => False) w7 w') → Calls Tryz.prog 9 #[vm, vd] w' (fun e wE => (∃ vc vp, e = .returned (.tuple #[.agg #[vc, vp], .bool true]) ∧ PtsAt wE.heap.size wE vc KC ∧ GridAt wE vp (pointsOf M)) ∧ Only (fun _ => False) w' wE ∧ Only (fun _ => False) w7 wE) from fun wM vm wD vd w' h1 h2 h3 h4 h => by
              refine (begin_is vm vd M DZ w' (h1.only h2) HOK.out.w (h3.only h4) HDSS.out).mono fun e wE hh => ⟨?_, hh.1, h.2.trans hh.1⟩
              rcases hh.2 with ⟨_, vc, vp, he, hown, hg⟩ | ⟨hb, _⟩
              · rw [HCOL.out] at hown
                exact ⟨vc, vp, he, pts_of_own hown (by omega), hg⟩
              · exact absurd hb (by rw [HFT.out]; decide))
            obtain ⟨y0, _⟩ := HTS.out w7 (Only.refl _ _)
            have lg := own_lt0 HBK7.out
            have hfld := Tryz.fieldL
            go_cut [13, 14] (fun v13 v14 wx => v14 = .bool true ∧ OwMid w7 wx KC (pointsOf M) v13)
            case first =>
              go_region_held3 (fun w' => w'.cell? ⟨w2.heap.size, 0, none⟩ = some (.slice (some ⟨bm, om, none⟩) M.length cm) ∧ Only (fun _ => False) w7 w')
                (first
                  | with_reducible exact HTS.out _ ((Only.refl _ w7).drew)
                  | with_reducible exact HTS.out _ hSM
                  | with_reducible exact HTS.out _ hSD
                  | with_reducible exact HTS.out _ hSE
                  | with_reducible exact HTS.out _ (hSM.alloc _)
                  | with_reducible exact HTS.out _ (hSD.alloc _)
                  | with_reducible exact HTS.out _ (hSE.alloc _)
                  | with_reducible exact HTS.out _ ((Only.refl _ w7).drew.alloc _)
                  | with_reducible exact HTS.out _ ((hSE.setCell (.inr hge) _).setCell (.inr hge) _))
                (first
                  | (go_at_call 7; refine (HMD.out _ (by assumption)).mono ?_; rintro e wM ⟨⟨aM, cM, aS, nS, cS, aC, nC, cC, aK, nK, cK, aP, nP, cP, rfl, hmM⟩, hOM, hSM⟩)
                  | (go_at_call 8; refine (HDG.out _ (by assumption)).mono ?_; rintro e wD ⟨⟨vD, rfl, hdD⟩, hOD, hSD⟩; obtain ⟨aD, cD, rfl⟩ := hdD.slice)
                  | (go_at_call 9; refine (HBG.out _ _ _ _ _ hmM (by first | exact hOD | exact hOD.alloc _ | exact ((Only.refl _ _).alloc _).trans hOD) hdD (by first | exact Only.refl _ _ | exact (Only.refl _ _).alloc _) (by assumption)).mono ?_; rintro e wE ⟨⟨vE, uE, rfl, hpE, hgE⟩, hOE, hSE⟩; obtain ⟨aE, cE, rfl⟩ := hpE.slice; obtain ⟨aG, cG, rfl⟩ := hgE.slice
                     first
                       | (have hBk := dl_blk hOE; have hge := hSD.size; have b0 := cell_of_row _ _ 0 _ _ _ hBk; have b1 := cell_of_row _ _ 1 _ _ _ hBk; have f0 := frozen_of_row _ _ 0 _ _ hBk; have f1 := frozen_of_row _ _ 1 _ _ hBk; have lB := (Array.getElem?_eq_some_iff.1 hBk).1)
                       | (have hBk := dl_blk (hOD.trans hOE); have hge := hSM.size; have b0 := cell_of_row _ _ 0 _ _ _ hBk; have b1 := cell_of_row _ _ 1 _ _ _ hBk; have f0 := frozen_of_row _ _ 0 _ _ hBk; have f1 := frozen_of_row _ _ 1 _ _ hBk; have lB := (Array.getElem?_eq_some_iff.1 hBk).1)
                       | (have hBk := dl_blk ((hOM.trans hOD).trans hOE); have hge := Nat.le_refl w7.heap.size; have b0 := cell_of_row _ _ 0 _ _ _ hBk; have b1 := cell_of_row _ _ 1 _ _ _ hBk; have f0 := frozen_of_row _ _ 0 _ _ hBk; have f1 := frozen_of_row _ _ 1 _ _ hBk; have lB := (Array.getElem?_eq_some_iff.1 hBk).1)
                       | (have hBk := dl_blk2 ((hOM.trans hOD).trans hOE); have hge := Nat.le_refl w7.heap.size; have b0 := cell_of_row _ _ 0 _ _ _ hBk; have b1 := cell_of_row _ _ 1 _ _ _ hBk; have f0 := frozen_of_row _ _ 0 _ _ hBk; have f1 := frozen_of_row _ _ 1 _ _ hBk; have lB := (Array.getElem?_eq_some_iff.1 hBk).1)
                       | skip))
              all_goals (clear HMD HDG HBG HTS hfld)
              all_goals (go_wp2_with fail)
              all_goals (go_meet)
              all_goals (refine ⟨rfl, ?_⟩)
              all_goals first
                | exact ow_mid1 hpE hgE hSE
                | exact ow_mid2 hBk hpE hgE (points_ne HR.out) hge hSE
            case rest =>
              obtain ⟨rfl, B, vc, vp, rfl, hBk, hpE, hgE, hOx⟩ := hcut
              have HPE := Lib.hid hpE
              have HGE := Lib.hid hgE
              obtain ⟨aE, cE, rfl⟩ := hpE.slice
              obtain ⟨aG, cG, rfl⟩ := hgE.slice
              have hb3 := row_still hOx HK3.out
              have hbk := row_still hOx HBK7.out
              have HOX := Lib.hid hOx
              generalize wc = wd at *
              have HSA := Lib.hid (fun (w' : World) (h : Only (fun _ => False) wd w') => rsame_is (.slice a3 KC.length c3) (.slice ak KC.length ck) (.slice a4 (pointsOf M).length c4) (.slice ap (pointsOf M).length cp) KC KC (pointsOf M) (pointsOf M) true w' (by omega) (short_points HR.out) (by rw [pointsOf_len]; omega) (HP3.out.only (HOX.out.trans h)) (HK.out.only (((HN3.out.trans HO37.out).trans HOX.out).trans h)) (HG3.out.only (HOX.out.trans h)) (HG.out.only (((HN3.out.trans HO37.out).trans HOX.out).trans h)) (decide_eq_true ⟨rfl, rfl⟩))
              have HSB := Lib.hid (fun (w' : World) (h : Only (fun _ => False) wd w') => rsame_is (.slice aE KC.length cE) (.slice ak KC.length ck) (.slice aG (pointsOf M).length cG) (.slice ap (pointsOf M).length cp) KC KC (pointsOf M) (pointsOf M) true w' (by omega) (short_points HR.out) (by rw [pointsOf_len]; omega) (HPE.out.only h) (HK.out.only (((HN3.out.trans HO37.out).trans HOX.out).trans h)) (HGE.out.only h) (HG.out.only (((HN3.out.trans HO37.out).trans HOX.out).trans h)) (decide_eq_true ⟨rfl, rfl⟩))
              have HB3 := Lib.hid hb3
              have HBKX := Lib.hid hbk
              have HBKE := Lib.hid hBk
              have x0 := cell_of_row _ _ 0 _ _ _ hb3
              have x1 := cell_of_row _ _ 1 _ _ _ hb3
              have x2 := cell_of_row _ _ 3 _ _ _ hbk
              have x3 := cell_of_row _ _ 4 _ _ _ hbk
              have xl := own_lt0 hb3
              have xk := own_lt0 hbk
              clear hOx hb3 hbk hBk hpE hgE y0 lg HTS HMD HDG HBG hfld
              go_wp2_with fail
              refine (HSA.out _ (Only.refl _ _)).mono ?_
              rintro e w8 ⟨rfl, hO8⟩
              have hb3 := row_still hO8 HBKE.out
              have hbk := row_still hO8 HBKX.out
              have HO8 := Lib.hid hO8
              have x4 := cell_of_row _ _ 0 _ _ _ hb3
              have x5 := cell_of_row _ _ 1 _ _ _ hb3
              have x6 := cell_of_row _ _ 3 _ _ _ hbk
              have x7 := cell_of_row _ _ 4 _ _ _ hbk
              have xl2 := own_lt0 hb3
              have xk2 := own_lt0 hbk
              clear hO8 hb3 hbk x0 x1 x2 x3 xl xk
              go_wp2_with fail
              refine (HSB.out _ HO8.out).mono ?_
              rintro e w9 ⟨rfl, hO9⟩
              have HBEL := Lib.hid ((((((HO2.out.trans HN3.out).trans HO37.out).trans HOX.out).trans HO8.out).trans hO9).below (B := w.heap.size) (Nat.le_refl _) (fun _ _ h => h))
              clear hO9
              go_wp2
              go_ret
              exact ⟨rfl, HBEL.out⟩
end Go.Proofs.YtalclldccnichaaGreat
