/-
  The arguments of the laws of layer 9, opened.
  What the laws of layer 9 start from: keys of a poll in memory.
  The walk of the law BeaconFew.
-/
import Derived.Test.YtlhfgbkonmgahaaDoorPa15
import Derived.Test.YtlhfgbkonmgahaaDoorPa18
import Derived.Test.YtlhfgbkonmgahaaDoorPa17
namespace Go.Proofs.YtlhfgbkonmgahaaDoor
open Go.RowKit Go.ChangeShapes Go.WideShapes

theorem Tryd.cellsU8 : Tryd.prog.cellsOf 5 = 1 := by kernel_rfl
theorem Tryd.cellsPo : Tryd.prog.cellsOf 25 = 2 := by kernel_rfl
theorem Tryd.cellsLu : Tryd.prog.cellsOf 22 = 1 := by kernel_rfl
theorem Tryd.cellsLi : Tryd.prog.cellsOf 23 = 1 := by kernel_rfl
theorem open_byts {w : World} {lv : Value} (h : Rd w 22 [lv]) : ∃ l, BytsAt w lv l ∧ ∃ a c, lv = .slice a l.length c ∧ l.length ≤ c ∧ c ≤ 9223372036854775807 := by
  rcases h.slice Tryd.underlying22 (by rw [Tryd.cellsU8]; decide) with ⟨a, c, hs, hcm⟩ | ⟨b, off, len, cap, hs, h0, hl, hm, hb, hi⟩
  · unfold maxLen at hcm
    exact ⟨[], .inl ⟨a, c, by simpa using hs, rfl⟩, a, c, by simpa using hs, Nat.zero_le _, by omega⟩
  · rw [Tryd.cellsU8] at hi
    obtain ⟨l, hll, hP⟩ := pick_list (0 : Int) (P := fun j t => w.cell? ⟨b, off + j, none⟩ = some (.int .u8 t) ∧ 0 ≤ t ∧ t ≤ 255) len (fun j hj => by
        obtain ⟨cs', hl', hat, hr⟩ := hi j hj
        obtain ⟨t, rfl, wt⟩ := hr.int Tryd.underlying5
        have := hat 0 (by omega)
        rw [Nat.mul_one] at this
        exact ⟨t, this, bounds_u8 wt⟩)
    unfold maxLen at hm
    exact ⟨l, .inr ⟨b, off, cap, by rw [hll]; simpa using hs, hb, by omega, by omega, fun j hj => hP j (by omega)⟩, _, cap, by rw [hll]; simpa using hs, by omega, by omega⟩
set_option maxRecDepth 100000 in
/-- sortesref09.Poll, by value. -/
theorem open_poll {w : World} {r : Reach} {base : Nat} {v : Value} (ok : Value.okWide Tryd.prog w r base 25 v) (h : Rd w 25 v.cells.toList) :
    ∃ (sv cv : Value) (ws cs : List Int), v = .agg #[sv, cv] ∧ BytsAt w sv ws ∧ PtsAt w.heap.size w cv cs ∧ IntsW cs ∧ ws.length ≤ 9223372036854775807 ∧ cs.length ≤ 9223372036854775807 := by
  obtain ⟨cs, rfl⟩ := agg_struct Tryd.underlying25 ok
  obtain ⟨hl, hf⟩ := h.struct Tryd.underlying25
  rw [Tryd.cellsPo] at hl
  have h0 : Rd w 22 ((_ : List Value).take (Tryd.prog.cellsOf 22)) := hf 0 _ rfl
  have h1 : Rd w 23 ((_ : List Value).take (Tryd.prog.cellsOf 23)) := hf 1 _ rfl
  rw [Tryd.cellsLu] at h0
  rw [Tryd.cellsLi] at h1
  obtain ⟨a, b, hcs⟩ := two_of hl
  simp only [hcs] at h0 h1
  obtain ⟨ws, hw, _, _, _, w1, w2⟩ := open_byts (show Rd w 22 [a] from h0)
  obtain ⟨l, hl2, hw2, _, _, _, l1, l2⟩ := open_ints (show Rd w 23 [b] from h1)
  refine ⟨a, b, ws, l, ?_, hw, hl2, hw2, by omega, by omega⟩
  simp only [Value.cells] at hcs
  congr 1
  apply Array.ext'
  exact hcs
set_option maxRecDepth 100000 in
theorem open_share_val {w : World} {r : Reach} {base : Nat} {v : Value} (ok : Value.okWide Tryd.prog w r base 41 v) (h : Rd w 41 v.cells.toList) : ∃ a b : Int, v = .agg #[.int .i64 a, .int .i64 b] := by
  obtain ⟨cs, rfl⟩ := agg_struct Tryd.underlying41 ok
  obtain ⟨t, hc, _⟩ := open_sh h
  refine ⟨t.1, t.2, ?_⟩
  simp only [Value.cells] at hc
  congr 1
  apply Array.ext'
  exact hc
theorem six_of {cs : List Value} (h : cs.length = 6) : ∃ a b c d e f, cs = [a, b, c, d, e, f] := by
  match cs, h with
  | [a, b, c, d, e, f], _ => exact ⟨a, b, c, d, e, f, rfl⟩
end Go.Proofs.YtlhfgbkonmgahaaDoor

namespace Go.Proofs.YtlhfgbkonmgahaaDoor
open Go.RowKit

/-- What is known of the keys of a poll. -/
structure PlOk (C K : List Int) (R : List (List Int)) (n nd : Nat) : Prop where
  grid : ∀ k, k ≤ R.length → gridTo R k ≤ 1000000
  num : gridN R = n
  n1 : 1 ≤ n
  n2 : n ≤ 60
  cl : C.length = nd
  kl : K.length = nd
  d1 : 1 ≤ nd
  d2 : nd ≤ n
  cb : ∀ j, 0 ≤ ptAt C j ∧ ptAt C j < 1152921504606845789
  right : rightKB R K = true
  eq : K = cmTo C C.length
theorem pl_ok (ws cs : List Int) : PlOk (plC ws cs) (plK ws cs) (plR ws) (plN ws) (plD ws) := by
  obtain ⟨s1, s2, s3, s4, s5, s6, s7⟩ := pl_sum ws
  exact ⟨s1, s2, s3, s4, plC_len ws cs, plK_len ws cs, s6, s7, plC_bd ws cs, pl_keys ws cs, rfl⟩
/-- Keys in memory, and the coefficients. -/
structure KyAt (W : World) (nk : Nat) (ac ak ap : Option Addr) (cc ck cp : Nat) (C K : List Int) (R : List (List Int)) : Prop where
  cf : PtsAt W.heap.size W (.slice ac C.length cc) C
  cm : PtsAt W.heap.size W (.slice ak K.length ck) K
  gr : GridAt W (.slice ap R.length cp) R
  row : W.heap[nk]? = some (.cells #[.slice ak K.length ck, .slice ap R.length cp] 29 (0, 0))
theorem KyAt.only {A B : World} {nk : Nat} {ac ak ap : Option Addr} {cc ck cp : Nat} {C K : List Int} {R : List (List Int)} (h : KyAt A nk ac ak ap cc ck cp C K R) (hO : Only (fun _ => False) A B) : KyAt B nk ac ak ap cc ck cp C K R :=
  ⟨h.cf.only hO, h.cm.only hO, h.gr.only hO, row_still hO h.row⟩
theorem PlAt.keys {W : World} {cv kv pv : Value} {ws cs : List Int} (h : PlAt W cv kv pv ws cs) : ∃ ac ak ap cc ck cp, cv = .slice ac (plC ws cs).length cc ∧ kv = .slice ak (plK ws cs).length ck ∧ pv = .slice ap (plR ws).length cp := by
  obtain ⟨ac, cc, e1⟩ := h.cf.slice
  obtain ⟨ak, ck, e2⟩ := h.cm.slice
  obtain ⟨ap, cp, e3⟩ := h.gr.slice
  exact ⟨ac, ak, ap, cc, ck, cp, e1, e2, e3⟩
theorem ky_start {W : World} {ac ak ap : Option Addr} {cc ck cp : Nat} {ws cs : List Int} (h : PlAt W (.slice ac (plC ws cs).length cc) (.slice ak (plK ws cs).length ck) (.slice ap (plR ws).length cp) ws cs) :
    KyAt (W.alloc (.cells #[.slice ak (plK ws cs).length ck, .slice ap (plR ws).length cp] 29)) W.heap.size ac ak ap cc ck cp (plC ws cs) (plK ws cs) (plR ws) :=
  have hA := (Only.refl (fun _ => False) W).alloc (.cells #[.slice ak (plK ws cs).length ck, .slice ap (plR ws).length cp] 29)
  ⟨h.cf.only hA, h.cm.only hA, h.gr.only hA, heap_alloc_last W _⟩
/-- Contracts over the keys. -/
theorem KyAt.shares {W : World} {nk : Nat} {ac ak ap : Option Addr} {cc ck cp : Nat} {C K : List Int} {R : List (List Int)} {n nd : Nat} (h : KyAt W nk ac ak ap cc ck cp C K R) (ok : PlOk C K R n nd) :
    Calls Tryd.prog 6 #[.slice ac C.length cc, .agg #[.slice ak K.length ck, .slice ap R.length cp]] W (ShPost W C n) :=
  shares9_any _ ak ap _ ck cp C R n W h.cf h.gr ok.grid (by have := ok.cl; have := ok.d2; have := ok.n2; omega) ok.num ok.n2
theorem KyAt.verify {W : World} {nk : Nat} {ac ak ap : Option Addr} {cc ck cp : Nat} {C K : List Int} {R : List (List Int)} {n nd : Nat} (h : KyAt W nk ac ak ap cc ck cp C K R) (ok : PlOk C K R n nd) (r x v c z : Int) (h0 : -9223372036854775808 ≤ r) (h1 : r ≤ 9223372036854775807) (hG : Glob W) :
    Calls Tryd.prog 12 #[.agg #[.slice ak K.length ck, .slice ap R.length cp], .int .i64 r, .agg #[.int .i64 x, .int .i64 v, .int .i64 c, .int .i64 z]] W fun e w' => e = .returned (.bool (acB (n : Nat) K r (x, v, c, z))) ∧ Only (fun _ => False) W w' := by
  have := bverify_any ak ap ck cp K R r x v c z W h.cm h.gr ok.grid (by have := ok.kl; have := ok.d2; have := ok.n2; omega) h0 h1 hG
  rw [ok.right, ok.num, Bool.true_and] at this
  exact this
theorem KyAt.combine {W : World} {nk : Nat} {ac ak ap : Option Addr} {cc ck cp : Nat} {C K : List Int} {R : List (List Int)} {n nd : Nat} (h : KyAt W nk ac ak ap cc ck cp C K R) (ok : PlOk C K R n nd) (r : Int) (sv : Value) (L : List Pt4) (hL : P4sAt W sv L) (hlen : L.length ≤ 1000000) (h0 : -9223372036854775808 ≤ r) (h1 : r ≤ 9223372036854775807) (hG : Glob W) :
    Calls Tryd.prog 8 #[.agg #[.slice ak K.length ck, .slice ap R.length cp], .int .i64 r, sv] W fun e w' =>
      ∃ v, e = .returned (.tuple #[.int .i64 (combR R K r L).1, v, .int .i64 (combR R K r L).2.2]) ∧ w'.ownsRow W.heap.size 3 1 v (combR R K r L).2.1.length (irow (combR R K r L).2.1) ∧ Only (fun _ => False) W w' :=
  bcombine_any sv L ak ap ck cp K R r W hL hlen h.cm h.gr ok.grid (by have := ok.kl; have := ok.d2; have := ok.n2; omega) h0 h1 hG
theorem PlOk.share {C K : List Int} {R : List (List Int)} {n nd : Nat} (ok : PlOk C K R n nd) {W : World} {sv : Value} {base : Nat} (h : W.ownsRow base 41 2 sv n (srow (shTo C n))) :
    ∀ k, k < n → ∃ b off c, sv = .slice (some ⟨b, off, none⟩) n c ∧ b < W.heap.size ∧ n ≤ c ∧ c ≤ 9223372036854775807 ∧ W.cell? ⟨b, off + k * 2, none⟩ = some (.int .i64 ((k : Int) + 1)) ∧ W.cell? ⟨b, off + k * 2 + 1, none⟩ = some (.int .i64 (valZ C ((k : Int) + 1))) := by
  intro k hk
  have hn := ok.n2
  have hs := shs_of_own (l := shTo C n) (by rw [shTo_len]; exact h) (by rw [shTo_len]; omega)
  rcases hs with ⟨a, c, _, h0⟩ | ⟨b, off, cap, hv, hb, h1, h2, hc⟩
  · have := congrArg List.length h0; rw [shTo_len] at this; simp at this; omega
  · rw [shTo_len] at hv h1
    obtain ⟨c0, c1⟩ := hc k (by rw [shTo_len]; exact hk)
    rw [shTo_at C n k hk] at c0 c1
    exact ⟨b, off, cap, hv, hb, h1, h2, c0, c1⟩
end Go.Proofs.YtlhfgbkonmgahaaDoor

namespace Go.Proofs.YtlhfgbkonmgahaaDoor
open Go.RowKit

set_option maxRecDepth 100000 in
set_option maxHeartbeats 8000000 in
theorem bf_walk (sv cv : Value) (ws cs : List Int) (r m : Int) (w : World) (hB : BytsAt w sv ws) (hC : PtsAt w.heap.size w cv cs) (hW : IntsW cs) (hlw : ws.length ≤ 9223372036854775807) (hlc : cs.length ≤ 9223372036854775807) (hr : (-9223372036854775808 ≤ r ∧ r ≤ 9223372036854775807)) (hm : 0 ≤ m ∧ m ≤ 255) (hG : Glob w) :
    Calls Tryd.prog 3 #[.agg #[sv, cv], .int .i64 r, .int .u8 m] w fun e w' => e = .returned (.bool true) ∧ Below w.heap.size w w' := by
  have hA := (Only.refl (fun _ => False) w).alloc (.cells #[sv, cv] 25)
  have hz0 := heap_alloc_last w (.cells #[sv, cv] 25)
  have HA := Lib.hid hA
  have HZ0 := Lib.hid hz0
  have HBC := Lib.hid (fun W (hO : Only (fun _ => False) w W) => (⟨hB.only hO, hC.only hO⟩ : BytsAt W sv ws ∧ PtsAt W.heap.size W cv cs))
  have HGW := Lib.hid (fun W (hO : Only (fun _ => False) w W) => hG.only hO)
  have HW := Lib.hid hW
  clear hA hB hC hG hW hz0
  go_enter Tryd.func3, Tryd.ntmps3
  go_wp2_with fail
  refine (sanity9_any _ (HGW.out _ HA.out)).mono ?_
  rintro e w1 ⟨rfl, hO1⟩
  have HO1 := Lib.hid (HA.out.trans hO1)
  have e0 : _ = some sv := cell_of_row _ _ 0 _ _ _ (row_still hO1 HZ0.out)
  have e1 : _ = some cv := cell_of_row _ _ 1 _ _ _ (row_still hO1 HZ0.out)
  have HZ0 := Lib.hid (row_still hO1 HZ0.out)
  clear hO1 HA
  go_wp2_with fail
  refine (make_any sv cv ws cs w1 (HBC.out _ HO1.out).1 (HBC.out _ HO1.out).2 HW.out hlw hlc).mono ?_
  rintro e w2 ⟨hO2, cv', kv, pv, rfl, hPL⟩
  obtain ⟨ac, ak, ap, cc, ck, cp, rfl, rfl, rfl⟩ := hPL.keys
  have HKY := Lib.hid (ky_start hPL)
  have HOK := Lib.hid (pl_ok ws cs)
  have HO2 := Lib.hid (HO1.out.trans hO2)
  have HZ0 := Lib.hid (row_still (hO2.alloc (.cells #[.slice ak (plK ws cs).length ck, .slice ap (plR ws).length cp] 29)) HZ0.out)
  have HO3 := Lib.hid (HO2.out.alloc (.cells #[.slice ak (plK ws cs).length ck, .slice ap (plR ws).length cp] 29))
  have HLAW := Lib.hid (few_law ws cs r (m.toNat))
  clear hPL hO2 HO1 HO2 e0 e1 HBC
  go_wp2_with fail
  generalize w2.alloc (.cells #[.slice ak (plK ws cs).length ck, .slice ap (plR ws).length cp] 29) = w3 at *
  generalize w2.heap.size = nk at *
  generalize plC ws cs = C at *
  generalize plK ws cs = K at *
  generalize plR ws = R at *
  generalize plN ws = n at *
  generalize plD ws = nd at *
  obtain ⟨h0a, h0b⟩ := hr
  obtain ⟨i3, i4⟩ := hm
  refine (HKY.out.shares HOK.out).mono ?_
  rintro e w4 ⟨hO4, shv, rfl, hown⟩
  have hn1 := HOK.out.n1
  have hn2 := HOK.out.n2
  have hd1 := HOK.out.d1
  have hd2 := HOK.out.d2
  have HCL := Lib.hid HOK.out.cl
  have HSH := Lib.hid (HOK.out.share hown)
  have HKY4 := Lib.hid (HKY.out.only hO4)
  have HO4 := Lib.hid (HO3.out.trans hO4)
  obtain ⟨asv, csv, rfl⟩ := slice_of_own hown
  have HEV := Lib.hid (fun x w hG => (show Calls Tryd.prog 7 #[.agg #[.int .i64 x, .int .i64 (valZ C x)], .int .i64 r] w fun e w' => e = .returned (.agg #[.int .i64 (evS C r x).1, .int .i64 (evS C r x).2.1, .int .i64 (evS C r x).2.2.1, .int .i64 (evS C r x).2.2.2]) ∧ Only (fun _ => False) w w' from peval_any x (valZ C x) r w h0a h0b hG))
  obtain ⟨p0, hp0, hpz0, hpz1, hpz2⟩ := info_parts Tryd.infoP4
  generalize hmt : m.toNat = f at *
  have hmf : m = (f : Int) := by omega
  clear hmt
  subst hmf
  clear hO4 hown HKY HZ0 HO3
  rw [HCL.out]
  go_wp2_with fail
  go_loopw [11, 12] (fun v vi wr => ∃ k : Nat, k ≤ nd - 1 ∧ vi = .int .i64 k ∧ wr.ownsRow w4.heap.size 38 4 v (2 * k) (prow (dupL ((turnTo n f k).map (evS C r)))) ∧ Only (fun _ => False) w4 wr) (fun _ vi _ => nd - (intOf vi).toNat)
  case atStart => exact ⟨0, Nat.zero_le _, rfl, World.ownsRow_nil _ _ _ _, Only.refl _ _⟩
  case round =>
    obtain ⟨k, hk, rfl, hown, hO⟩ := hrel
    have HO := Lib.hid hO
    by_cases hlt : k + 1 < nd
    · have i1 : (k : Int) + 1 < nd := by omega
      have i2 : 0 ≤ (k : Int) := by omega
      have hjn : (f + k) % n < n := Nat.mod_lt _ (by omega)
      have hjj : ((f : Int) + (k : Int)) % (n : Int) = (((f + k) % n : Nat) : Int) := by simp
      have HTU := Lib.hid (show dupL ((turnTo n f (k + 1)).map (evS C r)) = dupL ((turnTo n f k).map (evS C r)) ++ [evS C r ((((f + k) % n : Nat) : Int) + 1), evS C r ((((f + k) % n : Nat) : Int) + 1)] by rw [turnTo, List.map_append, List.map_cons, List.map_nil, dupL_snoc])
      obtain ⟨sb, so, sc, hv, hsb, hsc1, hsc2, c0, c1⟩ := HSH.out _ hjn
      simp only [Value.slice.injEq, true_and] at hv
      obtain ⟨rfl, rfl⟩ := hv
      have d0 := hO.cell c0 id
      have d1 := hO.cell c1 id
      have hsz := hO.size
      have hsb2 : sb < wr.heap.size := by omega
      have HEJ := Lib.hid (HEV.out ((((f + k) % n : Nat) : Int) + 1) wr (HGW.out _ (HO4.out.trans hO)))
      generalize (f + k) % n = j at *
      generalize valZ C ((j : Int) + 1) = y at *
      generalize evS C r ((j : Int) + 1) = p at *
      obtain ⟨px, pv, pc, pz⟩ := p
      dsimp only at HEJ
      generalize dupL ((turnTo n f k).map (evS C r)) = L at *
      have HOW := Lib.hid hown
      have i5 : (j : Int) < n := by omega
      have i6 : 0 ≤ (j : Int) := by omega
      obtain ⟨av, cvv, rfl⟩ := slice_of_own hown
      clear hO hown c0 c1 hsb hjn
      go_wp2_with fail
      refine HEJ.out.mono ?_
      rintro e w5 ⟨rfl, hO5⟩
      have hA5 := hO5.alloc (.cells #[.int .i64 px, .int .i64 pv, .int .i64 pc, .int .i64 pz] 38)
      have HO5 := Lib.hid (HO.out.trans hA5)
      have HOW5 := Lib.hid (hA5.owns HOW.out (fun _ _ h => h))
      have HX5 := Lib.hid (heap_alloc_last w5 (.cells #[.int .i64 px, .int .i64 pv, .int .i64 pc, .int .i64 pz] 38))
      have x0 : _ = some (Value.int .i64 px) := cell_of_row _ _ 0 _ _ _ HX5.out
      have x1 : _ = some (Value.int .i64 pv) := cell_of_row _ _ 1 _ _ _ HX5.out
      have x2 : _ = some (Value.int .i64 pc) := cell_of_row _ _ 2 _ _ _ HX5.out
      have x3 : _ = some (Value.int .i64 pz) := cell_of_row _ _ 3 _ _ _ HX5.out
      have lx := own_lt0 HX5.out
      have hsz5 := HO5.out.size
      clear hO5 hA5 d0 d1 hjj HEJ HOW hsb2
      go_upto_region 9 with fail
      generalize w5.alloc (.cells #[.int .i64 px, .int .i64 pv, .int .i64 pc, .int .i64 pz] 38) = w6 at *
      generalize w5.heap.size = nx at *
      go_wp2_with (at_builtin; refine wpList_append_lies _ rfl _ _ 34 rfl w4.heap.size 38 p0 _ 4 32 Tryd.underlying34 hp0 hpz0 hpz1 hpz2 rfl (by decide) _ (2 * k) (prow L) rfl (HOW5.out.alloc _) ⟨w6.heap.size, 0, none⟩ 2 2 (prow [(px, pv, pc, pz), (px, pv, pc, pz)]) rfl rfl (World.news_of_block (cs := #[.int .i64 px, .int .i64 pv, .int .i64 pc, .int .i64 pz, .int .i64 px, .int .i64 pv, .int .i64 pc, .int .i64 pz]) (t := 38) (fr := (0, 0)) (heap_alloc_new w6 _)) ?c1 (by decide) ?c2 ?c3 ?c4 _ rfl ?_)
      case c1 => intro u hu; simp [prow] at hu; rcases hu with rfl | rfl | rfl | rfl | rfl | rfl | rfl | rfl <;> rfl
      case c2 => unfold maxLen; omega
      case c3 => omega
      case c4 => first | omega | (simp; omega)
      intro g1 cp1 w7 ho1 hg1 ha1 _
      have HO7 := Lib.hid ((HO5.out.alloc _).grow (HOW5.out.alloc _) (Nat.le_refl _) hg1)
      have HOW7 := Lib.hid (show w7.ownsRow w4.heap.size 38 4 (.slice (some ⟨g1, 0, none⟩) (2 * k + 2) cp1) (2 * (k + 1)) (prow (dupL ((turnTo n f (k + 1)).map (evS C r)))) by rw [HTU.out, prow_append]; exact ho1)
      clear ho1 hg1 ha1
      go_wp2
      go_roundw
      case rel => exact ⟨k + 1, by omega, by go_num, HOW7.out, HO7.out⟩
      case measure => simp [intOf]; omega
    · obtain rfl : k = nd - 1 := by omega
      have i1 : ¬ ((nd - 1 : Nat) : Int) + 1 < nd := by omega
      have HKYr := Lib.hid (HKY4.out.only hO)
      have HP4 := Lib.hid (p4s_of_own (l := dupL ((turnTo n f (nd - 1)).map (evS C r))) (by rw [dupL_len, List.length_map, turnTo_len]; exact hown))
      have hll : (dupL ((turnTo n f (nd - 1)).map (evS C r))).length ≤ 1000000 := by rw [dupL_len, List.length_map, turnTo_len]; omega
      have HCO := Lib.hid (HKYr.out.combine HOK.out r _ _ HP4.out hll h0a h0b (HGW.out _ (HO4.out.trans hO)))
      rw [HLAW.out] at HCO
      have k0 : _ = some (Value.slice ak K.length ck) := cell_of_row _ _ 0 _ _ _ HKYr.out.row
      have k1 : _ = some (Value.slice ap R.length cp) := cell_of_row _ _ 1 _ _ _ HKYr.out.row
      have lk := own_lt0 HKYr.out.row
      obtain ⟨av, cvv, rfl⟩ := slice_of_own hown
      clear hO hown hll
      go_wp2_with fail
      refine HCO.out.mono ?_
      rintro e w5 ⟨u, rfl, hown5, hO5⟩
      obtain ⟨au, cu, rfl⟩ := slice_of_own hown5
      have HO5 := Lib.hid (HO4.out.trans (HO.out.trans hO5))
      clear hown5 hO5 k0 k1 lk
      go_wp2
      go_ret
      exact ⟨rfl, HO5.out.below (Nat.le_refl _) (fun _ _ h => h)⟩
end Go.Proofs.YtlhfgbkonmgahaaDoor
