/-
  The arguments of the laws of layer 9, opened.
  What the laws of layer 9 start from: keys of a poll in memory.
  The walk of the law BeaconRounds.
-/
import Derived.Test.YtlhfgbkonmgahaaGreatDoorPa15
import Derived.Test.YtlhfgbkonmgahaaGreatDoorPa18
import Derived.Test.YtlhfgbkonmgahaaGreatDoorPa19
import Derived.Test.YtlhfgbkonmgahaaGreatDoorPa17
namespace Go.Proofs.YtlhfgbkonmgahaaGreatDoor
open Go.RowKit Go.ChangeShapes Go.WideShapes

theorem Tryz.cellsU8 : Tryz.prog.cellsOf 5 = 1 := by kernel_rfl
theorem Tryz.cellsPk : Tryz.prog.cellsOf 81 = 2 := by kernel_rfl
theorem Tryz.cellsPo : Tryz.prog.cellsOf 36 = 2 := by kernel_rfl
theorem Tryz.cells6 : Tryz.prog.cellsOf 38 = 6 := by kernel_rfl
theorem Tryz.cellsLu : Tryz.prog.cellsOf 33 = 1 := by kernel_rfl
theorem Tryz.cellsLi : Tryz.prog.cellsOf 34 = 1 := by kernel_rfl
theorem open_byts {w : World} {lv : Value} (h : Rd w 33 [lv]) : ∃ l, BytsAt w lv l ∧ ∃ a c, lv = .slice a l.length c ∧ l.length ≤ c ∧ c ≤ 9223372036854775807 := by
  rcases h.slice Tryz.underlying33 (by rw [Tryz.cellsU8]; decide) with ⟨a, c, hs, hcm⟩ | ⟨b, off, len, cap, hs, h0, hl, hm, hb, hi⟩
  · unfold maxLen at hcm
    exact ⟨[], .inl ⟨a, c, by simpa using hs, rfl⟩, a, c, by simpa using hs, Nat.zero_le _, by omega⟩
  · rw [Tryz.cellsU8] at hi
    obtain ⟨l, hll, hP⟩ := pick_list (0 : Int) (P := fun j t => w.cell? ⟨b, off + j, none⟩ = some (.int .u8 t) ∧ 0 ≤ t ∧ t ≤ 255) len (fun j hj => by
        obtain ⟨cs', hl', hat, hr⟩ := hi j hj
        obtain ⟨t, rfl, wt⟩ := hr.int Tryz.underlying5
        have := hat 0 (by omega)
        rw [Nat.mul_one] at this
        exact ⟨t, this, bounds_u8 wt⟩)
    unfold maxLen at hm
    exact ⟨l, .inr ⟨b, off, cap, by rw [hll]; simpa using hs, hb, by omega, by omega, fun j hj => hP j (by omega)⟩, _, cap, by rw [hll]; simpa using hs, by omega, by omega⟩
theorem open_pk {w : World} {cs : List Value} (h : Rd w 81 cs) : ∃ t : Int × Int, cs = [.int .u8 t.1, .int .u8 t.2] ∧ (0 ≤ t.1 ∧ t.1 ≤ 255) ∧ (0 ≤ t.2 ∧ t.2 ≤ 255) := by
  obtain ⟨hl, hi⟩ := h.struct Tryz.underlying81
  have h0 : Rd w 5 ((cs.drop 0).take (Tryz.prog.cellsOf 5)) := hi 0 _ rfl
  have h1 : Rd w 5 ((cs.drop 1).take (Tryz.prog.cellsOf 5)) := hi 1 _ rfl
  rw [Tryz.cellsU8] at h0 h1
  obtain ⟨a, b, rfl⟩ := two_of (hl.trans Tryz.cellsPk)
  obtain ⟨x, hx, wx⟩ := h0.int Tryz.underlying5
  obtain ⟨y, hy, wy⟩ := h1.int Tryz.underlying5
  simp at hx hy
  subst hx hy
  exact ⟨(x, y), rfl, bounds_u8 wx, bounds_u8 wy⟩
theorem open_pks {w : World} {lv : Value} (h : Rd w 37 [lv]) : ∃ l, PksAt w lv l ∧ ∃ a c, lv = .slice a l.length c ∧ l.length ≤ c ∧ c ≤ 9223372036854775807 := by
  rcases h.slice Tryz.underlying37 (by rw [Tryz.cellsPk]; decide) with ⟨a, c, hs, hcm⟩ | ⟨b, off, len, cap, hs, h0, hl, hm, hb, hi⟩
  · unfold maxLen at hcm
    exact ⟨[], .inl ⟨a, c, by simpa using hs, rfl⟩, a, c, by simpa using hs, Nat.zero_le _, by omega⟩
  · rw [Tryz.cellsPk] at hi
    obtain ⟨l, hll, hP⟩ := pick_list ((0, 0) : Int × Int) (P := fun j t => (w.cell? ⟨b, off + j * 2, none⟩ = some (.int .u8 t.1) ∧ w.cell? ⟨b, off + j * 2 + 1, none⟩ = some (.int .u8 t.2)) ∧ (0 ≤ t.1 ∧ t.1 ≤ 255) ∧ (0 ≤ t.2 ∧ t.2 ≤ 255)) len (fun j hj => by
        obtain ⟨cs', hl', hat, hr⟩ := hi j hj
        obtain ⟨t, rfl, hx, hy⟩ := open_pk hr
        exact ⟨t, ⟨hat 0 (by omega), hat 1 (by omega)⟩, hx, hy⟩)
    unfold maxLen at hm
    exact ⟨l, .inr ⟨b, off, cap, by rw [hll]; simpa using hs, hb, by omega, by omega, fun j hj => hP j (by omega)⟩, _, cap, by rw [hll]; simpa using hs, by omega, by omega⟩
set_option maxRecDepth 100000 in
/-- sortesref09.Poll, by value. -/
theorem open_poll {w : World} {r : Reach} {base : Nat} {v : Value} (ok : Value.okWide Tryz.prog w r base 36 v) (h : Rd w 36 v.cells.toList) :
    ∃ (sv cv : Value) (ws cs : List Int), v = .agg #[sv, cv] ∧ BytsAt w sv ws ∧ PtsAt w.heap.size w cv cs ∧ IntsW cs ∧ ws.length ≤ 9223372036854775807 ∧ cs.length ≤ 9223372036854775807 := by
  obtain ⟨cs, rfl⟩ := agg_struct Tryz.underlying36 ok
  obtain ⟨hl, hf⟩ := h.struct Tryz.underlying36
  rw [Tryz.cellsPo] at hl
  have h0 : Rd w 33 ((_ : List Value).take (Tryz.prog.cellsOf 33)) := hf 0 _ rfl
  have h1 : Rd w 34 ((_ : List Value).take (Tryz.prog.cellsOf 34)) := hf 1 _ rfl
  rw [Tryz.cellsLu] at h0
  rw [Tryz.cellsLi] at h1
  obtain ⟨a, b, hcs⟩ := two_of hl
  simp only [hcs] at h0 h1
  obtain ⟨ws, hw, _, _, _, w1, w2⟩ := open_byts (show Rd w 33 [a] from h0)
  obtain ⟨l, hl2, hw2, _, _, _, l1, l2⟩ := open_ints (show Rd w 34 [b] from h1)
  refine ⟨a, b, ws, l, ?_, hw, hl2, hw2, by omega, by omega⟩
  simp only [Value.cells] at hcs
  congr 1
  apply Array.ext'
  exact hcs
set_option maxRecDepth 100000 in
theorem open_two_val {w : World} {r : Reach} {base : Nat} {v : Value} (ok : Value.okWide Tryz.prog w r base 24 v) (h : Rd w 24 v.cells.toList) : ∃ a b : Int, v = .agg #[.int .i64 a, .int .i64 b] ∧ (-9223372036854775808 ≤ a ∧ a ≤ 9223372036854775807) ∧ (-9223372036854775808 ≤ b ∧ b ≤ 9223372036854775807) := by
  obtain ⟨cs, rfl, _⟩ := okWide_array Tryz.underlying24 ok
  obtain ⟨t, hc, ha, hb⟩ := open_pair h
  refine ⟨t.1, t.2, ?_, ha, hb⟩
  simp only [Value.cells] at hc
  congr 1
  apply Array.ext'
  exact hc
set_option maxRecDepth 100000 in
theorem open_share_val {w : World} {r : Reach} {base : Nat} {v : Value} (ok : Value.okWide Tryz.prog w r base 23 v) (h : Rd w 23 v.cells.toList) : ∃ a b : Int, v = .agg #[.int .i64 a, .int .i64 b] := by
  obtain ⟨cs, rfl⟩ := agg_struct Tryz.underlying23 ok
  obtain ⟨t, hc, _⟩ := open_sh h
  refine ⟨t.1, t.2, ?_⟩
  simp only [Value.cells] at hc
  congr 1
  apply Array.ext'
  exact hc
theorem six_of {cs : List Value} (h : cs.length = 6) : ∃ a b c d e f, cs = [a, b, c, d, e, f] := by
  match cs, h with
  | [a, b, c, d, e, f], _ => exact ⟨a, b, c, d, e, f, rfl⟩
set_option maxRecDepth 100000 in
theorem open_six_val {w : World} {r : Reach} {base : Nat} {v : Value} (ok : Value.okWide Tryz.prog w r base 38 v) (h : Rd w 38 v.cells.toList) : ∃ a b c d e f : Int, v = .agg #[.int .i64 a, .int .i64 b, .int .i64 c, .int .i64 d, .int .i64 e, .int .i64 f] ∧ (-9223372036854775808 ≤ a ∧ a ≤ 9223372036854775807) := by
  obtain ⟨cs, rfl, _⟩ := okWide_array Tryz.underlying38 ok
  obtain ⟨hl, hi⟩ := h.array Tryz.underlying38
  have h0 := hi 0 (by decide)
  have h1 := hi 1 (by decide)
  have h2 := hi 2 (by decide)
  have h3 := hi 3 (by decide)
  have h4 := hi 4 (by decide)
  have h5 := hi 5 (by decide)
  rw [Tryz.cellsI] at h0 h1 h2 h3 h4 h5
  obtain ⟨a, b, c, d, e, f, hcs⟩ := six_of (hl.trans Tryz.cells6)
  rw [hcs] at h0 h1 h2 h3 h4 h5
  obtain ⟨x0, g0, w0⟩ := h0.int Tryz.underlying3
  obtain ⟨x1, g1, w1⟩ := h1.int Tryz.underlying3
  obtain ⟨x2, g2, w2⟩ := h2.int Tryz.underlying3
  obtain ⟨x3, g3, w3⟩ := h3.int Tryz.underlying3
  obtain ⟨x4, g4, w4⟩ := h4.int Tryz.underlying3
  obtain ⟨x5, g5, w5⟩ := h5.int Tryz.underlying3
  simp at g0 g1 g2 g3 g4 g5
  subst g0 g1 g2 g3 g4 g5
  refine ⟨x0, x1, x2, x3, x4, x5, ?_, bounds_i64 w0⟩
  simp only [Value.cells] at hcs
  congr 1
  apply Array.ext'
  exact hcs
end Go.Proofs.YtlhfgbkonmgahaaGreatDoor

namespace Go.Proofs.YtlhfgbkonmgahaaGreatDoor
open Go.RowKit

/-- What is known of the keys of a poll. -/
structure PlOk (C K : List Int) (R : List (List Int)) (n nd : Nat) : Prop where
  grid : ∀ k, k ≤ R.length → gridTo R k ≤ 1000000
  num : gridN R = n
  n1 : 1 ≤ n
  n2 : n ≤ 60
  cl : C.length = nd
  kl : K.length = nd
  d1 : 1 ≤ nd
  d2 : nd ≤ n
  cb : ∀ j, 0 ≤ ptAt C j ∧ ptAt C j < 1152921504606845789
  right : rightKB R K = true
  eq : K = cmTo C C.length
theorem pl_ok (ws cs : List Int) : PlOk (plC ws cs) (plK ws cs) (plR ws) (plN ws) (plD ws) := by
  obtain ⟨s1, s2, s3, s4, s5, s6, s7⟩ := pl_sum ws
  exact ⟨s1, s2, s3, s4, plC_len ws cs, plK_len ws cs, s6, s7, plC_bd ws cs, pl_keys ws cs, rfl⟩
/-- Keys in memory, and the coefficients. -/
structure KyAt (W : World) (nk : Nat) (ac ak ap : Option Addr) (cc ck cp : Nat) (C K : List Int) (R : List (List Int)) : Prop where
  cf : PtsAt W.heap.size W (.slice ac C.length cc) C
  cm : PtsAt W.heap.size W (.slice ak K.length ck) K
  gr : GridAt W (.slice ap R.length cp) R
  row : W.heap[nk]? = some (.cells #[.slice ak K.length ck, .slice ap R.length cp] 41 (0, 0))
theorem KyAt.only {A B : World} {nk : Nat} {ac ak ap : Option Addr} {cc ck cp : Nat} {C K : List Int} {R : List (List Int)} (h : KyAt A nk ac ak ap cc ck cp C K R) (hO : Only (fun _ => False) A B) : KyAt B nk ac ak ap cc ck cp C K R :=
  ⟨h.cf.only hO, h.cm.only hO, h.gr.only hO, row_still hO h.row⟩
theorem PlAt.keys {W : World} {cv kv pv : Value} {ws cs : List Int} (h : PlAt W cv kv pv ws cs) : ∃ ac ak ap cc ck cp, cv = .slice ac (plC ws cs).length cc ∧ kv = .slice ak (plK ws cs).length ck ∧ pv = .slice ap (plR ws).length cp := by
  obtain ⟨ac, cc, e1⟩ := h.cf.slice
  obtain ⟨ak, ck, e2⟩ := h.cm.slice
  obtain ⟨ap, cp, e3⟩ := h.gr.slice
  exact ⟨ac, ak, ap, cc, ck, cp, e1, e2, e3⟩
theorem ky_start {W : World} {ac ak ap : Option Addr} {cc ck cp : Nat} {ws cs : List Int} (h : PlAt W (.slice ac (plC ws cs).length cc) (.slice ak (plK ws cs).length ck) (.slice ap (plR ws).length cp) ws cs) :
    KyAt (W.alloc (.cells #[.slice ak (plK ws cs).length ck, .slice ap (plR ws).length cp] 41)) W.heap.size ac ak ap cc ck cp (plC ws cs) (plK ws cs) (plR ws) :=
  have hA := (Only.refl (fun _ => False) W).alloc (.cells #[.slice ak (plK ws cs).length ck, .slice ap (plR ws).length cp] 41)
  ⟨h.cf.only hA, h.cm.only hA, h.gr.only hA, heap_alloc_last W _⟩
/-- Contracts over the keys. -/
theorem KyAt.shares {W : World} {nk : Nat} {ac ak ap : Option Addr} {cc ck cp : Nat} {C K : List Int} {R : List (List Int)} {n nd : Nat} (h : KyAt W nk ac ak ap cc ck cp C K R) (ok : PlOk C K R n nd) :
    Calls Tryz.prog 19 #[.slice ac C.length cc, .agg #[.slice ak K.length ck, .slice ap R.length cp]] W (ShPost W C n) :=
  shares9_any _ ak ap _ ck cp C R n W h.cf h.gr ok.grid (by have := ok.cl; have := ok.d2; have := ok.n2; omega) ok.num ok.n2
theorem KyAt.verify {W : World} {nk : Nat} {ac ak ap : Option Addr} {cc ck cp : Nat} {C K : List Int} {R : List (List Int)} {n nd : Nat} (h : KyAt W nk ac ak ap cc ck cp C K R) (ok : PlOk C K R n nd) (r x v c z : Int) (h0 : -9223372036854775808 ≤ r) (h1 : r ≤ 9223372036854775807) (hG : Glob W) :
    Calls Tryz.prog 17 #[.agg #[.slice ak K.length ck, .slice ap R.length cp], .int .i64 r, .agg #[.int .i64 x, .int .i64 v, .int .i64 c, .int .i64 z]] W fun e w' => e = .returned (.bool (acB (n : Nat) K r (x, v, c, z))) ∧ Only (fun _ => False) W w' := by
  have := bverify_any ak ap ck cp K R r x v c z W h.cm h.gr ok.grid (by have := ok.kl; have := ok.d2; have := ok.n2; omega) h0 h1 hG
  rw [ok.right, ok.num, Bool.true_and] at this
  exact this
theorem KyAt.rverify {W : World} {nk : Nat} {ac ak ap : Option Addr} {cc ck cp : Nat} {C K : List Int} {R : List (List Int)} {n nd : Nat} (h : KyAt W nk ac ak ap cc ck cp C K R) (ok : PlOk C K R n nd) (r x v c z : Int) (h0 : -9223372036854775808 ≤ r) (h1 : r ≤ 9223372036854775807) :
    Calls Tryz.prog 18 #[.agg #[.slice ak K.length ck, .slice ap R.length cp], .int .i64 r, .agg #[.int .i64 x, .int .i64 v, .int .i64 c, .int .i64 z]] W fun e w' => e = .returned (.bool (acB (n : Nat) K r (x, v, c, z))) ∧ Only (fun _ => False) W w' := by
  have := rverify9_any ak ap ck cp K R r x v c z W h.cm h.gr ok.grid (by have := ok.kl; have := ok.d2; have := ok.n2; omega) h0 h1
  rw [ok.right, ok.num, Bool.true_and] at this
  exact this
theorem KyAt.combine {W : World} {nk : Nat} {ac ak ap : Option Addr} {cc ck cp : Nat} {C K : List Int} {R : List (List Int)} {n nd : Nat} (h : KyAt W nk ac ak ap cc ck cp C K R) (ok : PlOk C K R n nd) (r : Int) (sv : Value) (L : List Pt4) (hL : P4sAt W sv L) (hlen : L.length ≤ 1000000) (h0 : -9223372036854775808 ≤ r) (h1 : r ≤ 9223372036854775807) (hG : Glob W) :
    Calls Tryz.prog 22 #[.agg #[.slice ak K.length ck, .slice ap R.length cp], .int .i64 r, sv] W fun e w' =>
      ∃ v, e = .returned (.tuple #[.int .i64 (combR R K r L).1, v, .int .i64 (combR R K r L).2.2]) ∧ w'.ownsRow W.heap.size 3 1 v (combR R K r L).2.1.length (irow (combR R K r L).2.1) ∧ Only (fun _ => False) W w' :=
  bcombine_any sv L ak ap ck cp K R r W hL hlen h.cm h.gr ok.grid (by have := ok.kl; have := ok.d2; have := ok.n2; omega) h0 h1 hG
theorem PlOk.share {C K : List Int} {R : List (List Int)} {n nd : Nat} (ok : PlOk C K R n nd) {W : World} {sv : Value} {base : Nat} (h : W.ownsRow base 23 2 sv n (srow (shTo C n))) :
    ∀ k, k < n → ∃ b off c, sv = .slice (some ⟨b, off, none⟩) n c ∧ b < W.heap.size ∧ n ≤ c ∧ c ≤ 9223372036854775807 ∧ W.cell? ⟨b, off + k * 2, none⟩ = some (.int .i64 ((k : Int) + 1)) ∧ W.cell? ⟨b, off + k * 2 + 1, none⟩ = some (.int .i64 (valZ C ((k : Int) + 1))) := by
  intro k hk
  have hn := ok.n2
  have hs := shs_of_own (l := shTo C n) (by rw [shTo_len]; exact h) (by rw [shTo_len]; omega)
  rcases hs with ⟨a, c, _, h0⟩ | ⟨b, off, cap, hv, hb, h1, h2, hc⟩
  · have := congrArg List.length h0; rw [shTo_len] at this; simp at this; omega
  · rw [shTo_len] at hv h1
    obtain ⟨c0, c1⟩ := hc k (by rw [shTo_len]; exact hk)
    rw [shTo_at C n k hk] at c0 c1
    exact ⟨b, off, cap, hv, hb, h1, h2, c0, c1⟩
end Go.Proofs.YtlhfgbkonmgahaaGreatDoor

namespace Go.Proofs.YtlhfgbkonmgahaaGreatDoor
open Go.RowKit

set_option maxRecDepth 100000 in
set_option maxHeartbeats 8000000 in
theorem br_walk (sv cv : Value) (ws cs : List Int) (q0 q1 m : Int) (w : World) (hB : BytsAt w sv ws) (hC : PtsAt w.heap.size w cv cs) (hW : IntsW cs) (hlw : ws.length ≤ 9223372036854775807) (hlc : cs.length ≤ 9223372036854775807) (hq0 : (-9223372036854775808 ≤ q0 ∧ q0 ≤ 9223372036854775807)) (hq1 : (-9223372036854775808 ≤ q1 ∧ q1 ≤ 9223372036854775807)) (hm : 0 ≤ m ∧ m ≤ 255) (hG : Glob w) :
    Calls Tryz.prog 7 #[.agg #[sv, cv], .agg #[.int .i64 q0, .int .i64 q1], .int .u8 m] w fun e w' => e = .returned (.bool true) ∧ Below w.heap.size w w' := by
  have hA := ((Only.refl (fun _ => False) w).alloc (.cells #[sv, cv] 36)).alloc (.cells #[.int .i64 q0, .int .i64 q1] 24)
  have hz0 := row_still ((Only.refl (fun _ => False) (w.alloc (.cells #[sv, cv] 36))).alloc (.cells #[.int .i64 q0, .int .i64 q1] 24)) (heap_alloc_last w (.cells #[sv, cv] 36))
  have hz1 := heap_alloc_last (w.alloc (.cells #[sv, cv] 36)) (.cells #[.int .i64 q0, .int .i64 q1] 24)
  simp only [World.size_alloc] at hz1
  have HA := Lib.hid hA
  have HZ0 := Lib.hid hz0
  have HZ1 := Lib.hid hz1
  have HBC := Lib.hid (fun W (hO : Only (fun _ => False) w W) => (⟨hB.only hO, hC.only hO⟩ : BytsAt W sv ws ∧ PtsAt W.heap.size W cv cs))
  have HGW := Lib.hid (fun W (hO : Only (fun _ => False) w W) => hG.only hO)
  have HW := Lib.hid hW
  clear hA hB hC hG hW hz0 hz1
  go_enter Tryz.func7, Tryz.ntmps7
  go_wp2_with fail
  refine (sanity9_any _ (HGW.out _ HA.out)).mono ?_
  rintro e w1 ⟨rfl, hO1⟩
  have HO1 := Lib.hid (HA.out.trans hO1)
  have e0 : _ = some sv := cell_of_row _ _ 0 _ _ _ (row_still hO1 HZ0.out)
  have e1 : _ = some cv := cell_of_row _ _ 1 _ _ _ (row_still hO1 HZ0.out)
  have HZ0 := Lib.hid (row_still hO1 HZ0.out)
  have HZ1 := Lib.hid (row_still hO1 HZ1.out)
  clear hO1 HA
  go_wp2_with fail
  refine (make_any sv cv ws cs w1 (HBC.out _ HO1.out).1 (HBC.out _ HO1.out).2 HW.out hlw hlc).mono ?_
  rintro e w2 ⟨hO2, cv', kv, pv, rfl, hPL⟩
  obtain ⟨ac, ak, ap, cc, ck, cp, rfl, rfl, rfl⟩ := hPL.keys
  have HKY := Lib.hid (ky_start hPL)
  have HOK := Lib.hid (pl_ok ws cs)
  have HO2 := Lib.hid (HO1.out.trans hO2)
  have HZ0 := Lib.hid (row_still (hO2.alloc (.cells #[.slice ak (plK ws cs).length ck, .slice ap (plR ws).length cp] 41)) HZ0.out)
  have HZ1 := Lib.hid (row_still (hO2.alloc (.cells #[.slice ak (plK ws cs).length ck, .slice ap (plR ws).length cp] 41)) HZ1.out)
  have HO3 := Lib.hid (HO2.out.alloc (.cells #[.slice ak (plK ws cs).length ck, .slice ap (plR ws).length cp] 41))
  clear hPL hO2 HO1 HO2 e0 e1 HBC
  go_wp2_with fail
  generalize w2.alloc (.cells #[.slice ak (plK ws cs).length ck, .slice ap (plR ws).length cp] 41) = w3 at *
  generalize w2.heap.size = nk at *
  generalize plC ws cs = C at *
  generalize plK ws cs = K at *
  generalize plR ws = R at *
  generalize plN ws = n at *
  generalize plD ws = nd at *
  obtain ⟨h0a, h0b⟩ := hq0
  obtain ⟨h1a, h1b⟩ := hq1
  refine (HKY.out.shares HOK.out).mono ?_
  rintro e w4 ⟨hO4, shv, rfl, hown⟩
  have hn1 := HOK.out.n1
  have hn2 := HOK.out.n2
  have hmm := Int.emod_nonneg m (show (n : Int) ≠ 0 by omega)
  have hml := Int.emod_lt_of_pos m (show (0 : Int) < n by omega)
  obtain ⟨j, hj⟩ := Int.eq_ofNat_of_zero_le hmm
  rw [hj] at hml
  have hjn : j < n := by omega
  obtain ⟨sb, so, sc, rfl, hsb, hsc1, hsc2, c0, c1⟩ := HOK.out.share hown j hjn
  have HKY4 := Lib.hid (HKY.out.only hO4)
  have HZ4 := Lib.hid (row_still hO4 HZ1.out)
  have HO4 := Lib.hid (HO3.out.trans hO4)
  have i1 : (j : Int) < n := by omega
  have i2 : 0 ≤ (j : Int) := by omega
  obtain ⟨i3, i4⟩ := hm
  clear hO4 hown hmm HKY HZ0 HZ1 HO3
  go_wp2_with fail
  -- what is known of the numbers
  have HAC0 := Lib.hid (show acB (n : Nat) K q0 (evS C q0 ((j : Int) + 1)) = true by rw [HOK.out.eq]; exact ac_right q0 HOK.out.cb (by omega) (by omega) (by omega))
  have HEP := Lib.hid (evS_parts C q0 (x := (j : Int) + 1) (by omega) (by omega))
  have HEV0 := Lib.hid (fun w hG => peval_any ((j : Int) + 1) (valZ C ((j : Int) + 1)) q0 w h0a h0b hG)
  have HEX := Lib.hid (show evalV ((j : Int) + 1) (valZ C ((j : Int) + 1)) q0 = evS C q0 ((j : Int) + 1) from rfl)
  rw [HEX.out, HEP.out] at HEV0
  rw [HEP.out] at HAC0
  have hy := valZ_bd C ((j : Int) + 1)
  have HMA := Lib.hid (base_mem q0)
  have HMB := Lib.hid (base_mem q1)
  have HB0 := Lib.hid (fun w hG => pbase_any q0 w h0a h0b hG)
  have HB1 := Lib.hid (fun w hG => pbase_any q1 w h1a h1b hG)
  have HVF0 := Lib.hid (fun x v c z W (h : KyAt W nk ac ak ap cc ck cp C K R) hG => h.verify HOK.out q0 x v c z h0a h0b hG)
  have HVF1 := Lib.hid (fun x v c z W (h : KyAt W nk ac ak ap cc ck cp C K R) hG => h.verify HOK.out q1 x v c z h1a h1b hG)
  have HAT := Lib.hid (fun W (h : KyAt W nk ac ak ap cc ck cp C K R) => rat_any (.slice ak K.length ck) K ((j : Int) + 1) W h.cm (by have := HOK.out.kl; have := HOK.out.d2; omega))
  rw [← atZ_eq] at HAT
  have HMT := Lib.hid (show memB (atZ K ((j : Int) + 1)) = true by
    rw [HOK.out.eq, at_law C _ HOK.out.cb]
    exact mem_pow memFour hy.1 (by have hq : gQ = 1152921504606845789 := rfl; omega))
  have HMV := Lib.hid (show memB (powM (baseZ q0) (valZ C ((j : Int) + 1)) 2305843009213691579) = true from mem_pow HMA.out hy.1 (by have hq : gQ = 1152921504606845789 := rfl; omega))
  obtain ⟨cb0, cb1⟩ : 0 ≤ pfC (valZ C ((j : Int) + 1)) 4 (baseZ q0) ∧ pfC (valZ C ((j : Int) + 1)) 4 (baseZ q0) < 1152921504606845789 := wscZ_bd _ _
  obtain ⟨zb0, zb1⟩ : 0 ≤ pfZ (valZ C ((j : Int) + 1)) 4 (baseZ q0) ∧ pfZ (valZ C ((j : Int) + 1)) 4 (baseZ q0) < 1152921504606845789 := emod_self_lt _ _ (by decide)
  have HEQ := Lib.hid (fun (e : baseZ q0 = baseZ q1) => show acB (n : Nat) K q1 ((j : Int) + 1, powM (baseZ q0) (valZ C ((j : Int) + 1)) 2305843009213691579, pfC (valZ C ((j : Int) + 1)) 4 (baseZ q0), pfZ (valZ C ((j : Int) + 1)) 4 (baseZ q0)) = true by
    have := HAC0.out
    unfold acB at this ⊢
    rw [← e]
    exact this)
  have HNE := Lib.hid (show acB (n : Nat) K q1 ((j : Int) + 1, powM (baseZ q0) (valZ C ((j : Int) + 1)) 2305843009213691579, pfC (valZ C ((j : Int) + 1)) 4 (baseZ q0), pfZ (valZ C ((j : Int) + 1)) 4 (baseZ q0)) = (wscZ wEq (vNums 4 (atZ K ((j : Int) + 1)) (baseZ q1) (powM (baseZ q0) (valZ C ((j : Int) + 1)) 2305843009213691579) (pfC (valZ C ((j : Int) + 1)) 4 (baseZ q0)) (pfZ (valZ C ((j : Int) + 1)) 4 (baseZ q0))) == pfC (valZ C ((j : Int) + 1)) 4 (baseZ q0)) by
    unfold acB verB
    dsimp only
    have hr : rngB (pfC (valZ C ((j : Int) + 1)) 4 (baseZ q0)) (pfZ (valZ C ((j : Int) + 1)) 4 (baseZ q0)) = true := by
      unfold rngB
      rw [decide_eq_false (by omega), decide_eq_false (by omega), decide_eq_false (by omega), decide_eq_false (by omega)]; rfl
    rw [memFour, HMT.out, HMB.out, HMV.out, hr, decide_eq_true (show 1 ≤ (j : Int) + 1 by omega), decide_eq_true (show (j : Int) + 1 ≤ (n : Nat) by omega)]
    simp only [Bool.and_self, Bool.true_and]
    exact Bool.eq_iff_iff.2 ⟨fun h => by simpa using (beq_iff_eq.1 h).symm, fun h => by simpa using (beq_iff_eq.1 h).symm⟩)
  clear hy HEP HEX
  generalize valZ C ((j : Int) + 1) = y at *
  generalize baseZ q0 = a at *
  generalize baseZ q1 = b at *
  generalize powM a y 2305843009213691579 = v at *
  generalize pfC y 4 a = c at *
  generalize pfZ y 4 a = z at *
  generalize atZ K ((j : Int) + 1) = ta at *
  have HNT := Lib.hid (vNums_nats c z memFour HMT.out HMB.out HMV.out)
  have HS1 := Lib.hid (show sideZ 4 ta c z = powM 4 z 2305843009213691579 * powM ta (1152921504606845789 - c) 2305843009213691579 % 2305843009213691579 from rfl)
  have HS2 := Lib.hid (show sideZ b v c z = powM b z 2305843009213691579 * powM v (1152921504606845789 - c) 2305843009213691579 % 2305843009213691579 from rfl)
  have HVN := Lib.hid (show vNums 4 ta b v c z = [4, ta, b, v, sideZ 4 ta c z, sideZ b v c z] from rfl)
  rw [HVN.out] at HNT HNE
  generalize sideZ 4 ta c z = sd1 at *
  generalize sideZ b v c z = sd2 at *
  generalize hacc : acB (n : Nat) K q1 ((j : Int) + 1, v, c, z) = acc at *
  have HVA := Lib.hid (fun W (h : KyAt W nk ac ak ap cc ck cp C K R) hG => (HVF1.out ((j : Int) + 1) v c z W h hG))
  rw [hacc] at HVA
  clear hacc HVF1
  have HV0 := Lib.hid (fun W (h : KyAt W nk ac ak ap cc ck cp C K R) hG => (HVF0.out ((j : Int) + 1) v c z W h hG))
  rw [HAC0.out] at HV0
  clear HVF0 HAC0
  have HWS := Lib.hid (show ∀ W, Calls Tryz.prog 25 #[.slice (some ⟨W.heap.size, 0, none⟩) 6 6] (W.alloc (.cells #[.int .i64 4, .int .i64 ta, .int .i64 b, .int .i64 v, .int .i64 sd1, .int .i64 sd2] 3)) fun e w' => e = .returned (.int .i64 (wscZ wEq [4, ta, b, v, sd1, sd2])) ∧ Only (fun _ => False) W w' from fun W =>
    (rchal_any _ 6 [4, ta, b, v, sd1, sd2] _ (pts_lit W [4, ta, b, v, sd1, sd2] 3 (by show 6 ≤ _; decide)) HNT.out (by show 6 ≤ _; decide)).mono fun _ _ h => ⟨h.1, ((Only.refl _ W).alloc _).trans h.2⟩)
  generalize wscZ wEq [4, ta, b, v, sd1, sd2] = ch at *
  clear HVN HNT HMT HMV
  -- the share's block
  have HOa := Lib.hid (HO4.out.alloc (.cells #[.int .i64 ((j : Int) + 1), .int .i64 y] 23))
  have hA5 := (Only.refl (fun _ => False) w4).alloc (.cells #[.int .i64 ((j : Int) + 1), .int .i64 y] 23)
  have HKY5 := Lib.hid (HKY4.out.only hA5)
  have HZ5 := Lib.hid (row_still hA5 HZ4.out)
  have HS5 := Lib.hid (heap_alloc_last w4 (.cells #[.int .i64 ((j : Int) + 1), .int .i64 y] 23))
  clear hA5 HKY4 HZ4 HO4 c0 c1 hsb
  generalize w4.alloc (.cells #[.int .i64 ((j : Int) + 1), .int .i64 y] 23) = w5 at *
  generalize w4.heap.size = ns at *
  have f0 : _ = some (Value.int .i64 q0) := cell_of_row _ _ 0 _ _ _ HZ5.out
  have f1 : _ = some (Value.int .i64 q1) := cell_of_row _ _ 1 _ _ _ HZ5.out
  have y0 := fun (d : Nat) (os : Array Obj) => cell_regrown f0 d os
  have y1 := fun (d : Nat) (os : Array Obj) => cell_regrown f1 d os
  clear f0 f1
  have HG5 := Lib.hid (HGW.out _ HOa.out)
  refine wp_region_quiet_below (by kernel_rfl) (by kernel_rfl) ?_
  repeat (go_big_quiet_step ((first | (go_at_call 11; with_reducible exact Calls.regrown_of ((HB0.out _ (Glob.grown HG5.out _ _)).mono fun _ _ h => ⟨h.1, h.2.below (Nat.le_refl _) (fun _ _ h => h)⟩)) | (go_at_call 11; with_reducible exact Calls.regrown_of ((HB1.out _ (Glob.grown HG5.out _ _)).mono fun _ _ h => ⟨h.1, h.2.below (Nat.le_refl _) (fun _ _ h => h)⟩)))))
  refine wpQuiet_nil ?_
  intro w6 hw'
  obtain ⟨pq, hw''⟩ := hw'
  have HO56 := Lib.hid (Only.ofBelow (below_regrown w5 pq.d pq.os) (fun _ => False))
  rw [← hw''] at HO56
  have HO6 := Lib.hid (HOa.out.trans HO56.out)
  have HKY6 := Lib.hid (HKY5.out.only HO56.out)
  have HZ6 := Lib.hid (row_still HO56.out HZ5.out)
  have HS6 := Lib.hid (row_still HO56.out HS5.out)
  have e0 : _ = some (Value.int .i64 ((j : Int) + 1)) := cell_of_row _ _ 0 _ _ _ HS6.out
  have e1 : _ = some (Value.int .i64 y) := cell_of_row _ _ 1 _ _ _ HS6.out
  have e2 : _ = some (Value.int .i64 q0) := cell_of_row _ _ 0 _ _ _ HZ6.out
  have ls := own_lt0 HS6.out
  clear hw'' y0 y1 HO56 HKY5 HZ5 HS5 HG5 HOa
  go_wp2_with fail
  refine (HEV0.out _ (HGW.out _ HO6.out)).mono ?_
  rintro e w7 ⟨rfl, hO7⟩
  have hA7 := hO7.alloc (.cells #[.int .i64 ((j : Int) + 1), .int .i64 v, .int .i64 c, .int .i64 z] 30)
  have HX8 := Lib.hid (heap_alloc_last w7 (.cells #[.int .i64 ((j : Int) + 1), .int .i64 v, .int .i64 c, .int .i64 z] 30))
  have HO8 := Lib.hid (HO6.out.trans hA7)
  have HKY8 := Lib.hid (HKY6.out.only hA7)
  have HZ8 := Lib.hid (row_still hA7 HZ6.out)
  have HS8 := Lib.hid (row_still hA7 HS6.out)
  have k0 : _ = some (Value.slice ak K.length ck) := cell_of_row _ _ 0 _ _ _ HKY8.out.row
  have k1 : _ = some (Value.slice ap R.length cp) := cell_of_row _ _ 1 _ _ _ HKY8.out.row
  have e3 : _ = some (Value.int .i64 q1) := cell_of_row _ _ 1 _ _ _ HZ8.out
  have x0 : _ = some (Value.int .i64 ((j : Int) + 1)) := cell_of_row _ _ 0 _ _ _ HX8.out
  have x1 : _ = some (Value.int .i64 v) := cell_of_row _ _ 1 _ _ _ HX8.out
  have x2 : _ = some (Value.int .i64 c) := cell_of_row _ _ 2 _ _ _ HX8.out
  have x3 : _ = some (Value.int .i64 z) := cell_of_row _ _ 3 _ _ _ HX8.out
  clear hO7 hA7 e0 e1 e2 ls HO6 HKY6 HZ6 HS6
  go_upto_region 7 with fail
  generalize w7.alloc (.cells #[.int .i64 ((j : Int) + 1), .int .i64 v, .int .i64 c, .int .i64 z] 30) = w8 at *
  generalize w7.heap.size = nx at *
  go_wp2_with fail
  refine (HVA.out _ HKY8.out (HGW.out _ HO8.out)).mono ?_
  rintro e w9 ⟨rfl, hO9⟩
  have HO9 := Lib.hid (HO8.out.trans hO9)
  have HKY9 := Lib.hid (HKY8.out.only hO9)
  have HZ9 := Lib.hid (row_still hO9 HZ8.out)
  have HS9 := Lib.hid (row_still hO9 HS8.out)
  have HX9 := Lib.hid (row_still hO9 HX8.out)
  clear hO9 k0 k1 e3 x0 x1 x2 x3 HO8 HKY8 HZ8 HS8 HX8
  by_cases hab : a = b
  · have q : (a == b) = true := beq_iff_eq.2 hab
    have HACC := Lib.hid (HEQ.out hab)
    have HMM := Lib.hid (fun w => member_is a true w HMA.out)
    clear hab HEQ
    cases acc
    · exact absurd HACC.out (by decide)
    · go_wp2_with fail
      refine (HMM.out _).mono ?_
      rintro e w10 ⟨rfl, hO10⟩
      have HO10 := Lib.hid (HO9.out.trans hO10)
      clear hO10
      go_wp2
      go_ret
      exact ⟨rfl, HO10.out.below (Nat.le_refl _) (fun _ _ h => h)⟩
  · have q : (a == b) = false := beq_eq_false_iff_ne.2 hab
    clear hab HEQ
    have s0 : _ = some (Value.int .i64 ((j : Int) + 1)) := cell_of_row _ _ 0 _ _ _ HS9.out
    have x2 : _ = some (Value.int .i64 c) := cell_of_row _ _ 2 _ _ _ HX9.out
    have k0 : _ = some (Value.slice ak K.length ck) := cell_of_row _ _ 0 _ _ _ HKY9.out.row
    have y0 := fun (d : Nat) (os : Array Obj) => cell_regrown s0 d os
    have y1 := fun (d : Nat) (os : Array Obj) => cell_regrown x2 d os
    have y2 := fun (d : Nat) (os : Array Obj) => cell_regrown k0 d os
    clear s0 x2 k0
    go_wp2_with fail
    refine wp_region_quiet_below (by kernel_rfl) (by kernel_rfl) ?_
    repeat (go_big_quiet_step ((go_at_call 24; exact Calls.regrown_of ((HAT.out _ (HKY9.out.only (Only.ofBelow (below_regrown _ _ _) _))).mono fun _ _ h => ⟨h.1, by rw [← h.2]; exact Below.refl _ _⟩))))
    refine wpQuiet_nil ?_
    intro w10 hw'
    obtain ⟨pq2, hw''⟩ := hw'
    have HO910 := Lib.hid (Only.ofBelow (below_regrown w9 pq2.d pq2.os) (fun _ => False))
    rw [← hw''] at HO910
    have HO10 := Lib.hid (HO9.out.trans HO910.out)
    have HKY10 := Lib.hid (HKY9.out.only HO910.out)
    have HZ10 := Lib.hid (row_still HO910.out HZ9.out)
    have HX10 := Lib.hid (row_still HO910.out HX9.out)
    have x3 : _ = some (Value.int .i64 z) := cell_of_row _ _ 3 _ _ _ HX10.out
    clear hw'' y0 y1 y2 HO910 HKY9 HZ9 HX9 HS9 HO9 HAT
    have HP1 := Lib.hid (fun w => pow_any 4 z 2305843009213691579 w (by decide) (by decide) zb0 (by omega))
    have HP2 := Lib.hid (fun w => pow_any ta (1152921504606845789 - c) 2305843009213691579 w (by decide) (by decide) (by omega) (by omega))
    have HP3 := Lib.hid (fun w => pow_any b z 2305843009213691579 w (by decide) (by decide) zb0 (by omega))
    have HP4 := Lib.hid (fun w => pow_any v (1152921504606845789 - c) 2305843009213691579 w (by decide) (by decide) (by omega) (by omega))
    generalize powM 4 z 2305843009213691579 = p1 at *
    generalize powM ta (1152921504606845789 - c) 2305843009213691579 = p2 at *
    generalize powM b z 2305843009213691579 = p3 at *
    generalize powM v (1152921504606845789 - c) 2305843009213691579 = p4 at *
    have HM1 := Lib.hid (fun w => mul_any p1 p2 2305843009213691579 w (by decide) (by decide))
    have HM2 := Lib.hid (fun w => mul_any p3 p4 2305843009213691579 w (by decide) (by decide))
    rw [← HS1.out] at HM1
    rw [← HS2.out] at HM2
    go_wp2_with fail
    refine (HP1.out _).mono ?_
    rintro e w' ⟨rfl, rfl⟩
    go_wp2_with fail
    refine (HP2.out _).mono ?_
    rintro e w' ⟨rfl, rfl⟩
    go_wp2_with fail
    refine (HM1.out _).mono ?_
    rintro e w' ⟨rfl, rfl⟩
    have hA11 := ((Only.refl (fun _ => False) w10).alloc (.cells #[.int .i64 2305843009213691579] 3)).alloc (.cells #[.int .i64 2305843009213691579] 3)
    have HO11 := Lib.hid (HO10.out.trans hA11)
    have HKY11 := Lib.hid (HKY10.out.only hA11)
    have HZ11 := Lib.hid (row_still hA11 HZ10.out)
    have HX11 := Lib.hid (row_still hA11 HX10.out)
    clear hA11 x3 HO10 HKY10 HZ10 HX10
    go_upto_region 12 with fail
    generalize (w10.alloc (.cells #[.int .i64 2305843009213691579] 3)).alloc (.cells #[.int .i64 2305843009213691579] 3) = w11 at *
    have x1 : _ = some (Value.int .i64 v) := cell_of_row _ _ 1 _ _ _ HX11.out
    have x3 : _ = some (Value.int .i64 z) := cell_of_row _ _ 3 _ _ _ HX11.out
    have y0 := fun (d : Nat) (os : Array Obj) => cell_regrown x1 d os
    have y1 := fun (d : Nat) (os : Array Obj) => cell_regrown x3 d os
    have hs : wrap64 (1152921504606845789 - c) = 1152921504606845789 - c := by unfold wrap64; omega
    clear x1 x3
    refine wp_region_quiet_below (by kernel_rfl) (by kernel_rfl) ?_
    repeat (go_big_quiet_step ((first | (go_at_call 20; with_reducible exact Calls.regrown_of ((HP3.out _).mono fun _ _ h => ⟨h.1, by rw [h.2]; exact (Below.refl _ _).alloc (Nat.le_refl _) _⟩)) | (go_at_call 20; with_reducible exact Calls.regrown_of ((HP4.out _).mono fun _ _ h => ⟨h.1, by rw [h.2]; exact (Below.refl _ _).alloc (Nat.le_refl _) _⟩)) | (go_at_call 23; exact Calls.regrown_of ((HM2.out _).mono fun _ _ h => ⟨h.1, by rw [← h.2]; exact Below.refl _ _⟩)))))
    refine wpQuiet_nil ?_
    intro w12 hw'
    obtain ⟨pq3, hw''⟩ := hw'
    have HO1112 := Lib.hid (Only.ofBelow (below_regrown w11 pq3.d pq3.os) (fun _ => False))
    rw [← hw''] at HO1112
    have HO12 := Lib.hid (HO11.out.trans HO1112.out)
    have HKY12 := Lib.hid (HKY11.out.only HO1112.out)
    have HZ12 := Lib.hid (row_still HO1112.out HZ11.out)
    have HX12 := Lib.hid (row_still HO1112.out HX11.out)
    have x1 : _ = some (Value.int .i64 v) := cell_of_row _ _ 1 _ _ _ HX12.out
    clear hw'' y0 y1 hs HO1112 HKY11 HZ11 HX11 HO11
    go_wp2_with fail
    refine (HWS.out w12).mono ?_
    rintro e w13 ⟨rfl, hO13⟩
    have HO13 := Lib.hid (HO12.out.trans hO13)
    have HKY13 := Lib.hid (HKY12.out.only hO13)
    have HZ13 := Lib.hid (row_still hO13 HZ12.out)
    have HX13 := Lib.hid (row_still hO13 HX12.out)
    have k0 : _ = some (Value.slice ak K.length ck) := cell_of_row _ _ 0 _ _ _ HKY13.out.row
    have k1 : _ = some (Value.slice ap R.length cp) := cell_of_row _ _ 1 _ _ _ HKY13.out.row
    have e3 : _ = some (Value.int .i64 q0) := cell_of_row _ _ 0 _ _ _ HZ13.out
    have x0 : _ = some (Value.int .i64 ((j : Int) + 1)) := cell_of_row _ _ 0 _ _ _ HX13.out
    have x1' : _ = some (Value.int .i64 v) := cell_of_row _ _ 1 _ _ _ HX13.out
    have x2 : _ = some (Value.int .i64 c) := cell_of_row _ _ 2 _ _ _ HX13.out
    have x3 : _ = some (Value.int .i64 z) := cell_of_row _ _ 3 _ _ _ HX13.out
    have HMA2 := Lib.hid (fun w => member_is a true w HMA.out)
    have HMB2 := Lib.hid (fun w => member_is b true w HMB.out)
    generalize hchc : (ch == c) = cq at *
    have HQ := Lib.hid (show acc = cq from HNE.out)
    clear hO13 x1 HO12 HKY12 HZ12 HX12 HNE
    go_wp2_with fail
    refine (HV0.out _ HKY13.out (HGW.out _ HO13.out)).mono ?_
    rintro e w14 ⟨rfl, hO14⟩
    have HO14 := Lib.hid (HO13.out.trans hO14)
    obtain rfl := HQ.out
    have qa : (acc == acc) = true := by simp
    clear hO14 k0 k1 e3 x0 x1' x2 x3 hchc
    go_wp2_with fail
    refine (HMA2.out _).mono ?_
    rintro e w15 ⟨rfl, hO15⟩
    have HO15 := Lib.hid (HO14.out.trans hO15)
    clear hO15
    go_wp2_with fail
    refine (HMB2.out _).mono ?_
    rintro e w16 ⟨rfl, hO16⟩
    have HO16 := Lib.hid (HO15.out.trans hO16)
    clear hO16
    go_wp2
    go_ret
    exact ⟨rfl, HO16.out.below (Nat.le_refl _) (fun _ _ h => h)⟩
end Go.Proofs.YtlhfgbkonmgahaaGreatDoor
