/-
  The walk of the law WeightRaw.
-/
import Derived.Test.YtalclldccnichaaOpen
namespace Go.Proofs.Ytalclldccnichaa
open Go.RowKit

theorem shs_take {W : World} {sv : Value} {l : List (Int × Int)} (h : ShsAt W sv l) (n : Nat) (hn : n ≤ l.length) {a : Option Addr} {c : Nat} (hv : sv = .slice a l.length c) : ShsAt W (.slice a n c) (l.take n) := by
  have hl : (l.take n).length = n := by rw [List.length_take]; omega
  rcases h with ⟨a', c', e, rfl⟩ | ⟨b, off, cap, e, hb, h1, h2, hc⟩
  · simp at hn; subst hn; exact .inl ⟨a, c, rfl, by simp⟩
  · rw [hv] at e
    simp only [Value.slice.injEq, true_and] at e
    obtain ⟨rfl, rfl⟩ := e
    refine .inr ⟨b, off, c, by rw [hl], hb, by omega, h2, fun j hj => ?_⟩
    rw [hl] at hj
    rw [shAt_take l n j hj]; exact hc j (by omega)
theorem pts_take {n₀ : Nat} {W : World} {sv : Value} {l : List Int} (h : PtsAt n₀ W sv l) (n : Nat) (hn : n ≤ l.length) {a : Option Addr} {c : Nat} (hv : sv = .slice a l.length c) : PtsAt n₀ W (.slice a n c) (l.take n) := by
  have hl : (l.take n).length = n := by rw [List.length_take]; omega
  rcases h with ⟨a', c', e, rfl⟩ | ⟨b, off, cap, e, hb, h1, h2, hc⟩
  · simp at hn; subst hn; exact .inl ⟨a, c, rfl, by simp⟩
  · rw [hv] at e
    simp only [Value.slice.injEq, true_and] at e
    obtain ⟨rfl, rfl⟩ := e
    refine .inr ⟨b, off, c, by rw [hl], hb, by omega, h2, fun j hj => ?_⟩
    rw [hl] at hj
    rw [ptAt_take l n j hj]; exact hc j (by omega)
theorem ShsW.take {l : List (Int × Int)} (h : ShsW l) (n : Nat) : ShsW (l.take n) := ⟨fun j => by
  by_cases hj : j < n
  · rw [shAt_take l n j hj]; exact h.wf j
  · have : shAt (l.take n) j = (0, 0) := by simp [shAt, List.getD, List.getElem?_eq_none (show (l.take n).length ≤ j by rw [List.length_take]; omega)]
    rw [this]; decide⟩
theorem IntsW.take {l : List Int} (h : IntsW l) (n : Nat) : IntsW (l.take n) := ⟨fun j => by
  by_cases hj : j < n
  · rw [ptAt_take l n j hj]; exact h.wf j
  · have : ptAt (l.take n) j = 0 := by simp [ptAt, List.getD, List.getElem?_eq_none (show (l.take n).length ≤ j by rw [List.length_take]; omega)]
    rw [this]; decide⟩
theorem ShsW.fst {l : List (Int × Int)} (h : ShsW l) : IntsW (l.map Prod.fst) := ⟨fun j => by rw [ptAt_fst]; exact (h.wf j).1⟩
theorem ShsAt.slice' {W : World} {sv : Value} {l : List (Int × Int)} (h : ShsAt W sv l) : ∃ a c, sv = .slice a l.length c ∧ l.length ≤ c ∧ c ≤ 9223372036854775807 ∨ sv = .slice a 0 c ∧ l = [] := by
  rcases h with ⟨a, c, rfl, rfl⟩ | ⟨b, off, cap, rfl, _, h1, h2, _⟩
  · exact ⟨a, c, .inr ⟨rfl, rfl⟩⟩
  · exact ⟨_, cap, .inl ⟨rfl, h1, h2⟩⟩

set_option maxRecDepth 100000 in
set_option maxHeartbeats 4000000 in
theorem raw_walk (nd : Int) (sv fv : Value) (l0 : List (Int × Int)) (f0 : List Int) (w : World) (hn0 : 0 ≤ nd) (_hn1 : nd ≤ 255) (hs : ShsAt w sv l0) (hw : ShsW l0) (hf : PtsAt w.heap.size w fv f0) (hfw : IntsW f0)
    (hsc : ∃ a c, sv = .slice a l0.length c ∧ l0.length ≤ c ∧ c ≤ 9223372036854775807) (hfc : ∃ a c, fv = .slice a f0.length c ∧ f0.length ≤ c ∧ c ≤ 9223372036854775807) :
    Calls Try.prog 6 #[.int .u8 nd, sv, fv] w fun e w' => e = .returned (.bool true) ∧ Below w.heap.size w w' := by
  obtain ⟨i0, hi0, hz0, hz1, hz2⟩ := info_parts Try.infoI
  obtain ⟨sa, sc, rfl, hs1, hs2⟩ := hsc
  obtain ⟨fa, fc, rfl, hf1, hf2⟩ := hfc
  obtain ⟨n, hn⟩ : ∃ n, min l0.length 8 = n := ⟨_, rfl⟩
  obtain ⟨m, hm⟩ : ∃ m, min f0.length 8 = m := ⟨_, rfl⟩
  have hn8 : n ≤ 8 := by omega
  have hm8 : m ≤ 8 := by omega
  have hnl : n ≤ l0.length := by omega
  have hml : m ≤ f0.length := by omega
  have hmn : min (l0.length : Int) 8 = (n : Int) := by omega
  have hmm : min (f0.length : Int) 8 = (m : Int) := by omega
  have HS := Lib.hid (shs_take hs n hnl rfl)
  have HF := Lib.hid (pts_take hf m hml rfl)
  have HW := Lib.hid (hw.take n)
  have HFW := Lib.hid (hfw.take m)
  have HLL := Lib.hid (show (l0.take n).length = n by rw [List.length_take]; omega)
  have HFL := Lib.hid (show (f0.take m).length = m by rw [List.length_take]; omega)
  have ht : nd.tmod 8 = nd % 8 := Int.tmod_eq_emod_of_nonneg hn0
  obtain ⟨k, hk⟩ : ∃ k, nd % 8 = k := ⟨_, rfl⟩
  have hk0 : 0 ≤ k := by omega
  have hk1 : k ≤ 7 := by omega
  rw [hk] at ht
  clear hn hm hs hf hw hfw hk
  generalize l0.take n = l at *
  generalize f0.take m = fr at *
  go_enter Try.func6, Try.ntmps6
  go_wp2_with fail
  refine (sanity_any _).mono ?_
  rintro e w1 ⟨rfl, hO1⟩
  have HS1 := Lib.hid (HS.out.below hO1)
  have HF1 := Lib.hid (HF.out.only hO1)
  have HO1 := Lib.hid hO1
  clear hO1 HS HF
  go_wp2_with fail
  go_loopw [9, 10, 11] (fun v u vi wr => ∃ (j : Nat), vi = .int .i64 j ∧ j ≤ n ∧ Duo w1 wr w1.heap.size v u ((l.take j).map Prod.fst) ((l.take j).map Prod.snd)) (fun _ _ vi _ => n - (intOf vi).toNat)
  case atStart => exact ⟨0, rfl, Nat.zero_le _, World.ownsRow_nil _ _ _ _, World.ownsRow_nil _ _ _ _, fun k e => by simp [Value.ownBlock] at e, Only.refl _ _, Nat.le_refl _⟩
  case round =>
    obtain ⟨j, rfl, hj, hD⟩ := hrel
    have hsz := hD.only.size
    by_cases hlt : j < n
    · rcases HS1.out with ⟨_, _, _, hl0⟩ | ⟨sb, so, sc', hsv, hsb, hsc1, hsc2, hscell⟩
      · have := HLL.out; rw [hl0] at this; simp at this; omega
      · rw [HLL.out] at hsv hscell
        simp only [Value.slice.injEq, true_and] at hsv
        obtain ⟨rfl, rfl⟩ := hsv
        have hlt' : j < l.length := by rw [HLL.out]; exact hlt
        have HT1 := Lib.hid (take_snoc Prod.fst l (0, 0) j hlt')
        have HT2 := Lib.hid (take_snoc Prod.snd l (0, 0) j hlt')
        have ew := (hscell j hlt).2
        have e0 := hD.only.cell (hscell j hlt).1 (fun h => h)
        have e1 := hD.only.cell (hscell j hlt).2 (fun h => h)
        have hl1 : ((l.take j).map Prod.fst).length = j := by simp; omega
        have hl2 : ((l.take j).map Prod.snd).length = j := by simp; omega
        have hx : shAt l j = l.getD j (0, 0) := rfl
        rw [hx] at e0 e1 ew
        generalize l.getD j (0, 0) = s at *
        obtain ⟨x, y⟩ := s
        dsimp only at e0 e1 ew
        have hbl : sb < wr.heap.size := by omega
        generalize (l.take j).map Prod.fst = P at *
        generalize (l.take j).map Prod.snd = R at *
        have HD := Lib.hid (hD.frame ((Only.refl _ wr).alloc (.cells #[.int .i64 x] 3)))
        have hp1 : P.length ≤ 1000000 := by omega
        have hr1 : R.length ≤ 1000000 := by omega
        clear hD hl1 hl2 hscell hx hlt'
        go_wp2_with (at_builtin; refine wpList_append_lies _ rfl _ _ 34 rfl w1.heap.size 3 i0 _ 1 8 Try.underlying34 hi0 hz0 hz1 hz2 rfl (by decide) _ P.length (irow P) rfl HD.out.pts ⟨wr.heap.size, 0, none⟩ 1 1 [.int .i64 x] rfl rfl (cell_one_new _ _ _) (one_int _) (by decide) ?c1 ?c2 ?c3 _ rfl ?_)
        case c1 => unfold maxLen; omega
        case c2 => omega
        case c3 => first | omega | (simp; omega)
        intro g1 cp1 w2 ho1 hg1 ha1 _
        have hD1 := HD.out.left ho1 hg1 (by rw [World.size_alloc]; exact ha1)
        have hW1 := (hD1.only).size
        have e3 := hD1.only.cell ew (fun h => h)
        have hb1 : sb < w2.heap.size := by omega
        have HD2 := Lib.hid (hD1.frame ((Only.refl _ w2).alloc (.cells #[.int .i64 y] 3)))
        clear ho1 hg1 ha1 hD1 HD
        go_wp2_with (at_builtin; refine wpList_append_lies _ rfl _ _ 34 rfl w1.heap.size 3 i0 _ 1 8 Try.underlying34 hi0 hz0 hz1 hz2 rfl (by decide) _ R.length (irow R) rfl HD2.out.num ⟨w2.heap.size, 0, none⟩ 1 1 [.int .i64 y] rfl rfl (cell_one_new _ _ _) (one_int _) (by decide) ?c4 ?c5 ?c6 _ rfl ?_)
        case c4 => unfold maxLen; omega
        case c5 => omega
        case c6 => first | omega | (simp; omega)
        intro g2 cp2 w3 ho2 hg2 ha2 _
        have HD3 := Lib.hid (HD2.out.right ho2 hg2 (by rw [World.size_alloc]; exact ha2))
        clear ho2 hg2 ha2 HD2
        go_wp2
        go_roundw
        case rel => exact ⟨j + 1, by go_num, by omega, by rw [HT1.out, HT2.out]; exact HD3.out⟩
        case measure => simp [intOf]; omega
    · obtain rfl : j = n := by omega
      have hx := pts_of_own hD.pts (by simp; omega)
      have hy := pts_of_own hD.num (by simp; omega)
      rw [show l.take j = l by rw [← HLL.out, List.take_length]] at hx hy
      have HXW := Lib.hid HW.out.fst
      have HXL := Lib.hid (show (l.map Prod.fst).length = j by rw [List.length_map]; exact HLL.out)
      have HYL := Lib.hid (show (l.map Prod.snd).length = j by rw [List.length_map]; exact HLL.out)
      have hS2 := HS1.out.below hD.only
      have HF2 := Lib.hid (HF1.out.only hD.only)
      have HO2 := Lib.hid (HO1.out.trans hD.only)
      obtain ⟨xa, xc, rfl⟩ := hx.slice
      obtain ⟨ya, yc, rfl⟩ := hy.slice
      rw [HXL.out] at hx
      rw [HYL.out] at hy
      rw [HXL.out, HYL.out]
      have HX := Lib.hid hx
      have HY := Lib.hid hy
      have HS2 := Lib.hid hS2
      have hlb : l.length ≤ 1000000 := by rw [HLL.out]; omega
      clear hD hx hy hS2
      generalize l.map Prod.fst = xs at *
      generalize l.map Prod.snd = ys at *
      obtain ⟨z1, hz1'⟩ : ∃ z, joinZ (k - 1) l = z := ⟨_, rfl⟩
      obtain ⟨b1, hb1'⟩ : ∃ b, enB insB (k - 1) l = b := ⟨_, rfl⟩
      obtain ⟨z2, hz2'⟩ : ∃ z, liftedZ (k - 1) l = z := ⟨_, rfl⟩
      obtain ⟨b2, hb2'⟩ : ∃ b, enB memB (k - 1) l = b := ⟨_, rfl⟩
      have HZ1 := Lib.hid hz1'
      have HB1 := Lib.hid hb1'
      have HZ2 := Lib.hid hz2'
      have HB2 := Lib.hid hb2'
      clear hz1' hb1' hz2' hb2'
      go_wp2_with fail
      refine (join_any (k - 1) _ l z1 b1 _ HW.out hlb (by omega) HS2.out HZ1.out HB1.out).mono ?_
      rintro e w4 ⟨rfl, hO⟩
      have HS3 := Lib.hid (HS2.out.below hO)
      have HO3 := Lib.hid hO
      clear hO
      go_wp2_with fail
      refine (rjoin_any (k - 1) _ l z1 b1 _ hlb (by omega) HS3.out HZ1.out HB1.out).mono ?_
      rintro e w5 ⟨rfl, hO⟩
      have HS4 := Lib.hid (HS3.out.below hO)
      have HO4 := Lib.hid (HO3.out.trans hO)
      clear hO HO3 HS3
      go_wp2_with fail
      refine (lifted_any (k - 1) _ l z2 b2 _ HW.out hlb (by omega) HS4.out HZ2.out HB2.out).mono ?_
      rintro e w6 ⟨rfl, hO⟩
      have HS5 := Lib.hid (HS4.out.below hO)
      have HO5 := Lib.hid (HO4.out.trans hO)
      clear hO HO4 HS4
      go_wp2_with fail
      refine (rlifted_any (k - 1) _ l z2 b2 _ hlb (by omega) HS5.out HZ2.out HB2.out).mono ?_
      rintro e w7 ⟨rfl, hO⟩
      have hO6 := HO5.out.trans hO
      have HX3 := Lib.hid (HX.out.only hO6)
      have HY3 := Lib.hid (HY.out.only hO6)
      have HF3 := Lib.hid (HF2.out.only hO6)
      have HO6 := Lib.hid (HO2.out.trans hO6)
      clear hO hO6 HO5 HS5 HS2 HX HY HF2 HO2
      have q1 : (z1 != z1) = false := by simp
      have q2 : (b1 != b1) = false := by simp
      have q3 : (z2 != z2) = false := by simp
      have q4 : (b2 != b2) = false := by simp
      have hc0 : (w7.alloc (.cells #[.slice xa j xc, .slice fa m fc] 52)).cell? ⟨w7.heap.size, 0, none⟩ = some (.slice xa j xc) := by rw [World.cell?_alloc_new]; rfl
      have hc1 : (w7.alloc (.cells #[.slice xa j xc, .slice fa m fc] 52)).cell? ⟨w7.heap.size, 1, none⟩ = some (.slice fa m fc) := by rw [World.cell?_alloc_new]; rfl
      have HC0 := Lib.hid hc0
      have HC1 := Lib.hid hc1
      have HO7 := Lib.hid ((Only.refl (fun _ => False) w7).alloc (.cells #[.slice xa j xc, .slice fa m fc] 52))
      have HX8 := Lib.hid (HX3.out.only HO7.out)
      have HY8 := Lib.hid (HY3.out.only HO7.out)
      have HF8 := Lib.hid (HF3.out.only HO7.out)
      have hBs : w7.heap.size < (w7.alloc (.cells #[.slice xa j xc, .slice fa m fc] 52)).heap.size := by simp
      clear hc0 hc1 HX3 HY3 HF3
      go_wp2_with fail
      generalize w7.alloc (.cells #[.slice xa j xc, .slice fa m fc] 52) = w8 at *
      generalize hB : w7.heap.size = B at *
      clear hB
      go_loopw [21] (fun vi wr => ∃ (i : Nat), i ≤ 2 ∧ vi = .int .i64 i ∧ Only (fun _ => False) w8 wr) (fun vi _ => 2 - (intOf vi).toNat)
      case atStart => exact ⟨0, by decide, rfl, Only.refl _ _⟩
      case round =>
        obtain ⟨i, hi2, rfl, hO⟩ := hrel
        have c0 := hO.cell HC0.out (fun h => h)
        have c1 := hO.cell HC1.out (fun h => h)
        have hBl : B < wr.heap.size := Nat.lt_of_lt_of_le hBs hO.size
        rcases (by omega : i = 0 ∨ i = 1 ∨ i = 2) with rfl | rfl | rfl
        · obtain ⟨z3, hz3⟩ : ∃ z, shareZ xs ys = z := ⟨_, rfl⟩
          obtain ⟨b3, hb3⟩ : ∃ b, shareB xs ys = b := ⟨_, rfl⟩
          have HZ3 := Lib.hid hz3
          have HB3 := Lib.hid hb3
          have HP := Lib.hid (HX8.out.only hO)
          have HQ := Lib.hid (HY8.out.only hO)
          have HOr := Lib.hid hO
          have hzl : xs.length ≤ 1000000 := by rw [HXL.out]; omega
          have hyl : ys.length ≤ 1000000 := by rw [HYL.out]; omega
          clear hz3 hb3 hO
          have q5 : (z3 != z3) = false := by simp
          have q6 : (b3 != b3) = false := by simp
          go_wp2_with fail
          refine (share_any _ _ xs ys z3 b3 _ HXW.out hzl hyl HP.out HQ.out HZ3.out HB3.out).mono ?_
          rintro e w9 ⟨rfl, hO9⟩
          have HP2 := Lib.hid (HP.out.only hO9)
          have HQ2 := Lib.hid (HQ.out.only hO9)
          have c2 := hO9.cell c0 (fun h => h)
          have c3 := hO9.cell c1 (fun h => h)
          have hB9 : B < w9.heap.size := Nat.lt_of_lt_of_le hBl hO9.size
          have HO9 := Lib.hid (HOr.out.trans hO9)
          clear hO9
          go_wp2_with fail
          refine (rshare_any _ _ xs ys z3 b3 _ hzl HP2.out HQ2.out (by rw [← share_eq]; exact HZ3.out) HB3.out).mono ?_
          rintro e w10 ⟨rfl, hO10⟩
          have HO10 := Lib.hid (HO9.out.trans hO10)
          clear hO10
          go_wp2
          go_roundw
          case rel => exact ⟨1, by decide, by first | rfl | go_num, HO10.out⟩
          case measure => simp [intOf]
        · obtain ⟨z3, hz3⟩ : ∃ z, shareZ fr ys = z := ⟨_, rfl⟩
          obtain ⟨b3, hb3⟩ : ∃ b, shareB fr ys = b := ⟨_, rfl⟩
          have HZ3 := Lib.hid hz3
          have HB3 := Lib.hid hb3
          have HP := Lib.hid (HF8.out.only hO)
          have HQ := Lib.hid (HY8.out.only hO)
          have HOr := Lib.hid hO
          have hzl : fr.length ≤ 1000000 := by rw [HFL.out]; omega
          have hyl : ys.length ≤ 1000000 := by rw [HYL.out]; omega
          clear hz3 hb3 hO
          have q5 : (z3 != z3) = false := by simp
          have q6 : (b3 != b3) = false := by simp
          go_wp2_with fail
          refine (share_any _ _ fr ys z3 b3 _ HFW.out hzl hyl HP.out HQ.out HZ3.out HB3.out).mono ?_
          rintro e w9 ⟨rfl, hO9⟩
          have HP2 := Lib.hid (HP.out.only hO9)
          have HQ2 := Lib.hid (HQ.out.only hO9)
          have c2 := hO9.cell c0 (fun h => h)
          have c3 := hO9.cell c1 (fun h => h)
          have hB9 : B < w9.heap.size := Nat.lt_of_lt_of_le hBl hO9.size
          have HO9 := Lib.hid (HOr.out.trans hO9)
          clear hO9
          go_wp2_with fail
          refine (rshare_any _ _ fr ys z3 b3 _ hzl HP2.out HQ2.out (by rw [← share_eq]; exact HZ3.out) HB3.out).mono ?_
          rintro e w10 ⟨rfl, hO10⟩
          have HO10 := Lib.hid (HO9.out.trans hO10)
          clear hO10
          go_wp2
          go_roundw
          case rel => exact ⟨2, by decide, by first | rfl | go_num, HO10.out⟩
          case measure => simp [intOf]
        · have HOe := Lib.hid ((HO6.out.trans HO7.out).trans hO)
          clear hO
          go_wp2
          go_ret
          exact ⟨rfl, HOe.out.below (Nat.le_refl _) (fun _ _ h => h)⟩
end Go.Proofs.Ytalclldccnichaa
