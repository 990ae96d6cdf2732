/-
  The reference's split and Share.
-/
import Derived.Test.YtalclldccnichaaRefCount
namespace Go.Proofs.Ytalclldccnichaa
open Go.RowKit

/-- Two lists that a call makes. -/
structure Duo (w wr : World) (base : Nat) (p q : Value) (pl ql : List Int) : Prop where
  pts : wr.ownsRow base 3 1 p pl.length (irow pl)
  num : wr.ownsRow base 3 1 q ql.length (irow ql)
  ne : ∀ k, p.ownBlock = some k → q.ownBlock ≠ some k
  only : Only (fun _ => False) w wr
  low : w.heap.size ≤ base
theorem Duo.frame {w wr w' : World} {base : Nat} {p q : Value} {pl ql : List Int} (h : Duo w wr base p q pl ql) (hO : Only (fun _ => False) wr w') : Duo w w' base p q pl ql :=
  ⟨hO.owns h.pts (fun _ _ h => h), hO.owns h.num (fun _ _ h => h), h.ne, h.only.trans hO, h.low⟩
theorem Duo.left {w wn w' : World} {base : Nat} {x : Int} {p q : Value} {pl ql : List Int} (h : Duo w wn base p q pl ql) {g cap : Nat}
    (hown : w'.ownsRow base 3 1 (.slice (some ⟨g, 0, none⟩) (pl.length + 1) cap) (pl.length + 1) (irow pl ++ [.int .i64 x])) (hg : wn.grownBy w' p.ownBlock) (hat : p.ownBlock = some g ∨ g = wn.heap.size) :
    Duo w w' base (.slice (some ⟨g, 0, none⟩) (pl.length + 1) cap) q (pl ++ [x]) ql := by
  have hO : Only (fun k => p.ownBlock = some k) wn w' := (Only.refl _ wn).grown hg (fun k e _ => e)
  have e : ∀ k, (Value.slice (some ⟨g, 0, none⟩) (pl.length + 1) cap).ownBlock = some k → k = g := fun k hk => by simpa [Value.ownBlock] using hk.symm
  refine ⟨by rw [List.length_append, List.length_singleton, irow_append]; exact hown, hO.owns h.num (fun k hq hp => h.ne k hp hq), ?_, ?_, h.low⟩
  · intro k hk hq
    obtain rfl := e k hk
    rcases hat with hat | hat
    · exact h.ne k hat hq
    · have := (own_lt h.num hq).1; omega
  · exact h.only.trans' hO (fun i hi hp => by have := (own_lt h.pts hp).2; have := h.low; omega)
theorem Duo.right {w wn w' : World} {base : Nat} {y : Int} {p q : Value} {pl ql : List Int} (h : Duo w wn base p q pl ql) {g cap : Nat}
    (hown : w'.ownsRow base 3 1 (.slice (some ⟨g, 0, none⟩) (ql.length + 1) cap) (ql.length + 1) (irow ql ++ [.int .i64 y])) (hg : wn.grownBy w' q.ownBlock) (hat : q.ownBlock = some g ∨ g = wn.heap.size) :
    Duo w w' base p (.slice (some ⟨g, 0, none⟩) (ql.length + 1) cap) pl (ql ++ [y]) := by
  have hO : Only (fun k => q.ownBlock = some k) wn w' := (Only.refl _ wn).grown hg (fun k e _ => e)
  have e : ∀ k, (Value.slice (some ⟨g, 0, none⟩) (ql.length + 1) cap).ownBlock = some k → k = g := fun k hk => by simpa [Value.ownBlock] using hk.symm
  refine ⟨hO.owns h.pts (fun k hp hq => h.ne k hp hq), by rw [List.length_append, List.length_singleton, irow_append]; exact hown, ?_, ?_, h.low⟩
  · intro k hk hq
    obtain rfl := e k hq
    rcases hat with hat | hat
    · exact h.ne k hk hat
    · have := (own_lt h.pts hk).1; omega
  · exact h.only.trans' hO (fun i hi hp => by have := (own_lt h.num hp).2; have := h.low; omega)
theorem take_snoc {α β : Type} (f : α → β) (l : List α) (d : α) (k : Nat) (h : k < l.length) : (l.take (k + 1)).map f = (l.take k).map f ++ [f (l.getD k d)] := by
  rw [List.take_add_one, List.map_append]
  congr 1
  simp [List.getD, h]

set_option maxHeartbeats 2000000 in
theorem rsplit_some (b off cap : Nat) (l : List (Int × Int)) (w : World) (hlen : l.length ≤ 1000000) (hcap : l.length ≤ cap) (hcap2 : cap ≤ 9223372036854775807) (hb : b < w.heap.size)
    (hc : ∀ j, j < l.length → w.cell? ⟨b, off + j * 2, none⟩ = some (.int .i64 (shAt l j).1) ∧ w.cell? ⟨b, off + j * 2 + 1, none⟩ = some (.int .i64 (shAt l j).2)) :
    Calls Try.prog 48 #[.slice (some ⟨b, off, none⟩) l.length cap] w fun e w' => ∃ p q, e = .returned (.tuple #[p, q]) ∧ PtsAt w'.heap.size w' p (l.map Prod.fst) ∧ PtsAt w'.heap.size w' q (l.map Prod.snd) ∧ Only (fun _ => False) w w' := by
  obtain ⟨i0, hi, hz0, hz1, hz2⟩ := info_parts Try.infoI
  have HC := Lib.hid hc
  clear hc
  go_enter Try.func48, Try.ntmps48
  go_wp2_with fail
  go_loopw [4, 5, 6] (fun v u vi wr => ∃ (k : Nat), vi = .int .i64 k ∧ k ≤ l.length ∧ Duo w wr w.heap.size v u ((l.take k).map Prod.fst) ((l.take k).map Prod.snd)) (fun _ _ vi _ => l.length - (intOf vi).toNat)
  case atStart => exact ⟨0, rfl, Nat.zero_le _, World.ownsRow_nil _ _ _ _, World.ownsRow_nil _ _ _ _, fun k e => by simp [Value.ownBlock] at e, Only.refl _ _, Nat.le_refl _⟩
  case round =>
    obtain ⟨k, rfl, hk, hD⟩ := hrel
    by_cases hlt : k < l.length
    · have HS1 := Lib.hid (take_snoc Prod.fst l (0, 0) k hlt)
      have HS2 := Lib.hid (take_snoc Prod.snd l (0, 0) k hlt)
      have e0 := hD.only.cell (HC.out k hlt).1 (fun h => h)
      have e1 := hD.only.cell (HC.out k hlt).2 (fun h => h)
      have hl1 : ((l.take k).map Prod.fst).length = k := by simp; omega
      have hl2 : ((l.take k).map Prod.snd).length = k := by simp; omega
      have ew := (HC.out k hlt).2
      have hx : shAt l k = l.getD k (0, 0) := rfl
      rw [hx] at e0 e1 ew
      generalize l.getD k (0, 0) = s at *
      obtain ⟨x, y⟩ := s
      dsimp only at e0 e1 ew
      clear hx
      have hsz := hD.only.size
      have hbl : b < wr.heap.size := by omega
      generalize (l.take k).map Prod.fst = P at *
      generalize (l.take k).map Prod.snd = R at *
      have HD := Lib.hid (hD.frame ((Only.refl _ wr).alloc (.cells #[.int .i64 x] 3)))
      have hp1 : P.length ≤ 1000000 := by omega
      have hr1 : R.length ≤ 1000000 := by omega
      clear hD hl1 hl2
      go_wp2_with (at_builtin; refine wpList_append_lies _ rfl _ _ 34 rfl w.heap.size 3 i0 _ 1 8 Try.underlying34 hi hz0 hz1 hz2 rfl (by decide) _ P.length (irow P) rfl HD.out.pts ⟨wr.heap.size, 0, none⟩ 1 1 [.int .i64 x] rfl rfl (cell_one_new _ _ _) (one_int _) (by decide) ?c1 ?c2 ?c3 _ rfl ?_)
      case c1 => unfold maxLen; omega
      case c2 => omega
      case c3 => first | omega | (simp; omega)
      intro g1 cp1 w1 ho1 hg1 ha1 _
      have hD1 := HD.out.left ho1 hg1 (by rw [World.size_alloc]; exact ha1)
      have hW1 := (hD1.only).size
      have e3 := hD1.only.cell ew (fun h => h)
      have hb1 : b < w1.heap.size := by omega
      have HD2 := Lib.hid (hD1.frame ((Only.refl _ w1).alloc (.cells #[.int .i64 y] 3)))
      clear ho1 hg1 ha1 hD1 HD
      go_wp2_with (at_builtin; refine wpList_append_lies _ rfl _ _ 34 rfl w.heap.size 3 i0 _ 1 8 Try.underlying34 hi hz0 hz1 hz2 rfl (by decide) _ R.length (irow R) rfl HD2.out.num ⟨w1.heap.size, 0, none⟩ 1 1 [.int .i64 y] rfl rfl (cell_one_new _ _ _) (one_int _) (by decide) ?c4 ?c5 ?c6 _ rfl ?_)
      case c4 => unfold maxLen; omega
      case c5 => omega
      case c6 => first | omega | (simp; omega)
      intro g2 cp2 w2 ho2 hg2 ha2 _
      have HD3 := Lib.hid (HD2.out.right ho2 hg2 (by rw [World.size_alloc]; exact ha2))
      clear ho2 hg2 ha2 HD2
      go_wp2
      go_roundw
      case rel => exact ⟨k + 1, by go_num, by omega, by rw [HS1.out, HS2.out]; exact HD3.out⟩
      case measure => simp [intOf]; omega
    · obtain rfl : k = l.length := by omega
      have HP := Lib.hid (pts_of_own hD.pts (by simp; omega))
      have HQ := Lib.hid (pts_of_own hD.num (by simp; omega))
      have HO := Lib.hid hD.only
      clear hD
      go_wp2
      go_ret2
      refine ⟨_, _, rfl, ?_, ?_, HO.out⟩
      · have := HP.out; rw [List.take_length] at this; exact this
      · have := HQ.out; rw [List.take_length] at this; exact this

/-- What the reference's Share computes, of the first k. -/
def combRTo (zs ns : List Int) : Nat → Int
  | 0 => 0
  | k + 1 => (combRTo zs ns k + facR zs k * ptAt ns k % 1152921504606845789) % 1152921504606845789
def shareRZ (zs ns : List Int) : Int := if shareB zs ns then combRTo zs ns zs.length else 0

set_option maxHeartbeats 2000000 in
theorem rshare_any (sv nv : Value) (zs ns : List Int) (z : Int) (bb : Bool) (w : World) (hlen : zs.length ≤ 1000000) (hI : PtsAt w.heap.size w sv zs) (hN : PtsAt w.heap.size w nv ns) (hz : shareRZ zs ns = z) (hb : shareB zs ns = bb) :
    Calls Try.prog 22 #[sv, nv] w fun e w' => e = .returned (.tuple #[.int .i64 z, .bool bb]) ∧ Only (fun _ => False) w w' := by
  obtain ⟨a2, c2, rfl⟩ := hN.slice
  rcases id hI with ⟨a, c, rfl, rfl⟩ | ⟨b, off, cap, rfl, hbl, hcap, hcap2, hc⟩
  · have hbb : bb = false := by rw [← hb]; rfl
    have hzz : z = 0 := by rw [← hz]; rfl
    subst hbb hzz
    clear hb hz hI hN
    go_enter Try.func22, Try.ntmps22
    go_wp2
    go_ret2
    exact ⟨rfl, Only.refl _ _⟩
  · by_cases h0 : zs.length = 0
    · have hbb : bb = false := by rw [← hb]; unfold shareB; simp [h0]
      have hzz : z = 0 := by rw [← hz]; unfold shareRZ shareB; simp [h0]
      subst hbb hzz
      clear hb hz hI hN hc
      rw [h0]
      clear h0
      go_enter Try.func22, Try.ntmps22
      go_wp2
      go_ret2
      exact ⟨rfl, Only.refl _ _⟩
    · have e0 : ((zs.length : Int) == 0) = false := beq_eq_false_iff_ne.2 (by omega)
      by_cases h1 : ns.length = zs.length
      · have e1 : ((zs.length : Int) != (ns.length : Int)) = false := by simp; omega
        have HSB := Lib.hid (show diffB zs = bb by rw [← hb]; unfold shareB; simp [h0, h1])
        have HSZ := Lib.hid (show (if diffB zs then combRTo zs ns zs.length else 0) = z by rw [← hz]; unfold shareRZ shareB; simp [h0, h1])
        have HC := Lib.hid hc
        have HI := Lib.hid hI
        have HN := Lib.hid hN
        have H1 := Lib.hid h1
        have hp : 0 < zs.length := by omega
        clear hb hz hI hN hc h0 h1
        go_enter Try.func22, Try.ntmps22
        go_wp2_with fail
        go_loopw [6] (fun vi wr => ∃ (k : Nat), vi = .int .i64 k ∧ k ≤ zs.length ∧ diffTo zs k = true ∧ Only (fun _ => False) w wr) (fun vi _ => zs.length - (intOf vi).toNat)
        case atStart => exact ⟨0, rfl, Nat.zero_le _, rfl, Only.refl _ _⟩
        case round =>
          obtain ⟨k, rfl, hk, hdk, hO⟩ := hrel
          have hsz := hO.size
          have HO := Lib.hid hO
          have HDK := Lib.hid hdk
          by_cases hlt : k < zs.length
          · have HDS := Lib.hid (show diffTo zs (k + 1) = (diffTo zs k && (ptB (ptAt zs k) && !inTo zs k (ptAt zs k))) from rfl)
            have hck := hO.cell (HC.out k hlt) (fun h => h)
            obtain ⟨x, hx⟩ : ∃ x, ptAt zs k = x := ⟨_, rfl⟩
            rw [hx] at hck
            have HX := Lib.hid hx
            clear hx hO hdk
            obtain ⟨f0, hf0⟩ : ∃ f0, ptB x = f0 := ⟨_, rfl⟩
            have HF0 := Lib.hid hf0
            clear hf0
            go_wp2_with fail
            refine (rpoint_is x f0 _ HF0.out).mono ?_
            rintro e w' ⟨rfl, rfl⟩
            go_wp2_with fail
            go_loopw [7, 8] (fun vf vj wi => ∃ (j n : Nat) (f : Bool), j ≤ k ∧ vj = .int .i64 j ∧ vf = .bool f ∧ f = (f0 && !inTo zs j x) ∧ wi = wr.drewN n) (fun _ vj _ => k - (intOf vj).toNat)
            case atStart => exact ⟨0, 0, f0, Nat.zero_le _, rfl, rfl, by simp [inTo], rfl⟩
            case round =>
              obtain ⟨j, n, f, hj, rfl, rfl, hf, rfl⟩ := hrel
              have HFF := Lib.hid hf
              clear hf
              by_cases hjl : j < k
              · have HST := Lib.hid (show inTo zs (j + 1) x = (x == ptAt zs j || inTo zs j x) from rfl)
                have p0 := HO.out.cell (HC.out j (by omega)) (fun h => h)
                generalize ptAt zs j = u at *
                cases f
                · have HNN := Lib.hid (show false = (f0 && !inTo zs (j + 1) x) by rw [HST.out]; exact and_not_or HFF.out)
                  go_wp2_with fail
                  go_quiet (fail)
                  go_wp2
                  go_roundw
                  case rel => exact ⟨j + 1, _, false, by omega, by go_num, rfl, HNN.out, rfl⟩
                  case measure => simp [intOf]; omega
                · by_cases hne : u = x
                  · have q : (u != x) = false := by simp [hne]
                    have HNN := Lib.hid (show false = (f0 && !inTo zs (j + 1) x) by
                      rw [HST.out, hne]; simp)
                    clear hne
                    go_wp2_with fail
                    go_quiet (fail)
                    go_wp2
                    go_roundw
                    case rel => exact ⟨j + 1, _, false, by omega, by go_num, rfl, HNN.out, rfl⟩
                    case measure => simp [intOf]; omega
                  · have q : (u != x) = true := by simp [hne]
                    have HNN := Lib.hid (show true = (f0 && !inTo zs (j + 1) x) by
                      rw [HST.out, HFF.out]
                      have : (x == u) = false := by simp; exact fun h => hne h.symm
                      rw [this]; rfl)
                    clear hne
                    go_wp2_with fail
                    go_quiet (fail)
                    go_wp2
                    go_roundw
                    case rel => exact ⟨j + 1, _, true, by omega, by go_num, rfl, HNN.out, rfl⟩
                    case measure => simp [intOf]; omega
              · obtain rfl : j = k := by omega
                cases f
                · have HBB := Lib.hid (show diffB zs = false from diffTo_false zs zs.length (j + 1) (by omega) (by rw [HDS.out, HX.out, HF0.out, ← HFF.out]; simp))
                  have HO2 := Lib.hid (HO.out.drewN n)
                  clear HO
                  go_wp2
                  go_ret2
                  refine ⟨?_, HO2.out⟩
                  have e1 := HSB.out
                  have e2 := HSZ.out
                  rw [HBB.out] at e1 e2
                  rw [← e1, ← e2]; rfl
                · have HDN := Lib.hid (show diffTo zs (j + 1) = true by rw [HDS.out, HDK.out, HX.out, HF0.out, ← HFF.out]; rfl)
                  have HO2 := Lib.hid (HO.out.drewN n)
                  clear HO
                  go_wp2
                  go_roundw
                  case rel => exact ⟨j + 1, by go_num, by omega, HDN.out, HO2.out⟩
                  case measure => simp [intOf]; omega
          · have HDB := Lib.hid (show diffB zs = true by unfold diffB; rw [← show k = zs.length by omega]; exact hdk)
            have HIr := Lib.hid (HI.out.only hO)
            clear hO hdk
            go_wp2_with fail
            refine (rfactors_any _ zs wr HIr.out hlen hp).mono ?_
            rintro e w1 ⟨vf, rfl, hF, hO1⟩
            have hON := HO.out.trans hO1
            have HON := Lib.hid hON
            have hfl : (facs zs).length = zs.length := facsTo_len zs zs.length
            have hN1 := HN.out.only hON
            rcases hF with ⟨_, _, _, hf0⟩ | ⟨fb, foff, fcap, rfl, hfb, hfc1, hfc2, hfc⟩
            · rw [hf0] at hfl; simp at hfl; omega
            rcases hN1 with ⟨_, _, _, hn0⟩ | ⟨nb, noff, ncap, hnv, hnb, hnc1, hnc2, hnc⟩
            · have := H1.out; rw [hn0] at this; simp at this; omega
            simp only [Value.slice.injEq, true_and] at hnv
            obtain ⟨rfl, rfl⟩ := hnv
            rw [hfl] at hfc hfc1
            have hnl : ns.length ≤ zs.length := Nat.le_of_eq H1.out
            have hnl2 : zs.length ≤ ns.length := Nat.le_of_eq H1.out.symm
            have HFC := Lib.hid (show ∀ j, j < zs.length → w1.cell? ⟨fb, foff + j, none⟩ = some (.int .i64 (facR zs j)) from fun j hj => by rw [hfc j hj]; unfold facs; rw [facsTo_at zs _ j hj])
            have HNC := Lib.hid hnc
            rw [hfl]
            clear hO1 hON hfl hfc hnc
            go_wp2_with fail
            go_loopw [10, 11] (fun vs vj wi => ∃ (j n : Nat), j ≤ zs.length ∧ vj = .int .i64 j ∧ vs = .int .i64 (combRTo zs ns j) ∧ wi = w1.drewN n) (fun _ vj _ => zs.length - (intOf vj).toNat)
            case atStart => exact ⟨0, 0, Nat.zero_le _, rfl, rfl, rfl⟩
            case round =>
              obtain ⟨j, n, hj, rfl, rfl, rfl⟩ := hrel
              by_cases hjl : j < zs.length
              · have p0 := HFC.out j hjl
                have p1 := HNC.out j (by omega)
                have hjn : j < ns.length := by omega
                have HST := Lib.hid (show combRTo zs ns (j + 1) = (combRTo zs ns j + facR zs j * ptAt ns j % 1152921504606845789) % 1152921504606845789 from rfl)
                generalize facR zs j = f at *
                generalize ptAt ns j = u at *
                generalize combRTo zs ns j = s at *
                go_wp2_with fail
                go_quiet (first
                  | (go_at_call 43; exact quiet_add_left (rmul_any f u 1152921504606845789 _ (by decide) (by decide)))
                  | (go_at_call 34; exact quiet_add_left (radd_any s (f * u % 1152921504606845789) 1152921504606845789 _ (by decide) (by decide))))
                go_wp2
                go_roundw
                case rel => exact ⟨j + 1, n + nq, by omega, by go_num, by rw [HST.out], by first | rfl | trivial⟩
                case measure => simp [intOf]; omega
              · obtain rfl : j = zs.length := by omega
                have HO2 := Lib.hid (HON.out.drewN n)
                clear HON
                go_wp2
                go_ret2
                refine ⟨?_, HO2.out⟩
                have e1 := HSB.out
                have e2 := HSZ.out
                rw [HDB.out] at e1 e2
                rw [← e1, ← e2]; rfl
      · have e1 : ((zs.length : Int) != (ns.length : Int)) = true := by simp; omega
        have hbb : bb = false := by rw [← hb]; unfold shareB; simp [h1]
        have hzz : z = 0 := by rw [← hz]; unfold shareRZ shareB; simp [h1]
        subst hbb hzz
        clear hb hz hI hN hc h0 h1
        go_enter Try.func22, Try.ntmps22
        go_wp2
        go_ret2
        exact ⟨rfl, Only.refl _ _⟩
end Go.Proofs.Ytalclldccnichaa
