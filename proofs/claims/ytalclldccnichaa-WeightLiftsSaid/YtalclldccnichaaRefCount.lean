/-
  The reference's Counting and split.
-/
import Derived.Test.YtalclldccnichaaRefFac
namespace Go.Proofs.Ytalclldccnichaa
open Go.RowKit

theorem Try.infoS : (Try.prog.info? 43).map (fun i => (i.zero, i.size, i.bytes)) = some (some (.agg #[.int .i64 0, .int .i64 0]), 2, 16) := by kernel_rfl
def srow (l : List (Int × Int)) : List Value := l.flatMap (fun s => [.int .i64 s.1, .int .i64 s.2])
theorem srow_append (a b : List (Int × Int)) : srow (a ++ b) = srow a ++ srow b := by simp [srow]
theorem srow_length (l : List (Int × Int)) : (srow l).length = l.length * 2 := by
  induction l with
  | nil => rfl
  | cons s l ih => simp only [srow, List.flatMap_cons, List.length_append] at ih ⊢; rw [ih]; simp; omega
theorem srow_at (l : List (Int × Int)) : ∀ j, j < l.length → (srow l)[j * 2]? = some (.int .i64 (shAt l j).1) ∧ (srow l)[j * 2 + 1]? = some (.int .i64 (shAt l j).2) := by
  induction l with
  | nil => intro j h; simp at h
  | cons s l ih =>
    intro j h
    cases j with
    | zero => simp [srow, shAt]
    | succ j =>
      have := ih j (by simpa using h)
      have e1 : (j + 1) * 2 = j * 2 + 2 := by omega
      rw [e1]
      simpa [srow, shAt] using this
theorem shs_of_own {w : World} {base : Nat} {v : Value} {l : List (Int × Int)} (h : w.ownsRow base 43 2 v l.length (srow l)) (_hm : l.length ≤ 9223372036854775807) : ShsAt w v l := by
  cases l with
  | nil =>
    rcases h.2 with ⟨rfl, _⟩ | ⟨g, cap, cur, rfl, _⟩
    · exact .inl ⟨_, _, rfl, rfl⟩
    · exact .inl ⟨_, _, rfl, rfl⟩
  | cons z l =>
    rcases h.2 with ⟨_, h0⟩ | ⟨g, cap, cur, rfl, hb, hg, hcap, hcap2, hsz, htk⟩
    · simp at h0
    · refine .inr ⟨g, 0, cap, rfl, (Array.getElem?_eq_some_iff.1 hg).1, hcap, by unfold maxLen at hcap2; omega, fun j hj => ?_⟩
      have h1 := srow_at (z :: l) j hj
      have c1 := cell_of_row w g (j * 2) cur 43 (0, 0) hg
      have c2 := cell_of_row w g (j * 2 + 1) cur 43 (0, 0) hg
      rw [Nat.zero_add, c1, c2]
      rw [← htk, List.getElem?_take_of_lt (by omega), List.getElem?_take_of_lt (by omega)] at h1
      simpa using h1
theorem ShsAt.below {A B : World} (h : Only (fun _ => False) A B) {sv : Value} {l : List (Int × Int)} : ShsAt A sv l → ShsAt B sv l
  | .inl e => .inl e
  | .inr ⟨b, off, cap, e, hb, h1, h2, hc⟩ => .inr ⟨b, off, cap, e, Nat.lt_of_lt_of_le hb h.size, h1, h2, fun j hj => ⟨h.cell (hc j hj).1 (fun h => h), h.cell (hc j hj).2 (fun h => h)⟩⟩
theorem PtsAt.only {A B : World} (h : Only (fun _ => False) A B) {sv : Value} {zs : List Int} (hp : PtsAt A.heap.size A sv zs) : PtsAt B.heap.size B sv zs :=
  (hp.below (h.below (Nat.le_refl _) (fun _ _ h => h))).mono h.size

/-- The shares that count, among the first k. -/
def gdTo (per : Int → Bool) (l : List (Int × Int)) (k : Nat) : List (Int × Int) := (cntTo per l k).1.zip (cntTo per l k).2
theorem gdTo_len (per : Int → Bool) (l : List (Int × Int)) (k : Nat) : (gdTo per l k).length = (cntTo per l k).1.length := by
  unfold gdTo; rw [List.length_zip, ← (cntTo_len per l k).1, Nat.min_self]
theorem gdTo_fst (per : Int → Bool) (l : List (Int × Int)) (k : Nat) : (gdTo per l k).map Prod.fst = (cntTo per l k).1 := by
  unfold gdTo; rw [List.map_fst_zip (Nat.le_of_eq (cntTo_len per l k).1)]
theorem gdTo_snd (per : Int → Bool) (l : List (Int × Int)) (k : Nat) : (gdTo per l k).map Prod.snd = (cntTo per l k).2 := by
  unfold gdTo; rw [List.map_snd_zip (Nat.le_of_eq (cntTo_len per l k).1.symm)]
theorem gdTo_succ (per : Int → Bool) (l : List (Int × Int)) (k : Nat) : gdTo per l (k + 1) = if (ptB (shAt l k).1 && per (shAt l k).2) && !inTo (cntTo per l k).1 (cntTo per l k).1.length (shAt l k).1 then gdTo per l k ++ [shAt l k] else gdTo per l k := by
  unfold gdTo
  rw [cntTo]
  cases inTo (cntTo per l k).1 (cntTo per l k).1.length (shAt l k).1 <;> cases ptB (shAt l k).1 <;> cases per (shAt l k).2 <;> simp
  rw [List.zip_append (cntTo_len per l k).1]
  rfl
theorem ptAt_fst (g : List (Int × Int)) (j : Nat) : ptAt (g.map Prod.fst) j = (shAt g j).1 := by
  unfold ptAt shAt
  simp only [List.getD, List.getElem?_map]
  cases g[j]? <;> rfl
theorem ptAt_snd (g : List (Int × Int)) (j : Nat) : ptAt (g.map Prod.snd) j = (shAt g j).2 := by
  unfold ptAt shAt
  simp only [List.getD, List.getElem?_map]
  cases g[j]? <;> rfl
theorem and_not_or {f0 a b : Bool} (h : false = (f0 && !b)) : false = (f0 && !(a || b)) := by revert h; cases f0 <;> cases a <;> cases b <;> decide
def perOf (lifted : Bool) : Int → Bool := if lifted then memB else insB

set_option maxHeartbeats 2000000 in
theorem rcounting_some (lifted : Bool) (b off cap : Nat) (l : List (Int × Int)) (w : World) (hlen : l.length ≤ 1000000) (hcap : l.length ≤ cap) (hcap2 : cap ≤ 9223372036854775807) (hb : b < w.heap.size)
    (hc : ∀ j, j < l.length → w.cell? ⟨b, off + j * 2, none⟩ = some (.int .i64 (shAt l j).1) ∧ w.cell? ⟨b, off + j * 2 + 1, none⟩ = some (.int .i64 (shAt l j).2)) :
    Calls Try.prog 47 #[.slice (some ⟨b, off, none⟩) l.length cap, .bool lifted] w fun e w' => ∃ v, e = .returned v ∧ w'.ownsRow w.heap.size 43 2 v (gdTo (perOf lifted) l l.length).length (srow (gdTo (perOf lifted) l l.length)) ∧ Only (fun _ => False) w w' := by
  obtain ⟨i0, hi, hz0, hz1, hz2⟩ := info_parts Try.infoS
  have HC := Lib.hid hc
  clear hc
  go_enter Try.func47, Try.ntmps47
  go_wp2_with fail
  go_loopw [5, 6] (fun v vi wr => ∃ (k : Nat) (a : Option Addr) (c : Nat), v = .slice a (gdTo (perOf lifted) l k).length c ∧ vi = .int .i64 k ∧ k ≤ l.length ∧ wr.ownsRow w.heap.size 43 2 (.slice a (gdTo (perOf lifted) l k).length c) (gdTo (perOf lifted) l k).length (srow (gdTo (perOf lifted) l k)) ∧ Only (fun _ => False) w wr) (fun _ vi _ => l.length - (intOf vi).toNat)
  case atStart => exact ⟨0, none, 0, rfl, rfl, Nat.zero_le _, World.ownsRow_nil _ _ _ _, Only.refl _ _⟩
  case round =>
    obtain ⟨k, a, c, rfl, rfl, hk, hown, hO⟩ := hrel
    have hsz := hO.size
    have hbl : b < wr.heap.size := by omega
    by_cases hlt : k < l.length
    · have HG := Lib.hid (gdTo_succ (perOf lifted) l k)
      have HF := Lib.hid (gdTo_fst (perOf lifted) l k)
      have hgl : (gdTo (perOf lifted) l k).length ≤ k := by rw [gdTo_len]; exact (cntTo_len _ l k).2
      have HGL := Lib.hid (gdTo_len (perOf lifted) l k)
      obtain ⟨d0, d1⟩ := HC.out k hlt
      have e0 := hO.cell d0 (fun h => h)
      have e1 := hO.cell d1 (fun h => h)
      generalize (cntTo (perOf lifted) l k).1 = ps at *
      generalize hge : gdTo (perOf lifted) l k = g at *
      have HGE := Lib.hid hge
      generalize shAt l k = s at *
      obtain ⟨x, y⟩ := s
      dsimp only at d0 d1 e0 e1
      have HOWN := Lib.hid hown
      have HO := Lib.hid hO
      clear hown hO hge d0 d1
      go_upto_region 5 with (fail)
      go_cut [7] (fun v wx => v = .bool (ptB x) ∧ wr = wx)
      case first =>
        go_wp2_with fail
        refine (rpoint_is x (ptB x) _ rfl).mono ?_
        rintro e w' ⟨rfl, rfl⟩
        go_wp2_with fail
        go_meet
        exact ⟨rfl, rfl⟩
      case rest =>
        obtain ⟨rfl, rfl⟩ := hcut
        go_upto_if 22 with (fail)
        go_cut [7] (fun v wx => v = .bool (ptB x && perOf lifted y) ∧ wr = wx)
        case first =>
          cases lifted
          · have HPE := Lib.hid (show perOf false y = insB y from rfl)
            cases hp : ptB x
            · go_wp2
              go_meet
              exact ⟨by rw [hp]; rfl, rfl⟩
            · by_cases h1 : 0 ≤ y
              · have q1 : decide (0 ≤ y) = true := decide_eq_true h1
                by_cases h2 : y < 1152921504606845789
                · have q2 : decide (y < 1152921504606845789) = true := decide_eq_true h2
                  have HI := Lib.hid (show insB y = true by unfold insB; rw [q1, decide_eq_true (show y ≤ 1152921504606845788 by omega)]; rfl)
                  go_wp2
                  go_meet
                  exact ⟨by rw [hp, HPE.out, HI.out]; rfl, rfl⟩
                · have q2 : decide (y < 1152921504606845789) = false := decide_eq_false h2
                  have HI := Lib.hid (show insB y = false by unfold insB; rw [q1, decide_eq_false (show ¬ y ≤ 1152921504606845788 by omega)]; rfl)
                  go_wp2
                  go_meet
                  exact ⟨by rw [hp, HPE.out, HI.out]; rfl, rfl⟩
              · have q1 : decide (0 ≤ y) = false := decide_eq_false h1
                have HI := Lib.hid (show insB y = false by unfold insB; rw [q1]; rfl)
                go_wp2
                go_meet
                exact ⟨by rw [hp, HPE.out, HI.out]; rfl, rfl⟩
          · have HPE := Lib.hid (show perOf true y = memB y from rfl)
            cases hp : ptB x
            · go_wp2_with fail
              refine (rmember_is y (memB y) _ rfl).mono ?_
              rintro e w' ⟨rfl, rfl⟩
              go_wp2
              go_meet
              exact ⟨by rw [hp]; rfl, rfl⟩
            · go_wp2_with fail
              refine (rmember_is y (memB y) _ rfl).mono ?_
              rintro e w' ⟨rfl, rfl⟩
              go_wp2
              go_meet
              exact ⟨by rw [hp, HPE.out]; rfl, rfl⟩
        case rest =>
          obtain ⟨rfl, rfl⟩ := hcut
          generalize (ptB x && perOf lifted y) = f0 at *
          have HIN := Lib.hid HF.out
          go_wp2_with fail
          go_loopw [7, 9] (fun vf vj wi => ∃ (j n : Nat) (f : Bool), j ≤ g.length ∧ vj = .int .i64 j ∧ vf = .bool f ∧ f = (f0 && !inTo ps j x) ∧ wi = wr.drewN n) (fun _ vj _ => g.length - (intOf vj).toNat)
          case atStart => exact ⟨0, 0, f0, Nat.zero_le _, rfl, rfl, by simp [inTo], rfl⟩
          case round =>
            obtain ⟨j, n, f, hj, rfl, rfl, hf, rfl⟩ := hrel
            have HFF := Lib.hid hf
            clear hf
            by_cases hjl : j < g.length
            · have HST := Lib.hid (show inTo ps (j + 1) x = (x == ptAt ps j || inTo ps j x) from rfl)
              rcases shs_of_own HOWN.out (by omega) with ⟨_, _, _, hg0⟩ | ⟨gb, goff, gcap, hgv, hgl2, hgc1, hgc2, hgc⟩
              · rw [hg0] at hjl; simp at hjl
              · simp only [Value.slice.injEq, true_and] at hgv
                obtain ⟨rfl, rfl⟩ := hgv
                obtain ⟨p0, _⟩ := hgc j hjl
                clear hgc
                have HPT := Lib.hid (show ptAt ps j = (shAt g j).1 by rw [← HIN.out, ptAt_fst])
                generalize (shAt g j).1 = z at *
                cases f
                · have HN := Lib.hid (show false = (f0 && !inTo ps (j + 1) x) by
                    rw [HST.out]; exact and_not_or HFF.out)
                  go_wp2_with fail
                  go_quiet (fail)
                  go_wp2
                  go_roundw
                  case rel => exact ⟨j + 1, _, false, by omega, by go_num, rfl, HN.out, rfl⟩
                  case measure => simp [intOf]; omega
                · by_cases hne : z = x
                  · have q : (z != x) = false := by simp [hne]
                    have HN := Lib.hid (show false = (f0 && !inTo ps (j + 1) x) by
                      rw [HST.out, HPT.out, hne]; simp)
                    clear hne
                    go_wp2_with fail
                    go_quiet (fail)
                    go_wp2
                    go_roundw
                    case rel => exact ⟨j + 1, _, false, by omega, by go_num, rfl, HN.out, rfl⟩
                    case measure => simp [intOf]; omega
                  · have q : (z != x) = true := by simp [hne]
                    have HN := Lib.hid (show true = (f0 && !inTo ps (j + 1) x) by
                      rw [HST.out, HPT.out, HFF.out]
                      have : (x == z) = false := by simp; exact fun h => hne h.symm
                      rw [this]; rfl)
                    clear hne
                    go_wp2_with fail
                    go_quiet (fail)
                    go_wp2
                    go_roundw
                    case rel => exact ⟨j + 1, _, true, by omega, by go_num, rfl, HN.out, rfl⟩
                    case measure => simp [intOf]; omega
            · obtain rfl : j = g.length := by omega
              have HOWN2 := Lib.hid (owns_drewN n HOWN.out)
              have HO2 := Lib.hid (HO.out.drewN n)
              have e2 : (wr.drewN n).cell? ⟨b, off + k * 2, none⟩ = some (.int .i64 x) := e0
              have e3 : (wr.drewN n).cell? ⟨b, off + k * 2 + 1, none⟩ = some (.int .i64 y) := e1
              have hb2 : b < (wr.drewN n).heap.size := hbl
              have hs2 : w.heap.size ≤ (wr.drewN n).heap.size := hsz
              generalize wr.drewN n = wq at *
              cases f
              · have HN := Lib.hid (show gdTo (perOf lifted) l (k + 1) = g by rw [HG.out, ← HGL.out, ← HFF.out]; rfl)
                go_wp2
                go_roundw
                case rel => exact ⟨k + 1, a, c, by rw [HN.out], by go_num, by omega, by rw [HN.out]; exact HOWN2.out, HO2.out⟩
                case measure => simp [intOf]; omega
              · have HN := Lib.hid (show gdTo (perOf lifted) l (k + 1) = g ++ [(x, y)] by rw [HG.out, ← HGL.out, ← HFF.out]; rfl)
                have HZ := Lib.hid (show srow (g ++ [(x, y)]) = srow g ++ [.int .i64 x, .int .i64 y] by rw [srow_append]; rfl)
                have hown := HOWN2.out
                go_wp2_with (at_builtin; refine wpList_append_own _ rfl _ _ 41 rfl w.heap.size 43 i0 _ 2 16 Try.underlying41 hi hz0 hz1 hz2 rfl (by decide) _ g.length (srow g) rfl (hown.alloc _) ⟨wq.heap.size, 0, none⟩ 1 1 [.int .i64 x, .int .i64 y] rfl rfl ?c1 ?c2 ?c3 ?c4 ?c5 ?_)
                case c1 => exact World.news_of_block (heap_alloc_new wq _)
                case c2 => intro u hu; simp at hu; rcases hu with rfl | rfl <;> rfl
                case c3 => unfold maxLen; omega
                case c4 => omega
                case c5 => simp; omega
                intro v' w2 hown2 hgrow2 _
                obtain ⟨a2, c2, hv⟩ := slice_of_own hown2
                rw [hv] at hown2 ⊢
                rw [← HZ.out] at hown2
                have HO3 := Lib.hid ((HO2.out.alloc _).grow (hown.alloc _) (Nat.le_refl _) hgrow2)
                have HOWN3 := Lib.hid hown2
                clear hgrow2 hv hown hown2 HOWN HO
                go_wp2
                go_roundw
                case rel => exact ⟨k + 1, a2, c2, by rw [HN.out]; simp, by go_num, by omega, by rw [HN.out]; simpa using HOWN3.out, HO3.out⟩
                case measure => simp [intOf]; omega
    · obtain rfl : k = l.length := by omega
      have HP := Lib.hid hown
      have HO := Lib.hid hO
      clear hown hO
      go_wp2
      go_ret
      exact ⟨_, rfl, HP.out, HO.out⟩
end Go.Proofs.Ytalclldccnichaa
