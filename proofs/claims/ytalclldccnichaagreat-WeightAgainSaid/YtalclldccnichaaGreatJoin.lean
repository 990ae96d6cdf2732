/-
  The walks of Join, Lift and Share.
-/
import Derived.Test.YtalclldccnichaaGreatCounting
namespace Go.Proofs.YtalclldccnichaaGreat
open Go.RowKit

def combZ (zs ns : List Int) : Int := (upF zs.length zs.length).foldl (stepC zs ns) 0
def liftZ (zs ns : List Int) : Int := (upF zs.length zs.length).foldl (stepL zs ns) 1
/-- The points and the numbers of the shares that count. -/
def cntP (per : Int → Bool) (l : List (Int × Int)) : List Int := (cntTo per l l.length).1
def cntN (per : Int → Bool) (l : List (Int × Int)) : List Int := (cntTo per l l.length).2
def enB (per : Int → Bool) (need : Int) (l : List (Int × Int)) : Bool := decide (1 ≤ need) && decide (need ≤ (cntP per l).length)
def joinZ (need : Int) (l : List (Int × Int)) : Int := if enB insB need l then combZ ((cntP insB l).take need.toNat) ((cntN insB l).take need.toNat) else 0
def liftedZ (need : Int) (l : List (Int × Int)) : Int := if enB memB need l then liftZ ((cntP memB l).take need.toNat) ((cntN memB l).take need.toNat) else 0
def shareB (zs ns : List Int) : Bool := (zs.length != 0) && (ns.length == zs.length) && diffB zs
def shareZ (zs ns : List Int) : Int := if shareB zs ns then combZ zs ns else 0

theorem only_of_below {a w : World} (h : Below a.heap.size a w) : Only (fun _ => False) a w := Only.ofBelow h _
theorem Tryz.ent38 (v : Value) (w : World) : (callFunc 60 #[v]).run Tryz.prog w = .ok (.enter 60 #[v]) w := by kernel_rfl
theorem Tryz.ent45 (v : Value) (w : World) : (callFunc 42 #[v]).run Tryz.prog w = .ok (.enter 42 #[v]) w := by kernel_rfl
theorem ShsAt.slice {W : World} {sv : Value} {l : List (Int × Int)} (h : ShsAt W sv l) : ∃ a n c, sv = .slice a n c := by
  rcases h with ⟨a, c, rfl, _⟩ | ⟨b, off, cap, rfl, _⟩ <;> exact ⟨_, _, _, rfl⟩
theorem PtsAt.slice {n : Nat} {W : World} {sv : Value} {l : List Int} (h : PtsAt n W sv l) : ∃ a c, sv = .slice a l.length c := by
  rcases h with ⟨a, c, rfl, rfl⟩ | ⟨b, off, cap, rfl, _⟩ <;> exact ⟨_, _, rfl⟩

set_option maxHeartbeats 400000 in
theorem join_any (need : Int) (sv : Value) (l : List (Int × Int)) (z : Int) (bb : Bool) (w : World) (hw : ShsW l) (hlen : l.length ≤ 1000000) (hneed2 : need ≤ 1000000) (hs : ShsAt w sv l) (hz : joinZ need l = z) (hb : enB insB need l = bb) :
    Calls Tryz.prog 27 #[.int .i64 need, sv] w fun e w' => e = .returned (.tuple #[.int .i64 z, .bool bb]) ∧ Only (fun _ => False) w w' := by
  have HC := Lib.hid (counting_any 60 insB inside_is Tryz.ent38 need sv l w hw hlen hneed2 hs)
  have HZ := Lib.hid hz
  have HB := Lib.hid hb
  have hlen2 := Lib.hid (cntTo_len insB l l.length).1
  obtain ⟨a, n, c, rfl⟩ := hs.slice
  clear hz hb hw hs
  go_enter Tryz.func27, Tryz.ntmps27
  go_wp2_with fail
  refine HC.out.mono ?_
  rintro e w1 ⟨hO, ⟨h1, h2, vp, vq, rfl, hP, hQ⟩ | ⟨h1, rfl⟩⟩
  · have hen : enB insB need l = true := by unfold enB cntP; rw [decide_eq_true h1, decide_eq_true h2]; rfl
    have HBB := Lib.hid (show bb = true by rw [← HB.out, hen])
    have HZZ := Lib.hid (show z = combZ ((cntP insB l).take need.toNat) ((cntN insB l).take need.toNat) by rw [← HZ.out]; unfold joinZ; rw [if_pos hen])
    have hlz : ((cntN insB l).take need.toNat).length = ((cntP insB l).take need.toNat).length := by unfold cntN cntP; simp only [List.length_take]; rw [← hlen2.out]
    have hpz : 0 < ((cntP insB l).take need.toNat).length := by unfold cntP; simp only [List.length_take]; omega
    have hP' : PtsAt w1.heap.size w1 vp ((cntP insB l).take need.toNat) := hP
    have hQ' : PtsAt w1.heap.size w1 vq ((cntN insB l).take need.toNat) := hQ
    clear hP hQ h1 h2
    generalize (cntP insB l).take need.toNat = zs at *
    generalize (cntN insB l).take need.toNat = ns at *
    have HL := Lib.hid (combine_any vp vq zs ns w1 hP' hQ' hlz hpz)
    have HO := Lib.hid hO
    obtain ⟨a1, c1, rfl⟩ := hP'.slice
    obtain ⟨a2, c2, rfl⟩ := hQ'.slice
    clear hen hO hP' hQ' HC hlz hpz
    go_wp2_with fail
    refine HL.out.mono ?_
    rintro e w2 ⟨rfl, hB⟩
    have HB2 := Lib.hid (HO.out.trans (only_of_below hB))
    clear hB HL
    go_wp2
    go_ret2
    refine ⟨?_, HB2.out⟩
    rw [HBB.out, HZZ.out]; rfl
  · have hen : enB insB need l = false := by
      unfold enB cntP
      rcases h1 with h1 | h1
      · rw [decide_eq_false (show ¬ 1 ≤ need by omega)]; rfl
      · rw [decide_eq_false (show ¬ need ≤ ((cntTo insB l l.length).1.length : Int) by omega), Bool.and_false]
    have HBB := Lib.hid (show bb = false by rw [← HB.out, hen])
    have HZZ := Lib.hid (show z = 0 by rw [← HZ.out]; unfold joinZ; rw [if_neg (by rw [hen]; decide)])
    have HO := Lib.hid hO
    clear hen hO h1 HC
    go_wp2
    go_ret2
    refine ⟨?_, HO.out⟩
    rw [HBB.out, HZZ.out]; rfl

set_option maxHeartbeats 400000 in
theorem lifted_any (need : Int) (sv : Value) (l : List (Int × Int)) (z : Int) (bb : Bool) (w : World) (hw : ShsW l) (hlen : l.length ≤ 1000000) (hneed2 : need ≤ 1000000) (hs : ShsAt w sv l) (hz : liftedZ need l = z) (hb : enB memB need l = bb) :
    Calls Tryz.prog 33 #[.int .i64 need, sv] w fun e w' => e = .returned (.tuple #[.int .i64 z, .bool bb]) ∧ Only (fun _ => False) w w' := by
  have HC := Lib.hid (counting_any 42 memB member_is Tryz.ent45 need sv l w hw hlen hneed2 hs)
  have HZ := Lib.hid hz
  have HB := Lib.hid hb
  have hlen2 := Lib.hid (cntTo_len memB l l.length).1
  obtain ⟨a, n, c, rfl⟩ := hs.slice
  clear hz hb hw hs
  go_enter Tryz.func33, Tryz.ntmps33
  go_wp2_with fail
  refine HC.out.mono ?_
  rintro e w1 ⟨hO, ⟨h1, h2, vp, vq, rfl, hP, hQ⟩ | ⟨h1, rfl⟩⟩
  · have hen : enB memB need l = true := by unfold enB cntP; rw [decide_eq_true h1, decide_eq_true h2]; rfl
    have HBB := Lib.hid (show bb = true by rw [← HB.out, hen])
    have HZZ := Lib.hid (show z = liftZ ((cntP memB l).take need.toNat) ((cntN memB l).take need.toNat) by rw [← HZ.out]; unfold liftedZ; rw [if_pos hen])
    have hlz : ((cntN memB l).take need.toNat).length = ((cntP memB l).take need.toNat).length := by unfold cntN cntP; simp only [List.length_take]; rw [← hlen2.out]
    have hpz : 0 < ((cntP memB l).take need.toNat).length := by unfold cntP; simp only [List.length_take]; omega
    have hP' : PtsAt w1.heap.size w1 vp ((cntP memB l).take need.toNat) := hP
    have hQ' : PtsAt w1.heap.size w1 vq ((cntN memB l).take need.toNat) := hQ
    clear hP hQ h1 h2
    generalize (cntP memB l).take need.toNat = zs at *
    generalize (cntN memB l).take need.toNat = ns at *
    have HL := Lib.hid (lift_any vp vq zs ns w1 hP' hQ' hlz hpz)
    have HO := Lib.hid hO
    obtain ⟨a1, c1, rfl⟩ := hP'.slice
    obtain ⟨a2, c2, rfl⟩ := hQ'.slice
    clear hen hO hP' hQ' HC hlz hpz
    go_wp2_with fail
    refine HL.out.mono ?_
    rintro e w2 ⟨rfl, hB⟩
    have HB2 := Lib.hid (HO.out.trans (only_of_below hB))
    clear hB HL
    go_wp2
    go_ret2
    refine ⟨?_, HB2.out⟩
    rw [HBB.out, HZZ.out]; rfl
  · have hen : enB memB need l = false := by
      unfold enB cntP
      rcases h1 with h1 | h1
      · rw [decide_eq_false (show ¬ 1 ≤ need by omega)]; rfl
      · rw [decide_eq_false (show ¬ need ≤ ((cntTo memB l l.length).1.length : Int) by omega), Bool.and_false]
    have HBB := Lib.hid (show bb = false by rw [← HB.out, hen])
    have HZZ := Lib.hid (show z = 0 by rw [← HZ.out]; unfold liftedZ; rw [if_neg (by rw [hen]; decide)])
    have HO := Lib.hid hO
    clear hen hO h1 HC
    go_wp2
    go_ret2
    refine ⟨?_, HO.out⟩
    rw [HBB.out, HZZ.out]; rfl

set_option maxHeartbeats 400000 in
theorem share_any (sv nv : Value) (zs ns : List Int) (z : Int) (bb : Bool) (w : World) (hw : IntsW zs) (hlen : zs.length ≤ 1000000) (_hlen2 : ns.length ≤ 1000000) (hI : PtsAt w.heap.size w sv zs) (hN : PtsAt w.heap.size w nv ns) (hz : shareZ zs ns = z) (hb : shareB zs ns = bb) :
    Calls Tryz.prog 24 #[sv, nv] w fun e w' => e = .returned (.tuple #[.int .i64 z, .bool bb]) ∧ Only (fun _ => False) w w' := by
  obtain ⟨a2, c2, rfl⟩ := hN.slice
  rcases id hI with ⟨a, c, rfl, rfl⟩ | ⟨b, off, cap, rfl, hbl, hcap, hcap2, hc⟩
  · have hbb : bb = false := by rw [← hb]; rfl
    have hzz : z = 0 := by rw [← hz]; rfl
    subst hbb hzz
    clear hb hz hI hN hw
    go_enter Tryz.func24, Tryz.ntmps24
    go_wp2
    go_ret2
    exact ⟨rfl, Only.refl _ _⟩
  · by_cases h0 : zs.length = 0
    · have hbb : bb = false := by rw [← hb]; unfold shareB; simp [h0]
      have hzz : z = 0 := by rw [← hz]; unfold shareZ shareB; simp [h0]
      subst hbb hzz
      clear hb hz hI hN hw hc
      rw [h0]
      clear h0
      go_enter Tryz.func24, Tryz.ntmps24
      go_wp2
      go_ret2
      exact ⟨rfl, Only.refl _ _⟩
    · have e0 : ((zs.length : Int) == 0) = false := beq_eq_false_iff_ne.2 (by omega)
      by_cases h1 : ns.length = zs.length
      · have e1 : ((ns.length : Int) != (zs.length : Int)) = false := by simp; omega
        have hsb : shareB zs ns = diffB zs := by unfold shareB; simp [h0, h1]
        cases hd : diffB zs
        · have hbb : bb = false := by rw [← hb, hsb, hd]
          have hzz : z = 0 := by rw [← hz]; unfold shareZ; rw [hsb, hd]; rfl
          subst hbb hzz
          have HD := Lib.hid (different_some b off cap zs false w hw hlen hc hd)
          clear hb hz hI hN hw hc hsb hd h0 h1
          go_enter Tryz.func24, Tryz.ntmps24
          go_wp2_with fail
          refine HD.out.mono ?_
          rintro e w1 ⟨rfl, hO⟩
          have HO := Lib.hid hO
          clear hO HD
          go_wp2
          go_ret2
          exact ⟨rfl, HO.out⟩
        · have hbb : bb = true := by rw [← hb, hsb, hd]
          have hzz : z = combZ zs ns := by rw [← hz]; unfold shareZ; rw [hsb, hd]; rfl
          subst hbb hzz
          have HD := Lib.hid (different_some b off cap zs true w hw hlen hc hd)
          have HI := Lib.hid hI
          have HN := Lib.hid hN
          have H1 := Lib.hid h1
          have hp : 0 < zs.length := by omega
          clear hb hz hI hN hw hc hsb hd h0 h1
          go_enter Tryz.func24, Tryz.ntmps24
          go_wp2_with fail
          refine HD.out.mono ?_
          rintro e w1 ⟨rfl, hO⟩
          have hBl := hO.below (B := w.heap.size) (Nat.le_refl _) (fun _ _ h => h)
          have HL := Lib.hid (combine_any (.slice (some ⟨b, off, none⟩) zs.length cap) (.slice a2 ns.length c2) zs ns w1 ((HI.out.below hBl).mono hO.size) ((HN.out.below hBl).mono hO.size) H1.out hp)
          have HO := Lib.hid hO
          clear hO HD hBl
          go_wp2_with fail
          refine HL.out.mono ?_
          rintro e w2 ⟨rfl, hB⟩
          have HB2 := Lib.hid (HO.out.trans (only_of_below hB))
          clear hB HL
          go_wp2
          go_ret2
          exact ⟨rfl, HB2.out⟩
      · have e1 : ((ns.length : Int) != (zs.length : Int)) = true := by simp; omega
        have hbb : bb = false := by rw [← hb]; unfold shareB; simp [h1]
        have hzz : z = 0 := by rw [← hz]; unfold shareZ shareB; simp [h1]
        subst hbb hzz
        clear hb hz hI hN hw hc h0 h1
        go_enter Tryz.func24, Tryz.ntmps24
        go_wp2
        go_ret2
        exact ⟨rfl, Only.refl _ _⟩
end Go.Proofs.YtalclldccnichaaGreat
