/-
  Rules: slices.ContainsFunc over tiers, places, quotas with the closures of rightLists.
  Rules, plain: what is read is right, and its text is the text that was read.
-/
import Derived.Test.YteikkpiginfbkaaGreatDoorPh20
namespace Go.Proofs.YteikkpiginfbkaaGreatDoor
open Go.RowKit

theorem tierC_same (x : Int × Int) (tb : Nat) (m : Int) (bb : Bool) (w : World) (hm : w.cell? ⟨tb, 0, none⟩ = some (.int .i64 m)) (hb : (x.1 == m) = bb) :
    Calls Tryz.prog 85 #[.agg #[.int .i64 x.1, .int .i64 x.2], .pointer (some ⟨tb, 0, none⟩)] w fun e w' => e = .returned (.bool bb) ∧ Only (fun _ => False) w w' := by
  have i1 : (x.1 == m) = bb := hb
  have hlt := World.block_lt_of_cell? _ _ hm
  have hne : ¬ tb = w.heap.size := by dsimp only at hlt; omega
  clear hb
  go_enter Tryz.func85, Tryz.ntmps85
  go_wp2
  go_ret
  exact ⟨rfl, (Only.refl _ w).alloc _⟩
theorem tierC_take {l : List (Int × Int)} {k j : Nat} {m : Int} (hj : j < k) (hk : k ≤ l.length) (h : hasTier (l.take j) m = false) : hasTier (l.take (j + 1)) m = ((tAt l j).1 == m) := by
  unfold hasTier at *
  have hjl : j < l.length := by omega
  rw [any_take_succ hjl h, tAt_get hjl]
theorem tierC_yes {l : List (Int × Int)} {k j : Nat} {m : Int} (hj : j < k) (h : hasTier (l.take (j + 1)) m = true) : hasTier (l.take k) m = true := by
  unfold hasTier at *
  refine any_take_yes (k := j + 1) ?_
  rw [List.take_take, Nat.min_eq_left (by omega)]
  exact h
def tierCIdxR (has : Bool) (w : World) (e : Ending) (w' : World) : Prop := ∃ r : Int, e = .returned (.int .i64 r) ∧ decide (0 ≤ r) = has ∧ Only (fun _ => False) w w'
set_option maxHeartbeats 2000000 in
theorem tierC_idx (base c tb k : Nat) (a : Option Addr) (l : List (Int × Int)) (m : Int) (w : World) (hown : w.ownsRow base 50 2 (.slice a l.length c) l.length (trow l)) (hk : k ≤ l.length) (hl : l.length ≤ 1000000)
    (hm : w.cell? ⟨tb, 0, none⟩ = some (.int .i64 m)) :
    Calls Tryz.prog 113 #[.slice a k c, .func (.func 85) #[] #[.pointer (some ⟨tb, 0, none⟩)]] w fun e w' => tierCIdxR (hasTier (l.take k) m) w e w' := by
  have HOWN := Lib.hid hown
  have HM := Lib.hid hm
  clear hown hm
  go_enter Tryz.func113, Tryz.ntmps113
  go_wp2_with fail
  go_loopw [8] (fun iv wr => ∃ j : Nat, iv = .int .i64 j ∧ j ≤ k ∧ hasTier (l.take j) m = false ∧ Only (fun _ => False) w wr) (fun iv _ => k - (intOf iv).toNat)
  case atStart => exact ⟨0, rfl, Nat.zero_le _, rfl, Only.refl _ _⟩
  case round =>
    obtain ⟨j, rfl, hj, hno, hO⟩ := hrel
    have HNO := Lib.hid hno
    have HO := Lib.hid hO
    by_cases hlt : j < k
    · have j1 : (j : Int) < k := by omega
      have j2 : 0 ≤ (j : Int) := by omega
      have hjl : j < l.length := by omega
      have hown := hO.owns HOWN.out (fun _ _ h => h)
      have h0 := flat_at (fun x : Int × Int => [Value.int .i64 x.1, Value.int .i64 x.2]) 2 (fun _ => rfl) l j 0 hjl (by decide)
      have h1 := flat_at (fun x : Int × Int => [Value.int .i64 x.1, Value.int .i64 x.2]) 2 (fun _ => rfl) l j 1 hjl (by decide)
      obtain ⟨g, cap, hv, hg, hc1, hc2, d0⟩ := own_cell hown h0
      obtain ⟨g1, cap1, hv1, _, _, _, d1⟩ := own_cell hown h1
      rw [hv] at hv1
      simp only [Value.slice.injEq, Option.some.injEq, Addr.mk.injEq, and_true, true_and] at hv hv1
      obtain ⟨rfl, rfl⟩ := hv
      obtain ⟨rfl, rfl⟩ := hv1
      have HST := Lib.hid (tierC_take hlt hk hno)
      have hcl := hO.cell HM.out (fun h => h)
      have HYS := Lib.hid (fun (h : hasTier (l.take (j + 1)) m = true) => tierC_yes hlt h)
      rw [tAt_get hjl] at h0 h1
      have e0 := tAt_get hjl
      rw [e0] at d0 d1
      obtain ⟨bb, hbb⟩ : ∃ bb, ((tAt l j).1 == m) = bb := ⟨_, rfl⟩
      have HCL := Lib.hid (tierC_same (tAt l j) tb m bb wr hcl hbb)
      rw [hbb] at HST
      generalize tAt l j = y at *
      obtain ⟨ya, yb⟩ := y
      dsimp only at HCL
      change _ = some (Value.int .i64 ya) at d0
      change _ = some (Value.int .i64 yb) at d1
      rw [Nat.add_zero] at d0
      clear h0 h1 e0 hbb hcl hno hO hown hjl
      cases bb
      · go_wp2_with fail
        refine HCL.out.mono ?_
        rintro e w5 ⟨rfl, hO5⟩
        have HO5 := Lib.hid (HO.out.trans hO5)
        clear hO5
        go_wp2_with fail
        go_roundw
        case rel => exact ⟨j + 1, by go_num, hlt, HST.out, HO5.out⟩
        case measure => simp [intOf]; omega
      · go_wp2_with fail
        refine HCL.out.mono ?_
        rintro e w5 ⟨rfl, hO5⟩
        have HO5 := Lib.hid (HO.out.trans hO5)
        clear hO5
        go_wp2_with fail
        go_ret
        exact ⟨_, rfl, by rw [HYS.out HST.out]; simp, HO5.out⟩
    · obtain rfl : j = k := by omega
      have j1 : ¬ (j : Int) < j := by omega
      go_wp2_with fail
      go_ret
      exact ⟨_, rfl, by first | rfl | (rw [HNO.out]; rfl), HO.out⟩
set_option maxHeartbeats 2000000 in
theorem tierC_has (base c tb k : Nat) (a : Option Addr) (l : List (Int × Int)) (m : Int) (bb : Bool) (w : World) (hown : w.ownsRow base 50 2 (.slice a l.length c) l.length (trow l)) (hk : k ≤ l.length) (hl : l.length ≤ 1000000)
    (hm : w.cell? ⟨tb, 0, none⟩ = some (.int .i64 m)) (hb : hasTier (l.take k) m = bb) :
    Calls Tryz.prog 86 #[.slice a k c, .func (.func 85) #[] #[.pointer (some ⟨tb, 0, none⟩)]] w fun e w' => e = .returned (.bool bb) ∧ Only (fun _ => False) w w' := by
  have HI := Lib.hid (tierC_idx base c tb k a l m w hown hk hl hm)
  rw [hb] at HI
  clear hown hm hb
  go_enter Tryz.func86, Tryz.ntmps86
  go_wp2_with fail
  refine HI.out.mono ?_
  rintro e w5 ⟨r, rfl, hr, hO5⟩
  have HO5 := Lib.hid hO5
  clear hO5
  go_wp2_with fail
  go_ret
  exact ⟨rfl, HO5.out⟩
theorem placeC_same (x : ByteArray × Int) (tb : Nat) (m : ByteArray) (bb : Bool) (w : World) (hm : w.cell? ⟨tb, 0, none⟩ = some (.string m)) (hb : decide (x.1 = m) = bb) :
    Calls Tryz.prog 87 #[.agg #[.string x.1, .int .i64 x.2], .pointer (some ⟨tb, 0, none⟩)] w fun e w' => e = .returned (.bool bb) ∧ Only (fun _ => False) w w' := by
  have i1 : (x.1.toList == m.toList) = bb := by
    by_cases e : x.1 = m
    · rw [str_eq e, ← hb]; simpa using e.symm ▸ rfl
    · rw [str_ne e, ← hb]; simpa using fun h => e h
  have hlt := World.block_lt_of_cell? _ _ hm
  have hne : ¬ tb = w.heap.size := by dsimp only at hlt; omega
  clear hb
  go_enter Tryz.func87, Tryz.ntmps87
  go_wp2
  go_ret
  exact ⟨rfl, (Only.refl _ w).alloc _⟩
theorem placeC_take {l : List (ByteArray × Int)} {k j : Nat} {m : ByteArray} (hj : j < k) (hk : k ≤ l.length) (h : hasPlace (l.take j) m = false) : hasPlace (l.take (j + 1)) m = decide ((pAt l j).1 = m) := by
  unfold hasPlace at *
  have hjl : j < l.length := by omega
  rw [any_take_succ hjl h, pAt_get hjl]
theorem placeC_yes {l : List (ByteArray × Int)} {k j : Nat} {m : ByteArray} (hj : j < k) (h : hasPlace (l.take (j + 1)) m = true) : hasPlace (l.take k) m = true := by
  unfold hasPlace at *
  refine any_take_yes (k := j + 1) ?_
  rw [List.take_take, Nat.min_eq_left (by omega)]
  exact h
def placeCIdxR (has : Bool) (w : World) (e : Ending) (w' : World) : Prop := ∃ r : Int, e = .returned (.int .i64 r) ∧ decide (0 ≤ r) = has ∧ Only (fun _ => False) w w'
set_option maxHeartbeats 2000000 in
theorem placeC_idx (base c tb k : Nat) (a : Option Addr) (l : List (ByteArray × Int)) (m : ByteArray) (w : World) (hown : w.ownsRow base 73 2 (.slice a l.length c) l.length (prow l)) (hk : k ≤ l.length) (hl : l.length ≤ 1000000)
    (hm : w.cell? ⟨tb, 0, none⟩ = some (.string m)) :
    Calls Tryz.prog 114 #[.slice a k c, .func (.func 87) #[] #[.pointer (some ⟨tb, 0, none⟩)]] w fun e w' => placeCIdxR (hasPlace (l.take k) m) w e w' := by
  have HOWN := Lib.hid hown
  have HM := Lib.hid hm
  clear hown hm
  go_enter Tryz.func114, Tryz.ntmps114
  go_wp2_with fail
  go_loopw [8] (fun iv wr => ∃ j : Nat, iv = .int .i64 j ∧ j ≤ k ∧ hasPlace (l.take j) m = false ∧ Only (fun _ => False) w wr) (fun iv _ => k - (intOf iv).toNat)
  case atStart => exact ⟨0, rfl, Nat.zero_le _, rfl, Only.refl _ _⟩
  case round =>
    obtain ⟨j, rfl, hj, hno, hO⟩ := hrel
    have HNO := Lib.hid hno
    have HO := Lib.hid hO
    by_cases hlt : j < k
    · have j1 : (j : Int) < k := by omega
      have j2 : 0 ≤ (j : Int) := by omega
      have hjl : j < l.length := by omega
      have hown := hO.owns HOWN.out (fun _ _ h => h)
      have h0 := flat_at (fun x : ByteArray × Int => [Value.string x.1, Value.int .i64 x.2]) 2 (fun _ => rfl) l j 0 hjl (by decide)
      have h1 := flat_at (fun x : ByteArray × Int => [Value.string x.1, Value.int .i64 x.2]) 2 (fun _ => rfl) l j 1 hjl (by decide)
      obtain ⟨g, cap, hv, hg, hc1, hc2, d0⟩ := own_cell hown h0
      obtain ⟨g1, cap1, hv1, _, _, _, d1⟩ := own_cell hown h1
      rw [hv] at hv1
      simp only [Value.slice.injEq, Option.some.injEq, Addr.mk.injEq, and_true, true_and] at hv hv1
      obtain ⟨rfl, rfl⟩ := hv
      obtain ⟨rfl, rfl⟩ := hv1
      have HST := Lib.hid (placeC_take hlt hk hno)
      have hcl := hO.cell HM.out (fun h => h)
      have HYS := Lib.hid (fun (h : hasPlace (l.take (j + 1)) m = true) => placeC_yes hlt h)
      rw [pAt_get hjl] at h0 h1
      have e0 := pAt_get hjl
      rw [e0] at d0 d1
      obtain ⟨bb, hbb⟩ : ∃ bb, decide ((pAt l j).1 = m) = bb := ⟨_, rfl⟩
      have HCL := Lib.hid (placeC_same (pAt l j) tb m bb wr hcl hbb)
      rw [hbb] at HST
      generalize pAt l j = y at *
      obtain ⟨ya, yb⟩ := y
      dsimp only at HCL
      change _ = some (Value.string ya) at d0
      change _ = some (Value.int .i64 yb) at d1
      rw [Nat.add_zero] at d0
      clear h0 h1 e0 hbb hcl hno hO hown hjl
      cases bb
      · go_wp2_with fail
        refine HCL.out.mono ?_
        rintro e w5 ⟨rfl, hO5⟩
        have HO5 := Lib.hid (HO.out.trans hO5)
        clear hO5
        go_wp2_with fail
        go_roundw
        case rel => exact ⟨j + 1, by go_num, hlt, HST.out, HO5.out⟩
        case measure => simp [intOf]; omega
      · go_wp2_with fail
        refine HCL.out.mono ?_
        rintro e w5 ⟨rfl, hO5⟩
        have HO5 := Lib.hid (HO.out.trans hO5)
        clear hO5
        go_wp2_with fail
        go_ret
        exact ⟨_, rfl, by rw [HYS.out HST.out]; simp, HO5.out⟩
    · obtain rfl : j = k := by omega
      have j1 : ¬ (j : Int) < j := by omega
      go_wp2_with fail
      go_ret
      exact ⟨_, rfl, by first | rfl | (rw [HNO.out]; rfl), HO.out⟩
set_option maxHeartbeats 2000000 in
theorem placeC_has (base c tb k : Nat) (a : Option Addr) (l : List (ByteArray × Int)) (m : ByteArray) (bb : Bool) (w : World) (hown : w.ownsRow base 73 2 (.slice a l.length c) l.length (prow l)) (hk : k ≤ l.length) (hl : l.length ≤ 1000000)
    (hm : w.cell? ⟨tb, 0, none⟩ = some (.string m)) (hb : hasPlace (l.take k) m = bb) :
    Calls Tryz.prog 88 #[.slice a k c, .func (.func 87) #[] #[.pointer (some ⟨tb, 0, none⟩)]] w fun e w' => e = .returned (.bool bb) ∧ Only (fun _ => False) w w' := by
  have HI := Lib.hid (placeC_idx base c tb k a l m w hown hk hl hm)
  rw [hb] at HI
  clear hown hm hb
  go_enter Tryz.func88, Tryz.ntmps88
  go_wp2_with fail
  refine HI.out.mono ?_
  rintro e w5 ⟨r, rfl, hr, hO5⟩
  have HO5 := Lib.hid hO5
  clear hO5
  go_wp2_with fail
  go_ret
  exact ⟨rfl, HO5.out⟩
theorem quotaC_same (x : ByteArray × Int × Int) (tb : Nat) (m : ByteArray) (bb : Bool) (w : World) (hm : w.cell? ⟨tb, 0, none⟩ = some (.string m)) (hb : decide (x.1 = m) = bb) :
    Calls Tryz.prog 89 #[.agg #[.string x.1, .int .i64 x.2.1, .int .i64 x.2.2], .pointer (some ⟨tb, 0, none⟩)] w fun e w' => e = .returned (.bool bb) ∧ Only (fun _ => False) w w' := by
  have i1 : (x.1.toList == m.toList) = bb := by
    by_cases e : x.1 = m
    · rw [str_eq e, ← hb]; simpa using e.symm ▸ rfl
    · rw [str_ne e, ← hb]; simpa using fun h => e h
  have hlt := World.block_lt_of_cell? _ _ hm
  have hne : ¬ tb = w.heap.size := by dsimp only at hlt; omega
  clear hb
  go_enter Tryz.func89, Tryz.ntmps89
  go_wp2
  go_ret
  exact ⟨rfl, (Only.refl _ w).alloc _⟩
theorem quotaC_take {l : List (ByteArray × Int × Int)} {k j : Nat} {m : ByteArray} (hj : j < k) (hk : k ≤ l.length) (h : hasQuota (l.take j) m = false) : hasQuota (l.take (j + 1)) m = decide ((qAt l j).1 = m) := by
  unfold hasQuota at *
  have hjl : j < l.length := by omega
  rw [any_take_succ hjl h, qAt_get hjl]
theorem quotaC_yes {l : List (ByteArray × Int × Int)} {k j : Nat} {m : ByteArray} (hj : j < k) (h : hasQuota (l.take (j + 1)) m = true) : hasQuota (l.take k) m = true := by
  unfold hasQuota at *
  refine any_take_yes (k := j + 1) ?_
  rw [List.take_take, Nat.min_eq_left (by omega)]
  exact h
def quotaCIdxR (has : Bool) (w : World) (e : Ending) (w' : World) : Prop := ∃ r : Int, e = .returned (.int .i64 r) ∧ decide (0 ≤ r) = has ∧ Only (fun _ => False) w w'
set_option maxHeartbeats 2000000 in
theorem quotaC_idx (base c tb k : Nat) (a : Option Addr) (l : List (ByteArray × Int × Int)) (m : ByteArray) (w : World) (hown : w.ownsRow base 75 3 (.slice a l.length c) l.length (qrow l)) (hk : k ≤ l.length) (hl : l.length ≤ 1000000)
    (hm : w.cell? ⟨tb, 0, none⟩ = some (.string m)) :
    Calls Tryz.prog 115 #[.slice a k c, .func (.func 89) #[] #[.pointer (some ⟨tb, 0, none⟩)]] w fun e w' => quotaCIdxR (hasQuota (l.take k) m) w e w' := by
  have HOWN := Lib.hid hown
  have HM := Lib.hid hm
  clear hown hm
  go_enter Tryz.func115, Tryz.ntmps115
  go_wp2_with fail
  go_loopw [8] (fun iv wr => ∃ j : Nat, iv = .int .i64 j ∧ j ≤ k ∧ hasQuota (l.take j) m = false ∧ Only (fun _ => False) w wr) (fun iv _ => k - (intOf iv).toNat)
  case atStart => exact ⟨0, rfl, Nat.zero_le _, rfl, Only.refl _ _⟩
  case round =>
    obtain ⟨j, rfl, hj, hno, hO⟩ := hrel
    have HNO := Lib.hid hno
    have HO := Lib.hid hO
    by_cases hlt : j < k
    · have j1 : (j : Int) < k := by omega
      have j2 : 0 ≤ (j : Int) := by omega
      have hjl : j < l.length := by omega
      have hown := hO.owns HOWN.out (fun _ _ h => h)
      have h0 := flat_at (fun x : ByteArray × Int × Int => [Value.string x.1, Value.int .i64 x.2.1, Value.int .i64 x.2.2]) 3 (fun _ => rfl) l j 0 hjl (by decide)
      have h1 := flat_at (fun x : ByteArray × Int × Int => [Value.string x.1, Value.int .i64 x.2.1, Value.int .i64 x.2.2]) 3 (fun _ => rfl) l j 1 hjl (by decide)
      have h2 := flat_at (fun x : ByteArray × Int × Int => [Value.string x.1, Value.int .i64 x.2.1, Value.int .i64 x.2.2]) 3 (fun _ => rfl) l j 2 hjl (by decide)
      obtain ⟨g, cap, hv, hg, hc1, hc2, d0⟩ := own_cell hown h0
      obtain ⟨g1, cap1, hv1, _, _, _, d1⟩ := own_cell hown h1
      rw [hv] at hv1
      obtain ⟨g2, cap2, hv2, _, _, _, d2⟩ := own_cell hown h2
      rw [hv] at hv2
      simp only [Value.slice.injEq, Option.some.injEq, Addr.mk.injEq, and_true, true_and] at hv hv1 hv2
      obtain ⟨rfl, rfl⟩ := hv
      obtain ⟨rfl, rfl⟩ := hv1
      obtain ⟨rfl, rfl⟩ := hv2
      have HST := Lib.hid (quotaC_take hlt hk hno)
      have hcl := hO.cell HM.out (fun h => h)
      have HYS := Lib.hid (fun (h : hasQuota (l.take (j + 1)) m = true) => quotaC_yes hlt h)
      rw [qAt_get hjl] at h0 h1 h2
      have e0 := qAt_get hjl
      rw [e0] at d0 d1 d2
      obtain ⟨bb, hbb⟩ : ∃ bb, decide ((qAt l j).1 = m) = bb := ⟨_, rfl⟩
      have HCL := Lib.hid (quotaC_same (qAt l j) tb m bb wr hcl hbb)
      rw [hbb] at HST
      generalize qAt l j = y at *
      obtain ⟨ya, yb, yc⟩ := y
      dsimp only at HCL
      change _ = some (Value.string ya) at d0
      change _ = some (Value.int .i64 yb) at d1
      change _ = some (Value.int .i64 yc) at d2
      rw [Nat.add_zero] at d0
      clear h0 h1 h2 e0 hbb hcl hno hO hown hjl
      cases bb
      · go_wp2_with fail
        refine HCL.out.mono ?_
        rintro e w5 ⟨rfl, hO5⟩
        have HO5 := Lib.hid (HO.out.trans hO5)
        clear hO5
        go_wp2_with fail
        go_roundw
        case rel => exact ⟨j + 1, by go_num, hlt, HST.out, HO5.out⟩
        case measure => simp [intOf]; omega
      · go_wp2_with fail
        refine HCL.out.mono ?_
        rintro e w5 ⟨rfl, hO5⟩
        have HO5 := Lib.hid (HO.out.trans hO5)
        clear hO5
        go_wp2_with fail
        go_ret
        exact ⟨_, rfl, by rw [HYS.out HST.out]; simp, HO5.out⟩
    · obtain rfl : j = k := by omega
      have j1 : ¬ (j : Int) < j := by omega
      go_wp2_with fail
      go_ret
      exact ⟨_, rfl, by first | rfl | (rw [HNO.out]; rfl), HO.out⟩
set_option maxHeartbeats 2000000 in
theorem quotaC_has (base c tb k : Nat) (a : Option Addr) (l : List (ByteArray × Int × Int)) (m : ByteArray) (bb : Bool) (w : World) (hown : w.ownsRow base 75 3 (.slice a l.length c) l.length (qrow l)) (hk : k ≤ l.length) (hl : l.length ≤ 1000000)
    (hm : w.cell? ⟨tb, 0, none⟩ = some (.string m)) (hb : hasQuota (l.take k) m = bb) :
    Calls Tryz.prog 90 #[.slice a k c, .func (.func 89) #[] #[.pointer (some ⟨tb, 0, none⟩)]] w fun e w' => e = .returned (.bool bb) ∧ Only (fun _ => False) w w' := by
  have HI := Lib.hid (quotaC_idx base c tb k a l m w hown hk hl hm)
  rw [hb] at HI
  clear hown hm hb
  go_enter Tryz.func90, Tryz.ntmps90
  go_wp2_with fail
  refine HI.out.mono ?_
  rintro e w5 ⟨r, rfl, hr, hO5⟩
  have HO5 := Lib.hid hO5
  clear hO5
  go_wp2_with fail
  go_ret
  exact ⟨rfl, HO5.out⟩
end Go.Proofs.YteikkpiginfbkaaGreatDoor

namespace Go.Proofs.YteikkpiginfbkaaGreatDoor
open Go.RowKit

structure Right (d : Dr) : Prop where
  owns : ownsZ d = true
  name : nameB d.name = true
  round : rgB d.round = true
  price : rgB d.price = true
  pool : rgB d.pool = true
  pick : rgB d.pick = true
  cls : rgB d.cls = true
  size : rgB d.size = true
  t12 : d.tiers.length ≤ 12
  p12 : d.places.length ≤ 12
  q12 : d.quotas.length ≤ 12
  b40 : d.barred.length ≤ 40
  tiers : ∀ i, i < d.tiers.length → tierOk d.tiers i = true
  places : ∀ i, i < d.places.length → placeOk d.places i = true
  quotas : ∀ i, i < d.quotas.length → quotaOk d.quotas i = true
  bars : ∀ i, i < d.barred.length → barOk d.barred i = true
  barR : ∀ x ∈ d.barred, rgB x = true
theorem right_iff {d : Dr} : rightZ d = true ↔ Right d := by
  constructor
  · intro h
    simp only [rightZ, listsZ, List.all_cons, List.all_nil, Bool.and_eq_true, Bool.and_true, List.all_eq_true, List.mem_range, decide_eq_true_eq] at h
    obtain ⟨⟨⟨h1, h2⟩, h3, h4, h5, h6, h7, h8⟩, ⟨⟨⟨⟨⟨⟨⟨h9, h10⟩, h11⟩, h12⟩, h13⟩, h14⟩, h15⟩, h16⟩, h17⟩ := h
    exact ⟨h1, h2, h3, h4, h5, h6, h7, h8, h9, h10, h11, h12, h13, h14, h15, h16, h17⟩
  · intro ⟨h1, h2, h3, h4, h5, h6, h7, h8, h9, h10, h11, h12, h13, h14, h15, h16, h17⟩
    simp only [rightZ, listsZ, List.all_cons, List.all_nil, Bool.and_eq_true, Bool.and_true, List.all_eq_true, List.mem_range, decide_eq_true_eq]
    exact ⟨⟨⟨h1, h2⟩, h3, h4, h5, h6, h7, h8⟩, ⟨⟨⟨⟨⟨⟨⟨h9, h10⟩, h11⟩, h12⟩, h13⟩, h14⟩, h15⟩, h16⟩, h17⟩
theorem len_nil {α : Type} {l : List α} : decide (l.length = 0) = true ↔ l = [] := by rw [decide_eq_true_eq, List.length_eq_zero_iff]
theorem owns_1 {d : Dr} (h : d.kind = 1) : ownsZ d = true ↔ d.cls = 0 ∧ d.places = [] ∧ d.size = 0 ∧ d.quotas = [] := by
  unfold ownsZ balE panE
  rw [if_pos h]
  simp only [Bool.and_eq_true, beq_iff_eq, len_nil]
  exact ⟨fun ⟨⟨a, b⟩, c, e⟩ => ⟨a, b, c, e⟩, fun ⟨a, b, c, e⟩ => ⟨⟨a, b⟩, c, e⟩⟩
theorem owns_2 {d : Dr} (h : d.kind = 2) : ownsZ d = true ↔ d.pool = 0 ∧ d.pick = 0 ∧ d.tiers = [] ∧ d.roll = false ∧ d.size = 0 ∧ d.quotas = [] := by
  unfold ownsZ lotE panE
  rw [if_neg (by rw [h]; decide), if_pos h]
  simp only [Bool.and_eq_true, beq_iff_eq, len_nil, Bool.not_eq_true']
  exact ⟨fun ⟨⟨⟨⟨a, b⟩, c⟩, f⟩, g, i⟩ => ⟨a, b, c, f, g, i⟩, fun ⟨a, b, c, f, g, i⟩ => ⟨⟨⟨⟨a, b⟩, c⟩, f⟩, g, i⟩⟩
theorem owns_3 {d : Dr} (h : d.kind = 3) : ownsZ d = true ↔ d.pool = 0 ∧ d.pick = 0 ∧ d.tiers = [] ∧ d.roll = false ∧ d.cls = 0 ∧ d.places = [] := by
  unfold ownsZ lotE balE
  rw [if_neg (by rw [h]; decide), if_neg (by rw [h]; decide), if_pos h]
  simp only [Bool.and_eq_true, beq_iff_eq, len_nil, Bool.not_eq_true']
  exact ⟨fun ⟨⟨⟨⟨a, b⟩, c⟩, f⟩, g, i⟩ => ⟨a, b, c, f, g, i⟩, fun ⟨a, b, c, f, g, i⟩ => ⟨⟨⟨⟨a, b⟩, c⟩, f⟩, g, i⟩⟩
theorem owns_k {d : Dr} (h : ownsZ d = true) : d.kind = 1 ∨ d.kind = 2 ∨ d.kind = 3 := by
  unfold ownsZ at h
  split at h
  · next h1 => exact .inl h1
  · split at h
    · next h1 => exact .inr (.inl h1)
    · split at h
      · next h1 => exact .inr (.inr h1)
      · cases h
theorem fit_2n {ws : List ByteArray} (h : fitB [true, true] ws = true) : ∃ a b, ws = [a, b] ∧ nameB a = true ∧ nameB b = true := by
  have hl := (fit_at h).1
  rcases ws with _ | ⟨a, _ | ⟨b, _ | ⟨zz, rr⟩⟩⟩ <;> simp only [List.length_cons, List.length_nil] at hl
  all_goals first | omega | skip
  simp [fitB] at h
  exact ⟨a, b, rfl, h⟩
theorem fit_1 {ws : List ByteArray} (h : fitB [true] ws = true) : ∃ a, ws = [a] ∧ nameB a = true := by
  have hl := (fit_at h).1
  rcases ws with _ | ⟨a, _ | ⟨zz, rr⟩⟩ <;> simp only [List.length_cons, List.length_nil] at hl
  all_goals first | omega | skip
  simp [fitB] at h
  exact ⟨a, rfl, h⟩
theorem fit_2 {ws : List ByteArray} (h : fitB [true, false] ws = true) : ∃ a b, ws = [a, b] ∧ nameB a = true ∧ numB b = true := by
  have hl := (fit_at h).1
  rcases ws with _ | ⟨a, _ | ⟨b, _ | ⟨zz, rr⟩⟩⟩ <;> simp only [List.length_cons, List.length_nil] at hl
  all_goals first | omega | skip
  simp [fitB] at h
  exact ⟨a, b, rfl, h⟩
theorem fit_3 {ws : List ByteArray} (h : fitB [true, false, false] ws = true) : ∃ a b c, ws = [a, b, c] ∧ nameB a = true ∧ numB b = true ∧ numB c = true := by
  have hl := (fit_at h).1
  rcases ws with _ | ⟨a, _ | ⟨b, _ | ⟨c, _ | ⟨zz, rr⟩⟩⟩⟩ <;> simp only [List.length_cons, List.length_nil] at hl
  all_goals first | omega | skip
  simp [fitB] at h
  exact ⟨a, b, c, rfl, h⟩
theorem fit_3n {ws : List ByteArray} (h : fitB [true, true, false] ws = true) : ∃ a b c, ws = [a, b, c] ∧ nameB a = true ∧ nameB b = true ∧ numB c = true := by
  have hl := (fit_at h).1
  rcases ws with _ | ⟨a, _ | ⟨b, _ | ⟨c, _ | ⟨zz, rr⟩⟩⟩⟩ <;> simp only [List.length_cons, List.length_nil] at hl
  all_goals first | omega | skip
  simp [fitB] at h
  exact ⟨a, b, c, rfl, h⟩
theorem fit_4 {ws : List ByteArray} (h : fitB [true, true, false, false] ws = true) : ∃ a b c e, ws = [a, b, c, e] ∧ nameB a = true ∧ nameB b = true ∧ numB c = true ∧ numB e = true := by
  have hl := (fit_at h).1
  rcases ws with _ | ⟨a, _ | ⟨b, _ | ⟨c, _ | ⟨e, _ | ⟨zz, rr⟩⟩⟩⟩⟩ <;> simp only [List.length_cons, List.length_nil] at hl
  all_goals first | omega | skip
  simp [fitB] at h
  exact ⟨a, b, c, e, rfl, h⟩
theorem headZ_iff {t : St} {line : Int} {f : List Bool} {ws : List ByteArray} : headZ t line f ws = 0 ↔ t.lines = line ∧ fitB f ws = true ∧ smallB ws = true := by
  unfold headZ
  split
  · next h =>
    split
    · next h2 => exact ⟨fun _ => ⟨h.1, h.2, h2⟩, fun _ => rfl⟩
    · next h2 => exact ⟨fun e => (by cases e), fun e => absurd e.2.2 h2⟩
  · next h => exact ⟨fun e => (by cases e), fun e => absurd ⟨e.1, e.2.1⟩ h⟩
theorem specZ_iff {t : St} {kind : Int} {f : List Bool} {ws : List ByteArray} : specZ t kind f ws = 0 ↔ 4 ≤ t.lines ∧ fitB f ws = true ∧ t.barred = false ∧ t.d.kind = kind ∧ t.rolled = false ∧ smallB ws = true := by
  unfold specZ
  split
  · next h =>
    split
    · next h2 =>
      split
      · next h3 =>
        split
        · next h4 => exact ⟨fun _ => ⟨h.1, h.2.1, h.2.2, h2, h3, h4⟩, fun _ => rfl⟩
        · next h4 => exact ⟨fun e => (by cases e), fun e => absurd e.2.2.2.2.2 h4⟩
      · next h3 => exact ⟨fun e => (by cases e), fun e => absurd e.2.2.2.2.1 h3⟩
    · next h2 => exact ⟨fun e => (by cases e), fun e => absurd e.2.2.2.1 h2⟩
  · next h => exact ⟨fun e => (by cases e), fun e => absurd ⟨e.1, e.2.1, e.2.2.1⟩ h⟩
theorem barZ_iff {t : St} {ws : List ByteArray} : barZ t ws = 0 ↔ 4 ≤ t.lines ∧ fitB [true, false] ws = true ∧ smallB ws = true := by
  unfold barZ
  split
  · next h =>
    split
    · next h2 => exact ⟨fun _ => ⟨h.1, h.2, h2⟩, fun _ => rfl⟩
    · next h2 => exact ⟨fun e => (by cases e), fun e => absurd e.2.2 h2⟩
  · next h => exact ⟨fun e => (by cases e), fun e => absurd ⟨e.1, e.2.1⟩ h⟩
theorem headTo_iff {e : Int} {t t' : St} (h : (headTo e t t').1 = 0) : e = 0 ∧ headTo e t t' = (0, t') := by
  unfold headTo at h ⊢
  split at h
  · next h2 => exact ⟨h2, if_pos h2⟩
  · next h2 => exact absurd h h2
theorem addTo_iff {e : Int} {tw : Bool} {n m : Nat} {t t' : St} (h : (addTo e tw n m t t').1 = 0) : e = 0 ∧ tw = false ∧ n < m ∧ addTo e tw n m t t' = (0, t') := by
  unfold addTo at h ⊢
  split at h
  · next h2 =>
    split at h
    · cases h
    · next h3 =>
      split at h
      · next h4 => refine ⟨h2, by simpa using h3, h4, ?_⟩; rw [if_pos h2, if_neg h3, if_pos h4]
      · cases h
  · next h2 => exact absurd h h2
def keyW : Nat → ByteArray
  | 0 => kDraw
  | 1 => kLottery
  | 2 => kBallot
  | 3 => kPanel
  | 4 => kRound
  | 5 => kPrice
  | 6 => kTier
  | 7 => kRoll
  | 8 => kPlace
  | 9 => kQuota
  | _ => kBar
theorem key_is {w : ByteArray} (h : keyOf w < 11) : w = keyW (keyOf w) := by
  unfold keyOf at h ⊢
  repeat' split
  all_goals first | assumption | skip
  rename_i h1 h2 h3 h4 h5 h6 h7 h8 h9 h10 h11
  rw [if_neg h1, if_neg h2, if_neg h3, if_neg h4, if_neg h5, if_neg h6, if_neg h7, if_neg h8, if_neg h9, if_neg h10, if_neg h11] at h
  omega
theorem key_word : ∀ k, k < 11 → keyOf (keyW k) = k := by decide
theorem key_nameB : ∀ k, k < 11 → nameB (keyW k) = true := by decide
theorem small_at {ws : List ByteArray} (h : smallB ws = true) {w : ByteArray} (hm : w ∈ ws) (hn : numB w = true) : amtV w ≤ 1000000000 := by
  have := List.all_eq_true.1 h w hm
  rw [hn] at this
  simpa using this
theorem rg_amt {w : ByteArray} (hn : numB w = true) (h : amtV w ≤ 1000000000) : rgB (amtV w) = true := by
  have := amt_nonneg hn
  simp [rgB, this, h]
theorem tierOk_old {l : List (Int × Int)} {x : Int × Int} {i : Nat} (h : i < l.length) : tierOk (l ++ [x]) i = tierOk l i := by
  unfold tierOk tAt
  rw [List.take_append_of_le_length (by omega)]
  simp [List.getD, List.getElem?_append_left h]
theorem tierOk_new {l : List (Int × Int)} {x : Int × Int} : tierOk (l ++ [x]) l.length = (rgB x.1 && rgB x.2 && !hasTier l x.1) := by
  unfold tierOk tAt
  simp [List.getD]
theorem placeOk_old {l : List (ByteArray × Int)} {x : ByteArray × Int} {i : Nat} (h : i < l.length) : placeOk (l ++ [x]) i = placeOk l i := by
  unfold placeOk pAt
  rw [List.take_append_of_le_length (by omega)]
  simp [List.getD, List.getElem?_append_left h]
theorem placeOk_new {l : List (ByteArray × Int)} {x : ByteArray × Int} : placeOk (l ++ [x]) l.length = (nameB x.1 && rgB x.2 && !hasPlace l x.1) := by
  unfold placeOk pAt
  simp [List.getD]
theorem quotaOk_old {l : List (ByteArray × Int × Int)} {x : ByteArray × Int × Int} {i : Nat} (h : i < l.length) : quotaOk (l ++ [x]) i = quotaOk l i := by
  unfold quotaOk qAt
  rw [List.take_append_of_le_length (by omega)]
  simp [List.getD, List.getElem?_append_left h]
theorem quotaOk_new {l : List (ByteArray × Int × Int)} {x : ByteArray × Int × Int} : quotaOk (l ++ [x]) l.length = (nameB x.1 && rgB x.2.1 && rgB x.2.2 && !hasQuota l x.1) := by
  unfold quotaOk qAt
  simp [List.getD]
theorem barOk_old {l : List Int} {x : Int} {i : Nat} (h : i < l.length) : barOk (l ++ [x]) i = barOk l i := by
  unfold barOk ptAt
  rw [List.take_append_of_le_length (by omega)]
  simp [List.getD, List.getElem?_append_left h]
theorem barOk_new {l : List Int} {x : Int} : barOk (l ++ [x]) l.length = !hasBar l x := by
  unfold barOk ptAt
  simp [List.getD]
theorem snoc_all {α : Type} {l : List α} {x : α} {p q : Nat → Bool} (h : ∀ i, i < l.length → q i = true) (ho : ∀ i, i < l.length → p i = q i) (hn : p l.length = true) : ∀ i, i < (l ++ [x]).length → p i = true := by
  intro i hi
  rw [List.length_append, List.length_singleton] at hi
  by_cases h2 : i < l.length
  · rw [ho i h2]; exact h i h2
  · rw [show i = l.length by omega]; exact hn
/-- A draw whose lists are empty. -/
structure Bare (d : Dr) : Prop where
  tiers : d.tiers = []
  roll : d.roll = false
  places : d.places = []
  quotas : d.quotas = []
  barred : d.barred = []
theorem Bare.rest {d : Dr} (h : Bare d) : restL d = [] := by
  unfold restL rollL
  rw [h.tiers, h.roll, h.places, h.quotas, h.barred]; rfl
theorem right_bare {d : Dr} (hb : Bare d) (h1 : ownsZ d = true) (h2 : nameB d.name = true) (h3 : rgB d.round = true) (h4 : rgB d.price = true) (h5 : rgB d.pool = true) (h6 : rgB d.pick = true) (h7 : rgB d.cls = true) (h8 : rgB d.size = true) : Right d := by
  refine ⟨h1, h2, h3, h4, h5, h6, h7, h8, ?_, ?_, ?_, ?_, ?_, ?_, ?_, ?_, ?_⟩
  · rw [hb.tiers]; decide
  · rw [hb.places]; decide
  · rw [hb.quotas]; decide
  · rw [hb.barred]; decide
  · rw [hb.tiers]; intro i hi; cases hi
  · rw [hb.places]; intro i hi; cases hi
  · rw [hb.quotas]; intro i hi; cases hi
  · rw [hb.barred]; intro i hi; cases hi
  · rw [hb.barred]; intro i hi; cases hi
/-- How far reading has come: a state, and the lines that were read. -/
inductive Stage : St → List UInt8 → Prop
  | s0 : Stage st0 []
  | s1 (n : ByteArray) (h : nameB n = true) : Stage ⟨{ dr0 with name := n }, 1, false, false⟩ (flatL [[kDraw, n]])
  | s2 (d : Dr) (h : Right d) (hb : Bare d) (h1 : d.round = 0) (h2 : d.price = 0) : Stage ⟨d, 2, false, false⟩ (flatL ([kDraw, d.name] :: kindL d))
  | s3 (d : Dr) (h : Right d) (hb : Bare d) (h2 : d.price = 0) : Stage ⟨d, 3, false, false⟩ (flatL ([kDraw, d.name] :: (kindL d ++ [[kRound, decW d.round]])))
  | s4 (d : Dr) (n : Int) (hn : 4 ≤ n) (r b : Bool) (h : Right d) (hr : r = d.roll) (hb : b = false → d.barred = []) : Stage ⟨d, n, r, b⟩ (writeL d)
theorem stage_line {t : St} {x : List UInt8} {ws : List ByteArray} (hS : Stage t x) (h : (lineZ t ws).1 = 0) : Stage (lineZ t ws).2 (x ++ lineW ws ++ [10]) := by
  have hk : keyOf (wAt ws 0) < 11 := by
    by_cases h2 : keyOf (wAt ws 0) < 11
    · exact h2
    · rw [line_none h2] at h; cases h
  have h1 : (lnOf t ws (keyOf (wAt ws 0))).1 = 0 := by
    by_cases h2 : (lnOf t ws (keyOf (wAt ws 0))).1 = 0
    · exact h2
    · rw [line_err rfl h2] at h; exact absurd h h2
  rw [line_ok h1]
  have hw := key_is hk
  generalize keyOf (wAt ws 0) = k at *
  clear h
  have sc : ∀ y : List UInt8, y ++ lineW ws ++ [10] = y ++ flatL [ws] := fun y => by rw [flatL_one, List.append_assoc]
  rw [sc]
  match k, hk, h1, hw with
  | 0, _, h1, hw =>
    obtain ⟨he, hr⟩ := headTo_iff (show (lnDraw t ws).1 = 0 from h1)
    obtain ⟨hl, hf, hs⟩ := headZ_iff.1 he
    obtain ⟨a, b, rfl, _, hb⟩ := fit_2n hf
    show Stage { (lnDraw t [a, b]).2 with lines := t.lines + 1 } _
    have hr : lnDraw t [a, b] = _ := hr
    rw [hr]
    obtain rfl : a = kDraw := hw
    cases hS with
    | s0 => exact Stage.s1 b hb
    | s1 => cases hl
    | s2 => cases hl
    | s3 => cases hl
    | s4 d n hn => dsimp only at hl; omega
  | 1, _, h1, hw =>
    obtain ⟨he, hr⟩ := headTo_iff (show (lnLottery t ws).1 = 0 from h1)
    obtain ⟨hl, hf, hs⟩ := headZ_iff.1 he
    obtain ⟨a, b, c, rfl, _, hb, hc⟩ := fit_3 hf
    have hb2 := small_at hs (w := b) (by simp) hb
    have hc2 := small_at hs (w := c) (by simp) hc
    have hr : lnLottery t [a, b, c] = _ := hr
    show Stage { (lnLottery t [a, b, c]).2 with lines := t.lines + 1 } _
    rw [hr]
    obtain rfl : a = kLottery := hw
    cases hS with
    | s0 => cases hl
    | s1 n hn =>
      have hbare : Bare { dr0 with name := n, kind := 1, pool := amtV b, pick := amtV c } := ⟨rfl, rfl, rfl, rfl, rfl⟩
      have := Stage.s2 { dr0 with name := n, kind := 1, pool := amtV b, pick := amtV c } (right_bare hbare ((owns_1 rfl).2 ⟨rfl, rfl, rfl, rfl⟩) hn rfl rfl (rg_amt hb hb2) (rg_amt hc hc2) rfl rfl) hbare rfl rfl
      rw [← flatL_app]
      have e : [kDraw, n] :: kindL { dr0 with name := n, kind := 1, pool := amtV b, pick := amtV c } = [[kDraw, n]] ++ [[kLottery, b, c]] := by
        show [[kDraw, n], [kLottery, decW (amtV b), decW (amtV c)]] = _
        rw [← num_dec hb hb2, ← num_dec hc hc2]; rfl
      rw [← e]
      exact this
    | s2 => cases hl
    | s3 => cases hl
    | s4 d n hn => dsimp only at hl; omega
  | 2, _, h1, hw =>
    obtain ⟨he, hr⟩ := headTo_iff (show (lnBallot t ws).1 = 0 from h1)
    obtain ⟨hl, hf, hs⟩ := headZ_iff.1 he
    obtain ⟨a, b, rfl, _, hb⟩ := fit_2 hf
    have hb2 := small_at hs (w := b) (by simp) hb
    have hr : lnBallot t [a, b] = _ := hr
    show Stage { (lnBallot t [a, b]).2 with lines := t.lines + 1 } _
    rw [hr]
    obtain rfl : a = kBallot := hw
    cases hS with
    | s0 => cases hl
    | s1 n hn =>
      have hbare : Bare { dr0 with name := n, kind := 2, cls := amtV b } := ⟨rfl, rfl, rfl, rfl, rfl⟩
      have := Stage.s2 { dr0 with name := n, kind := 2, cls := amtV b } (right_bare hbare ((owns_2 rfl).2 ⟨rfl, rfl, rfl, rfl, rfl, rfl⟩) hn rfl rfl rfl rfl (rg_amt hb hb2) rfl) hbare rfl rfl
      rw [← flatL_app]
      have e : [kDraw, n] :: kindL { dr0 with name := n, kind := 2, cls := amtV b } = [[kDraw, n]] ++ [[kBallot, b]] := by
        show [[kDraw, n], [kBallot, decW (amtV b)]] = _
        rw [← num_dec hb hb2]; rfl
      rw [← e]
      exact this
    | s2 => cases hl
    | s3 => cases hl
    | s4 d n hn => dsimp only at hl; omega
  | 3, _, h1, hw =>
    obtain ⟨he, hr⟩ := headTo_iff (show (lnPanel t ws).1 = 0 from h1)
    obtain ⟨hl, hf, hs⟩ := headZ_iff.1 he
    obtain ⟨a, b, rfl, _, hb⟩ := fit_2 hf
    have hb2 := small_at hs (w := b) (by simp) hb
    have hr : lnPanel t [a, b] = _ := hr
    show Stage { (lnPanel t [a, b]).2 with lines := t.lines + 1 } _
    rw [hr]
    obtain rfl : a = kPanel := hw
    cases hS with
    | s0 => cases hl
    | s1 n hn =>
      have hbare : Bare { dr0 with name := n, kind := 3, size := amtV b } := ⟨rfl, rfl, rfl, rfl, rfl⟩
      have := Stage.s2 { dr0 with name := n, kind := 3, size := amtV b } (right_bare hbare ((owns_3 rfl).2 ⟨rfl, rfl, rfl, rfl, rfl, rfl⟩) hn rfl rfl rfl rfl rfl (rg_amt hb hb2)) hbare rfl rfl
      rw [← flatL_app]
      have e : [kDraw, n] :: kindL { dr0 with name := n, kind := 3, size := amtV b } = [[kDraw, n]] ++ [[kPanel, b]] := by
        show [[kDraw, n], [kPanel, decW (amtV b)]] = _
        rw [← num_dec hb hb2]; rfl
      rw [← e]
      exact this
    | s2 => cases hl
    | s3 => cases hl
    | s4 d n hn => dsimp only at hl; omega
  | 4, _, h1, hw =>
    obtain ⟨he, hr⟩ := headTo_iff (show (lnRound t ws).1 = 0 from h1)
    obtain ⟨hl, hf, hs⟩ := headZ_iff.1 he
    obtain ⟨a, b, rfl, _, hb⟩ := fit_2 hf
    have hb2 := small_at hs (w := b) (by simp) hb
    have hr : lnRound t [a, b] = _ := hr
    show Stage { (lnRound t [a, b]).2 with lines := t.lines + 1 } _
    rw [hr]
    obtain rfl : a = kRound := hw
    cases hS with
    | s0 => cases hl
    | s1 => cases hl
    | s2 d h hba hz1 hz2 =>
      have := Stage.s3 { d with round := amtV b } ⟨h.1, h.2, rg_amt hb hb2, h.4, h.5, h.6, h.7, h.8, h.9, h.10, h.11, h.12, h.13, h.14, h.15, h.16, h.17⟩ ⟨hba.1, hba.2, hba.3, hba.4, hba.5⟩ hz2
      rw [← flatL_app]
      have e : [kDraw, d.name] :: (kindL { d with round := amtV b } ++ [[kRound, decW (amtV b)]]) = ([kDraw, d.name] :: kindL d) ++ [[kRound, b]] := by
        rw [← num_dec hb hb2]; rfl
      rw [← e]
      exact this
    | s3 => cases hl
    | s4 d n hn => dsimp only at hl; omega
  | 5, _, h1, hw =>
    obtain ⟨he, hr⟩ := headTo_iff (show (lnPrice t ws).1 = 0 from h1)
    obtain ⟨hl, hf, hs⟩ := headZ_iff.1 he
    obtain ⟨a, b, rfl, _, hb⟩ := fit_2 hf
    have hb2 := small_at hs (w := b) (by simp) hb
    have hr : lnPrice t [a, b] = _ := hr
    show Stage { (lnPrice t [a, b]).2 with lines := t.lines + 1 } _
    rw [hr]
    obtain rfl : a = kPrice := hw
    cases hS with
    | s0 => cases hl
    | s1 => cases hl
    | s2 => cases hl
    | s3 d h hba hz2 =>
      have hbare : Bare { d with price := amtV b } := ⟨hba.1, hba.2, hba.3, hba.4, hba.5⟩
      have := Stage.s4 { d with price := amtV b } 4 (Int.le_refl _) false false ⟨h.1, h.2, h.3, rg_amt hb hb2, h.5, h.6, h.7, h.8, h.9, h.10, h.11, h.12, h.13, h.14, h.15, h.16, h.17⟩ hba.2.symm (fun _ => hba.5)
      rw [← flatL_app]
      have e : lnsZ { d with price := amtV b } = ([kDraw, d.name] :: (kindL d ++ [[kRound, decW d.round]])) ++ [[kPrice, b]] := by
        unfold lnsZ
        rw [hbare.rest, List.append_nil]
        show [kDraw, d.name] :: (kindL d ++ [[kRound, decW d.round], [kPrice, decW (amtV b)]]) = _
        rw [← num_dec hb hb2]; simp
      rw [← e]
      exact this
    | s4 d n hn => dsimp only at hl; omega
  | 6, _, h1, hw =>
    obtain ⟨he, htw, hlt, hr⟩ := addTo_iff (show (lnTier t ws).1 = 0 from h1)
    obtain ⟨hl, hf, hba, hkd, hro, hs⟩ := specZ_iff.1 he
    obtain ⟨a, b, c, rfl, _, hb, hc⟩ := fit_3 hf
    have hb2 := small_at hs (w := b) (by simp) hb
    have hc2 := small_at hs (w := c) (by simp) hc
    have hr : lnTier t [a, b, c] = _ := hr
    show Stage { (lnTier t [a, b, c]).2 with lines := t.lines + 1 } _
    rw [hr]
    obtain rfl : a = kTier := hw
    cases hS with
    | s0 => exact absurd hl (by decide)
    | s1 => exact absurd hl (by dsimp only; omega)
    | s2 => exact absurd hl (by dsimp only; omega)
    | s3 => exact absurd hl (by dsimp only; omega)
    | s4 d n hn r bb h hrr hbb =>
      dsimp only at *
      subst hba
      obtain ⟨o1, o2, o3, o4⟩ := (owns_1 hkd).1 h.owns
      have := Stage.s4 { d with tiers := d.tiers ++ [(amtV b, amtV c)] } (n + 1) (by omega) r false ⟨(owns_1 (by exact hkd)).2 ⟨o1, o2, o3, o4⟩, h.2, h.3, h.4, h.5, h.6, h.7, h.8, by show (d.tiers ++ [_]).length ≤ 12; rw [List.length_append, List.length_singleton]; omega, h.10, h.11, h.12,
        snoc_all h.13 (fun i hi => tierOk_old hi) (by rw [tierOk_new, rg_amt hb hb2, rg_amt hc hc2]; have htw : hasTier d.tiers (amtV b) = false := htw; simpa using htw), h.14, h.15, h.16, h.17⟩ hrr hbb
      have e : lnsZ { d with tiers := d.tiers ++ [(amtV b, amtV c)] } = lnsZ d ++ [[kTier, b, c]] := by
        unfold lnsZ restL rollL
        dsimp only
        rw [← hrr, hro, o2, o4, hbb rfl]
        show headL d ++ ((d.tiers ++ [(amtV b, amtV c)]).map tierL ++ []) = (headL d ++ (d.tiers.map tierL ++ [])) ++ _
        rw [List.map_append, List.append_nil, List.append_nil, List.append_assoc]
        show _ ++ (_ ++ [[kTier, decW (amtV b), decW (amtV c)]]) = _
        rw [← num_dec hb hb2, ← num_dec hc hc2]
      unfold writeL at this ⊢
      rw [← flatL_app, ← e]
      exact this
  | 7, _, h1, hw =>
    obtain ⟨he, hr⟩ := headTo_iff (show (lnRoll t ws).1 = 0 from h1)
    obtain ⟨hl, hf, hba, hkd, hro, hs⟩ := specZ_iff.1 he
    obtain ⟨a, rfl, _⟩ := fit_1 hf
    have hr : lnRoll t [a] = _ := hr
    show Stage { (lnRoll t [a]).2 with lines := t.lines + 1 } _
    rw [hr]
    obtain rfl : a = kRoll := hw
    cases hS with
    | s0 => exact absurd hl (by decide)
    | s1 => exact absurd hl (by dsimp only; omega)
    | s2 => exact absurd hl (by dsimp only; omega)
    | s3 => exact absurd hl (by dsimp only; omega)
    | s4 d n hn r bb h hrr hbb =>
      dsimp only at *
      subst hba
      obtain ⟨o1, o2, o3, o4⟩ := (owns_1 hkd).1 h.owns
      have := Stage.s4 { d with roll := true } (n + 1) (by omega) true false ⟨(owns_1 (by exact hkd)).2 ⟨o1, o2, o3, o4⟩, h.2, h.3, h.4, h.5, h.6, h.7, h.8, h.9, h.10, h.11, h.12, h.13, h.14, h.15, h.16, h.17⟩ rfl hbb
      have e : lnsZ { d with roll := true } = lnsZ d ++ [[kRoll]] := by
        unfold lnsZ restL rollL
        dsimp only
        rw [← hrr, hro, o2, o4, hbb rfl]
        show headL d ++ (d.tiers.map tierL ++ [[kRoll]]) = (headL d ++ (d.tiers.map tierL ++ [])) ++ _
        rw [List.append_nil, List.append_assoc]
      unfold writeL at this ⊢
      rw [← flatL_app, ← e]
      exact this
  | 8, _, h1, hw =>
    obtain ⟨he, htw, hlt, hr⟩ := addTo_iff (show (lnPlace t ws).1 = 0 from h1)
    obtain ⟨hl, hf, hba, hkd, hro, hs⟩ := specZ_iff.1 he
    obtain ⟨a, b, c, rfl, _, hb, hc⟩ := fit_3n hf
    have hc2 := small_at hs (w := c) (by simp) hc
    have hr : lnPlace t [a, b, c] = _ := hr
    show Stage { (lnPlace t [a, b, c]).2 with lines := t.lines + 1 } _
    rw [hr]
    obtain rfl : a = kPlace := hw
    cases hS with
    | s0 => exact absurd hl (by decide)
    | s1 => exact absurd hl (by dsimp only; omega)
    | s2 => exact absurd hl (by dsimp only; omega)
    | s3 => exact absurd hl (by dsimp only; omega)
    | s4 d n hn r bb h hrr hbb =>
      dsimp only at *
      subst hba
      obtain ⟨o1, o2, o3, o4, o5, o6⟩ := (owns_2 hkd).1 h.owns
      have := Stage.s4 { d with places := d.places ++ [(b, amtV c)] } (n + 1) (by omega) r false ⟨(owns_2 (by exact hkd)).2 ⟨o1, o2, o3, o4, o5, o6⟩, h.2, h.3, h.4, h.5, h.6, h.7, h.8, h.9, by show (d.places ++ [_]).length ≤ 12; rw [List.length_append, List.length_singleton]; omega, h.11, h.12, h.13,
        snoc_all h.14 (fun i hi => placeOk_old hi) (by rw [placeOk_new, hb, rg_amt hc hc2]; have htw : hasPlace d.places b = false := htw; simpa using htw), h.15, h.16, h.17⟩ hrr hbb
      have e : lnsZ { d with places := d.places ++ [(b, amtV c)] } = lnsZ d ++ [[kPlace, b, c]] := by
        unfold lnsZ restL
        dsimp only
        rw [o6, hbb rfl]
        show headL d ++ (d.tiers.map tierL ++ (rollL d.roll ++ ((d.places ++ [(b, amtV c)]).map placeL ++ []))) = (headL d ++ (d.tiers.map tierL ++ (rollL d.roll ++ (d.places.map placeL ++ [])))) ++ _
        simp only [List.map_append, List.append_nil, List.append_assoc]
        show _ ++ (_ ++ (_ ++ (_ ++ [[kPlace, b, decW (amtV c)]]))) = _
        rw [← num_dec hc hc2]
      unfold writeL at this ⊢
      rw [← flatL_app, ← e]
      exact this
  | 9, _, h1, hw =>
    obtain ⟨he, htw, hlt, hr⟩ := addTo_iff (show (lnQuota t ws).1 = 0 from h1)
    obtain ⟨hl, hf, hba, hkd, hro, hs⟩ := specZ_iff.1 he
    obtain ⟨a, b, c, f, rfl, _, hb, hc, hg⟩ := fit_4 hf
    have hc2 := small_at hs (w := c) (by simp) hc
    have hg2 := small_at hs (w := f) (by simp) hg
    have hr : lnQuota t [a, b, c, f] = _ := hr
    show Stage { (lnQuota t [a, b, c, f]).2 with lines := t.lines + 1 } _
    rw [hr]
    obtain rfl : a = kQuota := hw
    cases hS with
    | s0 => exact absurd hl (by decide)
    | s1 => exact absurd hl (by dsimp only; omega)
    | s2 => exact absurd hl (by dsimp only; omega)
    | s3 => exact absurd hl (by dsimp only; omega)
    | s4 d n hn r bb h hrr hbb =>
      dsimp only at *
      subst hba
      obtain ⟨o1, o2, o3, o4, o5, o6⟩ := (owns_3 hkd).1 h.owns
      have := Stage.s4 { d with quotas := d.quotas ++ [(b, amtV c, amtV f)] } (n + 1) (by omega) r false ⟨(owns_3 (by exact hkd)).2 ⟨o1, o2, o3, o4, o5, o6⟩, h.2, h.3, h.4, h.5, h.6, h.7, h.8, h.9, h.10, by show (d.quotas ++ [_]).length ≤ 12; rw [List.length_append, List.length_singleton]; omega, h.12, h.13, h.14,
        snoc_all h.15 (fun i hi => quotaOk_old hi) (by rw [quotaOk_new, hb, rg_amt hc hc2, rg_amt hg hg2]; have htw : hasQuota d.quotas b = false := htw; simpa using htw), h.16, h.17⟩ hrr hbb
      have e : lnsZ { d with quotas := d.quotas ++ [(b, amtV c, amtV f)] } = lnsZ d ++ [[kQuota, b, c, f]] := by
        unfold lnsZ restL
        dsimp only
        rw [hbb rfl]
        show headL d ++ (d.tiers.map tierL ++ (rollL d.roll ++ (d.places.map placeL ++ ((d.quotas ++ [(b, amtV c, amtV f)]).map quotaL ++ [])))) = (headL d ++ (d.tiers.map tierL ++ (rollL d.roll ++ (d.places.map placeL ++ (d.quotas.map quotaL ++ []))))) ++ _
        simp only [List.map_append, List.append_nil, List.append_assoc]
        show _ ++ (_ ++ (_ ++ (_ ++ (_ ++ [[kQuota, b, decW (amtV c), decW (amtV f)]])))) = _
        rw [← num_dec hc hc2, ← num_dec hg hg2]
      unfold writeL at this ⊢
      rw [← flatL_app, ← e]
      exact this
  | 10, _, h1, hw =>
    obtain ⟨he, htw, hlt, hr⟩ := addTo_iff (show (lnBar t ws).1 = 0 from h1)
    obtain ⟨hl, hf, hs⟩ := barZ_iff.1 he
    obtain ⟨a, b, rfl, _, hb⟩ := fit_2 hf
    have hb2 := small_at hs (w := b) (by simp) hb
    have hr : lnBar t [a, b] = _ := hr
    show Stage { (lnBar t [a, b]).2 with lines := t.lines + 1 } _
    rw [hr]
    obtain rfl : a = kBar := hw
    cases hS with
    | s0 => exact absurd hl (by decide)
    | s1 => exact absurd hl (by dsimp only; omega)
    | s2 => exact absurd hl (by dsimp only; omega)
    | s3 => exact absurd hl (by dsimp only; omega)
    | s4 d n hn r bb h hrr hbb =>
      dsimp only at *
      have := Stage.s4 { d with barred := d.barred ++ [amtV b] } (n + 1) (by omega) r true ⟨h.1, h.2, h.3, h.4, h.5, h.6, h.7, h.8, h.9, h.10, h.11, by show (d.barred ++ [_]).length ≤ 40; rw [List.length_append, List.length_singleton]; omega, h.13, h.14, h.15,
        snoc_all h.16 (fun i hi => barOk_old hi) (by rw [barOk_new]; have htw : hasBar d.barred (amtV b) = false := htw; simpa using htw), fun y hy => by
          rcases List.mem_append.1 hy with hy | hy
          · exact h.17 y hy
          · rw [List.mem_singleton.1 hy]; exact rg_amt hb hb2⟩ hrr (fun e => by cases e)
      have e : lnsZ { d with barred := d.barred ++ [amtV b] } = lnsZ d ++ [[kBar, b]] := by
        unfold lnsZ restL
        dsimp only
        show headL d ++ (d.tiers.map tierL ++ (rollL d.roll ++ (d.places.map placeL ++ (d.quotas.map quotaL ++ (d.barred ++ [amtV b]).map barL)))) = _
        simp only [List.map_append, List.append_assoc]
        show _ ++ (_ ++ (_ ++ (_ ++ (_ ++ (_ ++ [[kBar, decW (amtV b)]]))))) = _
        rw [← num_dec hb hb2]
      unfold writeL at this ⊢
      rw [← flatL_app, ← e]
      exact this
theorem stage_end {t : St} {x : List UInt8} (h : Stage t x) (hl : 4 ≤ t.lines) : Right t.d ∧ x = writeL t.d := by
  cases h with
  | s0 => exact absurd hl (by decide)
  | s1 => exact absurd hl (by dsimp only; omega)
  | s2 => exact absurd hl (by dsimp only; omega)
  | s3 => exact absurd hl (by dsimp only; omega)
  | s4 d n hn r b h => exact ⟨h, rfl⟩
theorem runL_right : ∀ (r : List UInt8) (t : St) (p : Nat) (cur x : List UInt8), Stage t x → (runL t p cur r).1 = 0 → Right (runL t p cur r).2.2.d ∧ x ++ cur ++ r = writeL (runL t p cur r).2.2.d ∧ (runL t p cur r).2.1 = 0
  | [], t, p, cur, x, hS, h => by
    unfold runL at h ⊢
    by_cases h2 : cur = [] ∧ 4 ≤ t.lines
    · rw [if_pos h2] at h ⊢
      obtain ⟨h3, h4⟩ := stage_end hS h2.2
      exact ⟨h3, by rw [h2.1, List.append_nil, List.append_nil]; exact h4, rfl⟩
    · rw [if_neg h2] at h; cases h
  | c :: r, t, p, cur, x, hS, h => by
    by_cases hc : c = 10
    · subst hc
      have e : runL t p cur (10 :: r) = if (lineZ t (wordsB ⟨cur.toArray⟩)).1 = 0 then runL (lineZ t (wordsB ⟨cur.toArray⟩)).2 (p + cur.length + 1) [] r else ((lineZ t (wordsB ⟨cur.toArray⟩)).1, p, t) := rfl
      rw [e] at h ⊢
      by_cases h2 : (lineZ t (wordsB ⟨cur.toArray⟩)).1 = 0
      · rw [if_pos h2] at h ⊢
        have h3 := stage_line hS h2
        rw [lineW_words] at h3
        obtain ⟨i1, i2, i3⟩ := runL_right r _ _ [] _ h3 h
        refine ⟨i1, ?_, i3⟩
        rw [← i2]; simp
      · rw [if_neg h2] at h
        exact absurd h h2
    · rw [runL_step hc] at h ⊢
      obtain ⟨i1, i2, i3⟩ := runL_right r t p (cur ++ [c]) x hS h
      refine ⟨i1, ?_, i3⟩
      rw [← i2]; simp
/-- What is read is right, and its text is what was read. -/
theorem parse_right {s : ByteArray} (h : (parseZ s).1 = 0) : Right (parseZ s).2.2 ∧ s = writeB (parseZ s).2.2 ∧ (parseZ s).2.1 = 0 := by
  unfold parseZ at h ⊢
  by_cases h2 : s.size ≤ 4000
  · rw [if_pos h2] at h ⊢
    by_cases h3 : (runL st0 0 [] s.data.toList).1 = 0
    · rw [if_pos h3]
      obtain ⟨i1, i2, i3⟩ := runL_right s.data.toList st0 0 [] [] Stage.s0 h3
      refine ⟨i1, ?_, rfl⟩
      unfold writeB
      rw [← i2]
      exact (arr_list s).symm
    · rw [if_neg h3] at h
      exact absurd h h3
  · rw [if_neg h2] at h; cases h
end Go.Proofs.YteikkpiginfbkaaGreatDoor
