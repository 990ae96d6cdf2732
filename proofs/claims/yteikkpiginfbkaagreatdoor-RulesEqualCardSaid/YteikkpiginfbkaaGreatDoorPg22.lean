/-
  Rules: slices.Equal over tiers, places, quotas.
  Rules, the reference: line.
  Rules, the reference: Parse.
  Rules: the program's Equal.
  Rules, the reference: Ints, Equal.
  Rules, the reference: decimal.
  Rules, the reference: write (whatever draw it gets).
  Rules, the reference: Print; the laws' same.
  Rules: the laws' same and fails.
  Rules: names and numbers of a plan.
  Rules, plain: the draw of a plan.
  Rules: an entrant; the reference's Strings and SameEntrant; the program's rightEntrant.
  Rules: the program's rightEntrant and PrintEntrant.
-/
import Derived.Test.YteikkpiginfbkaaGreatDoorPg21
import Derived.Test.YteikkpiginfbkaaGreatDoorPg18
namespace Go.Proofs.YteikkpiginfbkaaGreatDoor
open Go.RowKit

theorem take_eq_succ {α : Type} {xs ys : List α} {k : Nat} (h : xs.take k = ys.take k) (h1 : k < xs.length) (h2 : k < ys.length) (he : xs[k] = ys[k]) : xs.take (k + 1) = ys.take (k + 1) := by rw [take_snoc h1, take_snoc h2, h, he]
theorem tlU_iff {a b : ByteArray} : ((a.toList == b.toList) = true) ↔ a = b := by
  rw [beq_iff_eq, ByteArray.toList_eq, ByteArray.toList_eq]
  exact ⟨fun h => ba_ext h, fun h => by rw [h]⟩
theorem ne_at {α : Type} {xs ys : List α} {k : Nat} (h1 : k < xs.length) (h2 : k < ys.length) (he : xs[k] ≠ ys[k]) : xs ≠ ys := fun e => by subst e; exact he rfl
set_option maxRecDepth 100000 in
set_option maxHeartbeats 4000000 in
theorem eqT_any (b1 b2 : Nat) (a1 a2 : Option Addr) (c1 c2 : Nat) (xs ys : List (Int × Int)) (bb : Bool) (w : World) (h1 : w.ownsRow b1 50 2 (.slice a1 xs.length c1) xs.length (trow xs)) (h2 : w.ownsRow b2 50 2 (.slice a2 ys.length c2) ys.length (trow ys)) (hb : bb = true ↔ xs = ys) :
    Calls Tryz.prog 35 #[.slice a1 xs.length c1, .slice a2 ys.length c2] w fun e w' => e = .returned (.bool bb) ∧ Only (fun _ => False) w w' := by
  have H1 := Lib.hid h1
  have H2 := Lib.hid h2
  have HB := Lib.hid hb
  clear h1 h2 hb
  go_enter Tryz.func35, Tryz.ntmps35
  by_cases hl : xs.length = ys.length
  · have HLN := Lib.hid hl
    have q1 : ((xs.length : Int) != ys.length) = false := by rw [hl]; simp
    clear hl
    go_wp2_with fail
    go_loopw [13] (fun iv wr => ∃ k : Nat, iv = .int .i64 k ∧ k ≤ xs.length ∧ xs.take k = ys.take k ∧ Only (fun _ => False) w wr) (fun iv _ => xs.length - (intOf iv).toNat)
    case atStart => exact ⟨0, rfl, Nat.zero_le _, rfl, Only.refl _ _⟩
    case round =>
      obtain ⟨k, rfl, hk, htk, hO⟩ := hrel
      have HTK := Lib.hid htk
      have HO := Lib.hid hO
      have HA := Lib.hid (hO.owns H1.out (fun _ _ h => h))
      have HC := Lib.hid (hO.owns H2.out (fun _ _ h => h))
      clear htk hO
      by_cases hlt : k < xs.length
      · have j1 : (k : Int) < xs.length := by omega
        have j2 : 0 ≤ (k : Int) := by omega
        have hlt2 : k < ys.length := by rw [← HLN.out]; exact hlt
        have j3 : (k : Int) < ys.length := by omega
        have hd0 := flat_at (fun x : Int × Int => [Value.int .i64 x.1, Value.int .i64 x.2]) 2 (fun _ => rfl) xs k 0 hlt (by decide)
        have hd1 := flat_at (fun x : Int × Int => [Value.int .i64 x.1, Value.int .i64 x.2]) 2 (fun _ => rfl) xs k 1 hlt (by decide)
        obtain ⟨g0, capg0, hvg0, hgg, hc1g, hc2g, d0⟩ := own_cell HA.out hd0
        obtain ⟨g1, capg1, hvg1, _, _, _, d1⟩ := own_cell HA.out hd1
        rw [hvg0] at hvg1
        simp only [Value.slice.injEq, Option.some.injEq, Addr.mk.injEq, and_true, true_and] at hvg0 hvg1
        obtain ⟨rfl, rfl⟩ := hvg0
        obtain ⟨rfl, rfl⟩ := hvg1
        have he0 := flat_at (fun x : Int × Int => [Value.int .i64 x.1, Value.int .i64 x.2]) 2 (fun _ => rfl) ys k 0 hlt2 (by decide)
        have he1 := flat_at (fun x : Int × Int => [Value.int .i64 x.1, Value.int .i64 x.2]) 2 (fun _ => rfl) ys k 1 hlt2 (by decide)
        obtain ⟨f0, capf0, hvf0, hgf, hc1f, hc2f, e0⟩ := own_cell HC.out he0
        obtain ⟨f1, capf1, hvf1, _, _, _, e1⟩ := own_cell HC.out he1
        rw [hvf0] at hvf1
        simp only [Value.slice.injEq, Option.some.injEq, Addr.mk.injEq, and_true, true_and] at hvf0 hvf1
        obtain ⟨rfl, rfl⟩ := hvf0
        obtain ⟨rfl, rfl⟩ := hvf1
        have HNX := Lib.hid (fun (he : xs[k] = ys[k]) => take_eq_succ HTK.out hlt hlt2 he)
        have HNE := Lib.hid (fun (he : xs[k] ≠ ys[k]) => show bb = false by
          cases hbb : bb with
          | false => rfl
          | true => exact absurd (HB.out.1 hbb) (ne_at hlt hlt2 he))
        generalize xs[k] = y at *
        generalize ys[k] = z at *
        obtain ⟨ya, yb⟩ := y
        obtain ⟨za, zb⟩ := z
        change _ = some (Value.int .i64 ya) at d0
        change _ = some (Value.int .i64 za) at e0
        change _ = some (Value.int .i64 yb) at d1
        change _ = some (Value.int .i64 zb) at e1
        rw [Nat.add_zero] at d0 e0
        clear hd0 he0 hd1 he1
        by_cases m0 : ya = za
        · by_cases m1 : yb = zb
          · obtain ⟨rfl, rfl⟩ : ya = za ∧ yb = zb := ⟨m0, m1⟩
            clear m0 m1
            have p0 : (ya == ya) = true := by simp
            have p1 : (yb == yb) = true := by simp
            have HG := Lib.hid (HNX.out rfl)
            go_wp2_with fail
            go_quiet (fail)
            go_wp2_with fail
            go_roundw
            case rel => exact ⟨k + 1, by go_num, hlt, HG.out, HO.out.drewN _⟩
            case measure => simp [intOf]; omega
          · obtain rfl := HNE.out (fun h => m1 (by simpa using congrArg (fun u => u.2) h))
            have p0 : (ya == za) = true := by rw [m0]; simp
            have p1 : (yb == zb) = false := by simpa using m1
            clear m0 m1
            go_wp2_with fail
            go_quiet (fail)
            go_wp2_with fail
            go_ret
            exact ⟨rfl, HO.out.drewN _⟩
        · obtain rfl := HNE.out (fun h => m0 (by simpa using congrArg (fun u => u.1) h))
          have p0 : (ya == za) = false := by simpa using m0
          clear m0
          go_wp2_with fail
          go_quiet (fail)
          go_wp2_with fail
          go_ret
          exact ⟨rfl, HO.out.drewN _⟩
      · obtain rfl : k = xs.length := by omega
        have j1 : ¬ (xs.length : Int) < xs.length := by omega
        obtain rfl : bb = true := HB.out.2 (by
          have := HTK.out
          rw [List.take_length] at this
          rw [this, HLN.out, List.take_length])
        go_wp2_with fail
        go_ret
        exact ⟨rfl, HO.out⟩
  · have q1 : ((xs.length : Int) != ys.length) = true := by
      rw [bne_iff_ne]
      omega
    obtain rfl : bb = false := by
      cases hbb : bb with
      | false => rfl
      | true => exact absurd (congrArg List.length (HB.out.1 hbb)) hl
    clear hl
    go_wp2_with fail
    go_ret
    exact ⟨rfl, Only.refl _ _⟩
set_option maxRecDepth 100000 in
set_option maxHeartbeats 4000000 in
theorem eqP_any (b1 b2 : Nat) (a1 a2 : Option Addr) (c1 c2 : Nat) (xs ys : List (ByteArray × Int)) (bb : Bool) (w : World) (h1 : w.ownsRow b1 73 2 (.slice a1 xs.length c1) xs.length (prow xs)) (h2 : w.ownsRow b2 73 2 (.slice a2 ys.length c2) ys.length (prow ys)) (hb : bb = true ↔ xs = ys) :
    Calls Tryz.prog 36 #[.slice a1 xs.length c1, .slice a2 ys.length c2] w fun e w' => e = .returned (.bool bb) ∧ Only (fun _ => False) w w' := by
  have H1 := Lib.hid h1
  have H2 := Lib.hid h2
  have HB := Lib.hid hb
  clear h1 h2 hb
  go_enter Tryz.func36, Tryz.ntmps36
  by_cases hl : xs.length = ys.length
  · have HLN := Lib.hid hl
    have q1 : ((xs.length : Int) != ys.length) = false := by rw [hl]; simp
    clear hl
    go_wp2_with fail
    go_loopw [13] (fun iv wr => ∃ k : Nat, iv = .int .i64 k ∧ k ≤ xs.length ∧ xs.take k = ys.take k ∧ Only (fun _ => False) w wr) (fun iv _ => xs.length - (intOf iv).toNat)
    case atStart => exact ⟨0, rfl, Nat.zero_le _, rfl, Only.refl _ _⟩
    case round =>
      obtain ⟨k, rfl, hk, htk, hO⟩ := hrel
      have HTK := Lib.hid htk
      have HO := Lib.hid hO
      have HA := Lib.hid (hO.owns H1.out (fun _ _ h => h))
      have HC := Lib.hid (hO.owns H2.out (fun _ _ h => h))
      clear htk hO
      by_cases hlt : k < xs.length
      · have j1 : (k : Int) < xs.length := by omega
        have j2 : 0 ≤ (k : Int) := by omega
        have hlt2 : k < ys.length := by rw [← HLN.out]; exact hlt
        have j3 : (k : Int) < ys.length := by omega
        have hd0 := flat_at (fun x : ByteArray × Int => [Value.string x.1, Value.int .i64 x.2]) 2 (fun _ => rfl) xs k 0 hlt (by decide)
        have hd1 := flat_at (fun x : ByteArray × Int => [Value.string x.1, Value.int .i64 x.2]) 2 (fun _ => rfl) xs k 1 hlt (by decide)
        obtain ⟨g0, capg0, hvg0, hgg, hc1g, hc2g, d0⟩ := own_cell HA.out hd0
        obtain ⟨g1, capg1, hvg1, _, _, _, d1⟩ := own_cell HA.out hd1
        rw [hvg0] at hvg1
        simp only [Value.slice.injEq, Option.some.injEq, Addr.mk.injEq, and_true, true_and] at hvg0 hvg1
        obtain ⟨rfl, rfl⟩ := hvg0
        obtain ⟨rfl, rfl⟩ := hvg1
        have he0 := flat_at (fun x : ByteArray × Int => [Value.string x.1, Value.int .i64 x.2]) 2 (fun _ => rfl) ys k 0 hlt2 (by decide)
        have he1 := flat_at (fun x : ByteArray × Int => [Value.string x.1, Value.int .i64 x.2]) 2 (fun _ => rfl) ys k 1 hlt2 (by decide)
        obtain ⟨f0, capf0, hvf0, hgf, hc1f, hc2f, e0⟩ := own_cell HC.out he0
        obtain ⟨f1, capf1, hvf1, _, _, _, e1⟩ := own_cell HC.out he1
        rw [hvf0] at hvf1
        simp only [Value.slice.injEq, Option.some.injEq, Addr.mk.injEq, and_true, true_and] at hvf0 hvf1
        obtain ⟨rfl, rfl⟩ := hvf0
        obtain ⟨rfl, rfl⟩ := hvf1
        have HNX := Lib.hid (fun (he : xs[k] = ys[k]) => take_eq_succ HTK.out hlt hlt2 he)
        have HNE := Lib.hid (fun (he : xs[k] ≠ ys[k]) => show bb = false by
          cases hbb : bb with
          | false => rfl
          | true => exact absurd (HB.out.1 hbb) (ne_at hlt hlt2 he))
        generalize xs[k] = y at *
        generalize ys[k] = z at *
        obtain ⟨ya, yb⟩ := y
        obtain ⟨za, zb⟩ := z
        change _ = some (Value.string ya) at d0
        change _ = some (Value.string za) at e0
        change _ = some (Value.int .i64 yb) at d1
        change _ = some (Value.int .i64 zb) at e1
        rw [Nat.add_zero] at d0 e0
        clear hd0 he0 hd1 he1
        by_cases m0 : ya = za
        · by_cases m1 : yb = zb
          · obtain ⟨rfl, rfl⟩ : ya = za ∧ yb = zb := ⟨m0, m1⟩
            clear m0 m1
            have p0 : (ya.toList == ya.toList) = true := by simp
            have p1 : (yb == yb) = true := by simp
            have HG := Lib.hid (HNX.out rfl)
            go_wp2_with fail
            go_quiet (fail)
            go_wp2_with fail
            go_roundw
            case rel => exact ⟨k + 1, by go_num, hlt, HG.out, HO.out.drewN _⟩
            case measure => simp [intOf]; omega
          · obtain rfl := HNE.out (fun h => m1 (by simpa using congrArg (fun u => u.2) h))
            have p0 : (ya.toList == za.toList) = true := by rw [m0]; simp
            have p1 : (yb == zb) = false := by simpa using m1
            clear m0 m1
            go_wp2_with fail
            go_quiet (fail)
            go_wp2_with fail
            go_ret
            exact ⟨rfl, HO.out.drewN _⟩
        · obtain rfl := HNE.out (fun h => m0 (by simpa using congrArg (fun u => u.1) h))
          have p0 : (ya.toList == za.toList) = false := by rw [Bool.eq_false_iff]; intro h; exact m0 (tlU_iff.1 h)
          clear m0
          go_wp2_with fail
          go_quiet (fail)
          go_wp2_with fail
          go_ret
          exact ⟨rfl, HO.out.drewN _⟩
      · obtain rfl : k = xs.length := by omega
        have j1 : ¬ (xs.length : Int) < xs.length := by omega
        obtain rfl : bb = true := HB.out.2 (by
          have := HTK.out
          rw [List.take_length] at this
          rw [this, HLN.out, List.take_length])
        go_wp2_with fail
        go_ret
        exact ⟨rfl, HO.out⟩
  · have q1 : ((xs.length : Int) != ys.length) = true := by
      rw [bne_iff_ne]
      omega
    obtain rfl : bb = false := by
      cases hbb : bb with
      | false => rfl
      | true => exact absurd (congrArg List.length (HB.out.1 hbb)) hl
    clear hl
    go_wp2_with fail
    go_ret
    exact ⟨rfl, Only.refl _ _⟩
set_option maxRecDepth 100000 in
set_option maxHeartbeats 4000000 in
theorem eqQ_any (b1 b2 : Nat) (a1 a2 : Option Addr) (c1 c2 : Nat) (xs ys : List (ByteArray × Int × Int)) (bb : Bool) (w : World) (h1 : w.ownsRow b1 75 3 (.slice a1 xs.length c1) xs.length (qrow xs)) (h2 : w.ownsRow b2 75 3 (.slice a2 ys.length c2) ys.length (qrow ys)) (hb : bb = true ↔ xs = ys) :
    Calls Tryz.prog 37 #[.slice a1 xs.length c1, .slice a2 ys.length c2] w fun e w' => e = .returned (.bool bb) ∧ Only (fun _ => False) w w' := by
  have H1 := Lib.hid h1
  have H2 := Lib.hid h2
  have HB := Lib.hid hb
  clear h1 h2 hb
  go_enter Tryz.func37, Tryz.ntmps37
  by_cases hl : xs.length = ys.length
  · have HLN := Lib.hid hl
    have q1 : ((xs.length : Int) != ys.length) = false := by rw [hl]; simp
    clear hl
    go_wp2_with fail
    go_loopw [13] (fun iv wr => ∃ k : Nat, iv = .int .i64 k ∧ k ≤ xs.length ∧ xs.take k = ys.take k ∧ Only (fun _ => False) w wr) (fun iv _ => xs.length - (intOf iv).toNat)
    case atStart => exact ⟨0, rfl, Nat.zero_le _, rfl, Only.refl _ _⟩
    case round =>
      obtain ⟨k, rfl, hk, htk, hO⟩ := hrel
      have HTK := Lib.hid htk
      have HO := Lib.hid hO
      have HA := Lib.hid (hO.owns H1.out (fun _ _ h => h))
      have HC := Lib.hid (hO.owns H2.out (fun _ _ h => h))
      clear htk hO
      by_cases hlt : k < xs.length
      · have j1 : (k : Int) < xs.length := by omega
        have j2 : 0 ≤ (k : Int) := by omega
        have hlt2 : k < ys.length := by rw [← HLN.out]; exact hlt
        have j3 : (k : Int) < ys.length := by omega
        have hd0 := flat_at (fun x : ByteArray × Int × Int => [Value.string x.1, Value.int .i64 x.2.1, Value.int .i64 x.2.2]) 3 (fun _ => rfl) xs k 0 hlt (by decide)
        have hd1 := flat_at (fun x : ByteArray × Int × Int => [Value.string x.1, Value.int .i64 x.2.1, Value.int .i64 x.2.2]) 3 (fun _ => rfl) xs k 1 hlt (by decide)
        have hd2 := flat_at (fun x : ByteArray × Int × Int => [Value.string x.1, Value.int .i64 x.2.1, Value.int .i64 x.2.2]) 3 (fun _ => rfl) xs k 2 hlt (by decide)
        obtain ⟨g0, capg0, hvg0, hgg, hc1g, hc2g, d0⟩ := own_cell HA.out hd0
        obtain ⟨g1, capg1, hvg1, _, _, _, d1⟩ := own_cell HA.out hd1
        obtain ⟨g2, capg2, hvg2, _, _, _, d2⟩ := own_cell HA.out hd2
        rw [hvg0] at hvg1
        rw [hvg0] at hvg2
        simp only [Value.slice.injEq, Option.some.injEq, Addr.mk.injEq, and_true, true_and] at hvg0 hvg1 hvg2
        obtain ⟨rfl, rfl⟩ := hvg0
        obtain ⟨rfl, rfl⟩ := hvg1
        obtain ⟨rfl, rfl⟩ := hvg2
        have he0 := flat_at (fun x : ByteArray × Int × Int => [Value.string x.1, Value.int .i64 x.2.1, Value.int .i64 x.2.2]) 3 (fun _ => rfl) ys k 0 hlt2 (by decide)
        have he1 := flat_at (fun x : ByteArray × Int × Int => [Value.string x.1, Value.int .i64 x.2.1, Value.int .i64 x.2.2]) 3 (fun _ => rfl) ys k 1 hlt2 (by decide)
        have he2 := flat_at (fun x : ByteArray × Int × Int => [Value.string x.1, Value.int .i64 x.2.1, Value.int .i64 x.2.2]) 3 (fun _ => rfl) ys k 2 hlt2 (by decide)
        obtain ⟨f0, capf0, hvf0, hgf, hc1f, hc2f, e0⟩ := own_cell HC.out he0
        obtain ⟨f1, capf1, hvf1, _, _, _, e1⟩ := own_cell HC.out he1
        obtain ⟨f2, capf2, hvf2, _, _, _, e2⟩ := own_cell HC.out he2
        rw [hvf0] at hvf1
        rw [hvf0] at hvf2
        simp only [Value.slice.injEq, Option.some.injEq, Addr.mk.injEq, and_true, true_and] at hvf0 hvf1 hvf2
        obtain ⟨rfl, rfl⟩ := hvf0
        obtain ⟨rfl, rfl⟩ := hvf1
        obtain ⟨rfl, rfl⟩ := hvf2
        have HNX := Lib.hid (fun (he : xs[k] = ys[k]) => take_eq_succ HTK.out hlt hlt2 he)
        have HNE := Lib.hid (fun (he : xs[k] ≠ ys[k]) => show bb = false by
          cases hbb : bb with
          | false => rfl
          | true => exact absurd (HB.out.1 hbb) (ne_at hlt hlt2 he))
        generalize xs[k] = y at *
        generalize ys[k] = z at *
        obtain ⟨ya, yb, yc⟩ := y
        obtain ⟨za, zb, zc⟩ := z
        change _ = some (Value.string ya) at d0
        change _ = some (Value.string za) at e0
        change _ = some (Value.int .i64 yb) at d1
        change _ = some (Value.int .i64 zb) at e1
        change _ = some (Value.int .i64 yc) at d2
        change _ = some (Value.int .i64 zc) at e2
        rw [Nat.add_zero] at d0 e0
        clear hd0 he0 hd1 he1 hd2 he2
        by_cases m0 : ya = za
        · by_cases m1 : yb = zb
          · by_cases m2 : yc = zc
            · obtain ⟨rfl, rfl, rfl⟩ : ya = za ∧ yb = zb ∧ yc = zc := ⟨m0, m1, m2⟩
              clear m0 m1 m2
              have p0 : (ya.toList == ya.toList) = true := by simp
              have p1 : (yb == yb) = true := by simp
              have p2 : (yc == yc) = true := by simp
              have HG := Lib.hid (HNX.out rfl)
              go_wp2_with fail
              go_quiet (fail)
              go_wp2_with fail
              go_roundw
              case rel => exact ⟨k + 1, by go_num, hlt, HG.out, HO.out.drewN _⟩
              case measure => simp [intOf]; omega
            · obtain rfl := HNE.out (fun h => m2 (by simpa using congrArg (fun u => u.2.2) h))
              have p0 : (ya.toList == za.toList) = true := by rw [m0]; simp
              have p1 : (yb == zb) = true := by rw [m1]; simp
              have p2 : (yc == zc) = false := by simpa using m2
              clear m0 m1 m2
              go_wp2_with fail
              go_quiet (fail)
              go_wp2_with fail
              go_ret
              exact ⟨rfl, HO.out.drewN _⟩
          · obtain rfl := HNE.out (fun h => m1 (by simpa using congrArg (fun u => u.2.1) h))
            have p0 : (ya.toList == za.toList) = true := by rw [m0]; simp
            have p1 : (yb == zb) = false := by simpa using m1
            clear m0 m1
            go_wp2_with fail
            go_quiet (fail)
            go_wp2_with fail
            go_ret
            exact ⟨rfl, HO.out.drewN _⟩
        · obtain rfl := HNE.out (fun h => m0 (by simpa using congrArg (fun u => u.1) h))
          have p0 : (ya.toList == za.toList) = false := by rw [Bool.eq_false_iff]; intro h; exact m0 (tlU_iff.1 h)
          clear m0
          go_wp2_with fail
          go_quiet (fail)
          go_wp2_with fail
          go_ret
          exact ⟨rfl, HO.out.drewN _⟩
      · obtain rfl : k = xs.length := by omega
        have j1 : ¬ (xs.length : Int) < xs.length := by omega
        obtain rfl : bb = true := HB.out.2 (by
          have := HTK.out
          rw [List.take_length] at this
          rw [this, HLN.out, List.take_length])
        go_wp2_with fail
        go_ret
        exact ⟨rfl, HO.out⟩
  · have q1 : ((xs.length : Int) != ys.length) = true := by
      rw [bne_iff_ne]
      omega
    obtain rfl : bb = false := by
      cases hbb : bb with
      | false => rfl
      | true => exact absurd (congrArg List.length (HB.out.1 hbb)) hl
    clear hl
    go_wp2_with fail
    go_ret
    exact ⟨rfl, Only.refl _ _⟩
end Go.Proofs.YteikkpiginfbkaaGreatDoor

namespace Go.Proofs.YteikkpiginfbkaaGreatDoor
open Go.RowKit

theorem nameTo_snoc (n : ByteArray) : ∀ (ws : List ByteArray) (w : ByteArray), nameTo n (ws ++ [w]) = if numB w = true then nameTo n ws else w
  | [], w => rfl
  | x :: ws, w => by
    show nameTo _ (ws ++ [w]) = _
    rw [nameTo_snoc]; rfl
theorem numsT_snoc : ∀ (ws : List ByteArray) (w : ByteArray), numsT (ws ++ [w]) = if numB w = true then numsT ws ++ [amtV w] else numsT ws
  | [], w => by
    show (if numB w = true then amtV w :: [] else []) = _
    rfl
  | x :: ws, w => by
    show (if numB x = true then amtV x :: numsT (ws ++ [w]) else numsT (ws ++ [w])) = _
    rw [numsT_snoc]
    show _ = if numB w = true then (if numB x = true then amtV x :: numsT ws else numsT ws) ++ [amtV w] else (if numB x = true then amtV x :: numsT ws else numsT ws)
    by_cases h1 : numB x = true
    · by_cases h2 : numB w = true
      · simp only [if_pos h1, if_pos h2]; rfl
      · simp only [if_pos h1, if_neg h2]
    · by_cases h2 : numB w = true
      · simp only [if_neg h1, if_pos h2]
      · simp only [if_neg h1, if_neg h2]
theorem smallB_snoc (ws : List ByteArray) (w : ByteArray) : smallB (ws ++ [w]) = (smallB ws && (!numB w || decide (amtV w ≤ 1000000000))) := by unfold smallB; simp
theorem drop_take_snoc1 {ws : List ByteArray} {k : Nat} (hk : 1 ≤ k) (h : k < ws.length) : (ws.take (k + 1)).drop 1 = (ws.take k).drop 1 ++ [wAt ws k] := by
  rw [take_snoc h, List.drop_append_of_le_length (by rw [List.length_take]; omega), wAt_get h]
theorem small_pre {ws : List ByteArray} {k : Nat} (h : smallB ((ws.take k).drop 1) = false) : smallT ws = false := by
  unfold smallT smallB at *
  rw [List.all_eq_false] at h ⊢
  obtain ⟨x, hx, hp⟩ := h
  refine ⟨x, ?_, hp⟩
  have e : (ws.take k).drop 1 = (ws.drop 1).take (k - 1) := by rw [List.drop_take]
  rw [e] at hx
  exact List.mem_of_mem_take hx
theorem rtake_any (base B : Nat) (t : St) (vt vp vq vb sv : Value) (s name : ByteArray) (l : List Int) (k : Nat) (w : World) (hR : StAt base w B t vt vp vq vb) (hg : TkArg base B t vt vp vq vb sv l w) (hlen : l.length = numsK k) (hk : k < 11) (hs : s = keyW k) :
    Calls Tryz.prog 109 #[.pointer (some ⟨B, 0, none⟩), .string s, .string name, sv] w fun e w' => TakeR base B vt vp vq vb (takeK t name l k) w e w' := by
  match k, hk, hs, hlen with
  | 0, _, hs, _ => exact rtake0_any base B t vt vp vq vb sv s name l w hR hs
  | 1, _, hs, hl => exact rtake1_any base B t vt vp vq vb sv s name l w hR hg hl hs
  | 2, _, hs, hl => exact rtake2_any base B t vt vp vq vb sv s name l w hR hg hl hs
  | 3, _, hs, hl => exact rtake3_any base B t vt vp vq vb sv s name l w hR hg hl hs
  | 4, _, hs, hl => exact rtake4_any base B t vt vp vq vb sv s name l w hR hg hl hs
  | 5, _, hs, hl => exact rtake5_any base B t vt vp vq vb sv s name l w hR hg hl hs
  | 6, _, hs, hl => exact rtake6_any base B t vt vp vq vb sv s name l w hR hg hl hs
  | 7, _, hs, _ => exact rtake7_any base B t vt vp vq vb sv s name l w hR hs
  | 8, _, hs, hl => exact rtake8_any base B t vt vp vq vb sv s name l w hR hg hl hs
  | 9, _, hs, hl => exact rtake9_any base B t vt vp vq vb sv s name l w hR hg hl hs
  | 10, _, hs, hl => exact rtake10_any base B t vt vp vq vb sv s name l w hR hg hl hs
  | k + 11, h, _, _ => omega
/-- What line leaves. -/
def LineU (base B : Nat) (vt vp vq vb : Value) (r : Int × St) (w : World) (e : Ending) (w' : World) : Prop :=
  Only (RdS B vt vp vq vb) w w' ∧ ((r.1 = 0 ∧ e = .returned (.int .i64 0) ∧ ∃ vt' vp' vq' vb', StAt base w' B r.2 vt' vp' vq' vb') ∨ (r.1 ≠ 0 ∧ e = .returned (.int .i64 r.1)))
theorem lineU_of {base B : Nat} {vt vp vq vb : Value} {r : Int × St} {w w1 w' : World} {e : Ending} (hO : Only (RdS B vt vp vq vb) w w1) (hT : TakeR base B vt vp vq vb r w1 e w') (hS : ∀ i, i < w.heap.size → RdS B vt vp vq vb i → RdS B vt vp vq vb i) : LineU base B vt vp vq vb r w e w' := by
  obtain ⟨h1, h2, h3⟩ := hT
  refine ⟨hO.trans' h1 hS, ?_⟩
  by_cases h : r.1 = 0
  · exact .inl ⟨h, by rw [h2, h], h3⟩
  · exact .inr ⟨h, h2⟩
theorem rdS_old {base B : Nat} {w : World} {t : St} {vt vp vq vb : Value} (h : StAt base w B t vt vp vq vb) {i : Nat} (hi : RdS B vt vp vq vb i) : i < w.heap.size := by
  rcases hi with e | e | e | e | e
  · rw [e]; exact h.lt
  · obtain ⟨c, hc⟩ := ownR_ty h.tiers e; exact (Array.getElem?_eq_some_iff.1 hc).1
  · obtain ⟨c, hc⟩ := ownR_ty h.places e; exact (Array.getElem?_eq_some_iff.1 hc).1
  · obtain ⟨c, hc⟩ := ownR_ty h.quotas e; exact (Array.getElem?_eq_some_iff.1 hc).1
  · obtain ⟨c, hc⟩ := ownR_ty h.bars e; exact (Array.getElem?_eq_some_iff.1 hc).1
theorem own_block {a : Addr} {n c : Nat} {w : World} {b e s m : Nat} {xs : List Value} (h : w.ownsRow b e s (.slice (some a) n c) m xs) : b ≤ a.block := by
  rcases h.2 with ⟨hv, _⟩ | ⟨g, cap, cur, hv, hb, _⟩
  · cases hv
  · simp only [Value.slice.injEq, Option.some.injEq] at hv
    rw [hv.1]; exact hb
set_option maxRecDepth 100000 in
set_option maxHeartbeats 8000000 in
theorem rline_any (base B : Nat) (t : St) (vt vp vq vb : Value) (s : ByteArray) (w : World) (hR : StAt base w B t vt vp vq vb) (hb : base ≤ w.heap.size) (hS : StB t) (hla : 0 ≤ t.lines) (hlb : t.lines ≤ 1000000) (hs : s.size ≤ 4000) :
    Calls Tryz.prog 69 #[.pointer (some ⟨B, 0, none⟩), .string s] w fun e w' => LineU base B vt vp vq vb (refLine t (wordsB s)) w e w' := by
  have HR := Lib.hid hR
  have HW := Lib.hid (rwords_any s 32 w (by omega))
  have hws := words_pos s
  have hwl : ∀ x ∈ wordsB s, x.size ≤ 4000 := fun x hx => Nat.le_trans (words_le s x hx) hs
  have hwn := words_cnt s
  have hsp : noSp (wAt (wordsB s) 0).data.toList := by
    have h1 : (wAt (wordsB s) 0).data.toList ∈ (wordsB s).map (·.data.toList) := List.mem_map_of_mem (wAt_mem hws)
    rw [words_cut] at h1
    exact cutC_noC 32 _ _ h1
  have HSM := Lib.hid hS
  have hbw := hb
  have hBw := hR.lt
  unfold WordsR at HW
  rw [wordsC_sp] at HW
  clear hR hb hS
  generalize wordsB s = ws at *
  go_enter Tryz.func69, Tryz.ntmps69
  go_wp2_with fail
  refine HW.out.mono ?_
  rintro e w2 ⟨v, rfl, hown, hO2⟩
  obtain ⟨aw, cw, rfl⟩ := slice_of_own hown
  have HWO := Lib.hid hown
  have HO2 := Lib.hid hO2
  clear hown hO2 HW
  go_wp2_with fail
  refine (rshape_any _ cw aw ws w2 HWO.out hws (by omega) (fun x hx => by have := hwl x hx; omega)).mono ?_
  rintro e w3 ⟨rfl, hO3⟩
  have HWO := Lib.hid (hO3.owns HWO.out (fun _ _ h => h))
  have HO3 := Lib.hid (HO2.out.trans hO3)
  clear hO3
  go_wp2_with fail
  refine (rfollows_any base B t vt vp vq vb (shapeB ws) w3 (HR.out.still HO3.out)).mono ?_
  rintro e w3' ⟨rfl, rfl⟩
  by_cases hF : followsZ t (shapeB ws) = 0
  · obtain ⟨k, hk, hg⟩ := follows_good (t := t) hsp (fun e => by rw [e] at hws; cases hws) hF
    have HF := Lib.hid hF
    have HGK := Lib.hid hg
    have HNL := Lib.hid (nums_len hk hg.2)
    rw [hF]
    clear hF hg hsp
    obtain ⟨i0, hi, hz0, hz1, hz2⟩ := info_parts Tryz.infoI
    have HI := Lib.hid hi
    have HI0 := Lib.hid hz0
    have HI1 := Lib.hid hz1
    have HI2 := Lib.hid hz2
    have HHL := Lib.hid hwl
    have HB3 := Lib.hid HO3.out.size
    clear hi hz0 hz1 hz2 hwl
    go_wp2_with fail
    go_loopw [7, 8, 9] (fun vn vl vi wr => ∃ i : Nat, vi = .int .i64 i ∧ 1 ≤ i ∧ i ≤ ws.length ∧ vn = .string (nameTo ⟨#[]⟩ ((ws.take i).drop 1)) ∧ smallB ((ws.take i).drop 1) = true ∧ wr.ownsRow w3.heap.size 3 1 vl (numsT ((ws.take i).drop 1)).length (irow (numsT ((ws.take i).drop 1))) ∧ (numsT ((ws.take i).drop 1)).length ≤ i ∧ Only (fun _ => False) w3 wr) (fun _ _ vi _ => ws.length - (intOf vi).toNat)
    case atStart =>
      have e : (ws.take 1).drop 1 = [] := List.drop_of_length_le (by rw [List.length_take]; omega)
      refine ⟨1, rfl, Nat.le_refl _, hws, ?_, ?_, ?_, ?_, Only.refl _ _⟩
      · rw [e]; rfl
      · rw [e]; rfl
      · rw [e]; exact World.ownsRow_nil _ _ _ _
      · rw [e]; exact Nat.zero_le _
    case round =>
      obtain ⟨i, rfl, hi1, hi, rfl, hsm, hown, hln, hO⟩ := hrel
      have HSS := Lib.hid hsm
      have HOWN := Lib.hid hown
      have HO := Lib.hid hO
      have HOT := Lib.hid (HO3.out.trans hO)
      have HWR := Lib.hid (hO.owns HWO.out (fun _ _ h => h))
      have hszw := hO.size
      obtain ⟨al, cl, rfl⟩ := slice_of_own hown
      clear hsm hown hO
      by_cases hlt : i < ws.length
      · have j1 : (i : Int) < ws.length := by omega
        have j0 : 0 ≤ (i : Int) := by omega
        obtain ⟨g, rfl, hg, hc1, hc2, d0⟩ := str_cell HWR.out hlt
        have HLT := Lib.hid hlt
        have e1 := drop_take_snoc1 hi1 hlt
        have HNA := Lib.hid (nameTo_snoc ⟨#[]⟩ ((ws.take i).drop 1) (wAt ws i))
        have HNU := Lib.hid (numsT_snoc ((ws.take i).drop 1) (wAt ws i))
        have HSB := Lib.hid (smallB_snoc ((ws.take i).drop 1) (wAt ws i))
        have HPR := Lib.hid (fun (h : smallB ((ws.take (i + 1)).drop 1) = false) => small_pre h)
        rw [← e1] at HNA HNU HSB
        clear e1
        have hxs : (wAt ws i).size ≤ 4000 := HHL.out _ (by rw [← wAt_get hlt]; exact List.getElem_mem hlt)
        rw [HSS.out] at HSB
        obtain ⟨q1, hq1⟩ : ∃ q, (ws.take (i + 1)).drop 1 = q := ⟨_, rfl⟩
        rw [hq1] at HNA HNU HSB HPR
        have HQ1 := Lib.hid hq1
        clear hq1
        generalize (ws.take i).drop 1 = q0 at *
        generalize wAt ws i = x at *
        obtain ⟨bn, hbn⟩ : ∃ b, numB x = b := ⟨_, rfl⟩
        have HN := Lib.hid (fun w => rnumeral_any x bn w (by omega) hbn)
        have HAM := Lib.hid (fun (h : numB x = true) w => ramount_any x w (by omega) h)
        have HBN := Lib.hid hbn
        rw [hbn] at HNA HNU HSB
        have HFIN := Lib.hid (show ∀ w2, Only (fun _ => False) wr w2 → w2.cell? ⟨g, i, none⟩ = some (.string x) from fun w2 h => h.cell d0 id)
        clear hbn hlt hxs
        cases bn
        · have h1 := HNA.out
          have h2 := HNU.out
          have h3 := HSB.out
          simp only [Bool.false_eq_true, if_false, Bool.not_false, Bool.true_or, Bool.and_true] at h1 h2 h3
          have H1 := Lib.hid h1
          have H2 := Lib.hid h2
          have H3 := Lib.hid h3
          clear h1 h2 h3 HNA HNU HSB
          go_wp2_with fail
          refine (HN.out _).mono ?_
          rintro e w4 ⟨rfl, hO4⟩
          have d4 := HFIN.out w4 hO4
          have HOW4 := Lib.hid (hO4.owns HOWN.out (fun _ _ h => h))
          have HO4 := Lib.hid (HO.out.trans hO4)
          clear hO4
          go_wp2_with fail
          go_roundw
          case rel => exact ⟨i + 1, by go_num, by omega, HLT.out, by rw [HQ1.out, H1.out], by rw [HQ1.out]; exact H3.out, by rw [HQ1.out, H2.out]; exact HOW4.out, by rw [HQ1.out, H2.out]; omega, HO4.out⟩
          case measure => simp [intOf]; have := HLT.out; omega
        · have h1 := HNA.out
          have h2 := HNU.out
          simp only [if_true] at h1 h2
          have H1 := Lib.hid h1
          have H2 := Lib.hid h2
          clear h1 h2 HNA HNU
          go_wp2_with fail
          refine (HN.out _).mono ?_
          rintro e w4 ⟨rfl, hO4⟩
          have d4 := HFIN.out w4 hO4
          have HOW4 := Lib.hid (hO4.owns HOWN.out (fun _ _ h => h))
          have HO4 := Lib.hid (HO.out.trans hO4)
          clear hO4
          go_wp2_with fail
          refine (HAM.out HBN.out _).mono ?_
          rintro e w5 ⟨⟨n, rfl, hn⟩, hO5⟩
          have HOW5 := Lib.hid (hO5.owns HOW4.out (fun _ _ h => h))
          have HO5 := Lib.hid (HO4.out.trans hO5)
          clear hO5
          by_cases hm : amtV x ≤ 1000000000
          · have h3 := HSB.out
            rw [decide_eq_true hm] at h3
            have H3 := Lib.hid (show smallB q1 = true by rw [h3]; rfl)
            rw [decide_eq_true hm]
            obtain rfl := hn hm
            generalize amtV x = n at *
            have hbs := (HO5.out.alloc (.cells #[.int .i64 n] 3)).size
            clear hm h3 HSB
            go_wp2_with (first | (refine wpList_append_lies _ rfl _ _ 24 rfl w3.heap.size 3 i0 _ 1 8 Tryz.underlying24 HI.out HI0.out HI1.out HI2.out rfl (by decide) _ _ _ rfl (HOW5.out.alloc _) ⟨w5.heap.size, 0, none⟩ 1 1 [.int .i64 n] rfl rfl (by exact newsR' w5 _ _) (one_oneR _ rfl) (by decide) (by unfold maxLen; omega) (by omega) hbs _ rfl ?_; intro g2 cap2 w6 hown1 hgrow hat hlt5))
            have HO6 := Lib.hid ((HO5.out.alloc (.cells #[.int .i64 n] 3)).trans' (S := fun _ => False) (T := fun i => (Value.slice al (numsT q0).length cl).ownBlock = some i) ((Only.refl _ _).grown hgrow (fun i e _ => e)) (fun i hi e => by have := ownR_ge HOW5.out e; omega))
            have HW6 := Lib.hid (show w6.ownsRow w3.heap.size 3 1 (.slice (some ⟨g2, 0, none⟩) ((numsT q0).length + 1) cap2) (numsT q1).length (irow (numsT q1)) by
              rw [H2.out, irow_app, List.length_append]; exact hown1)
            go_roundw
            case rel => exact ⟨i + 1, by go_num, by omega, HLT.out, by rw [HQ1.out, H1.out], by rw [HQ1.out]; exact H3.out, by rw [HQ1.out]; exact HW6.out, by rw [HQ1.out, H2.out, List.length_append, List.length_singleton]; omega, HO6.out⟩
            case measure => simp [intOf]; have := HLT.out; omega
          · have h3 := HSB.out
            rw [decide_eq_false hm] at h3
            have HRL := Lib.hid (show refLine t ws = (3, t) by
              unfold refLine
              rw [if_neg (fun e => e HF.out), if_pos (HPR.out (by rw [h3]; rfl))])
            rw [decide_eq_false hm]
            clear hm h3 HSB hn
            go_wp2_with fail
            go_ret
            rw [HRL.out]
            exact ⟨(HO3.out.trans HO5.out).mono (fun _ _ h => h.elim), .inr ⟨by show (3 : Int) ≠ 0; decide, rfl⟩⟩
      · obtain rfl : i = ws.length := by omega
        have j1 : ¬ (ws.length : Int) < ws.length := by omega
        have e1 : (ws.take ws.length).drop 1 = ws.drop 1 := by rw [List.take_length]
        rw [e1] at HSS HOWN hln ⊢
        have HRL := Lib.hid (show refLine t ws = takeK { t with lines := t.lines + 1 } (nameT ws) (numsT (ws.drop 1)) k by
          unfold refLine
          rw [if_neg (fun e => e HF.out), if_neg (by show ¬ smallB (ws.drop 1) = false; rw [HSS.out]; decide), HGK.out.1])
        have HNM := Lib.hid (show nameTo ⟨#[]⟩ (ws.drop 1) = nameT ws from rfl)
        obtain ⟨td, htd⟩ : ∃ td, ws.drop 1 = td := ⟨_, rfl⟩
        rw [htd] at HSS HOWN hln HRL HNL HNM ⊢
        clear htd e1
        have HRW := Lib.hid (HR.out.still HOT.out)
        have k13 : wr.cell? ⟨B, 13, none⟩ = some (.int .i64 t.lines) := HRW.out.cell 13 rfl
        have z13 := HRW.out.frz 13
        obtain ⟨g, rfl, hg, hc1, hc2, d0⟩ := str_cell HWR.out hws
        have hgB : g ≠ B := fun e => by have := own_block HWO.out; dsimp only at this; have := HB3.out; omega
        have HKW := Lib.hid (show wAt ws 0 = keyW k by
          have := key_is (w := wAt ws 0) (by rw [HGK.out.1]; exact hk)
          rw [HGK.out.1] at this
          exact this)
        have hlnn : ((Int.ofNat 0) : Int) = 0 := rfl
        have HR1 := Lib.hid (HRW.out.set (t' := { t with lines := t.lines + 1 }) 13 (.int .i64 (t.lines + 1)) rfl rfl rfl rfl rfl)
        have HOS := Lib.hid (RdS.set (B := B) (vt := vt) (vp := vp) (vq := vq) (vb := vb) (HOT.out.mono (fun _ _ h => h.elim)) 13 (.int .i64 (t.lines + 1)))
        have HTA := Lib.hid (show TkArg base B { t with lines := t.lines + 1 } vt vp vq vb (.slice al (numsT td).length cl) (numsT td) (wr.setCell ⟨B, 13, none⟩ (.int .i64 (t.lines + 1))) from by
          obtain ⟨s1, s2, s3, s4⟩ := HSM.out
          refine ⟨?_, fun a n c e hr => ?_, ?_, by show t.d.tiers.length ≤ 1000; omega, by show t.d.places.length ≤ 1000; omega, by show t.d.quotas.length ≤ 1000; omega, by show t.d.barred.length ≤ 1000; omega⟩
          · exact pts_of_own (((Only.refl (fun k => k = B) wr).setCell (.inl rfl) _).owns HOWN.out (fun j hj e => by have := ownR_ge HOWN.out hj; have := HB3.out; omega)) (by omega)
          · cases e
            have h1 := own_block HOWN.out
            have h2 := rdS_old HR.out hr
            have := HB3.out
            omega
          · rw [World.size_setCell]; have := HB3.out; omega)
        have d1 : (wr.setCell ⟨B, 13, none⟩ (.int .i64 (t.lines + 1))).cell? ⟨g, 0, none⟩ = some (.string (wAt ws 0)) := ((Only.refl (fun k => k = B) wr).setCell (.inl rfl) _).cell d0 hgB
        clear hlnn
        go_wp2_with fail
        refine (rtake_any base B { t with lines := t.lines + 1 } vt vp vq vb _ (wAt ws 0) _ (numsT td) k _ HR1.out HTA.out HNL.out hk HKW.out).mono ?_
        intro e w6 hT
        rw [HNM.out] at hT
        rw [← HRL.out] at hT
        have hL := lineU_of HOS.out hT (fun _ _ h => h)
        obtain ⟨hO6, h7, h8⟩ := hT
        subst h7
        go_wp2_with fail
        go_ret
        exact hL
  · have HRL := Lib.hid (show refLine t ws = (followsZ t (shapeB ws), t) by unfold refLine; rw [if_pos hF])
    have HFN := Lib.hid hF
    generalize followsZ t (shapeB ws) = F at *
    have i1 : (F != 0) = true := bne_iff_ne.2 hF
    clear hF
    go_wp2_with fail
    go_ret
    rw [HRL.out]
    exact ⟨HO3.out.mono (fun _ _ h => h.elim), .inr ⟨HFN.out, rfl⟩⟩
end Go.Proofs.YteikkpiginfbkaaGreatDoor

namespace Go.Proofs.YteikkpiginfbkaaGreatDoor
open Go.RowKit

theorem results_rparse {W : World} {tmps : Array Value} {P1 : Nat} {cs : Array Value} {pos err : Value} (h : W.heap[P1]? = some (.cells cs 33 (0, 0))) (hz : cs.size = 13) (h2 : tmps.getD 2 undef = .pointer (some ⟨P1, 0, none⟩)) (h3 : tmps.getD 3 undef = pos) (h4 : tmps.getD 4 undef = err) :
    (results Tryz.f43 tmps).run Tryz.prog W = .ok (.tuple #[.agg cs, pos, err]) W := by
  have h2' : tmps[2]?.getD undef = .pointer (some ⟨P1, 0, none⟩) := by simpa using h2
  have h3' : tmps[3]?.getD undef = pos := by simpa using h3
  have h4' : tmps[4]?.getD undef = err := by simpa using h4
  have l1 := run_loadVar_row (P := Tryz.prog) W P1 33 33 cs (0, 0) _ h Tryz.underlying33 rfl (by rw [hz]; exact Tryz.infoDr)
  simp [results, Tryz.results43, h2', h3', h4', asAddr, l1]
theorem runL_snoc_cur {t : St} {p : Nat} {cur r D : List UInt8} {k f : Nat} (hc : cur = (D.take k).drop f) (hr : r = D.drop k) (hk : k < D.length) (hf : f ≤ k) (hx : D[k] ≠ 10) : runL t p cur r = runL t p ((D.take (k + 1)).drop f) (D.drop (k + 1)) := by
  subst hc hr
  rw [List.drop_eq_getElem_cons hk, runL_step hx, take_snoc hk, List.drop_append_of_le_length (by rw [List.length_take]; omega)]
theorem runL_nl_cur {t : St} {p : Nat} {cur r D : List UInt8} {k : Nat} (hr : r = D.drop k) (hk : k < D.length) (hx : D[k] = 10) : runL t p cur r = if (lineZ t (wordsB (arrB cur))).1 = 0 then runL (lineZ t (wordsB (arrB cur))).2 (p + cur.length + 1) [] (D.drop (k + 1)) else ((lineZ t (wordsB (arrB cur))).1, p, t) := by
  subst hr
  rw [List.drop_eq_getElem_cons hk, hx]; rfl
theorem line_bd {t : St} {ws : List ByteArray} (h : StB t) (hl : (lineZ t ws).1 = 0) : StB (lineZ t ws).2 ∧ (lineZ t ws).2.lines = t.lines + 1 := by
  have h1 : (lnOf t ws (keyOf (wAt ws 0))).1 = 0 := by
    by_cases h2 : (lnOf t ws (keyOf (wAt ws 0))).1 = 0
    · exact h2
    · rw [line_err rfl h2] at hl; exact absurd hl h2
  rw [line_ok h1]
  exact ⟨lnOf_bd ws _ h, rfl⟩
theorem st0_bd : StB st0 := ⟨Nat.zero_le _, Nat.zero_le _, Nat.zero_le _, Nat.zero_le _⟩
theorem ref_words_sp (s : ByteArray) : noSp (wAt (wordsB s) 0).data.toList := by
  have h1 : (wAt (wordsB s) 0).data.toList ∈ (wordsB s).map (·.data.toList) := List.mem_map_of_mem (wAt_mem (words_pos s))
  rw [words_cut] at h1
  exact cutC_noC 32 _ _ h1
theorem words_ne (s : ByteArray) : wordsB s ≠ [] := fun e => by have := words_pos s; rw [e] at this; cases this
set_option maxRecDepth 100000 in
set_option maxHeartbeats 4000000 in
theorem rparse13_big (s : ByteArray) (w : World) (hs : ¬ s.size ≤ 4000) (hs2 : s.size ≤ 281474976710656) :
    Calls Tryz.prog 43 #[.string s] w fun e w' => ParseRu (parseZ s) w e w' := by
  have hq : parseZ s = (2, 4000, dr0) := by unfold parseZ; rw [if_neg hs]
  rw [hq]
  have i1 : (4000 : Int) < s.size := by omega
  have HZ := Lib.hid (heap_alloc_last w (.cells zeroD 33))
  have HO := Lib.hid ((Only.refl (fun _ => False) w).alloc (.cells zeroD 33))
  clear hq hs
  go_enter Tryz.func43, Tryz.ntmps43
  go_wp2_with (first | (refine wpList_store_row rfl 33 _ _ rfl w.heap.size zeroD rfl rfl 33 _ HZ.out Tryz.infoDr rfl zeroD_one ?_))
  exact bodyPost_ret (results_rparse (setRow_heap _ _ _ _ _ _ HZ.out) rfl rfl rfl rfl) rfl ⟨_, _, _, _, rfl, dr0_own _ _, HO.out.setRow (by omega) _⟩
set_option maxRecDepth 100000 in
set_option maxHeartbeats 8000000 in
theorem rparse13_small (s : ByteArray) (w : World) (hs : s.size ≤ 4000) :
    Calls Tryz.prog 43 #[.string s] w fun e w' => ParseRu (parseZ s) w e w' := by
  have HQ := Lib.hid (show parseZ s = (let q := runL st0 0 [] s.data.toList; if q.1 = 0 then (0, 0, q.2.2.d) else (q.1, q.2.1, dr0)) by unfold parseZ; rw [if_pos hs])
  have i1 : ¬ (4000 : Int) < s.size := by omega
  have hsl : s.data.toList.length = s.size := Array.length_toList
  have HSL := Lib.hid hsl
  have HZ := Lib.hid (heap_alloc_last w (.cells zeroD 33))
  have HO := Lib.hid ((Only.refl (fun _ => False) w).alloc (.cells zeroD 33))
  have HSZ := Lib.hid (show (w.alloc (.cells zeroD 33)).heap.size = w.heap.size + 1 by simp)
  clear hsl
  go_enter Tryz.func43, Tryz.ntmps43
  go_upto_region 3 with (fail)
  unfold zeroD at HZ HO HSZ
  generalize World.alloc w _ = w1 at *
  have HST := Lib.hid (heap_alloc_last w1 (.cells (stCells st0 (.slice none 0 0) (.slice none 0 0) (.slice none 0 0) (.slice none 0 0)) 130))
  have HO1 := Lib.hid ((Only.refl (fun _ => False) w1).alloc (.cells (stCells st0 (.slice none 0 0) (.slice none 0 0) (.slice none 0 0) (.slice none 0 0)) 130))
  have HSZ2 := Lib.hid (show (w1.alloc (.cells (stCells st0 (.slice none 0 0) (.slice none 0 0) (.slice none 0 0) (.slice none 0 0)) 130)).heap.size = w1.heap.size + 1 by simp)
  go_wp2_with fail
  have HZ2 := Lib.hid (row_still HO1.out HZ.out)
  have hst : stCells st0 (.slice none 0 0) (.slice none 0 0) (.slice none 0 0) (.slice none 0 0) = #[.string ⟨#[]⟩, .int .i64 0, .int .i64 0, .int .i64 0, .int .i64 0, .int .i64 0, .slice none 0 0, .bool false, .slice none 0 0, .int .i64 0, .int .i64 0, .slice none 0 0, .slice none 0 0, .int .i64 0, .bool false, .bool false] := rfl
  rw [← hst] at *
  clear hst
  have HOT := Lib.hid (HO.out.trans HO1.out)
  rw [HSZ.out] at HST HSZ2 ⊢
  generalize hw2 : World.alloc w1 _ = w2 at *
  clear hw2
  have HSA := Lib.hid (show StAt (w.heap.size + 2) w2 (w.heap.size + 1) st0 (.slice none 0 0) (.slice none 0 0) (.slice none 0 0) (.slice none 0 0) from ⟨HST.out, World.ownsRow_nil _ _ _ _, World.ownsRow_nil _ _ _ _, World.ownsRow_nil _ _ _ _, World.ownsRow_nil _ _ _ _⟩)
  have HRUN := Lib.hid (show runL st0 0 [] s.data.toList = runL st0 0 ((s.data.toList.take 0).drop 0) (s.data.toList.drop 0) from rfl)
  generalize hrr : runL st0 0 [] s.data.toList = RR at *
  clear hrr
  have HO2 := Lib.hid (Only.refl (fun k => w.heap.size < k) w2)
  go_loopw [6, 7] (fun vf vi wr => ∃ (k f : Nat) (t : St) (vt vp vq vb : Value), vi = .int .i64 k ∧ vf = .int .i64 f ∧ k ≤ s.size ∧ f ≤ k ∧ RR = runL t f ((s.data.toList.take k).drop f) (s.data.toList.drop k) ∧ StB t ∧ 0 ≤ t.lines ∧ t.lines ≤ k ∧ StAt (w.heap.size + 2) wr (w.heap.size + 1) t vt vp vq vb ∧ Only (fun k => w.heap.size < k) w2 wr) (fun _ vi _ => s.size - (intOf vi).toNat)
  case atStart => exact ⟨0, 0, st0, _, _, _, _, rfl, rfl, Nat.zero_le _, Nat.le_refl _, HRUN.out, st0_bd, by decide, by decide, HSA.out, HO2.out⟩
  case round =>
    obtain ⟨k, f, t, vt, vp, vq, vb, rfl, rfl, hk, hf, hrun, hsb, hl0, hl1, hst, hO⟩ := hrel
    have HRUN := Lib.hid hrun
    have HSB := Lib.hid hsb
    have HSTT := Lib.hid hst
    have HOO := Lib.hid hO
    have HZR := Lib.hid (show wr.heap[w.heap.size]? = _ from (hO.block _ (Array.getElem?_eq_some_iff.1 HZ2.out).1 (by omega)).trans HZ2.out)
    have HSZ3 := Lib.hid hO.size
    have hszr : w.heap.size + 1 < wr.heap.size := hst.lt
    clear hrun hsb hst hO
    by_cases hlt : k < s.size
    · have j1 : (k : Int) < s.size := by omega
      have j0 : 0 ≤ (k : Int) := by omega
      have b0 := byteZ_eq s k hlt
      have hlt2 : k < s.data.toList.length := by rw [HSL.out]; exact hlt
      have hbz := byte_at hlt2
      have HLT := Lib.hid hlt
      by_cases hx : s.data.toList[k] = 10
      · have q1 : (byteZ s k != 10) = false := by
          rw [hbz, show (s.data.toList[k]'hlt2) = 10 from hx]; rfl
        have HNL := Lib.hid (runL_nl_cur (t := t) (p := f) (cur := (s.data.toList.take k).drop f) rfl hlt2 hx)
        rw [← HRUN.out] at HNL
        have HEX := Lib.hid (ext_piece s f k)
        have hcl : ((s.data.toList.take k).drop f).length = k - f := by rw [List.length_drop, List.length_take]; omega
        have j3 : (0 : Int) ≤ f := by omega
        have j4 : (f : Int) ≤ k := by omega
        have j5 : (k : Int) ≤ s.size := by omega
        have hse : (s.extract f k).size ≤ 4000 := by rw [ByteArray.size_extract]; omega
        have HCL := Lib.hid (show f + ((s.data.toList.take k).drop f).length + 1 = k + 1 by omega)
        rw [← HEX.out, HCL.out] at HNL
        have HC := Lib.hid (rline_any (w.heap.size + 2) (w.heap.size + 1) t vt vp vq vb (s.extract f k) wr HSTT.out (by have := HSZ3.out; have := HSZ2.out; omega) HSB.out hl0 (by omega) hse)
        have HRLN := Lib.hid (ref_line (t := t) (ref_words_sp (s.extract f k)) (words_ne _) hl0)
        have HBD := Lib.hid (fun h => line_bd (t := t) (ws := wordsB (s.extract f k)) HSB.out h)
        generalize lineZ t (wordsB (s.extract f k)) = q at *
        generalize refLine t (wordsB (s.extract f k)) = rq at *
        clear hx hbz hcl hse
        generalize byteZ s k = y at *
        go_wp2_with fail
        refine HC.out.mono ?_
        rintro e w5 ⟨hO5, hcase⟩
        have HO5 := Lib.hid (HOO.out.trans' hO5 (fun i hi e => by
          rcases e with e | e | e | e | e
          · omega
          · have := ownR_ge HSTT.out.tiers e; omega
          · have := ownR_ge HSTT.out.places e; omega
          · have := ownR_ge HSTT.out.quotas e; omega
          · have := ownR_ge HSTT.out.bars e; omega))
        clear hO5
        rcases hcase with ⟨hz, rfl, vt', vp', vq', vb', hst'⟩ | ⟨hz, rfl⟩
        · have hq := HRLN.out.1 hz
          have HBD2 := Lib.hid (HBD.out (by rw [hq]))
          rw [hq] at HNL HBD2
          have HST' := Lib.hid hst'
          have HNN := Lib.hid (show RR = runL rq.2 (k + 1) [] (s.data.toList.drop (k + 1)) by have := HNL.out; rwa [if_pos rfl] at this)
          clear hst' hz hq HBD HRLN HNL
          go_wp2_with fail
          go_roundw
          case rel =>
            have h1 := HNN.out
            refine ⟨k + 1, k + 1, rq.2, vt', vp', vq', vb', by go_num, by go_num, HLT.out, Nat.le_refl _, ?_, HBD2.out.1, ?_, ?_, HST'.out, HO5.out⟩
            · rw [h1, List.drop_of_length_le (l := List.take (k + 1) s.data.toList) (by rw [List.length_take]; omega)]
            · have := HBD2.out.2; omega
            · have := HBD2.out.2; omega
          case measure => simp [intOf]; have := HLT.out; omega
        · have hq := HRLN.out.2 hz
          have h1 := HNL.out
          rw [if_neg (by rw [hq]; exact hz), hq] at h1
          have HPV := Lib.hid (show parseZ s = (rq.1, f, dr0) by rw [HQ.out, h1]; exact if_neg hz)
          have i3 : (rq.1 != 0) = true := bne_iff_ne.2 hz
          have HZ5 := Lib.hid (show w5.heap[w.heap.size]? = _ from (HO5.out.block _ (Array.getElem?_eq_some_iff.1 HZ2.out).1 (by omega)).trans HZ2.out)
          have hsz5 := HO5.out.size
          clear hz hq h1
          go_wp2_with (first | (refine wpList_store_row rfl 33 _ _ rfl w.heap.size zeroD rfl rfl 33 _ HZ5.out Tryz.infoDr rfl zeroD_one ?_))
          refine bodyPost_ret (results_rparse (setRow_heap _ _ _ _ _ _ HZ5.out) rfl rfl rfl rfl) rfl ?_
          rw [HPV.out]
          exact ⟨_, _, _, _, rfl, dr0_own _ _, (HOT.out.trans' HO5.out (fun i hi e => by omega)).setRow (Nat.le_refl _) _⟩
      · have q1 : (byteZ s k != 10) = true := by
          rw [hbz, bne_iff_ne]
          intro e
          exact hx (UInt8.toNat_inj.1 (by show s.data.toList[k].toNat = 10; omega))
        have HST := Lib.hid (runL_snoc_cur (t := t) (p := f) rfl rfl hlt2 hf hx)
        rw [← HRUN.out] at HST
        clear hx hbz
        generalize byteZ s k = y at *
        go_wp2_with fail
        go_roundw
        case rel => exact ⟨k + 1, f, t, vt, vp, vq, vb, by go_num, rfl, HLT.out, by omega, HST.out, HSB.out, hl0, by omega, HSTT.out, HOO.out⟩
        case measure => simp [intOf]; have := HLT.out; omega
    · obtain rfl : k = s.size := by omega
      have j1 : ¬ (s.size : Int) < s.size := by omega
      have hend : RR = if (s.data.toList.take s.size).drop f = [] ∧ 4 ≤ t.lines then (0, 0, t) else (12, f, t) := by
        have h1 := HRUN.out
        rw [List.drop_of_length_le (l := s.data.toList) (by rw [HSL.out]; omega)] at h1
        exact h1
      have hcl : ((s.data.toList.take s.size).drop f).length = s.size - f := by rw [List.length_drop, List.length_take, HSL.out]; omega
      have hemp : (s.data.toList.take s.size).drop f = [] ↔ f = s.size := by
        rw [← List.length_eq_zero_iff, hcl]; omega
      have k13 : wr.cell? ⟨w.heap.size + 1, 13, none⟩ = some (.int .i64 t.lines) := HSTT.out.cell 13 rfl
      have HE1 := Lib.hid (fun (h1 : f = s.size) (h2 : 4 ≤ t.lines) => show parseZ s = (0, 0, t.d) by
        have e : RR = (0, 0, t) := hend.trans (if_pos ⟨hemp.2 h1, h2⟩)
        rw [HQ.out, e]; rfl)
      have HE2 := Lib.hid (fun (h1 : ¬ (f = s.size ∧ 4 ≤ t.lines)) => show parseZ s = (12, f, dr0) by
        have e : RR = (12, f, t) := hend.trans (if_neg (fun e => h1 ⟨hemp.1 e.1, e.2⟩))
        rw [HQ.out, e]; rfl)
      clear hend hcl hemp HQ HRUN
      by_cases hfs : f = s.size
      · subst hfs
        have i2 : ¬ (s.size : Int) < s.size := by omega
        by_cases h4 : 4 ≤ t.lines
        · have i3 : ¬ t.lines < 4 := by omega
          have HPV := Lib.hid (HE1.out rfl h4)
          obtain ⟨at1, ct, rfl⟩ := slice_of_own HSTT.out.tiers
          obtain ⟨ap1, cp, rfl⟩ := slice_of_own HSTT.out.places
          obtain ⟨aq1, cq, rfl⟩ := slice_of_own HSTT.out.quotas
          obtain ⟨ab1, cb, rfl⟩ := slice_of_own HSTT.out.bars
          have c0 : wr.cell? ⟨w.heap.size + 1, 0, none⟩ = some (Value.string t.d.name) := HSTT.out.cell 0 rfl
          have c1 : wr.cell? ⟨w.heap.size + 1, 1, none⟩ = some (Value.int .i64 t.d.kind) := HSTT.out.cell 1 rfl
          have c2 : wr.cell? ⟨w.heap.size + 1, 2, none⟩ = some (Value.int .i64 t.d.round) := HSTT.out.cell 2 rfl
          have c3 : wr.cell? ⟨w.heap.size + 1, 3, none⟩ = some (Value.int .i64 t.d.price) := HSTT.out.cell 3 rfl
          have c4 : wr.cell? ⟨w.heap.size + 1, 4, none⟩ = some (Value.int .i64 t.d.pool) := HSTT.out.cell 4 rfl
          have c5 : wr.cell? ⟨w.heap.size + 1, 5, none⟩ = some (Value.int .i64 t.d.pick) := HSTT.out.cell 5 rfl
          have c6 : wr.cell? ⟨w.heap.size + 1, 6, none⟩ = some (.slice at1 t.d.tiers.length ct) := HSTT.out.cell 6 rfl
          have c7 : wr.cell? ⟨w.heap.size + 1, 7, none⟩ = some (Value.bool t.d.roll) := HSTT.out.cell 7 rfl
          have c8 : wr.cell? ⟨w.heap.size + 1, 8, none⟩ = some (.slice ap1 t.d.places.length cp) := HSTT.out.cell 8 rfl
          have c9 : wr.cell? ⟨w.heap.size + 1, 9, none⟩ = some (Value.int .i64 t.d.cls) := HSTT.out.cell 9 rfl
          have c10 : wr.cell? ⟨w.heap.size + 1, 10, none⟩ = some (Value.int .i64 t.d.size) := HSTT.out.cell 10 rfl
          have c11 : wr.cell? ⟨w.heap.size + 1, 11, none⟩ = some (.slice aq1 t.d.quotas.length cq) := HSTT.out.cell 11 rfl
          have c12 : wr.cell? ⟨w.heap.size + 1, 12, none⟩ = some (.slice ab1 t.d.barred.length cb) := HSTT.out.cell 12 rfl
          have HD := Lib.hid (show DrOwn (w.heap.size + 2) wr t.d (.slice at1 t.d.tiers.length ct) (.slice ap1 t.d.places.length cp) (.slice aq1 t.d.quotas.length cq) (.slice ab1 t.d.barred.length cb) from ⟨HSTT.out.tiers, HSTT.out.places, HSTT.out.quotas, HSTT.out.bars⟩)
          have HON := Lib.hid (onlyR_row (S := fun k => k = w.heap.size) (Only.refl _ wr) (.inl rfl) #[.string t.d.name, .int .i64 t.d.kind, .int .i64 t.d.round, .int .i64 t.d.price, .int .i64 t.d.pool, .int .i64 t.d.pick, .slice at1 t.d.tiers.length ct, .bool t.d.roll, .slice ap1 t.d.places.length cp, .int .i64 t.d.cls, .int .i64 t.d.size, .slice aq1 t.d.quotas.length cq, .slice ab1 t.d.barred.length cb])
          clear h4 HE1 HE2
          go_wp2_with (first | (refine wpList_store_row rfl 33 _ _ rfl w.heap.size #[.string t.d.name, .int .i64 t.d.kind, .int .i64 t.d.round, .int .i64 t.d.price, .int .i64 t.d.pool, .int .i64 t.d.pick, .slice at1 t.d.tiers.length ct, .bool t.d.roll, .slice ap1 t.d.places.length cp, .int .i64 t.d.cls, .int .i64 t.d.size, .slice aq1 t.d.quotas.length cq, .slice ab1 t.d.barred.length cb] rfl rfl 33 _ HZR.out Tryz.infoDr rfl (by simp [Value.oneCell']) ?_))
          refine bodyPost_ret (results_rparse (setRow_heap _ _ _ _ _ _ HZR.out) rfl rfl rfl rfl) rfl ?_
          rw [HPV.out]
          exact ⟨_, _, _, _, rfl, (HD.out.only HON.out (fun k hk e => by omega)).base (by omega), (HOT.out.trans' HOO.out (fun i hi e => by omega)).trans' HON.out (fun i hi e => by omega)⟩
        · have i3 : t.lines < 4 := by omega
          have HPV := Lib.hid (HE2.out (fun e => h4 e.2))
          clear h4 HE1 HE2
          go_wp2_with (first | (refine wpList_store_row rfl 33 _ _ rfl w.heap.size zeroD rfl rfl 33 _ HZR.out Tryz.infoDr rfl zeroD_one ?_))
          refine bodyPost_ret (results_rparse (setRow_heap _ _ _ _ _ _ HZR.out) rfl rfl rfl rfl) rfl ?_
          rw [HPV.out]
          exact ⟨_, _, _, _, rfl, dr0_own _ _, (HOT.out.trans' HOO.out (fun i hi e => by omega)).setRow (Nat.le_refl _) _⟩
      · have i2 : (f : Int) < s.size := by omega
        have HPV := Lib.hid (HE2.out (fun e => hfs e.1))
        clear hfs HE1 HE2
        go_wp2_with (first | (refine wpList_store_row rfl 33 _ _ rfl w.heap.size zeroD rfl rfl 33 _ HZR.out Tryz.infoDr rfl zeroD_one ?_))
        refine bodyPost_ret (results_rparse (setRow_heap _ _ _ _ _ _ HZR.out) rfl rfl rfl rfl) rfl ?_
        rw [HPV.out]
        exact ⟨_, _, _, _, rfl, dr0_own _ _, (HOT.out.trans' HOO.out (fun i hi e => by omega)).setRow (Nat.le_refl _) _⟩
theorem rparse13_any (s : ByteArray) (w : World) (hs : s.size ≤ 281474976710656) :
    Calls Tryz.prog 43 #[.string s] w fun e w' => ParseRu (parseZ s) w e w' := by
  by_cases h : s.size ≤ 4000
  · exact rparse13_small s w h
  · exact rparse13_big s w h hs
end Go.Proofs.YteikkpiginfbkaaGreatDoor

namespace Go.Proofs.YteikkpiginfbkaaGreatDoor
open Go.RowKit

theorem eqI_any (b1 b2 : Nat) (a1 a2 : Option Addr) (c1 c2 : Nat) (xs ys : List Int) (bb : Bool) (w : World) (h1 : w.ownsRow b1 3 1 (.slice a1 xs.length c1) xs.length (irow xs)) (h2 : w.ownsRow b2 3 1 (.slice a2 ys.length c2) ys.length (irow ys)) (hl1 : xs.length ≤ 1000000) (hb : bb = true ↔ xs = ys) :
    Calls Tryz.prog 38 #[.slice a1 xs.length c1, .slice a2 ys.length c2] w fun e w' => e = .returned (.bool bb) ∧ Only (fun _ => False) w w' := by
  by_cases hl : xs.length = ys.length
  · by_cases h0 : xs.length = 0
    · rw [h0]
      refine (Tryz.slices_Equal_int_empty a1 a2 c1 ys.length c2 w (by omega)).mono ?_
      rintro e w' ⟨rfl, rfl⟩
      have e1 : xs = [] := List.length_eq_zero_iff.1 h0
      have e2 : ys = [] := List.length_eq_zero_iff.1 (by omega)
      have : bb = true := hb.2 (by rw [e1, e2])
      rw [this, show decide (ys.length = 0) = true by simp [e2]]
      exact ⟨rfl, Only.refl _ _⟩
    · have hu : ∀ (l : List Int) j, j < l.length → (irow l)[j]? = some (.int .i64 (l.getD j 0)) := fun l j hj => by unfold irow; simp [List.getD, hj]
      obtain ⟨g, cap, hv, _⟩ := own_cell h1 (hu xs 0 (by omega))
      obtain ⟨f, cap2, hv2, _⟩ := own_cell h2 (hu ys 0 (by omega))
      simp only [Value.slice.injEq, true_and] at hv hv2
      obtain ⟨rfl, rfl⟩ := hv
      obtain ⟨rfl, rfl⟩ := hv2
      refine (Tryz.slices_Equal_int g 0 xs.length c1 f 0 ys.length c2 xs ys w (Nat.le_refl _) (Nat.le_refl _) (by omega) (by omega) (fun j hj => ?_) (fun j hj => ?_)).mono ?_
      · obtain ⟨g', cap', hv', _, _, _, hcell⟩ := own_cell h1 (hu xs j hj)
        simp only [Value.slice.injEq, Option.some.injEq, Addr.mk.injEq, and_true, true_and] at hv'
        obtain ⟨rfl, rfl⟩ := hv'
        rw [Nat.zero_add]; exact hcell
      · obtain ⟨g', cap', hv', _, _, _, hcell⟩ := own_cell h2 (hu ys j hj)
        simp only [Value.slice.injEq, Option.some.injEq, Addr.mk.injEq, and_true, true_and] at hv'
        obtain ⟨rfl, rfl⟩ := hv'
        rw [Nat.zero_add]; exact hcell
      rintro e w' ⟨rfl, q, rfl⟩
      refine ⟨?_, (Only.refl _ w).drewN q⟩
      congr 2
      rw [List.take_length, List.take_length, Bool.eq_iff_iff, beq_iff_eq]
      exact hb.symm
  · refine (Tryz.slices_Equal_int_lens a1 a2 xs.length c1 ys.length c2 w hl).mono ?_
    rintro e w' ⟨rfl, rfl⟩
    obtain rfl : bb = false := by
      cases hbb : bb with
      | false => rfl
      | true => exact absurd (congrArg List.length (hb.1 hbb)) hl
    exact ⟨rfl, Only.refl _ _⟩
theorem dr_ext {a b : Dr} (h0 : a.name = b.name) (h1 : a.kind = b.kind) (h2 : a.round = b.round) (h3 : a.price = b.price) (h4 : a.pool = b.pool) (h5 : a.pick = b.pick) (h6 : a.tiers = b.tiers) (h7 : a.roll = b.roll) (h8 : a.places = b.places) (h9 : a.cls = b.cls) (h10 : a.size = b.size) (h11 : a.quotas = b.quotas) (h12 : a.barred = b.barred) : a = b := by
  cases a; cases b; simp only at *; subst h0 h1 h2 h3 h4 h5 h6 h7 h8 h9 h10 h11 h12; rfl
/-- Lists of a draw that are not too long. -/
def DrB (d : Dr) : Prop := d.tiers.length ≤ 1000000 ∧ d.places.length ≤ 1000000 ∧ d.quotas.length ≤ 1000000 ∧ d.barred.length ≤ 1000000
set_option maxRecDepth 100000 in
set_option maxHeartbeats 100000000 in
theorem equal_any (a b : Dr) (vt vp vq vb ut up uq ub : Value) (bb : Bool) (base1 base2 : Nat) (w : World) (ha : DrOwn base1 w a vt vp vq vb) (hb : DrOwn base2 w b ut up uq ub) (hba : DrB a) (hbb : DrB b) (he : bb = true ↔ a = b) :
    Calls Tryz.prog 15 #[.agg (drCells a vt vp vq vb), .agg (drCells b ut up uq ub)] w fun e w' => e = .returned (.bool bb) ∧ Only (fun _ => False) w w' := by
  obtain ⟨at1, ct, rfl⟩ := slice_of_own ha.tiers
  obtain ⟨ap1, cp, rfl⟩ := slice_of_own ha.places
  obtain ⟨aq1, cq, rfl⟩ := slice_of_own ha.quotas
  obtain ⟨ab1, cb, rfl⟩ := slice_of_own ha.bars
  obtain ⟨bt1, dt, rfl⟩ := slice_of_own hb.tiers
  obtain ⟨bp1, dp, rfl⟩ := slice_of_own hb.places
  obtain ⟨bq1, dq, rfl⟩ := slice_of_own hb.quotas
  obtain ⟨bb1, db, rfl⟩ := slice_of_own hb.bars
  have HA := Lib.hid ha
  have HB := Lib.hid hb
  have HE := Lib.hid he
  have HBA := Lib.hid hba
  have HBB := Lib.hid hbb
  have HY1 := Lib.hid (heap_alloc_last w (.cells (drCells a (.slice at1 a.tiers.length ct) (.slice ap1 a.places.length cp) (.slice aq1 a.quotas.length cq) (.slice ab1 a.barred.length cb)) 33))
  have HY2 := Lib.hid (heap_alloc_last (w.alloc (.cells (drCells a (.slice at1 a.tiers.length ct) (.slice ap1 a.places.length cp) (.slice aq1 a.quotas.length cq) (.slice ab1 a.barred.length cb)) 33)) (.cells (drCells b (.slice bt1 b.tiers.length dt) (.slice bp1 b.places.length dp) (.slice bq1 b.quotas.length dq) (.slice bb1 b.barred.length db)) 33))
  have HO2 := Lib.hid ((Only.refl (fun _ => False) (w.alloc (.cells (drCells a (.slice at1 a.tiers.length ct) (.slice ap1 a.places.length cp) (.slice aq1 a.quotas.length cq) (.slice ab1 a.barred.length cb)) 33))).alloc (.cells (drCells b (.slice bt1 b.tiers.length dt) (.slice bp1 b.places.length dp) (.slice bq1 b.quotas.length dq) (.slice bb1 b.barred.length db)) 33))
  have HO := Lib.hid (((Only.refl (fun _ => False) w).alloc (.cells (drCells a (.slice at1 a.tiers.length ct) (.slice ap1 a.places.length cp) (.slice aq1 a.quotas.length cq) (.slice ab1 a.barred.length cb)) 33)).alloc (.cells (drCells b (.slice bt1 b.tiers.length dt) (.slice bp1 b.places.length dp) (.slice bq1 b.quotas.length dq) (.slice bb1 b.barred.length db)) 33))
  have HZ1 := Lib.hid (row_still HO2.out HY1.out)
  have HZ2 := HY2
  rw [World.size_alloc] at HZ2
  clear ha hb he hba hbb HY1 HY2 HO2
  unfold drCells at *
  go_enter Tryz.func15, Tryz.ntmps15
  go_upto_region 1 with (fail)
  generalize World.alloc (World.alloc w _) _ = w1 at *
  have c0 : w1.cell? ⟨w.heap.size, 0, none⟩ = some (Value.string a.name) := cell_of_row _ _ 0 _ _ _ HZ1.out
  have e0 : w1.cell? ⟨w.heap.size + 1, 0, none⟩ = some (Value.string b.name) := cell_of_row _ _ 0 _ _ _ HZ2.out
  have c1 : w1.cell? ⟨w.heap.size, 1, none⟩ = some (Value.int .i64 a.kind) := cell_of_row _ _ 1 _ _ _ HZ1.out
  have e1 : w1.cell? ⟨w.heap.size + 1, 1, none⟩ = some (Value.int .i64 b.kind) := cell_of_row _ _ 1 _ _ _ HZ2.out
  have c2 : w1.cell? ⟨w.heap.size, 2, none⟩ = some (Value.int .i64 a.round) := cell_of_row _ _ 2 _ _ _ HZ1.out
  have e2 : w1.cell? ⟨w.heap.size + 1, 2, none⟩ = some (Value.int .i64 b.round) := cell_of_row _ _ 2 _ _ _ HZ2.out
  have c3 : w1.cell? ⟨w.heap.size, 3, none⟩ = some (Value.int .i64 a.price) := cell_of_row _ _ 3 _ _ _ HZ1.out
  have e3 : w1.cell? ⟨w.heap.size + 1, 3, none⟩ = some (Value.int .i64 b.price) := cell_of_row _ _ 3 _ _ _ HZ2.out
  have c4 : w1.cell? ⟨w.heap.size, 4, none⟩ = some (Value.int .i64 a.pool) := cell_of_row _ _ 4 _ _ _ HZ1.out
  have e4 : w1.cell? ⟨w.heap.size + 1, 4, none⟩ = some (Value.int .i64 b.pool) := cell_of_row _ _ 4 _ _ _ HZ2.out
  have c5 : w1.cell? ⟨w.heap.size, 5, none⟩ = some (Value.int .i64 a.pick) := cell_of_row _ _ 5 _ _ _ HZ1.out
  have e5 : w1.cell? ⟨w.heap.size + 1, 5, none⟩ = some (Value.int .i64 b.pick) := cell_of_row _ _ 5 _ _ _ HZ2.out
  have c6 : w1.cell? ⟨w.heap.size, 6, none⟩ = some (Value.slice at1 a.tiers.length ct) := cell_of_row _ _ 6 _ _ _ HZ1.out
  have e6 : w1.cell? ⟨w.heap.size + 1, 6, none⟩ = some (Value.slice bt1 b.tiers.length dt) := cell_of_row _ _ 6 _ _ _ HZ2.out
  have c7 : w1.cell? ⟨w.heap.size, 7, none⟩ = some (Value.bool a.roll) := cell_of_row _ _ 7 _ _ _ HZ1.out
  have e7 : w1.cell? ⟨w.heap.size + 1, 7, none⟩ = some (Value.bool b.roll) := cell_of_row _ _ 7 _ _ _ HZ2.out
  have c8 : w1.cell? ⟨w.heap.size, 8, none⟩ = some (Value.slice ap1 a.places.length cp) := cell_of_row _ _ 8 _ _ _ HZ1.out
  have e8 : w1.cell? ⟨w.heap.size + 1, 8, none⟩ = some (Value.slice bp1 b.places.length dp) := cell_of_row _ _ 8 _ _ _ HZ2.out
  have c9 : w1.cell? ⟨w.heap.size, 9, none⟩ = some (Value.int .i64 a.cls) := cell_of_row _ _ 9 _ _ _ HZ1.out
  have e9 : w1.cell? ⟨w.heap.size + 1, 9, none⟩ = some (Value.int .i64 b.cls) := cell_of_row _ _ 9 _ _ _ HZ2.out
  have c10 : w1.cell? ⟨w.heap.size, 10, none⟩ = some (Value.int .i64 a.size) := cell_of_row _ _ 10 _ _ _ HZ1.out
  have e10 : w1.cell? ⟨w.heap.size + 1, 10, none⟩ = some (Value.int .i64 b.size) := cell_of_row _ _ 10 _ _ _ HZ2.out
  have c11 : w1.cell? ⟨w.heap.size, 11, none⟩ = some (Value.slice aq1 a.quotas.length cq) := cell_of_row _ _ 11 _ _ _ HZ1.out
  have e11 : w1.cell? ⟨w.heap.size + 1, 11, none⟩ = some (Value.slice bq1 b.quotas.length dq) := cell_of_row _ _ 11 _ _ _ HZ2.out
  have c12 : w1.cell? ⟨w.heap.size, 12, none⟩ = some (Value.slice ab1 a.barred.length cb) := cell_of_row _ _ 12 _ _ _ HZ1.out
  have e12 : w1.cell? ⟨w.heap.size + 1, 12, none⟩ = some (Value.slice bb1 b.barred.length db) := cell_of_row _ _ 12 _ _ _ HZ2.out
  by_cases m0 : a.name = b.name
  · by_cases m1 : a.kind = b.kind
    · by_cases m2 : a.round = b.round
      · by_cases m3 : a.price = b.price
        · by_cases m4 : a.pool = b.pool
          · by_cases m5 : a.pick = b.pick
            · obtain ⟨r6, hr6⟩ : ∃ r : Bool, r = true ↔ a.tiers = b.tiers := by
                by_cases h : a.tiers = b.tiers
                · exact ⟨true, by simp [h]⟩
                · exact ⟨false, by simp [h]⟩
              have p0 : (a.name.toList == b.name.toList) = true := by rw [m0]; simp
              have p1 : (a.kind == b.kind) = true := by rw [m1]; simp
              have p2 : (a.round == b.round) = true := by rw [m2]; simp
              have p3 : (a.price == b.price) = true := by rw [m3]; simp
              have p4 : (a.pool == b.pool) = true := by rw [m4]; simp
              have p5 : (a.pick == b.pick) = true := by rw [m5]; simp
              have HM6 := Lib.hid hr6
              have HMS := Lib.hid (show True from trivial)
              have HH0 := Lib.hid m0
              clear m0
              have HH1 := Lib.hid m1
              clear m1
              have HH2 := Lib.hid m2
              clear m2
              have HH3 := Lib.hid m3
              clear m3
              have HH4 := Lib.hid m4
              clear m4
              have HH5 := Lib.hid m5
              clear m5
              clear hr6 HMS
              go_wp2_with fail
              refine (eqT_any _ _ _ _ _ _ a.tiers b.tiers r6 _ (HA.out.only HO.out (fun _ _ h => h)).tiers (HB.out.only HO.out (fun _ _ h => h)).tiers HM6.out).mono ?_
              rintro e w1n ⟨rfl, hOn⟩
              have HO := Lib.hid (HO.out.trans hOn)
              have HZ1 := Lib.hid (row_still hOn HZ1.out)
              have HZ2 := Lib.hid (row_still hOn HZ2.out)
              clear hOn c0 e0 c1 e1 c2 e2 c3 e3 c4 e4 c5 e5 c6 e6 c7 e7 c8 e8 c9 e9 c10 e10 c11 e11 c12 e12 p0 p1 p2 p3 p4 p5
              cases r6
              · have m6 : ¬ a.tiers = b.tiers := fun h => by have := HM6.out.2 h; cases this
                obtain rfl : bb = false := by
                  cases hbb : bb with
                  | false => rfl
                  | true => exact absurd (by rw [HE.out.1 hbb]) m6
                go_wp2_with fail
                go_ret
                exact ⟨rfl, HO.out⟩
              · have c7 : w1n.cell? ⟨w.heap.size, 7, none⟩ = some (Value.bool a.roll) := cell_of_row _ _ 7 _ _ _ HZ1.out
                have e7 : w1n.cell? ⟨w.heap.size + 1, 7, none⟩ = some (Value.bool b.roll) := cell_of_row _ _ 7 _ _ _ HZ2.out
                have c8 : w1n.cell? ⟨w.heap.size, 8, none⟩ = some (Value.slice ap1 a.places.length cp) := cell_of_row _ _ 8 _ _ _ HZ1.out
                have e8 : w1n.cell? ⟨w.heap.size + 1, 8, none⟩ = some (Value.slice bp1 b.places.length dp) := cell_of_row _ _ 8 _ _ _ HZ2.out
                have c9 : w1n.cell? ⟨w.heap.size, 9, none⟩ = some (Value.int .i64 a.cls) := cell_of_row _ _ 9 _ _ _ HZ1.out
                have e9 : w1n.cell? ⟨w.heap.size + 1, 9, none⟩ = some (Value.int .i64 b.cls) := cell_of_row _ _ 9 _ _ _ HZ2.out
                have c10 : w1n.cell? ⟨w.heap.size, 10, none⟩ = some (Value.int .i64 a.size) := cell_of_row _ _ 10 _ _ _ HZ1.out
                have e10 : w1n.cell? ⟨w.heap.size + 1, 10, none⟩ = some (Value.int .i64 b.size) := cell_of_row _ _ 10 _ _ _ HZ2.out
                have c11 : w1n.cell? ⟨w.heap.size, 11, none⟩ = some (Value.slice aq1 a.quotas.length cq) := cell_of_row _ _ 11 _ _ _ HZ1.out
                have e11 : w1n.cell? ⟨w.heap.size + 1, 11, none⟩ = some (Value.slice bq1 b.quotas.length dq) := cell_of_row _ _ 11 _ _ _ HZ2.out
                have c12 : w1n.cell? ⟨w.heap.size, 12, none⟩ = some (Value.slice ab1 a.barred.length cb) := cell_of_row _ _ 12 _ _ _ HZ1.out
                have e12 : w1n.cell? ⟨w.heap.size + 1, 12, none⟩ = some (Value.slice bb1 b.barred.length db) := cell_of_row _ _ 12 _ _ _ HZ2.out
                have HH6 := Lib.hid (HM6.out.1 rfl)
                clear HM6
                by_cases m7 : a.roll = b.roll
                · obtain ⟨r8, hr8⟩ : ∃ r : Bool, r = true ↔ a.places = b.places := by
                    by_cases h : a.places = b.places
                    · exact ⟨true, by simp [h]⟩
                    · exact ⟨false, by simp [h]⟩
                  have p7 : (a.roll == b.roll) = true := by rw [m7]; simp
                  have HM8 := Lib.hid hr8
                  have HMS := Lib.hid (show True from trivial)
                  have HH7 := Lib.hid m7
                  clear m7
                  clear hr8 HMS
                  go_wp2_with fail
                  refine (eqP_any _ _ _ _ _ _ a.places b.places r8 _ (HA.out.only HO.out (fun _ _ h => h)).places (HB.out.only HO.out (fun _ _ h => h)).places HM8.out).mono ?_
                  rintro e w1nn ⟨rfl, hOn⟩
                  have HO := Lib.hid (HO.out.trans hOn)
                  have HZ1 := Lib.hid (row_still hOn HZ1.out)
                  have HZ2 := Lib.hid (row_still hOn HZ2.out)
                  clear hOn c7 e7 c8 e8 c9 e9 c10 e10 c11 e11 c12 e12 p7
                  cases r8
                  · have m8 : ¬ a.places = b.places := fun h => by have := HM8.out.2 h; cases this
                    obtain rfl : bb = false := by
                      cases hbb : bb with
                      | false => rfl
                      | true => exact absurd (by rw [HE.out.1 hbb]) m8
                    go_wp2_with fail
                    go_ret
                    exact ⟨rfl, HO.out⟩
                  · have c9 : w1nn.cell? ⟨w.heap.size, 9, none⟩ = some (Value.int .i64 a.cls) := cell_of_row _ _ 9 _ _ _ HZ1.out
                    have e9 : w1nn.cell? ⟨w.heap.size + 1, 9, none⟩ = some (Value.int .i64 b.cls) := cell_of_row _ _ 9 _ _ _ HZ2.out
                    have c10 : w1nn.cell? ⟨w.heap.size, 10, none⟩ = some (Value.int .i64 a.size) := cell_of_row _ _ 10 _ _ _ HZ1.out
                    have e10 : w1nn.cell? ⟨w.heap.size + 1, 10, none⟩ = some (Value.int .i64 b.size) := cell_of_row _ _ 10 _ _ _ HZ2.out
                    have c11 : w1nn.cell? ⟨w.heap.size, 11, none⟩ = some (Value.slice aq1 a.quotas.length cq) := cell_of_row _ _ 11 _ _ _ HZ1.out
                    have e11 : w1nn.cell? ⟨w.heap.size + 1, 11, none⟩ = some (Value.slice bq1 b.quotas.length dq) := cell_of_row _ _ 11 _ _ _ HZ2.out
                    have c12 : w1nn.cell? ⟨w.heap.size, 12, none⟩ = some (Value.slice ab1 a.barred.length cb) := cell_of_row _ _ 12 _ _ _ HZ1.out
                    have e12 : w1nn.cell? ⟨w.heap.size + 1, 12, none⟩ = some (Value.slice bb1 b.barred.length db) := cell_of_row _ _ 12 _ _ _ HZ2.out
                    have HH8 := Lib.hid (HM8.out.1 rfl)
                    clear HM8
                    by_cases m9 : a.cls = b.cls
                    · by_cases m10 : a.size = b.size
                      · obtain ⟨r11, hr11⟩ : ∃ r : Bool, r = true ↔ a.quotas = b.quotas := by
                          by_cases h : a.quotas = b.quotas
                          · exact ⟨true, by simp [h]⟩
                          · exact ⟨false, by simp [h]⟩
                        have p9 : (a.cls == b.cls) = true := by rw [m9]; simp
                        have p10 : (a.size == b.size) = true := by rw [m10]; simp
                        have HM11 := Lib.hid hr11
                        have HMS := Lib.hid (show True from trivial)
                        have HH9 := Lib.hid m9
                        clear m9
                        have HH10 := Lib.hid m10
                        clear m10
                        clear hr11 HMS
                        go_wp2_with fail
                        refine (eqQ_any _ _ _ _ _ _ a.quotas b.quotas r11 _ (HA.out.only HO.out (fun _ _ h => h)).quotas (HB.out.only HO.out (fun _ _ h => h)).quotas HM11.out).mono ?_
                        rintro e w1nnn ⟨rfl, hOn⟩
                        have HO := Lib.hid (HO.out.trans hOn)
                        have HZ1 := Lib.hid (row_still hOn HZ1.out)
                        have HZ2 := Lib.hid (row_still hOn HZ2.out)
                        clear hOn c9 e9 c10 e10 c11 e11 c12 e12 p9 p10
                        cases r11
                        · have m11 : ¬ a.quotas = b.quotas := fun h => by have := HM11.out.2 h; cases this
                          obtain rfl : bb = false := by
                            cases hbb : bb with
                            | false => rfl
                            | true => exact absurd (by rw [HE.out.1 hbb]) m11
                          go_wp2_with fail
                          go_ret
                          exact ⟨rfl, HO.out⟩
                        · have c12 : w1nnn.cell? ⟨w.heap.size, 12, none⟩ = some (Value.slice ab1 a.barred.length cb) := cell_of_row _ _ 12 _ _ _ HZ1.out
                          have e12 : w1nnn.cell? ⟨w.heap.size + 1, 12, none⟩ = some (Value.slice bb1 b.barred.length db) := cell_of_row _ _ 12 _ _ _ HZ2.out
                          have HH11 := Lib.hid (HM11.out.1 rfl)
                          clear HM11
                          obtain ⟨r12, hr12⟩ : ∃ r : Bool, r = true ↔ a.barred = b.barred := by
                            by_cases h : a.barred = b.barred
                            · exact ⟨true, by simp [h]⟩
                            · exact ⟨false, by simp [h]⟩
                          have HM12 := Lib.hid hr12
                          have HMS := Lib.hid (show True from trivial)
                          clear hr12 HMS
                          go_wp2_with fail
                          refine (eqI_any _ _ _ _ _ _ a.barred b.barred r12 _ (HA.out.only HO.out (fun _ _ h => h)).bars (HB.out.only HO.out (fun _ _ h => h)).bars HBA.out.2.2.2 HM12.out).mono ?_
                          rintro e w1nnnn ⟨rfl, hOn⟩
                          have HO := Lib.hid (HO.out.trans hOn)
                          have HZ1 := Lib.hid (row_still hOn HZ1.out)
                          have HZ2 := Lib.hid (row_still hOn HZ2.out)
                          clear hOn c12 e12 
                          cases r12
                          · have m12 : ¬ a.barred = b.barred := fun h => by have := HM12.out.2 h; cases this
                            obtain rfl : bb = false := by
                              cases hbb : bb with
                              | false => rfl
                              | true => exact absurd (by rw [HE.out.1 hbb]) m12
                            go_wp2_with fail
                            go_ret
                            exact ⟨rfl, HO.out⟩
                          · have HH12 := Lib.hid (HM12.out.1 rfl)
                            clear HM12
                            obtain rfl : bb = true := HE.out.2 (dr_ext HH0.out HH1.out HH2.out HH3.out HH4.out HH5.out HH6.out HH7.out HH8.out HH9.out HH10.out HH11.out HH12.out)
                            go_wp2_with fail
                            go_ret
                            exact ⟨rfl, HO.out⟩
                      · obtain rfl : bb = false := by
                          cases hbb : bb with
                          | false => rfl
                          | true => exact absurd (by rw [HE.out.1 hbb]) m10
                        have p9 : (a.cls == b.cls) = true := by rw [m9]; simp
                        have p10 : (a.size == b.size) = false := by simpa using m10
                        clear m9 m10
                        go_wp2_with fail
                        go_ret
                        exact ⟨rfl, HO.out⟩
                    · obtain rfl : bb = false := by
                        cases hbb : bb with
                        | false => rfl
                        | true => exact absurd (by rw [HE.out.1 hbb]) m9
                      have p9 : (a.cls == b.cls) = false := by simpa using m9
                      clear m9
                      go_wp2_with fail
                      go_ret
                      exact ⟨rfl, HO.out⟩
                · obtain rfl : bb = false := by
                    cases hbb : bb with
                    | false => rfl
                    | true => exact absurd (by rw [HE.out.1 hbb]) m7
                  have p7 : (a.roll == b.roll) = false := by simpa using m7
                  clear m7
                  go_wp2_with fail
                  go_ret
                  exact ⟨rfl, HO.out⟩
            · obtain rfl : bb = false := by
                cases hbb : bb with
                | false => rfl
                | true => exact absurd (by rw [HE.out.1 hbb]) m5
              have p0 : (a.name.toList == b.name.toList) = true := by rw [m0]; simp
              have p1 : (a.kind == b.kind) = true := by rw [m1]; simp
              have p2 : (a.round == b.round) = true := by rw [m2]; simp
              have p3 : (a.price == b.price) = true := by rw [m3]; simp
              have p4 : (a.pool == b.pool) = true := by rw [m4]; simp
              have p5 : (a.pick == b.pick) = false := by simpa using m5
              clear m0 m1 m2 m3 m4 m5
              go_wp2_with fail
              go_ret
              exact ⟨rfl, HO.out⟩
          · obtain rfl : bb = false := by
              cases hbb : bb with
              | false => rfl
              | true => exact absurd (by rw [HE.out.1 hbb]) m4
            have p0 : (a.name.toList == b.name.toList) = true := by rw [m0]; simp
            have p1 : (a.kind == b.kind) = true := by rw [m1]; simp
            have p2 : (a.round == b.round) = true := by rw [m2]; simp
            have p3 : (a.price == b.price) = true := by rw [m3]; simp
            have p4 : (a.pool == b.pool) = false := by simpa using m4
            clear m0 m1 m2 m3 m4
            go_wp2_with fail
            go_ret
            exact ⟨rfl, HO.out⟩
        · obtain rfl : bb = false := by
            cases hbb : bb with
            | false => rfl
            | true => exact absurd (by rw [HE.out.1 hbb]) m3
          have p0 : (a.name.toList == b.name.toList) = true := by rw [m0]; simp
          have p1 : (a.kind == b.kind) = true := by rw [m1]; simp
          have p2 : (a.round == b.round) = true := by rw [m2]; simp
          have p3 : (a.price == b.price) = false := by simpa using m3
          clear m0 m1 m2 m3
          go_wp2_with fail
          go_ret
          exact ⟨rfl, HO.out⟩
      · obtain rfl : bb = false := by
          cases hbb : bb with
          | false => rfl
          | true => exact absurd (by rw [HE.out.1 hbb]) m2
        have p0 : (a.name.toList == b.name.toList) = true := by rw [m0]; simp
        have p1 : (a.kind == b.kind) = true := by rw [m1]; simp
        have p2 : (a.round == b.round) = false := by simpa using m2
        clear m0 m1 m2
        go_wp2_with fail
        go_ret
        exact ⟨rfl, HO.out⟩
    · obtain rfl : bb = false := by
        cases hbb : bb with
        | false => rfl
        | true => exact absurd (by rw [HE.out.1 hbb]) m1
      have p0 : (a.name.toList == b.name.toList) = true := by rw [m0]; simp
      have p1 : (a.kind == b.kind) = false := by simpa using m1
      clear m0 m1
      go_wp2_with fail
      go_ret
      exact ⟨rfl, HO.out⟩
  · obtain rfl : bb = false := by
      cases hbb : bb with
      | false => rfl
      | true => exact absurd (by rw [HE.out.1 hbb]) m0
    have p0 : (a.name.toList == b.name.toList) = false := by rw [Bool.eq_false_iff]; intro h; exact m0 (tlU_iff.1 h)
    clear m0
    go_wp2_with fail
    go_ret
    exact ⟨rfl, HO.out⟩
end Go.Proofs.YteikkpiginfbkaaGreatDoor

namespace Go.Proofs.YteikkpiginfbkaaGreatDoor
open Go.RowKit

theorem ptAt_is (l : List Int) {k : Nat} (h : k < l.length) : ptAt l k = l[k] := by simp [ptAt, List.getD, h]
theorem take_pt {xs ys : List Int} {k : Nat} (h : xs.take k = ys.take k) (h1 : k < xs.length) (h2 : k < ys.length) (he : ptAt xs k = ptAt ys k) : xs.take (k + 1) = ys.take (k + 1) :=
  take_eq_succ h h1 h2 (by rw [← ptAt_is xs h1, ← ptAt_is ys h2]; exact he)
theorem ne_pt {xs ys : List Int} {k : Nat} (he : ptAt xs k ≠ ptAt ys k) : xs ≠ ys := fun e => he (by rw [e])
theorem not_of_ne {a b : Bool} (h : ¬ a = b) : b = !a := by cases a <;> cases b <;> first | rfl | exact absurd rfl h
set_option maxRecDepth 100000 in
set_option maxHeartbeats 4000000 in
theorem rints13_any (a1 a2 : Option Addr) (c1 c2 : Nat) (xs ys : List Int) (bb : Bool) (w : World) (h1 : PtsAt w.heap.size w (.slice a1 xs.length c1) xs) (h2 : PtsAt w.heap.size w (.slice a2 ys.length c2) ys) (hb : bb = true ↔ xs = ys) (_hl1 : xs.length ≤ 1000000) :
    Calls Tryz.prog 40 #[.slice a1 xs.length c1, .slice a2 ys.length c2] w fun e w' => e = .returned (.bool bb) ∧ Only (fun _ => False) w w' := by
  have H1 := Lib.hid h1
  have H2 := Lib.hid h2
  have HB := Lib.hid hb
  clear h1 h2 hb
  go_enter Tryz.func40, Tryz.ntmps40
  by_cases hl : xs.length = ys.length
  · have HLN := Lib.hid hl
    have q1 : ((xs.length : Int) != ys.length) = false := by rw [hl]; simp
    clear hl
    go_wp2_with fail
    go_loopw [5] (fun iv wr => ∃ k : Nat, iv = .int .i64 k ∧ k ≤ xs.length ∧ xs.take k = ys.take k ∧ Only (fun _ => False) w wr) (fun iv _ => xs.length - (intOf iv).toNat)
    case atStart => exact ⟨0, rfl, Nat.zero_le _, rfl, Only.refl _ _⟩
    case round =>
      obtain ⟨k, rfl, hk, htk, hO⟩ := hrel
      have HTK := Lib.hid htk
      have HO := Lib.hid hO
      have HA := Lib.hid (PtsAt.only hO H1.out)
      have HC := Lib.hid (PtsAt.only hO H2.out)
      clear htk hO
      by_cases hlt : k < xs.length
      · have j1 : (k : Int) < xs.length := by omega
        have j2 : 0 ≤ (k : Int) := by omega
        have hlt2 : k < ys.length := by rw [← HLN.out]; exact hlt
        have j3 : (k : Int) < ys.length := by omega
        have HLT := Lib.hid hlt
        obtain ⟨b1, o1, rfl, hb1, _, hq1, hq2, d1⟩ := HA.out.cellAt hlt
        obtain ⟨b2, o2, rfl, hb2, _, hq3, hq4, d2⟩ := HC.out.cellAt hlt2
        have HNX := Lib.hid (fun (he : ptAt xs k = ptAt ys k) => take_pt HTK.out hlt hlt2 he)
        have HNE := Lib.hid (fun (he : ptAt xs k ≠ ptAt ys k) => show bb = false by
          cases hbb : bb with
          | false => rfl
          | true => exact absurd (HB.out.1 hbb) (ne_pt he))
        generalize ptAt xs k = y at *
        generalize ptAt ys k = z at *
        by_cases m : y = z
        · subst m
          have p : (y != y) = false := by simp
          have HG := Lib.hid (HNX.out rfl)
          go_wp2_with fail
          go_quiet (fail)
          go_wp2_with fail
          go_roundw
          case rel => exact ⟨k + 1, by go_num, HLT.out, HG.out, HO.out.drewN _⟩
          case measure => simp [intOf]; have := HLT.out; omega
        · obtain rfl := HNE.out m
          have p : (y != z) = true := bne_iff_ne.2 m
          clear m
          go_wp2_with fail
          go_quiet (fail)
          go_wp2_with fail
          go_ret
          exact ⟨rfl, HO.out.drewN _⟩
      · obtain rfl : k = xs.length := by omega
        have j1 : ¬ (xs.length : Int) < xs.length := by omega
        obtain rfl : bb = true := HB.out.2 (by
          have := HTK.out
          rw [List.take_length] at this
          rw [this, HLN.out, List.take_length])
        go_wp2_with fail
        go_ret
        exact ⟨rfl, HO.out⟩
  · have q1 : ((xs.length : Int) != ys.length) = true := by
      rw [bne_iff_ne]
      omega
    obtain rfl : bb = false := by
      cases hbb : bb with
      | false => rfl
      | true => exact absurd (congrArg List.length (HB.out.1 hbb)) hl
    clear hl
    go_wp2_with fail
    go_ret
    exact ⟨rfl, Only.refl _ _⟩
set_option maxRecDepth 100000 in
set_option maxHeartbeats 100000000 in
theorem requal_any (a b : Dr) (vt vp vq vb ut up uq ub : Value) (bb : Bool) (base1 base2 : Nat) (w : World) (ha : DrOwn base1 w a vt vp vq vb) (hb : DrOwn base2 w b ut up uq ub) (hba : DrB a) (hbb : DrB b) (he : bb = true ↔ a = b) :
    Calls Tryz.prog 17 #[.agg (drCells a vt vp vq vb), .agg (drCells b ut up uq ub)] w fun e w' => e = .returned (.bool bb) ∧ Only (fun _ => False) w w' := by
  obtain ⟨at1, ct, rfl⟩ := slice_of_own ha.tiers
  obtain ⟨ap1, cp, rfl⟩ := slice_of_own ha.places
  obtain ⟨aq1, cq, rfl⟩ := slice_of_own ha.quotas
  obtain ⟨ab1, cb, rfl⟩ := slice_of_own ha.bars
  obtain ⟨bt1, dt, rfl⟩ := slice_of_own hb.tiers
  obtain ⟨bp1, dp, rfl⟩ := slice_of_own hb.places
  obtain ⟨bq1, dq, rfl⟩ := slice_of_own hb.quotas
  obtain ⟨bb1, db, rfl⟩ := slice_of_own hb.bars
  have HA := Lib.hid ha
  have HB := Lib.hid hb
  have HE := Lib.hid he
  have HBA := Lib.hid hba
  have HBB := Lib.hid hbb
  have HY1 := Lib.hid (heap_alloc_last w (.cells (drCells a (.slice at1 a.tiers.length ct) (.slice ap1 a.places.length cp) (.slice aq1 a.quotas.length cq) (.slice ab1 a.barred.length cb)) 33))
  have HY2 := Lib.hid (heap_alloc_last (w.alloc (.cells (drCells a (.slice at1 a.tiers.length ct) (.slice ap1 a.places.length cp) (.slice aq1 a.quotas.length cq) (.slice ab1 a.barred.length cb)) 33)) (.cells (drCells b (.slice bt1 b.tiers.length dt) (.slice bp1 b.places.length dp) (.slice bq1 b.quotas.length dq) (.slice bb1 b.barred.length db)) 33))
  have HO2 := Lib.hid ((Only.refl (fun _ => False) (w.alloc (.cells (drCells a (.slice at1 a.tiers.length ct) (.slice ap1 a.places.length cp) (.slice aq1 a.quotas.length cq) (.slice ab1 a.barred.length cb)) 33))).alloc (.cells (drCells b (.slice bt1 b.tiers.length dt) (.slice bp1 b.places.length dp) (.slice bq1 b.quotas.length dq) (.slice bb1 b.barred.length db)) 33))
  have HO := Lib.hid (((Only.refl (fun _ => False) w).alloc (.cells (drCells a (.slice at1 a.tiers.length ct) (.slice ap1 a.places.length cp) (.slice aq1 a.quotas.length cq) (.slice ab1 a.barred.length cb)) 33)).alloc (.cells (drCells b (.slice bt1 b.tiers.length dt) (.slice bp1 b.places.length dp) (.slice bq1 b.quotas.length dq) (.slice bb1 b.barred.length db)) 33))
  have HZ1 := Lib.hid (row_still HO2.out HY1.out)
  have HZ2 := HY2
  rw [World.size_alloc] at HZ2
  clear ha hb he hba hbb HY1 HY2 HO2
  unfold drCells at *
  go_enter Tryz.func17, Tryz.ntmps17
  go_upto_region 1 with (fail)
  generalize World.alloc (World.alloc w _) _ = w1 at *
  have c0 : w1.cell? ⟨w.heap.size, 0, none⟩ = some (Value.string a.name) := cell_of_row _ _ 0 _ _ _ HZ1.out
  have e0 : w1.cell? ⟨w.heap.size + 1, 0, none⟩ = some (Value.string b.name) := cell_of_row _ _ 0 _ _ _ HZ2.out
  have c1 : w1.cell? ⟨w.heap.size, 1, none⟩ = some (Value.int .i64 a.kind) := cell_of_row _ _ 1 _ _ _ HZ1.out
  have e1 : w1.cell? ⟨w.heap.size + 1, 1, none⟩ = some (Value.int .i64 b.kind) := cell_of_row _ _ 1 _ _ _ HZ2.out
  have c2 : w1.cell? ⟨w.heap.size, 2, none⟩ = some (Value.int .i64 a.round) := cell_of_row _ _ 2 _ _ _ HZ1.out
  have e2 : w1.cell? ⟨w.heap.size + 1, 2, none⟩ = some (Value.int .i64 b.round) := cell_of_row _ _ 2 _ _ _ HZ2.out
  have c3 : w1.cell? ⟨w.heap.size, 3, none⟩ = some (Value.int .i64 a.price) := cell_of_row _ _ 3 _ _ _ HZ1.out
  have e3 : w1.cell? ⟨w.heap.size + 1, 3, none⟩ = some (Value.int .i64 b.price) := cell_of_row _ _ 3 _ _ _ HZ2.out
  have c4 : w1.cell? ⟨w.heap.size, 4, none⟩ = some (Value.int .i64 a.pool) := cell_of_row _ _ 4 _ _ _ HZ1.out
  have e4 : w1.cell? ⟨w.heap.size + 1, 4, none⟩ = some (Value.int .i64 b.pool) := cell_of_row _ _ 4 _ _ _ HZ2.out
  have c5 : w1.cell? ⟨w.heap.size, 5, none⟩ = some (Value.int .i64 a.pick) := cell_of_row _ _ 5 _ _ _ HZ1.out
  have e5 : w1.cell? ⟨w.heap.size + 1, 5, none⟩ = some (Value.int .i64 b.pick) := cell_of_row _ _ 5 _ _ _ HZ2.out
  have c6 : w1.cell? ⟨w.heap.size, 6, none⟩ = some (Value.slice at1 a.tiers.length ct) := cell_of_row _ _ 6 _ _ _ HZ1.out
  have e6 : w1.cell? ⟨w.heap.size + 1, 6, none⟩ = some (Value.slice bt1 b.tiers.length dt) := cell_of_row _ _ 6 _ _ _ HZ2.out
  have c7 : w1.cell? ⟨w.heap.size, 7, none⟩ = some (Value.bool a.roll) := cell_of_row _ _ 7 _ _ _ HZ1.out
  have e7 : w1.cell? ⟨w.heap.size + 1, 7, none⟩ = some (Value.bool b.roll) := cell_of_row _ _ 7 _ _ _ HZ2.out
  have c8 : w1.cell? ⟨w.heap.size, 8, none⟩ = some (Value.slice ap1 a.places.length cp) := cell_of_row _ _ 8 _ _ _ HZ1.out
  have e8 : w1.cell? ⟨w.heap.size + 1, 8, none⟩ = some (Value.slice bp1 b.places.length dp) := cell_of_row _ _ 8 _ _ _ HZ2.out
  have c9 : w1.cell? ⟨w.heap.size, 9, none⟩ = some (Value.int .i64 a.cls) := cell_of_row _ _ 9 _ _ _ HZ1.out
  have e9 : w1.cell? ⟨w.heap.size + 1, 9, none⟩ = some (Value.int .i64 b.cls) := cell_of_row _ _ 9 _ _ _ HZ2.out
  have c10 : w1.cell? ⟨w.heap.size, 10, none⟩ = some (Value.int .i64 a.size) := cell_of_row _ _ 10 _ _ _ HZ1.out
  have e10 : w1.cell? ⟨w.heap.size + 1, 10, none⟩ = some (Value.int .i64 b.size) := cell_of_row _ _ 10 _ _ _ HZ2.out
  have c11 : w1.cell? ⟨w.heap.size, 11, none⟩ = some (Value.slice aq1 a.quotas.length cq) := cell_of_row _ _ 11 _ _ _ HZ1.out
  have e11 : w1.cell? ⟨w.heap.size + 1, 11, none⟩ = some (Value.slice bq1 b.quotas.length dq) := cell_of_row _ _ 11 _ _ _ HZ2.out
  have c12 : w1.cell? ⟨w.heap.size, 12, none⟩ = some (Value.slice ab1 a.barred.length cb) := cell_of_row _ _ 12 _ _ _ HZ1.out
  have e12 : w1.cell? ⟨w.heap.size + 1, 12, none⟩ = some (Value.slice bb1 b.barred.length db) := cell_of_row _ _ 12 _ _ _ HZ2.out
  obtain ⟨r12, hr12⟩ : ∃ r : Bool, r = true ↔ a.barred = b.barred := by
    by_cases h : a.barred = b.barred
    · exact ⟨true, by simp [h]⟩
    · exact ⟨false, by simp [h]⟩
  have HM12 := Lib.hid hr12
  clear hr12
  go_wp2_with fail
  refine (rints13_any _ _ _ _ a.barred b.barred r12 _ (ptsR_of_own (HA.out.only HO.out (fun _ _ h => h)).bars) (ptsR_of_own (HB.out.only HO.out (fun _ _ h => h)).bars) HM12.out HBA.out.2.2.2).mono ?_
  rintro e w2 ⟨rfl, hOn⟩
  have HO := Lib.hid (HO.out.trans hOn)
  have HZ1 := Lib.hid (row_still hOn HZ1.out)
  have HZ2 := Lib.hid (row_still hOn HZ2.out)
  clear hOn c0 e0 c1 e1 c2 e2 c3 e3 c4 e4 c5 e5 c6 e6 c7 e7 c8 e8 c9 e9 c10 e10 c11 e11 c12 e12
  have c0 : w2.cell? ⟨w.heap.size, 0, none⟩ = some (Value.string a.name) := cell_of_row _ _ 0 _ _ _ HZ1.out
  have e0 : w2.cell? ⟨w.heap.size + 1, 0, none⟩ = some (Value.string b.name) := cell_of_row _ _ 0 _ _ _ HZ2.out
  have c1 : w2.cell? ⟨w.heap.size, 1, none⟩ = some (Value.int .i64 a.kind) := cell_of_row _ _ 1 _ _ _ HZ1.out
  have e1 : w2.cell? ⟨w.heap.size + 1, 1, none⟩ = some (Value.int .i64 b.kind) := cell_of_row _ _ 1 _ _ _ HZ2.out
  have c2 : w2.cell? ⟨w.heap.size, 2, none⟩ = some (Value.int .i64 a.round) := cell_of_row _ _ 2 _ _ _ HZ1.out
  have e2 : w2.cell? ⟨w.heap.size + 1, 2, none⟩ = some (Value.int .i64 b.round) := cell_of_row _ _ 2 _ _ _ HZ2.out
  have c3 : w2.cell? ⟨w.heap.size, 3, none⟩ = some (Value.int .i64 a.price) := cell_of_row _ _ 3 _ _ _ HZ1.out
  have e3 : w2.cell? ⟨w.heap.size + 1, 3, none⟩ = some (Value.int .i64 b.price) := cell_of_row _ _ 3 _ _ _ HZ2.out
  have c4 : w2.cell? ⟨w.heap.size, 4, none⟩ = some (Value.int .i64 a.pool) := cell_of_row _ _ 4 _ _ _ HZ1.out
  have e4 : w2.cell? ⟨w.heap.size + 1, 4, none⟩ = some (Value.int .i64 b.pool) := cell_of_row _ _ 4 _ _ _ HZ2.out
  have c5 : w2.cell? ⟨w.heap.size, 5, none⟩ = some (Value.int .i64 a.pick) := cell_of_row _ _ 5 _ _ _ HZ1.out
  have e5 : w2.cell? ⟨w.heap.size + 1, 5, none⟩ = some (Value.int .i64 b.pick) := cell_of_row _ _ 5 _ _ _ HZ2.out
  have c6 : w2.cell? ⟨w.heap.size, 6, none⟩ = some (Value.slice at1 a.tiers.length ct) := cell_of_row _ _ 6 _ _ _ HZ1.out
  have e6 : w2.cell? ⟨w.heap.size + 1, 6, none⟩ = some (Value.slice bt1 b.tiers.length dt) := cell_of_row _ _ 6 _ _ _ HZ2.out
  have c7 : w2.cell? ⟨w.heap.size, 7, none⟩ = some (Value.bool a.roll) := cell_of_row _ _ 7 _ _ _ HZ1.out
  have e7 : w2.cell? ⟨w.heap.size + 1, 7, none⟩ = some (Value.bool b.roll) := cell_of_row _ _ 7 _ _ _ HZ2.out
  have c8 : w2.cell? ⟨w.heap.size, 8, none⟩ = some (Value.slice ap1 a.places.length cp) := cell_of_row _ _ 8 _ _ _ HZ1.out
  have e8 : w2.cell? ⟨w.heap.size + 1, 8, none⟩ = some (Value.slice bp1 b.places.length dp) := cell_of_row _ _ 8 _ _ _ HZ2.out
  have c9 : w2.cell? ⟨w.heap.size, 9, none⟩ = some (Value.int .i64 a.cls) := cell_of_row _ _ 9 _ _ _ HZ1.out
  have e9 : w2.cell? ⟨w.heap.size + 1, 9, none⟩ = some (Value.int .i64 b.cls) := cell_of_row _ _ 9 _ _ _ HZ2.out
  have c10 : w2.cell? ⟨w.heap.size, 10, none⟩ = some (Value.int .i64 a.size) := cell_of_row _ _ 10 _ _ _ HZ1.out
  have e10 : w2.cell? ⟨w.heap.size + 1, 10, none⟩ = some (Value.int .i64 b.size) := cell_of_row _ _ 10 _ _ _ HZ2.out
  have c11 : w2.cell? ⟨w.heap.size, 11, none⟩ = some (Value.slice aq1 a.quotas.length cq) := cell_of_row _ _ 11 _ _ _ HZ1.out
  have e11 : w2.cell? ⟨w.heap.size + 1, 11, none⟩ = some (Value.slice bq1 b.quotas.length dq) := cell_of_row _ _ 11 _ _ _ HZ2.out
  have c12 : w2.cell? ⟨w.heap.size, 12, none⟩ = some (Value.slice ab1 a.barred.length cb) := cell_of_row _ _ 12 _ _ _ HZ1.out
  have e12 : w2.cell? ⟨w.heap.size + 1, 12, none⟩ = some (Value.slice bb1 b.barred.length db) := cell_of_row _ _ 12 _ _ _ HZ2.out
  by_cases m0 : a.name = b.name
  · by_cases m1 : a.kind = b.kind
    · by_cases m2 : a.round = b.round
      · by_cases m3 : a.price = b.price
        · by_cases m4 : a.pool = b.pool
          · by_cases m5 : a.pick = b.pick
            · by_cases m7 : a.roll = b.roll
              · by_cases m9 : a.cls = b.cls
                · by_cases m10 : a.size = b.size
                  · have p0 : (a.name.toList == b.name.toList) = true := by rw [m0]; simp
                    have p1 : (a.kind != b.kind) = false := by rw [m1]; simp
                    have p2 : (a.round != b.round) = false := by rw [m2]; simp
                    have p3 : (a.price != b.price) = false := by rw [m3]; simp
                    have p4 : (a.pool != b.pool) = false := by rw [m4]; simp
                    have p5 : (a.pick != b.pick) = false := by rw [m5]; simp
                    rw [← m7] at e7
                    have p9 : (a.cls != b.cls) = false := by rw [m9]; simp
                    have p10 : (a.size != b.size) = false := by rw [m10]; simp
                    have HH0 := Lib.hid m0
                    clear m0
                    have HH1 := Lib.hid m1
                    clear m1
                    have HH2 := Lib.hid m2
                    clear m2
                    have HH3 := Lib.hid m3
                    clear m3
                    have HH4 := Lib.hid m4
                    clear m4
                    have HH5 := Lib.hid m5
                    clear m5
                    have HH7 := Lib.hid m7
                    clear m7
                    have HH9 := Lib.hid m9
                    clear m9
                    have HH10 := Lib.hid m10
                    clear m10
                    cases r12
                    · have m12 : ¬ a.barred = b.barred := fun h => by have := HM12.out.2 h; cases this
                      obtain rfl : bb = false := by
                        cases hbb : bb with
                        | false => rfl
                        | true => exact absurd (by rw [HE.out.1 hbb]) m12
                      clear m12
                      go_wp2_with fail
                      go_ret
                      exact ⟨rfl, HO.out⟩
                    · have HH12 := Lib.hid (HM12.out.1 rfl)
                      clear HM12
                      by_cases n6 : a.tiers.length = b.tiers.length
                      · have q6 : ((a.tiers.length : Int) != b.tiers.length) = false := by rw [n6]; simp
                        have HN6 := Lib.hid n6
                        clear n6
                        by_cases n8 : a.places.length = b.places.length
                        · have q8 : ((a.places.length : Int) != b.places.length) = false := by rw [n8]; simp
                          have HN8 := Lib.hid n8
                          clear n8
                          by_cases n11 : a.quotas.length = b.quotas.length
                          · have q11 : ((a.quotas.length : Int) != b.quotas.length) = false := by rw [n11]; simp
                            have HN11 := Lib.hid n11
                            clear n11
                            go_wp2_with fail
                            clear c0 e0 c1 e1 c2 e2 c3 e3 c4 e4 c5 e5 c6 e6 c7 e7 c8 e8 c9 e9 c10 e10 c11 e11 c12 e12
                            obtain ⟨W0, hW0⟩ : ∃ W0 : World, W0 = w2 := ⟨_, rfl⟩
                            subst hW0
                            go_loopw [6] (fun iv wr => ∃ k : Nat, iv = .int .i64 k ∧ k ≤ a.tiers.length ∧ a.tiers.take k = b.tiers.take k ∧ Only (fun _ => False) w wr ∧ wr.heap[w.heap.size]? = W0.heap[w.heap.size]? ∧ wr.heap[w.heap.size + 1]? = W0.heap[w.heap.size + 1]?) (fun iv _ => a.tiers.length - (intOf iv).toNat)
                            case atStart => exact ⟨0, rfl, Nat.zero_le _, rfl, HO.out, rfl, rfl⟩
                            case round =>
                              have HZZ1 := HZ1
                              have HZZ2 := HZ2
                              obtain ⟨k, rfl, hk, htk, hO, hz1, hz2⟩ := hrel
                              have HTK := Lib.hid htk
                              have HO := Lib.hid hO
                              have HZ1 := Lib.hid (hz1.trans HZ1.out)
                              have HZ2 := Lib.hid (hz2.trans HZ2.out)
                              have HAA := Lib.hid (HA.out.only hO (fun _ _ h => h))
                              have HCC := Lib.hid (HB.out.only hO (fun _ _ h => h))
                              have hsz1 : w.heap.size < wr.heap.size := (Array.getElem?_eq_some_iff.1 HZ1.out).1
                              clear htk hO hz1 hz2
                              have c6 : wr.cell? ⟨w.heap.size, 6, none⟩ = some (Value.slice at1 a.tiers.length ct) := cell_of_row _ _ 6 _ _ _ HZ1.out
                              have e6 : wr.cell? ⟨w.heap.size + 1, 6, none⟩ = some (Value.slice bt1 b.tiers.length dt) := cell_of_row _ _ 6 _ _ _ HZ2.out
                              by_cases hlt : k < a.tiers.length
                              · have j1 : (k : Int) < a.tiers.length := by omega
                                have j2 : 0 ≤ (k : Int) := by omega
                                have hlt2 : k < b.tiers.length := by rw [← HN6.out]; exact hlt
                                have j3 : (k : Int) < b.tiers.length := by omega
                                have HLT := Lib.hid hlt
                                have hd0 := flat_at (fun x : Int × Int => [Value.int .i64 x.1, Value.int .i64 x.2]) 2 (fun _ => rfl) a.tiers k 0 hlt (by decide)
                                have hd1 := flat_at (fun x : Int × Int => [Value.int .i64 x.1, Value.int .i64 x.2]) 2 (fun _ => rfl) a.tiers k 1 hlt (by decide)
                                obtain ⟨g0, capg0, hvg0, hgg, hc1g, hc2g, d0⟩ := own_cell HAA.out.tiers hd0
                                obtain ⟨g1, capg1, hvg1, _, _, _, d1⟩ := own_cell HAA.out.tiers hd1
                                rw [hvg0] at hvg1
                                simp only [Value.slice.injEq, Option.some.injEq, Addr.mk.injEq, and_true, true_and] at hvg0 hvg1
                                obtain ⟨rfl, rfl⟩ := hvg0
                                obtain ⟨rfl, rfl⟩ := hvg1
                                have hx0 := flat_at (fun x : Int × Int => [Value.int .i64 x.1, Value.int .i64 x.2]) 2 (fun _ => rfl) b.tiers k 0 hlt2 (by decide)
                                have hx1 := flat_at (fun x : Int × Int => [Value.int .i64 x.1, Value.int .i64 x.2]) 2 (fun _ => rfl) b.tiers k 1 hlt2 (by decide)
                                obtain ⟨f0, capf0, hvf0, hgf, hc1f, hc2f, x0⟩ := own_cell HCC.out.tiers hx0
                                obtain ⟨f1, capf1, hvf1, _, _, _, x1⟩ := own_cell HCC.out.tiers hx1
                                rw [hvf0] at hvf1
                                simp only [Value.slice.injEq, Option.some.injEq, Addr.mk.injEq, and_true, true_and] at hvf0 hvf1
                                obtain ⟨rfl, rfl⟩ := hvf0
                                obtain ⟨rfl, rfl⟩ := hvf1
                                have HNX := Lib.hid (fun (he : a.tiers[k] = b.tiers[k]) => take_eq_succ HTK.out hlt hlt2 he)
                                have HNE := Lib.hid (fun (he : a.tiers[k] ≠ b.tiers[k]) => show bb = false by
                                  cases hbb : bb with
                                  | false => rfl
                                  | true => exact absurd (by rw [HE.out.1 hbb]) (ne_at hlt hlt2 he))
                                generalize a.tiers[k] = y at *
                                generalize b.tiers[k] = z at *
                                obtain ⟨ya, yb⟩ := y
                                obtain ⟨za, zb⟩ := z
                                change _ = some (Value.int .i64 ya) at d0
                                change _ = some (Value.int .i64 za) at x0
                                change _ = some (Value.int .i64 yb) at d1
                                change _ = some (Value.int .i64 zb) at x1
                                rw [Nat.add_zero] at d0 x0
                                clear hd0 hx0 hd1 hx1
                                by_cases m0 : ya = za
                                · by_cases m1 : yb = zb
                                  · obtain ⟨rfl, rfl⟩ : ya = za ∧ yb = zb := ⟨m0, m1⟩
                                    clear m0 m1
                                    have p0 : (ya == ya) = true := by simp
                                    have p1 : (yb == yb) = true := by simp
                                    have HG := Lib.hid (HNX.out rfl)
                                    go_wp2_with fail
                                    go_quiet (fail)
                                    go_wp2_with fail
                                    go_roundw
                                    case rel => exact ⟨k + 1, by go_num, HLT.out, HG.out, HO.out.drewN _, HZ1.out.trans HZZ1.out.symm, HZ2.out.trans HZZ2.out.symm⟩
                                    case measure => simp [intOf]; have := HLT.out; omega
                                  · obtain rfl := HNE.out (fun h => m1 (by simpa using congrArg (fun u => u.2) h))
                                    have p0 : (ya == za) = true := by rw [m0]; simp
                                    have p1 : (yb == zb) = false := by simpa using m1
                                    clear m0 m1
                                    go_wp2_with fail
                                    go_quiet (fail)
                                    go_wp2_with fail
                                    go_ret
                                    exact ⟨rfl, HO.out.drewN _⟩
                                · obtain rfl := HNE.out (fun h => m0 (by simpa using congrArg (fun u => u.1) h))
                                  have p0 : (ya == za) = false := by simpa using m0
                                  clear m0
                                  go_wp2_with fail
                                  go_quiet (fail)
                                  go_wp2_with fail
                                  go_ret
                                  exact ⟨rfl, HO.out.drewN _⟩
                              · obtain rfl : k = a.tiers.length := by omega
                                have j1 : ¬ (a.tiers.length : Int) < a.tiers.length := by omega
                                have HH6 := Lib.hid (show a.tiers = b.tiers by
                                  have := HTK.out
                                  rw [List.take_length, HN6.out, List.take_length] at this
                                  exact this)
                                clear hlt hk HTK
                                go_wp2_with fail
                                clear c6 e6
                                obtain ⟨W0, hW0⟩ : ∃ W0 : World, W0 = wr := ⟨_, rfl⟩
                                subst hW0
                                go_loopw [7] (fun iv wr => ∃ k : Nat, iv = .int .i64 k ∧ k ≤ a.places.length ∧ a.places.take k = b.places.take k ∧ Only (fun _ => False) w wr ∧ wr.heap[w.heap.size]? = W0.heap[w.heap.size]? ∧ wr.heap[w.heap.size + 1]? = W0.heap[w.heap.size + 1]?) (fun iv _ => a.places.length - (intOf iv).toNat)
                                case atStart => exact ⟨0, rfl, Nat.zero_le _, rfl, HO.out, rfl, rfl⟩
                                case round =>
                                  have HZZ1 := HZ1
                                  have HZZ2 := HZ2
                                  obtain ⟨k, rfl, hk, htk, hO, hz1, hz2⟩ := hrel
                                  have HTK := Lib.hid htk
                                  have HO := Lib.hid hO
                                  have HZ1 := Lib.hid (hz1.trans HZ1.out)
                                  have HZ2 := Lib.hid (hz2.trans HZ2.out)
                                  have HAA := Lib.hid (HA.out.only hO (fun _ _ h => h))
                                  have HCC := Lib.hid (HB.out.only hO (fun _ _ h => h))
                                  have hsz1 : w.heap.size < wr.heap.size := (Array.getElem?_eq_some_iff.1 HZ1.out).1
                                  clear htk hO hz1 hz2
                                  have c8 : wr.cell? ⟨w.heap.size, 8, none⟩ = some (Value.slice ap1 a.places.length cp) := cell_of_row _ _ 8 _ _ _ HZ1.out
                                  have e8 : wr.cell? ⟨w.heap.size + 1, 8, none⟩ = some (Value.slice bp1 b.places.length dp) := cell_of_row _ _ 8 _ _ _ HZ2.out
                                  by_cases hlt : k < a.places.length
                                  · have j1 : (k : Int) < a.places.length := by omega
                                    have j2 : 0 ≤ (k : Int) := by omega
                                    have hlt2 : k < b.places.length := by rw [← HN8.out]; exact hlt
                                    have j3 : (k : Int) < b.places.length := by omega
                                    have HLT := Lib.hid hlt
                                    have hd0 := flat_at (fun x : ByteArray × Int => [Value.string x.1, Value.int .i64 x.2]) 2 (fun _ => rfl) a.places k 0 hlt (by decide)
                                    have hd1 := flat_at (fun x : ByteArray × Int => [Value.string x.1, Value.int .i64 x.2]) 2 (fun _ => rfl) a.places k 1 hlt (by decide)
                                    obtain ⟨g0, capg0, hvg0, hgg, hc1g, hc2g, d0⟩ := own_cell HAA.out.places hd0
                                    obtain ⟨g1, capg1, hvg1, _, _, _, d1⟩ := own_cell HAA.out.places hd1
                                    rw [hvg0] at hvg1
                                    simp only [Value.slice.injEq, Option.some.injEq, Addr.mk.injEq, and_true, true_and] at hvg0 hvg1
                                    obtain ⟨rfl, rfl⟩ := hvg0
                                    obtain ⟨rfl, rfl⟩ := hvg1
                                    have hx0 := flat_at (fun x : ByteArray × Int => [Value.string x.1, Value.int .i64 x.2]) 2 (fun _ => rfl) b.places k 0 hlt2 (by decide)
                                    have hx1 := flat_at (fun x : ByteArray × Int => [Value.string x.1, Value.int .i64 x.2]) 2 (fun _ => rfl) b.places k 1 hlt2 (by decide)
                                    obtain ⟨f0, capf0, hvf0, hgf, hc1f, hc2f, x0⟩ := own_cell HCC.out.places hx0
                                    obtain ⟨f1, capf1, hvf1, _, _, _, x1⟩ := own_cell HCC.out.places hx1
                                    rw [hvf0] at hvf1
                                    simp only [Value.slice.injEq, Option.some.injEq, Addr.mk.injEq, and_true, true_and] at hvf0 hvf1
                                    obtain ⟨rfl, rfl⟩ := hvf0
                                    obtain ⟨rfl, rfl⟩ := hvf1
                                    have HNX := Lib.hid (fun (he : a.places[k] = b.places[k]) => take_eq_succ HTK.out hlt hlt2 he)
                                    have HNE := Lib.hid (fun (he : a.places[k] ≠ b.places[k]) => show bb = false by
                                      cases hbb : bb with
                                      | false => rfl
                                      | true => exact absurd (by rw [HE.out.1 hbb]) (ne_at hlt hlt2 he))
                                    generalize a.places[k] = y at *
                                    generalize b.places[k] = z at *
                                    obtain ⟨ya, yb⟩ := y
                                    obtain ⟨za, zb⟩ := z
                                    change _ = some (Value.string ya) at d0
                                    change _ = some (Value.string za) at x0
                                    change _ = some (Value.int .i64 yb) at d1
                                    change _ = some (Value.int .i64 zb) at x1
                                    rw [Nat.add_zero] at d0 x0
                                    clear hd0 hx0 hd1 hx1
                                    by_cases m0 : ya = za
                                    · by_cases m1 : yb = zb
                                      · obtain ⟨rfl, rfl⟩ : ya = za ∧ yb = zb := ⟨m0, m1⟩
                                        clear m0 m1
                                        have p0 : (ya.toList == ya.toList) = true := by simp
                                        have p1 : (yb == yb) = true := by simp
                                        have HG := Lib.hid (HNX.out rfl)
                                        go_wp2_with fail
                                        go_quiet (fail)
                                        go_wp2_with fail
                                        go_roundw
                                        case rel => exact ⟨k + 1, by go_num, HLT.out, HG.out, HO.out.drewN _, HZ1.out.trans HZZ1.out.symm, HZ2.out.trans HZZ2.out.symm⟩
                                        case measure => simp [intOf]; have := HLT.out; omega
                                      · obtain rfl := HNE.out (fun h => m1 (by simpa using congrArg (fun u => u.2) h))
                                        have p0 : (ya.toList == za.toList) = true := by rw [m0]; simp
                                        have p1 : (yb == zb) = false := by simpa using m1
                                        clear m0 m1
                                        go_wp2_with fail
                                        go_quiet (fail)
                                        go_wp2_with fail
                                        go_ret
                                        exact ⟨rfl, HO.out.drewN _⟩
                                    · obtain rfl := HNE.out (fun h => m0 (by simpa using congrArg (fun u => u.1) h))
                                      have p0 : (ya.toList == za.toList) = false := by rw [Bool.eq_false_iff]; intro h; exact m0 (tlU_iff.1 h)
                                      clear m0
                                      go_wp2_with fail
                                      go_quiet (fail)
                                      go_wp2_with fail
                                      go_ret
                                      exact ⟨rfl, HO.out.drewN _⟩
                                  · obtain rfl : k = a.places.length := by omega
                                    have j1 : ¬ (a.places.length : Int) < a.places.length := by omega
                                    have HH8 := Lib.hid (show a.places = b.places by
                                      have := HTK.out
                                      rw [List.take_length, HN8.out, List.take_length] at this
                                      exact this)
                                    clear hlt hk HTK
                                    go_wp2_with fail
                                    clear c8 e8
                                    obtain ⟨W0, hW0⟩ : ∃ W0 : World, W0 = wr := ⟨_, rfl⟩
                                    subst hW0
                                    go_loopw [8] (fun iv wr => ∃ k : Nat, iv = .int .i64 k ∧ k ≤ a.quotas.length ∧ a.quotas.take k = b.quotas.take k ∧ Only (fun _ => False) w wr ∧ wr.heap[w.heap.size]? = W0.heap[w.heap.size]? ∧ wr.heap[w.heap.size + 1]? = W0.heap[w.heap.size + 1]?) (fun iv _ => a.quotas.length - (intOf iv).toNat)
                                    case atStart => exact ⟨0, rfl, Nat.zero_le _, rfl, HO.out, rfl, rfl⟩
                                    case round =>
                                      have HZZ1 := HZ1
                                      have HZZ2 := HZ2
                                      obtain ⟨k, rfl, hk, htk, hO, hz1, hz2⟩ := hrel
                                      have HTK := Lib.hid htk
                                      have HO := Lib.hid hO
                                      have HZ1 := Lib.hid (hz1.trans HZ1.out)
                                      have HZ2 := Lib.hid (hz2.trans HZ2.out)
                                      have HAA := Lib.hid (HA.out.only hO (fun _ _ h => h))
                                      have HCC := Lib.hid (HB.out.only hO (fun _ _ h => h))
                                      have hsz1 : w.heap.size < wr.heap.size := (Array.getElem?_eq_some_iff.1 HZ1.out).1
                                      clear htk hO hz1 hz2
                                      have c11 : wr.cell? ⟨w.heap.size, 11, none⟩ = some (Value.slice aq1 a.quotas.length cq) := cell_of_row _ _ 11 _ _ _ HZ1.out
                                      have e11 : wr.cell? ⟨w.heap.size + 1, 11, none⟩ = some (Value.slice bq1 b.quotas.length dq) := cell_of_row _ _ 11 _ _ _ HZ2.out
                                      by_cases hlt : k < a.quotas.length
                                      · have j1 : (k : Int) < a.quotas.length := by omega
                                        have j2 : 0 ≤ (k : Int) := by omega
                                        have hlt2 : k < b.quotas.length := by rw [← HN11.out]; exact hlt
                                        have j3 : (k : Int) < b.quotas.length := by omega
                                        have HLT := Lib.hid hlt
                                        have hd0 := flat_at (fun x : ByteArray × Int × Int => [Value.string x.1, Value.int .i64 x.2.1, Value.int .i64 x.2.2]) 3 (fun _ => rfl) a.quotas k 0 hlt (by decide)
                                        have hd1 := flat_at (fun x : ByteArray × Int × Int => [Value.string x.1, Value.int .i64 x.2.1, Value.int .i64 x.2.2]) 3 (fun _ => rfl) a.quotas k 1 hlt (by decide)
                                        have hd2 := flat_at (fun x : ByteArray × Int × Int => [Value.string x.1, Value.int .i64 x.2.1, Value.int .i64 x.2.2]) 3 (fun _ => rfl) a.quotas k 2 hlt (by decide)
                                        obtain ⟨g0, capg0, hvg0, hgg, hc1g, hc2g, d0⟩ := own_cell HAA.out.quotas hd0
                                        obtain ⟨g1, capg1, hvg1, _, _, _, d1⟩ := own_cell HAA.out.quotas hd1
                                        obtain ⟨g2, capg2, hvg2, _, _, _, d2⟩ := own_cell HAA.out.quotas hd2
                                        rw [hvg0] at hvg1
                                        rw [hvg0] at hvg2
                                        simp only [Value.slice.injEq, Option.some.injEq, Addr.mk.injEq, and_true, true_and] at hvg0 hvg1 hvg2
                                        obtain ⟨rfl, rfl⟩ := hvg0
                                        obtain ⟨rfl, rfl⟩ := hvg1
                                        obtain ⟨rfl, rfl⟩ := hvg2
                                        have hx0 := flat_at (fun x : ByteArray × Int × Int => [Value.string x.1, Value.int .i64 x.2.1, Value.int .i64 x.2.2]) 3 (fun _ => rfl) b.quotas k 0 hlt2 (by decide)
                                        have hx1 := flat_at (fun x : ByteArray × Int × Int => [Value.string x.1, Value.int .i64 x.2.1, Value.int .i64 x.2.2]) 3 (fun _ => rfl) b.quotas k 1 hlt2 (by decide)
                                        have hx2 := flat_at (fun x : ByteArray × Int × Int => [Value.string x.1, Value.int .i64 x.2.1, Value.int .i64 x.2.2]) 3 (fun _ => rfl) b.quotas k 2 hlt2 (by decide)
                                        obtain ⟨f0, capf0, hvf0, hgf, hc1f, hc2f, x0⟩ := own_cell HCC.out.quotas hx0
                                        obtain ⟨f1, capf1, hvf1, _, _, _, x1⟩ := own_cell HCC.out.quotas hx1
                                        obtain ⟨f2, capf2, hvf2, _, _, _, x2⟩ := own_cell HCC.out.quotas hx2
                                        rw [hvf0] at hvf1
                                        rw [hvf0] at hvf2
                                        simp only [Value.slice.injEq, Option.some.injEq, Addr.mk.injEq, and_true, true_and] at hvf0 hvf1 hvf2
                                        obtain ⟨rfl, rfl⟩ := hvf0
                                        obtain ⟨rfl, rfl⟩ := hvf1
                                        obtain ⟨rfl, rfl⟩ := hvf2
                                        have HNX := Lib.hid (fun (he : a.quotas[k] = b.quotas[k]) => take_eq_succ HTK.out hlt hlt2 he)
                                        have HNE := Lib.hid (fun (he : a.quotas[k] ≠ b.quotas[k]) => show bb = false by
                                          cases hbb : bb with
                                          | false => rfl
                                          | true => exact absurd (by rw [HE.out.1 hbb]) (ne_at hlt hlt2 he))
                                        generalize a.quotas[k] = y at *
                                        generalize b.quotas[k] = z at *
                                        obtain ⟨ya, yb, yc⟩ := y
                                        obtain ⟨za, zb, zc⟩ := z
                                        change _ = some (Value.string ya) at d0
                                        change _ = some (Value.string za) at x0
                                        change _ = some (Value.int .i64 yb) at d1
                                        change _ = some (Value.int .i64 zb) at x1
                                        change _ = some (Value.int .i64 yc) at d2
                                        change _ = some (Value.int .i64 zc) at x2
                                        rw [Nat.add_zero] at d0 x0
                                        clear hd0 hx0 hd1 hx1 hd2 hx2
                                        by_cases m0 : ya = za
                                        · by_cases m1 : yb = zb
                                          · by_cases m2 : yc = zc
                                            · obtain ⟨rfl, rfl, rfl⟩ : ya = za ∧ yb = zb ∧ yc = zc := ⟨m0, m1, m2⟩
                                              clear m0 m1 m2
                                              have p0 : (ya.toList == ya.toList) = true := by simp
                                              have p1 : (yb == yb) = true := by simp
                                              have p2 : (yc == yc) = true := by simp
                                              have HG := Lib.hid (HNX.out rfl)
                                              go_wp2_with fail
                                              go_quiet (fail)
                                              go_wp2_with fail
                                              go_roundw
                                              case rel => exact ⟨k + 1, by go_num, HLT.out, HG.out, HO.out.drewN _, HZ1.out.trans HZZ1.out.symm, HZ2.out.trans HZZ2.out.symm⟩
                                              case measure => simp [intOf]; have := HLT.out; omega
                                            · obtain rfl := HNE.out (fun h => m2 (by simpa using congrArg (fun u => u.2.2) h))
                                              have p0 : (ya.toList == za.toList) = true := by rw [m0]; simp
                                              have p1 : (yb == zb) = true := by rw [m1]; simp
                                              have p2 : (yc == zc) = false := by simpa using m2
                                              clear m0 m1 m2
                                              go_wp2_with fail
                                              go_quiet (fail)
                                              go_wp2_with fail
                                              go_ret
                                              exact ⟨rfl, HO.out.drewN _⟩
                                          · obtain rfl := HNE.out (fun h => m1 (by simpa using congrArg (fun u => u.2.1) h))
                                            have p0 : (ya.toList == za.toList) = true := by rw [m0]; simp
                                            have p1 : (yb == zb) = false := by simpa using m1
                                            clear m0 m1
                                            go_wp2_with fail
                                            go_quiet (fail)
                                            go_wp2_with fail
                                            go_ret
                                            exact ⟨rfl, HO.out.drewN _⟩
                                        · obtain rfl := HNE.out (fun h => m0 (by simpa using congrArg (fun u => u.1) h))
                                          have p0 : (ya.toList == za.toList) = false := by rw [Bool.eq_false_iff]; intro h; exact m0 (tlU_iff.1 h)
                                          clear m0
                                          go_wp2_with fail
                                          go_quiet (fail)
                                          go_wp2_with fail
                                          go_ret
                                          exact ⟨rfl, HO.out.drewN _⟩
                                      · obtain rfl : k = a.quotas.length := by omega
                                        have j1 : ¬ (a.quotas.length : Int) < a.quotas.length := by omega
                                        have HH11 := Lib.hid (show a.quotas = b.quotas by
                                          have := HTK.out
                                          rw [List.take_length, HN11.out, List.take_length] at this
                                          exact this)
                                        clear hlt hk HTK
                                        go_wp2_with fail
                                        obtain rfl : bb = true := HE.out.2 (dr_ext HH0.out HH1.out HH2.out HH3.out HH4.out HH5.out HH6.out HH7.out HH8.out HH9.out HH10.out HH11.out HH12.out)
                                        go_ret
                                        exact ⟨rfl, HO.out⟩
                          · have m11 : ¬ a.quotas = b.quotas := fun h => n11 (by rw [h])
                            obtain rfl : bb = false := by
                              cases hbb : bb with
                              | false => rfl
                              | true => exact absurd (by rw [HE.out.1 hbb]) m11
                            have q11 : ((a.quotas.length : Int) != b.quotas.length) = true := by rw [bne_iff_ne]; omega
                            clear n11 m11
                            go_wp2_with fail
                            go_ret
                            exact ⟨rfl, HO.out⟩
                        · have m8 : ¬ a.places = b.places := fun h => n8 (by rw [h])
                          obtain rfl : bb = false := by
                            cases hbb : bb with
                            | false => rfl
                            | true => exact absurd (by rw [HE.out.1 hbb]) m8
                          have q8 : ((a.places.length : Int) != b.places.length) = true := by rw [bne_iff_ne]; omega
                          clear n8 m8
                          go_wp2_with fail
                          go_ret
                          exact ⟨rfl, HO.out⟩
                      · have m6 : ¬ a.tiers = b.tiers := fun h => n6 (by rw [h])
                        obtain rfl : bb = false := by
                          cases hbb : bb with
                          | false => rfl
                          | true => exact absurd (by rw [HE.out.1 hbb]) m6
                        have q6 : ((a.tiers.length : Int) != b.tiers.length) = true := by rw [bne_iff_ne]; omega
                        clear n6 m6
                        go_wp2_with fail
                        go_ret
                        exact ⟨rfl, HO.out⟩
                  · obtain rfl : bb = false := by
                      cases hbb : bb with
                      | false => rfl
                      | true => exact absurd (by rw [HE.out.1 hbb]) m10
                    have p0 : (a.name.toList == b.name.toList) = true := by rw [m0]; simp
                    have p1 : (a.kind != b.kind) = false := by rw [m1]; simp
                    have p2 : (a.round != b.round) = false := by rw [m2]; simp
                    have p3 : (a.price != b.price) = false := by rw [m3]; simp
                    have p4 : (a.pool != b.pool) = false := by rw [m4]; simp
                    have p5 : (a.pick != b.pick) = false := by rw [m5]; simp
                    rw [← m7] at e7
                    have p9 : (a.cls != b.cls) = false := by rw [m9]; simp
                    have p10 : (a.size != b.size) = true := by simpa using m10
                    clear m0 m1 m2 m3 m4 m5 m7 m9 m10
                    go_wp2_with fail
                    go_ret
                    exact ⟨rfl, HO.out⟩
                · obtain rfl : bb = false := by
                    cases hbb : bb with
                    | false => rfl
                    | true => exact absurd (by rw [HE.out.1 hbb]) m9
                  have p0 : (a.name.toList == b.name.toList) = true := by rw [m0]; simp
                  have p1 : (a.kind != b.kind) = false := by rw [m1]; simp
                  have p2 : (a.round != b.round) = false := by rw [m2]; simp
                  have p3 : (a.price != b.price) = false := by rw [m3]; simp
                  have p4 : (a.pool != b.pool) = false := by rw [m4]; simp
                  have p5 : (a.pick != b.pick) = false := by rw [m5]; simp
                  rw [← m7] at e7
                  have p9 : (a.cls != b.cls) = true := by simpa using m9
                  clear m0 m1 m2 m3 m4 m5 m7 m9
                  go_wp2_with fail
                  go_ret
                  exact ⟨rfl, HO.out⟩
              · obtain rfl : bb = false := by
                  cases hbb : bb with
                  | false => rfl
                  | true => exact absurd (by rw [HE.out.1 hbb]) m7
                have p0 : (a.name.toList == b.name.toList) = true := by rw [m0]; simp
                have p1 : (a.kind != b.kind) = false := by rw [m1]; simp
                have p2 : (a.round != b.round) = false := by rw [m2]; simp
                have p3 : (a.price != b.price) = false := by rw [m3]; simp
                have p4 : (a.pool != b.pool) = false := by rw [m4]; simp
                have p5 : (a.pick != b.pick) = false := by rw [m5]; simp
                rw [not_of_ne m7] at e7
                clear m0 m1 m2 m3 m4 m5 m7
                go_wp2_with fail
                go_ret
                exact ⟨rfl, HO.out⟩
            · obtain rfl : bb = false := by
                cases hbb : bb with
                | false => rfl
                | true => exact absurd (by rw [HE.out.1 hbb]) m5
              have p0 : (a.name.toList == b.name.toList) = true := by rw [m0]; simp
              have p1 : (a.kind != b.kind) = false := by rw [m1]; simp
              have p2 : (a.round != b.round) = false := by rw [m2]; simp
              have p3 : (a.price != b.price) = false := by rw [m3]; simp
              have p4 : (a.pool != b.pool) = false := by rw [m4]; simp
              have p5 : (a.pick != b.pick) = true := by simpa using m5
              clear m0 m1 m2 m3 m4 m5
              go_wp2_with fail
              go_ret
              exact ⟨rfl, HO.out⟩
          · obtain rfl : bb = false := by
              cases hbb : bb with
              | false => rfl
              | true => exact absurd (by rw [HE.out.1 hbb]) m4
            have p0 : (a.name.toList == b.name.toList) = true := by rw [m0]; simp
            have p1 : (a.kind != b.kind) = false := by rw [m1]; simp
            have p2 : (a.round != b.round) = false := by rw [m2]; simp
            have p3 : (a.price != b.price) = false := by rw [m3]; simp
            have p4 : (a.pool != b.pool) = true := by simpa using m4
            clear m0 m1 m2 m3 m4
            go_wp2_with fail
            go_ret
            exact ⟨rfl, HO.out⟩
        · obtain rfl : bb = false := by
            cases hbb : bb with
            | false => rfl
            | true => exact absurd (by rw [HE.out.1 hbb]) m3
          have p0 : (a.name.toList == b.name.toList) = true := by rw [m0]; simp
          have p1 : (a.kind != b.kind) = false := by rw [m1]; simp
          have p2 : (a.round != b.round) = false := by rw [m2]; simp
          have p3 : (a.price != b.price) = true := by simpa using m3
          clear m0 m1 m2 m3
          go_wp2_with fail
          go_ret
          exact ⟨rfl, HO.out⟩
      · obtain rfl : bb = false := by
          cases hbb : bb with
          | false => rfl
          | true => exact absurd (by rw [HE.out.1 hbb]) m2
        have p0 : (a.name.toList == b.name.toList) = true := by rw [m0]; simp
        have p1 : (a.kind != b.kind) = false := by rw [m1]; simp
        have p2 : (a.round != b.round) = true := by simpa using m2
        clear m0 m1 m2
        go_wp2_with fail
        go_ret
        exact ⟨rfl, HO.out⟩
    · obtain rfl : bb = false := by
        cases hbb : bb with
        | false => rfl
        | true => exact absurd (by rw [HE.out.1 hbb]) m1
      have p0 : (a.name.toList == b.name.toList) = true := by rw [m0]; simp
      have p1 : (a.kind != b.kind) = true := by simpa using m1
      clear m0 m1
      go_wp2_with fail
      go_ret
      exact ⟨rfl, HO.out⟩
  · obtain rfl : bb = false := by
      cases hbb : bb with
      | false => rfl
      | true => exact absurd (by rw [HE.out.1 hbb]) m0
    have p0 : (a.name.toList == b.name.toList) = false := by rw [Bool.eq_false_iff]; intro h; exact m0 (tlU_iff.1 h)
    clear m0
    go_wp2_with fail
    go_ret
    exact ⟨rfl, HO.out⟩
end Go.Proofs.YteikkpiginfbkaaGreatDoor

namespace Go.Proofs.YteikkpiginfbkaaGreatDoor
open Go.RowKit

set_option maxHeartbeats 1000000 in
set_option maxRecDepth 100000 in
theorem rofneg_any (z : Int) (w : World) (hn : z ≤ 0) :
    Calls Tryz.prog 24 #[.int .i64 z] w fun e w' => e = .returned (.string (natB 0)) ∧ Only (fun _ => False) w w' := by
  have HE0 := Lib.hid (show natB (valB (strOfNums [])) = natB 0 from rfl)
  have hcv := run_convert_bytes_nil (P := Tryz.prog) w 93 5 Tryz.underlying93 Tryz.underlying5 0 0 63 Tryz.underlying63
  have i1 : ¬ 0 < z := by omega
  clear hn
  go_enter Tryz.func24, Tryz.ntmps24
  go_wp2_with fail
  go_loop [3, 4] (fun vb vi => vb = .slice none 0 0 ∧ vi = .int .i64 56) (fun _ _ => 0)
  case atStart => exact ⟨rfl, rfl⟩
  case round =>
    obtain ⟨rfl, rfl⟩ := hrel
    go_wp2_with fail
    refine (rcanon_any _ _ (by decide)).mono ?_
    rintro e w' ⟨rfl, rfl⟩
    go_wp2
    go_ret
    exact ⟨by rw [← HE0.out]; rfl, Only.refl _ _⟩
theorem rofall_any (z : Int) (w : World) (h : z ≤ 9223372036854775807) :
    Calls Tryz.prog 24 #[.int .i64 z] w fun e w' => e = .returned (.string (natB z.toNat)) ∧ Only (fun _ => False) w w' := by
  by_cases h0 : z ≤ 0
  · have := rofneg_any z w h0
    rw [show z.toNat = 0 by omega]
    exact this
  · exact (rofI_any z w (by omega) h).mono fun _ _ h => ⟨h.1, Only.ofBelow h.2 _⟩
set_option maxHeartbeats 1000000 in
set_option maxRecDepth 100000 in
theorem rdec13_any (z : Int) (w : World) (h : R64 z) :
    Calls Tryz.prog 68 #[.int .i64 z] w fun e w' => e = .returned (.string (decW z)) ∧ Only (fun _ => False) w w' := by
  have hz : z ≤ 9223372036854775807 := by unfold R64 at h; omega
  have hn : z.toNat < 9223372036854775808 := by omega
  have H1 := Lib.hid (rofall_any z w hz)
  have H2 := Lib.hid (fun w => rtext1_any z.toNat w hn)
  unfold decW
  generalize natB z.toNat = bn at *
  clear hn hz h
  go_enter Tryz.func68, Tryz.ntmps68
  go_wp2_with fail
  refine H1.out.mono ?_
  rintro e w1 ⟨rfl, hO1⟩
  have HO1 := Lib.hid hO1
  clear hO1 H1
  go_wp2_with fail
  refine (H2.out _).mono ?_
  rintro e w2 ⟨rfl, hO2⟩
  have HO2 := Lib.hid (HO1.out.trans hO2)
  clear hO2
  go_wp2
  go_ret
  exact ⟨rfl, HO2.out⟩
end Go.Proofs.YteikkpiginfbkaaGreatDoor

namespace Go.Proofs.YteikkpiginfbkaaGreatDoor
open Go.RowKit

theorem st_1 (ls : List (List ByteArray)) (k K x : ByteArray) (hK : K.data.toList = k.data.toList ++ [32]) : arrB (flatL ls) ++ K ++ x ++ ⟨#[10]⟩ = arrB (flatL (ls ++ [[k, x]])) := by
  apply ba_ext
  simp only [app_data, hK]
  show flatL ls ++ _ ++ _ ++ [10] = flatL (ls ++ [[k, x]])
  rw [flatL_app, flatL_one, lineW_cons, lineW_one]
  simp
theorem st_2 (ls : List (List ByteArray)) (k K x y : ByteArray) (hK : K.data.toList = k.data.toList ++ [32]) : arrB (flatL ls) ++ K ++ x ++ ⟨#[32]⟩ ++ y ++ ⟨#[10]⟩ = arrB (flatL (ls ++ [[k, x, y]])) := by
  apply ba_ext
  simp only [app_data, hK]
  show flatL ls ++ _ ++ _ ++ [32] ++ _ ++ [10] = flatL (ls ++ [[k, x, y]])
  rw [flatL_app, flatL_one, lineW_cons, lineW_cons, lineW_one]
  simp
theorem st_3 (ls : List (List ByteArray)) (k K x y z : ByteArray) (hK : K.data.toList = k.data.toList ++ [32]) : arrB (flatL ls) ++ K ++ x ++ ⟨#[32]⟩ ++ y ++ ⟨#[32]⟩ ++ z ++ ⟨#[10]⟩ = arrB (flatL (ls ++ [[k, x, y, z]])) := by
  apply ba_ext
  simp only [app_data, hK]
  show flatL ls ++ _ ++ _ ++ [32] ++ _ ++ [32] ++ _ ++ [10] = flatL (ls ++ [[k, x, y, z]])
  rw [flatL_app, flatL_one, lineW_cons, lineW_cons, lineW_cons, lineW_one]
  simp
theorem st_rp (ls : List (List ByteArray)) (x y : ByteArray) : arrB (flatL ls) ++ ⟨#[114, 111, 117, 110, 100, 32]⟩ ++ x ++ ⟨#[10, 112, 114, 105, 99, 101, 32]⟩ ++ y ++ ⟨#[10]⟩ = arrB (flatL (ls ++ [[kRound, x], [kPrice, y]])) := by
  apply ba_ext
  simp only [app_data]
  show flatL ls ++ _ ++ _ ++ _ ++ _ ++ [10] = flatL (ls ++ [[kRound, x], [kPrice, y]])
  rw [flatL_app, flatL_cons, flatL_one, lineW_cons, lineW_one, lineW_cons, lineW_one]
  simp [show kRound.data.toList = [114, 111, 117, 110, 100] from rfl, show kPrice.data.toList = [112, 114, 105, 99, 101] from rfl]
theorem st_roll (ls : List (List ByteArray)) : arrB (flatL ls) ++ ⟨#[114, 111, 108, 108, 10]⟩ = arrB (flatL (ls ++ [[kRoll]])) := by
  apply ba_ext
  simp only [app_data]
  show flatL ls ++ _ = flatL (ls ++ [[kRoll]])
  rw [flatL_app, flatL_one, lineW_one]
  simp [show kRoll.data.toList = [114, 111, 108, 108] from rfl]
theorem st_draw (n : ByteArray) : (⟨#[100, 114, 97, 119, 32]⟩ : ByteArray) ++ n ++ ⟨#[10]⟩ = arrB (flatL [[kDraw, n]]) := by
  apply ba_ext
  simp only [app_data]
  show _ ++ _ ++ [10] = flatL [[kDraw, n]]
  rw [flatL_one, lineW_cons, lineW_one]
  simp [show kDraw.data.toList = [100, 114, 97, 119] from rfl]
theorem px_take {α : Type} (f : α → List ByteArray) (l : List α) (k : Nat) (P b L : List (List ByteArray)) (h : L = (P ++ l.map f) ++ b) : L = (P ++ (l.take k).map f) ++ ((l.drop k).map f ++ b) := by
  have e : l.map f = (l.take k).map f ++ (l.drop k).map f := by rw [← List.map_append, List.take_append_drop]
  rw [h, e]
  simp only [List.append_assoc]
theorem fl_size (l : List UInt8) : (arrB l).size = l.length := by unfold arrB; simp [ByteArray.size]
theorem ba_len (b : ByteArray) : b.data.toList.length = b.size := Array.length_toList
/-- The numbers of a draw are words of 64 bits. -/
structure Dr64 (d : Dr) : Prop where
  round : R64 d.round
  price : R64 d.price
  pool : R64 d.pool
  pick : R64 d.pick
  cls : R64 d.cls
  size : R64 d.size
  tiers : ∀ x ∈ d.tiers, R64 x.1 ∧ R64 x.2
  places : ∀ x ∈ d.places, R64 x.2
  quotas : ∀ x ∈ d.quotas, R64 x.2.1 ∧ R64 x.2.2
  barred : ∀ x ∈ d.barred, R64 x
theorem dec64_size {z : Int} (h : R64 z) : (decW z).size ≤ 21 := by
  have h1 : z.toNat < 9223372036854775808 := by unfold R64 at h; omega
  have h2 : (decW z).data.toList.length ≤ 20 := by
    rw [dec_data]
    exact (digs_len 19 z.toNat (by simp; omega)).1
  rw [ba_len] at h2
  omega
set_option maxRecDepth 100000 in
set_option maxHeartbeats 100000000 in
theorem rwrite_any (d : Dr) (vt vp vq vb : Value) (base : Nat) (w : World) (hd : DrOwn base w d vt vp vq vb) (hs : Short 1000 21 d) (hi : Dr64 d) (hl : d.tiers.length + d.places.length + d.quotas.length + d.barred.length ≤ 400) :
    Calls Tryz.prog 42 #[.agg (drCells d vt vp vq vb)] w fun e w' => e = .returned (.string (writeB d)) ∧ Only (fun _ => False) w w' := by
  obtain ⟨at1, ct, rfl⟩ := slice_of_own hd.tiers
  obtain ⟨ap1, cp, rfl⟩ := slice_of_own hd.places
  obtain ⟨aq1, cq, rfl⟩ := slice_of_own hd.quotas
  obtain ⟨ab1, cb, rfl⟩ := slice_of_own hd.bars
  have HD := Lib.hid hd
  have HS := Lib.hid hs
  have HI := Lib.hid hi
  have HPX := Lib.hid (show ∀ a b, lnsZ d = a ++ b → (arrB (flatL a)).size ≤ 500000 from fun a b e => by
    have h1 := write_len hs (c := 405) (by omega)
    unfold writeL at h1
    rw [e, flatL_app, List.length_append] at h1
    rw [fl_size]; omega)
  have HZ := Lib.hid (heap_alloc_last w (.cells (drCells d (.slice at1 d.tiers.length ct) (.slice ap1 d.places.length cp) (.slice aq1 d.quotas.length cq) (.slice ab1 d.barred.length cb)) 33))
  have HO := Lib.hid ((Only.refl (fun _ => False) w).alloc (.cells (drCells d (.slice at1 d.tiers.length ct) (.slice ap1 d.places.length cp) (.slice aq1 d.quotas.length cq) (.slice ab1 d.barred.length cb)) 33))
  have hn : d.name.size ≤ 1000 := by have h := hs.name; rwa [ba_len] at h
  clear hd hs hi hl
  go_enter Tryz.func42, Tryz.ntmps42
  go_upto_region 1 with (fail)
  generalize World.alloc w _ = w2 at *
  have HZ2 := Lib.hid HZ.out
  have HD2 := Lib.hid (HD.out.only HO.out (fun _ _ h => h))
  have hlt0 : w.heap.size < w2.heap.size := (Array.getElem?_eq_some_iff.1 HZ2.out).1
  have c0 : w2.cell? ⟨w.heap.size, 0, none⟩ = some (Value.string d.name) := cell_of_row _ _ 0 _ _ _ HZ2.out
  have c1 : w2.cell? ⟨w.heap.size, 1, none⟩ = some (Value.int .i64 d.kind) := cell_of_row _ _ 1 _ _ _ HZ2.out
  have c2 : w2.cell? ⟨w.heap.size, 2, none⟩ = some (Value.int .i64 d.round) := cell_of_row _ _ 2 _ _ _ HZ2.out
  have c3 : w2.cell? ⟨w.heap.size, 3, none⟩ = some (Value.int .i64 d.price) := cell_of_row _ _ 3 _ _ _ HZ2.out
  have c4 : w2.cell? ⟨w.heap.size, 4, none⟩ = some (Value.int .i64 d.pool) := cell_of_row _ _ 4 _ _ _ HZ2.out
  have c5 : w2.cell? ⟨w.heap.size, 5, none⟩ = some (Value.int .i64 d.pick) := cell_of_row _ _ 5 _ _ _ HZ2.out
  have c6 : w2.cell? ⟨w.heap.size, 6, none⟩ = some (Value.slice at1 d.tiers.length ct) := cell_of_row _ _ 6 _ _ _ HZ2.out
  have c7 : w2.cell? ⟨w.heap.size, 7, none⟩ = some (Value.bool d.roll) := cell_of_row _ _ 7 _ _ _ HZ2.out
  have c8 : w2.cell? ⟨w.heap.size, 8, none⟩ = some (Value.slice ap1 d.places.length cp) := cell_of_row _ _ 8 _ _ _ HZ2.out
  have c9 : w2.cell? ⟨w.heap.size, 9, none⟩ = some (Value.int .i64 d.cls) := cell_of_row _ _ 9 _ _ _ HZ2.out
  have c10 : w2.cell? ⟨w.heap.size, 10, none⟩ = some (Value.int .i64 d.size) := cell_of_row _ _ 10 _ _ _ HZ2.out
  have c11 : w2.cell? ⟨w.heap.size, 11, none⟩ = some (Value.slice aq1 d.quotas.length cq) := cell_of_row _ _ 11 _ _ _ HZ2.out
  have c12 : w2.cell? ⟨w.heap.size, 12, none⟩ = some (Value.slice ab1 d.barred.length cb) := cell_of_row _ _ 12 _ _ _ HZ2.out
  have i1 : ¬ (9223372036854775807 < 5 + d.name.size) := by omega
  have i2 : ¬ (9223372036854775807 < 5 + d.name.size + 1) := by omega
  clear hn
  go_upto_block 0 with (fail)
  rw [st_draw]
  clear i1 i2
  go_cut [3] (fun v wx => v = .string (arrB (flatL ([kDraw, d.name] :: kindL d))) ∧ Only (fun _ => False) w2 wx)
  case first =>
    by_cases hk : d.kind = 1
    · have q1 : (d.kind == 1) = true := by rw [hk]; rfl
      have HK := Lib.hid hk
      clear hk
      obtain ⟨s, hs⟩ : ∃ s, arrB (flatL ([[kDraw, d.name]])) = s := ⟨_, rfl⟩
      rw [hs]
      have HSS := Lib.hid hs
      have ns : s.size ≤ 500000 := by rw [← hs]; exact HPX.out [[kDraw, d.name]] _ rfl
      clear hs
      obtain ⟨xa, hxa⟩ : ∃ xa, decW d.pool = xa := ⟨_, rfl⟩
      have nxa : xa.size ≤ 21 := by rw [← hxa]; exact dec64_size HI.out.pool
      have HXxa := Lib.hid hxa
      have HCxa := Lib.hid (fun W => rdec13_any d.pool W HI.out.pool)
      rw [hxa] at HCxa
      clear hxa
      obtain ⟨xb, hxb⟩ : ∃ xb, decW d.pick = xb := ⟨_, rfl⟩
      have nxb : xb.size ≤ 21 := by rw [← hxb]; exact dec64_size HI.out.pick
      have HXxb := Lib.hid hxb
      have HCxb := Lib.hid (fun W => rdec13_any d.pick W HI.out.pick)
      rw [hxb] at HCxb
      clear hxb
      have i1 : ¬ (9223372036854775807 < s.size + 8) := by omega
      have i2 : ¬ (9223372036854775807 < s.size + 8 + xa.size) := by omega
      have i3 : ¬ (9223372036854775807 < s.size + 8 + xa.size + 1) := by omega
      have i4 : ¬ (9223372036854775807 < s.size + 8 + xa.size + 1 + xb.size) := by omega
      have i5 : ¬ (9223372036854775807 < s.size + 8 + xa.size + 1 + xb.size + 1) := by omega
      go_upto_region 4 with (fail)
      have yc4 := fun (d : Nat) (os : Array Obj) => cell_regrown c4 d os
      have yc5 := fun (d : Nat) (os : Array Obj) => cell_regrown c5 d os
      clear c4 c5
      refine wp_region_quiet_below (by kernel_rfl) (by kernel_rfl) ?_
      repeat (go_big_quiet_step ((go_at_call 68; first | exact Calls.regrown_of ((HCxa.out _).mono fun _ _ h => ⟨h.1, h.2.below (Nat.le_refl _) (fun _ _ h => h)⟩) | exact Calls.regrown_of ((HCxb.out _).mono fun _ _ h => ⟨h.1, h.2.below (Nat.le_refl _) (fun _ _ h => h)⟩))))
      refine wpQuiet_nil ?_
      intro wy hw'
      obtain ⟨pq, hw''⟩ := hw'
      have HOy := Lib.hid (Only.ofBelow (below_regrown w2 pq.d pq.os) (fun _ => False))
      rw [← hw''] at HOy
      clear hw'' yc4 yc5
      go_wp2_with fail
      go_meet
      have hk := HK.out
      rw [show kindL d = [[kLottery, decW d.pool, decW d.pick]] by unfold kindL; rw [if_pos hk], ← HSS.out, HXxa.out, HXxb.out]
      exact ⟨by rw [st_2 _ kLottery _ _ _ (by rfl)]; rfl, HOy.out⟩
    · by_cases hk2 : d.kind = 2
      · have hk := hk2
        clear hk2
        have q1 : (d.kind == 1) = false := by rw [hk]; rfl
        have q2 : (d.kind == 2) = true := by rw [hk]; rfl
        have HK := Lib.hid hk
        clear hk
        obtain ⟨s, hs⟩ : ∃ s, arrB (flatL ([[kDraw, d.name]])) = s := ⟨_, rfl⟩
        rw [hs]
        have HSS := Lib.hid hs
        have ns : s.size ≤ 500000 := by rw [← hs]; exact HPX.out [[kDraw, d.name]] _ rfl
        clear hs
        obtain ⟨xa, hxa⟩ : ∃ xa, decW d.cls = xa := ⟨_, rfl⟩
        have nxa : xa.size ≤ 21 := by rw [← hxa]; exact dec64_size HI.out.cls
        have HXxa := Lib.hid hxa
        have HCxa := Lib.hid (fun W => rdec13_any d.cls W HI.out.cls)
        rw [hxa] at HCxa
        clear hxa
        have i1 : ¬ (9223372036854775807 < s.size + 7) := by omega
        have i2 : ¬ (9223372036854775807 < s.size + 7 + xa.size) := by omega
        have i3 : ¬ (9223372036854775807 < s.size + 7 + xa.size + 1) := by omega
        go_wp2_with fail
        refine (HCxa.out _).mono ?_
        rintro e wy ⟨rfl, hOy⟩
        have HOy := Lib.hid hOy
        clear hOy
        go_wp2_with fail
        go_meet
        have hk := HK.out
        rw [show kindL d = [[kBallot, decW d.cls]] by unfold kindL; rw [if_neg (by rw [hk]; decide), if_pos hk], ← HSS.out, HXxa.out]
        exact ⟨by rw [st_1 _ kBallot _ _ (by rfl)]; rfl, HOy.out⟩
      · by_cases hk3 : d.kind = 3
        · have hk := hk3
          clear hk2 hk3
          have q1 : (d.kind == 1) = false := by rw [hk]; rfl
          have q2 : (d.kind == 2) = false := by rw [hk]; rfl
          have q3 : (d.kind == 3) = true := by rw [hk]; rfl
          have HK := Lib.hid hk
          clear hk
          obtain ⟨s, hs⟩ : ∃ s, arrB (flatL ([[kDraw, d.name]])) = s := ⟨_, rfl⟩
          rw [hs]
          have HSS := Lib.hid hs
          have ns : s.size ≤ 500000 := by rw [← hs]; exact HPX.out [[kDraw, d.name]] _ rfl
          clear hs
          obtain ⟨xa, hxa⟩ : ∃ xa, decW d.size = xa := ⟨_, rfl⟩
          have nxa : xa.size ≤ 21 := by rw [← hxa]; exact dec64_size HI.out.size
          have HXxa := Lib.hid hxa
          have HCxa := Lib.hid (fun W => rdec13_any d.size W HI.out.size)
          rw [hxa] at HCxa
          clear hxa
          have i1 : ¬ (9223372036854775807 < s.size + 6) := by omega
          have i2 : ¬ (9223372036854775807 < s.size + 6 + xa.size) := by omega
          have i3 : ¬ (9223372036854775807 < s.size + 6 + xa.size + 1) := by omega
          go_wp2_with fail
          refine (HCxa.out _).mono ?_
          rintro e wy ⟨rfl, hOy⟩
          have HOy := Lib.hid hOy
          clear hOy
          go_wp2_with fail
          go_meet
          have hk := HK.out
          rw [show kindL d = [[kPanel, decW d.size]] by unfold kindL; rw [if_neg (by rw [hk]; decide), if_neg (by rw [hk]; decide), if_pos hk], ← HSS.out, HXxa.out]
          exact ⟨by rw [st_1 _ kPanel _ _ (by rfl)]; rfl, HOy.out⟩
        · have q1 : (d.kind == 1) = false := by simpa using hk
          have q2 : (d.kind == 2) = false := by simpa using hk2
          have q3 : (d.kind == 3) = false := by simpa using hk3
          have HK := Lib.hid (And.intro hk (And.intro hk2 hk3))
          clear hk hk2 hk3
          go_wp2_with fail
          go_meet
          rw [show kindL d = [] by unfold kindL; rw [if_neg HK.out.1, if_neg HK.out.2.1, if_neg HK.out.2.2]]
          exact ⟨rfl, Only.refl _ _⟩
  case rest =>
    obtain ⟨rfl, hO1⟩ := hcut
    have HO1 := Lib.hid hO1
    clear hO1 c0 c1 c2 c3 c4 c5 c6 c7 c8 c9 c10 c11 c12
    have HZ3 := Lib.hid (row_still HO1.out HZ2.out)
    have c2 : wc.cell? ⟨w.heap.size, 2, none⟩ = some (Value.int .i64 d.round) := cell_of_row _ _ 2 _ _ _ HZ3.out
    have c3 : wc.cell? ⟨w.heap.size, 3, none⟩ = some (Value.int .i64 d.price) := cell_of_row _ _ 3 _ _ _ HZ3.out
    have HHE := Lib.hid (show ([kDraw, d.name] :: kindL d) ++ [[kRound, decW d.round], [kPrice, decW d.price]] = headL d from rfl)
    have ns : (arrB (flatL ([kDraw, d.name] :: kindL d))).size ≤ 500000 := HPX.out _ ([[kRound, decW d.round], [kPrice, decW d.price]] ++ restL d) (by unfold lnsZ; rw [← HHE.out, List.append_assoc])
    generalize ([kDraw, d.name] :: kindL d) = l2 at *
    obtain ⟨s, hs⟩ : ∃ s, arrB (flatL l2) = s := ⟨_, rfl⟩
    rw [hs] at ns ⊢
    have HSS := Lib.hid hs
    clear hs
    obtain ⟨xa, hxa⟩ : ∃ xa, decW d.round = xa := ⟨_, rfl⟩
    have nxa : xa.size ≤ 21 := by rw [← hxa]; exact dec64_size HI.out.round
    have HXxa := Lib.hid hxa
    have HCxa := Lib.hid (fun W => rdec13_any d.round W HI.out.round)
    rw [hxa] at HCxa
    clear hxa
    obtain ⟨xb, hxb⟩ : ∃ xb, decW d.price = xb := ⟨_, rfl⟩
    have nxb : xb.size ≤ 21 := by rw [← hxb]; exact dec64_size HI.out.price
    have HXxb := Lib.hid hxb
    have HCxb := Lib.hid (fun W => rdec13_any d.price W HI.out.price)
    rw [hxb] at HCxb
    clear hxb
    have i1 : ¬ (9223372036854775807 < s.size + 6) := by omega
    have i2 : ¬ (9223372036854775807 < s.size + 6 + xa.size) := by omega
    have i3 : ¬ (9223372036854775807 < s.size + 6 + xa.size + 7) := by omega
    have i4 : ¬ (9223372036854775807 < s.size + 6 + xa.size + 7 + xb.size) := by omega
    have i5 : ¬ (9223372036854775807 < s.size + 6 + xa.size + 7 + xb.size + 1) := by omega
    go_upto_region 9 with (fail)
    have yc2 := fun (d : Nat) (os : Array Obj) => cell_regrown c2 d os
    have yc3 := fun (d : Nat) (os : Array Obj) => cell_regrown c3 d os
    clear c2 c3
    refine wp_region_quiet_below (by kernel_rfl) (by kernel_rfl) ?_
    repeat (go_big_quiet_step ((go_at_call 68; first | exact Calls.regrown_of ((HCxa.out _).mono fun _ _ h => ⟨h.1, h.2.below (Nat.le_refl _) (fun _ _ h => h)⟩) | exact Calls.regrown_of ((HCxb.out _).mono fun _ _ h => ⟨h.1, h.2.below (Nat.le_refl _) (fun _ _ h => h)⟩))))
    refine wpQuiet_nil ?_
    intro wy hw'
    obtain ⟨pq, hw''⟩ := hw'
    have HOy := Lib.hid (Only.ofBelow (below_regrown wc pq.d pq.os) (fun _ => False))
    rw [← hw''] at HOy
    clear hw'' yc2 yc3
    have hst : s ++ ⟨#[114, 111, 117, 110, 100, 32]⟩ ++ xa ++ ⟨#[10, 112, 114, 105, 99, 101, 32]⟩ ++ xb ++ ⟨#[10]⟩ = arrB (flatL (headL d)) := by
      rw [← HHE.out, ← HSS.out, HXxa.out, HXxb.out]; exact st_rp _ _ _
    go_upto_block 1 with (fail)
    rw [hst]
    clear hst ns nxa nxb
    clear i1 i2 i3 i4 i5
    have HO1 := Lib.hid (HO1.out.trans HOy.out)
    clear HOy HXxa HXxb HCxa HCxb HSS HHE HZ3
    have HQ1 := Lib.hid (show headL d ++ [] = headL d from List.append_nil _)
    have HPQ := Lib.hid (show ∃ b, lnsZ d = headL d ++ b from ⟨_, rfl⟩)
    generalize wy = wc at *
    clear HPQ HQ1
    have HPQ := Lib.hid (show ∃ b, lnsZ d = (headL d ++ d.tiers.map tierL) ++ b from ⟨rollL d.roll ++ (d.places.map placeL ++ (d.quotas.map quotaL ++ d.barred.map barL)), by unfold lnsZ restL; simp only [List.append_assoc]⟩)
    go_upto_block 1 with (fail)
    go_cut [3] (fun v wx => v = .string (arrB (flatL (headL d ++ d.tiers.map tierL))) ∧ Only (fun _ => False) w2 wx)
    case first =>
      generalize headL d = l0 at *
      go_wp2_with fail
      go_loopw [3, 4] (fun v iv wr => ∃ k : Nat, iv = .int .i64 k ∧ k ≤ d.tiers.length ∧ v = .string (arrB (flatL (l0 ++ (d.tiers.take k).map tierL))) ∧ Only (fun _ => False) w2 wr) (fun _ iv _ => d.tiers.length - (intOf iv).toNat)
      case atStart => exact ⟨0, rfl, Nat.zero_le _, by simp, HO1.out⟩
      case round =>
        obtain ⟨k, rfl, hk, rfl, hO4⟩ := hrel
        have HO4 := Lib.hid hO4
        have HZ4 := Lib.hid (row_still hO4 HZ2.out)
        have HD4 := Lib.hid (HD2.out.only hO4 (fun _ _ h => h))
        clear hO4
        have c6 : wr.cell? ⟨w.heap.size, 6, none⟩ = some (Value.slice at1 d.tiers.length ct) := cell_of_row _ _ 6 _ _ _ HZ4.out
        have ns : (arrB (flatL (l0 ++ (d.tiers.take k).map tierL))).size ≤ 500000 := by obtain ⟨b, hb⟩ := HPQ.out; exact HPX.out _ _ (px_take _ _ k _ _ _ hb)
        by_cases hlt : k < d.tiers.length
        · have HLN := Lib.hid (show l0 ++ (d.tiers.take (k + 1)).map tierL = (l0 ++ (d.tiers.take k).map tierL) ++ [tierL d.tiers[k]] by
            rw [take_snoc hlt, List.map_append, List.append_assoc]; rfl)
          obtain ⟨s, hs⟩ : ∃ s, arrB (flatL (l0 ++ (d.tiers.take k).map tierL)) = s := ⟨_, rfl⟩
          rw [hs] at ns ⊢
          have HSS := Lib.hid hs
          clear hs
          have j1 : (k : Int) < d.tiers.length := by omega
          have j2 : 0 ≤ (k : Int) := by omega
          have h0 := flat_at (fun x : Int × Int => [Value.int .i64 x.1, Value.int .i64 x.2]) 2 (fun _ => rfl) d.tiers k 0 hlt (by decide)
          have h1 := flat_at (fun x : Int × Int => [Value.int .i64 x.1, Value.int .i64 x.2]) 2 (fun _ => rfl) d.tiers k 1 hlt (by decide)
          obtain ⟨g, cap, hv, hg, hc1, hc2, d0⟩ := own_cell HD4.out.tiers h0
          obtain ⟨g1, cap1, hv1, _, _, _, d1⟩ := own_cell HD4.out.tiers h1
          rw [hv] at hv1
          simp only [Value.slice.injEq, Option.some.injEq, Addr.mk.injEq, and_true, true_and] at hv hv1
          obtain ⟨rfl, rfl⟩ := hv
          obtain ⟨rfl, rfl⟩ := hv1
          have hm := List.getElem_mem hlt
          obtain ⟨r1, r2⟩ := HI.out.tiers _ hm
          clear hm h0 h1
          generalize d.tiers[k] = y at *
          obtain ⟨ya, yb⟩ := y
          change _ = some (Value.int .i64 ya) at d0
          change _ = some (Value.int .i64 yb) at d1
          rw [Nat.add_zero] at d0
          change R64 ya at r1
          change R64 yb at r2
          obtain ⟨xa, hxa⟩ : ∃ xa, decW ya = xa := ⟨_, rfl⟩
          have nxa : xa.size ≤ 21 := by rw [← hxa]; exact dec64_size r1
          have HXxa := Lib.hid hxa
          have HCxa := Lib.hid (fun W => rdec13_any ya W r1)
          rw [hxa] at HCxa
          clear hxa
          obtain ⟨xb, hxb⟩ : ∃ xb, decW yb = xb := ⟨_, rfl⟩
          have nxb : xb.size ≤ 21 := by rw [← hxb]; exact dec64_size r2
          have HXxb := Lib.hid hxb
          have HCxb := Lib.hid (fun W => rdec13_any yb W r2)
          rw [hxb] at HCxb
          clear hxb
          have i1 : ¬ (9223372036854775807 < s.size + 5) := by omega
          have i2 : ¬ (9223372036854775807 < s.size + 5 + xa.size) := by omega
          have i3 : ¬ (9223372036854775807 < s.size + 5 + xa.size + 1) := by omega
          have i4 : ¬ (9223372036854775807 < s.size + 5 + xa.size + 1 + xb.size) := by omega
          have i5 : ¬ (9223372036854775807 < s.size + 5 + xa.size + 1 + xb.size + 1) := by omega
          go_upto_region 13 with (fail)
          have yc6 := fun (d : Nat) (os : Array Obj) => cell_regrown c6 d os
          have yd0 := fun (d : Nat) (os : Array Obj) => cell_regrown d0 d os
          have yd1 := fun (d : Nat) (os : Array Obj) => cell_regrown d1 d os
          clear c6 d0 d1
          refine wp_region_quiet_below (by kernel_rfl) (by kernel_rfl) ?_
          repeat (go_big_quiet_step ((go_at_call 68; first | exact Calls.regrown_of ((HCxa.out _).mono fun _ _ h => ⟨h.1, h.2.below (Nat.le_refl _) (fun _ _ h => h)⟩) | exact Calls.regrown_of ((HCxb.out _).mono fun _ _ h => ⟨h.1, h.2.below (Nat.le_refl _) (fun _ _ h => h)⟩))))
          refine wpQuiet_nil ?_
          intro wy hw'
          obtain ⟨pq, hw''⟩ := hw'
          have HOy := Lib.hid (Only.ofBelow (below_regrown wr pq.d pq.os) (fun _ => False))
          rw [← hw''] at HOy
          clear hw'' yc6 yd0 yd1
          go_wp2_with fail
          go_roundw
          case rel =>
            refine ⟨k + 1, by go_num, hlt, ?_, HO4.out.trans HOy.out⟩
            rw [HLN.out]
            show _ = Value.string (arrB (flatL (_ ++ [[kTier, decW ya, decW yb]])))
            rw [HXxa.out, HXxb.out, ← HSS.out]
            exact congrArg Value.string (st_2 _ kTier _ _ _ (by rfl))
          case measure => simp [intOf]; omega
        · obtain rfl : k = d.tiers.length := by omega
          have j1 : ¬ (d.tiers.length : Int) < d.tiers.length := by omega
          rw [List.take_length]
          clear hlt hk ns
          go_wp2_with fail
          go_meet
          exact ⟨rfl, HO4.out⟩
    case rest =>
      obtain ⟨rfl, hO1⟩ := hcut
      have HO1 := Lib.hid hO1
      clear hO1 HPQ
      have HZ3 := Lib.hid (row_still HO1.out HZ2.out)
      have c7 : wc.cell? ⟨w.heap.size, 7, none⟩ = some (Value.bool d.roll) := cell_of_row _ _ 7 _ _ _ HZ3.out
      have ns : (arrB (flatL (headL d ++ d.tiers.map tierL))).size ≤ 500000 := HPX.out _ (rollL d.roll ++ (d.places.map placeL ++ (d.quotas.map quotaL ++ d.barred.map barL))) (by unfold lnsZ restL; simp only [List.append_assoc])
      go_upto_if 86 with (fail)
      go_cut [3] (fun v wx => v = .string (arrB (flatL ((headL d ++ d.tiers.map tierL) ++ rollL d.roll))) ∧ Only (fun _ => False) w2 wx)
      case first =>
        generalize (headL d ++ d.tiers.map tierL) = l0 at *
        cases hro : d.roll
        · rw [hro] at c7
          go_wp2_with fail
          go_meet
          rw [hro]
          exact ⟨by rw [show rollL false = [] from rfl, List.append_nil], HO1.out⟩
        · rw [hro] at c7
          have i1 : ¬ (9223372036854775807 < (arrB (flatL l0)).size + 5) := by omega
          go_wp2_with fail
          go_meet
          rw [hro, st_roll]
          exact ⟨rfl, HO1.out⟩
      case rest =>
        obtain ⟨rfl, hO1⟩ := hcut
        have HO1 := Lib.hid hO1
        clear hO1
        clear HZ3 ns c7
        have HPQ := Lib.hid (show ∃ b, lnsZ d = (((headL d ++ d.tiers.map tierL) ++ rollL d.roll) ++ d.places.map placeL) ++ b from ⟨d.quotas.map quotaL ++ d.barred.map barL, by unfold lnsZ restL; simp only [List.append_assoc]⟩)
        go_upto_block 3 with (fail)
        go_cut [3] (fun v wx => v = .string (arrB (flatL (((headL d ++ d.tiers.map tierL) ++ rollL d.roll) ++ d.places.map placeL))) ∧ Only (fun _ => False) w2 wx)
        case first =>
          generalize ((headL d ++ d.tiers.map tierL) ++ rollL d.roll) = l0 at *
          go_wp2_with fail
          go_loopw [3, 5] (fun v iv wr => ∃ k : Nat, iv = .int .i64 k ∧ k ≤ d.places.length ∧ v = .string (arrB (flatL (l0 ++ (d.places.take k).map placeL))) ∧ Only (fun _ => False) w2 wr) (fun _ iv _ => d.places.length - (intOf iv).toNat)
          case atStart => exact ⟨0, rfl, Nat.zero_le _, by simp, HO1.out⟩
          case round =>
            obtain ⟨k, rfl, hk, rfl, hO4⟩ := hrel
            have HO4 := Lib.hid hO4
            have HZ4 := Lib.hid (row_still hO4 HZ2.out)
            have HD4 := Lib.hid (HD2.out.only hO4 (fun _ _ h => h))
            clear hO4
            have c8 : wr.cell? ⟨w.heap.size, 8, none⟩ = some (Value.slice ap1 d.places.length cp) := cell_of_row _ _ 8 _ _ _ HZ4.out
            have ns : (arrB (flatL (l0 ++ (d.places.take k).map placeL))).size ≤ 500000 := by obtain ⟨b, hb⟩ := HPQ.out; exact HPX.out _ _ (px_take _ _ k _ _ _ hb)
            by_cases hlt : k < d.places.length
            · have HLN := Lib.hid (show l0 ++ (d.places.take (k + 1)).map placeL = (l0 ++ (d.places.take k).map placeL) ++ [placeL d.places[k]] by
                rw [take_snoc hlt, List.map_append, List.append_assoc]; rfl)
              obtain ⟨s, hs⟩ : ∃ s, arrB (flatL (l0 ++ (d.places.take k).map placeL)) = s := ⟨_, rfl⟩
              rw [hs] at ns ⊢
              have HSS := Lib.hid hs
              clear hs
              have j1 : (k : Int) < d.places.length := by omega
              have j2 : 0 ≤ (k : Int) := by omega
              have h0 := flat_at (fun x : ByteArray × Int => [Value.string x.1, Value.int .i64 x.2]) 2 (fun _ => rfl) d.places k 0 hlt (by decide)
              have h1 := flat_at (fun x : ByteArray × Int => [Value.string x.1, Value.int .i64 x.2]) 2 (fun _ => rfl) d.places k 1 hlt (by decide)
              obtain ⟨g, cap, hv, hg, hc1, hc2, d0⟩ := own_cell HD4.out.places h0
              obtain ⟨g1, cap1, hv1, _, _, _, d1⟩ := own_cell HD4.out.places h1
              rw [hv] at hv1
              simp only [Value.slice.injEq, Option.some.injEq, Addr.mk.injEq, and_true, true_and] at hv hv1
              obtain ⟨rfl, rfl⟩ := hv
              obtain ⟨rfl, rfl⟩ := hv1
              have hm := List.getElem_mem hlt
              have r1 := HI.out.places _ hm
              have r0 := (HS.out.places _ hm).1
              clear hm h0 h1
              generalize d.places[k] = y at *
              obtain ⟨yn, ya⟩ := y
              change _ = some (Value.string yn) at d0
              change _ = some (Value.int .i64 ya) at d1
              rw [Nat.add_zero] at d0
              change yn.data.toList.length ≤ 1000 at r0
              rw [ba_len] at r0
              change R64 ya at r1
              obtain ⟨xa, hxa⟩ : ∃ xa, decW ya = xa := ⟨_, rfl⟩
              have nxa : xa.size ≤ 21 := by rw [← hxa]; exact dec64_size r1
              have HXxa := Lib.hid hxa
              have HCxa := Lib.hid (fun W => rdec13_any ya W r1)
              rw [hxa] at HCxa
              clear hxa
              have i1 : ¬ (9223372036854775807 < s.size + 6) := by omega
              have i2 : ¬ (9223372036854775807 < s.size + 6 + yn.size) := by omega
              have i3 : ¬ (9223372036854775807 < s.size + 6 + yn.size + 1) := by omega
              have i4 : ¬ (9223372036854775807 < s.size + 6 + yn.size + 1 + xa.size) := by omega
              have i5 : ¬ (9223372036854775807 < s.size + 6 + yn.size + 1 + xa.size + 1) := by omega
              go_upto_region 19 with (fail)
              have yc8 := fun (d : Nat) (os : Array Obj) => cell_regrown c8 d os
              have yd0 := fun (d : Nat) (os : Array Obj) => cell_regrown d0 d os
              have yd1 := fun (d : Nat) (os : Array Obj) => cell_regrown d1 d os
              clear c8 d0 d1
              refine wp_region_quiet_below (by kernel_rfl) (by kernel_rfl) ?_
              repeat (go_big_quiet_step ((go_at_call 68; first | exact Calls.regrown_of ((HCxa.out _).mono fun _ _ h => ⟨h.1, h.2.below (Nat.le_refl _) (fun _ _ h => h)⟩))))
              refine wpQuiet_nil ?_
              intro wy hw'
              obtain ⟨pq, hw''⟩ := hw'
              have HOy := Lib.hid (Only.ofBelow (below_regrown wr pq.d pq.os) (fun _ => False))
              rw [← hw''] at HOy
              clear hw'' yc8 yd0 yd1
              go_wp2_with fail
              go_roundw
              case rel =>
                refine ⟨k + 1, by go_num, hlt, ?_, HO4.out.trans HOy.out⟩
                rw [HLN.out]
                show _ = Value.string (arrB (flatL (_ ++ [[kPlace, yn, decW ya]])))
                rw [HXxa.out, ← HSS.out]
                exact congrArg Value.string (st_2 _ kPlace _ _ _ (by rfl))
              case measure => simp [intOf]; omega
            · obtain rfl : k = d.places.length := by omega
              have j1 : ¬ (d.places.length : Int) < d.places.length := by omega
              rw [List.take_length]
              clear hlt hk ns
              go_wp2_with fail
              go_meet
              exact ⟨rfl, HO4.out⟩
        case rest =>
          obtain ⟨rfl, hO1⟩ := hcut
          have HO1 := Lib.hid hO1
          clear hO1 HPQ
          have HPQ := Lib.hid (show ∃ b, lnsZ d = ((((headL d ++ d.tiers.map tierL) ++ rollL d.roll) ++ d.places.map placeL) ++ d.quotas.map quotaL) ++ b from ⟨d.barred.map barL, by unfold lnsZ restL; simp only [List.append_assoc]⟩)
          go_upto_block 5 with (fail)
          go_cut [3] (fun v wx => v = .string (arrB (flatL ((((headL d ++ d.tiers.map tierL) ++ rollL d.roll) ++ d.places.map placeL) ++ d.quotas.map quotaL))) ∧ Only (fun _ => False) w2 wx)
          case first =>
            generalize (((headL d ++ d.tiers.map tierL) ++ rollL d.roll) ++ d.places.map placeL) = l0 at *
            go_wp2_with fail
            go_loopw [3, 6] (fun v iv wr => ∃ k : Nat, iv = .int .i64 k ∧ k ≤ d.quotas.length ∧ v = .string (arrB (flatL (l0 ++ (d.quotas.take k).map quotaL))) ∧ Only (fun _ => False) w2 wr) (fun _ iv _ => d.quotas.length - (intOf iv).toNat)
            case atStart => exact ⟨0, rfl, Nat.zero_le _, by simp, HO1.out⟩
            case round =>
              obtain ⟨k, rfl, hk, rfl, hO4⟩ := hrel
              have HO4 := Lib.hid hO4
              have HZ4 := Lib.hid (row_still hO4 HZ2.out)
              have HD4 := Lib.hid (HD2.out.only hO4 (fun _ _ h => h))
              clear hO4
              have c11 : wr.cell? ⟨w.heap.size, 11, none⟩ = some (Value.slice aq1 d.quotas.length cq) := cell_of_row _ _ 11 _ _ _ HZ4.out
              have ns : (arrB (flatL (l0 ++ (d.quotas.take k).map quotaL))).size ≤ 500000 := by obtain ⟨b, hb⟩ := HPQ.out; exact HPX.out _ _ (px_take _ _ k _ _ _ hb)
              by_cases hlt : k < d.quotas.length
              · have HLN := Lib.hid (show l0 ++ (d.quotas.take (k + 1)).map quotaL = (l0 ++ (d.quotas.take k).map quotaL) ++ [quotaL d.quotas[k]] by
                  rw [take_snoc hlt, List.map_append, List.append_assoc]; rfl)
                obtain ⟨s, hs⟩ : ∃ s, arrB (flatL (l0 ++ (d.quotas.take k).map quotaL)) = s := ⟨_, rfl⟩
                rw [hs] at ns ⊢
                have HSS := Lib.hid hs
                clear hs
                have j1 : (k : Int) < d.quotas.length := by omega
                have j2 : 0 ≤ (k : Int) := by omega
                have h0 := flat_at (fun x : ByteArray × Int × Int => [Value.string x.1, Value.int .i64 x.2.1, Value.int .i64 x.2.2]) 3 (fun _ => rfl) d.quotas k 0 hlt (by decide)
                have h1 := flat_at (fun x : ByteArray × Int × Int => [Value.string x.1, Value.int .i64 x.2.1, Value.int .i64 x.2.2]) 3 (fun _ => rfl) d.quotas k 1 hlt (by decide)
                have h2 := flat_at (fun x : ByteArray × Int × Int => [Value.string x.1, Value.int .i64 x.2.1, Value.int .i64 x.2.2]) 3 (fun _ => rfl) d.quotas k 2 hlt (by decide)
                obtain ⟨g, cap, hv, hg, hc1, hc2, d0⟩ := own_cell HD4.out.quotas h0
                obtain ⟨g1, cap1, hv1, _, _, _, d1⟩ := own_cell HD4.out.quotas h1
                obtain ⟨g2, cap2, hv2, _, _, _, d2⟩ := own_cell HD4.out.quotas h2
                rw [hv] at hv1 hv2
                simp only [Value.slice.injEq, Option.some.injEq, Addr.mk.injEq, and_true, true_and] at hv hv1 hv2
                obtain ⟨rfl, rfl⟩ := hv
                obtain ⟨rfl, rfl⟩ := hv1
                obtain ⟨rfl, rfl⟩ := hv2
                have hm := List.getElem_mem hlt
                obtain ⟨r1, r2⟩ := HI.out.quotas _ hm
                have r0 := (HS.out.quotas _ hm).1
                clear hm h0 h1 h2
                generalize d.quotas[k] = y at *
                obtain ⟨yn, ya, yb⟩ := y
                change _ = some (Value.string yn) at d0
                change _ = some (Value.int .i64 ya) at d1
                change _ = some (Value.int .i64 yb) at d2
                rw [Nat.add_zero] at d0
                change yn.data.toList.length ≤ 1000 at r0
                rw [ba_len] at r0
                change R64 ya at r1
                change R64 yb at r2
                obtain ⟨xa, hxa⟩ : ∃ xa, decW ya = xa := ⟨_, rfl⟩
                have nxa : xa.size ≤ 21 := by rw [← hxa]; exact dec64_size r1
                have HXxa := Lib.hid hxa
                have HCxa := Lib.hid (fun W => rdec13_any ya W r1)
                rw [hxa] at HCxa
                clear hxa
                obtain ⟨xb, hxb⟩ : ∃ xb, decW yb = xb := ⟨_, rfl⟩
                have nxb : xb.size ≤ 21 := by rw [← hxb]; exact dec64_size r2
                have HXxb := Lib.hid hxb
                have HCxb := Lib.hid (fun W => rdec13_any yb W r2)
                rw [hxb] at HCxb
                clear hxb
                have i1 : ¬ (9223372036854775807 < s.size + 6) := by omega
                have i2 : ¬ (9223372036854775807 < s.size + 6 + yn.size) := by omega
                have i3 : ¬ (9223372036854775807 < s.size + 6 + yn.size + 1) := by omega
                have i4 : ¬ (9223372036854775807 < s.size + 6 + yn.size + 1 + xa.size) := by omega
                have i5 : ¬ (9223372036854775807 < s.size + 6 + yn.size + 1 + xa.size + 1) := by omega
                have i6 : ¬ (9223372036854775807 < s.size + 6 + yn.size + 1 + xa.size + 1 + xb.size) := by omega
                have i7 : ¬ (9223372036854775807 < s.size + 6 + yn.size + 1 + xa.size + 1 + xb.size + 1) := by omega
                go_upto_region 23 with (fail)
                have yc11 := fun (d : Nat) (os : Array Obj) => cell_regrown c11 d os
                have yd0 := fun (d : Nat) (os : Array Obj) => cell_regrown d0 d os
                have yd1 := fun (d : Nat) (os : Array Obj) => cell_regrown d1 d os
                have yd2 := fun (d : Nat) (os : Array Obj) => cell_regrown d2 d os
                clear c11 d0 d1 d2
                refine wp_region_quiet_below (by kernel_rfl) (by kernel_rfl) ?_
                repeat (go_big_quiet_step ((go_at_call 68; first | exact Calls.regrown_of ((HCxa.out _).mono fun _ _ h => ⟨h.1, h.2.below (Nat.le_refl _) (fun _ _ h => h)⟩) | exact Calls.regrown_of ((HCxb.out _).mono fun _ _ h => ⟨h.1, h.2.below (Nat.le_refl _) (fun _ _ h => h)⟩))))
                refine wpQuiet_nil ?_
                intro wy hw'
                obtain ⟨pq, hw''⟩ := hw'
                have HOy := Lib.hid (Only.ofBelow (below_regrown wr pq.d pq.os) (fun _ => False))
                rw [← hw''] at HOy
                clear hw'' yc11 yd0 yd1 yd2
                go_wp2_with fail
                go_roundw
                case rel =>
                  refine ⟨k + 1, by go_num, hlt, ?_, HO4.out.trans HOy.out⟩
                  rw [HLN.out]
                  show _ = Value.string (arrB (flatL (_ ++ [[kQuota, yn, decW ya, decW yb]])))
                  rw [HXxa.out, HXxb.out, ← HSS.out]
                  exact congrArg Value.string (st_3 _ kQuota _ _ _ _ (by rfl))
                case measure => simp [intOf]; omega
              · obtain rfl : k = d.quotas.length := by omega
                have j1 : ¬ (d.quotas.length : Int) < d.quotas.length := by omega
                rw [List.take_length]
                clear hlt hk ns
                go_wp2_with fail
                go_meet
                exact ⟨rfl, HO4.out⟩
          case rest =>
            obtain ⟨rfl, hO1⟩ := hcut
            have HO1 := Lib.hid hO1
            clear hO1 HPQ
            have HPQ := Lib.hid (show ∃ b, lnsZ d = (((((headL d ++ d.tiers.map tierL) ++ rollL d.roll) ++ d.places.map placeL) ++ d.quotas.map quotaL) ++ d.barred.map barL) ++ b from ⟨[], by unfold lnsZ restL; simp only [List.append_assoc, List.append_nil]⟩)
            go_upto_block 7 with (fail)
            go_cut [3] (fun v wx => v = .string (arrB (flatL (((((headL d ++ d.tiers.map tierL) ++ rollL d.roll) ++ d.places.map placeL) ++ d.quotas.map quotaL) ++ d.barred.map barL))) ∧ Only (fun _ => False) w2 wx)
            case first =>
              generalize ((((headL d ++ d.tiers.map tierL) ++ rollL d.roll) ++ d.places.map placeL) ++ d.quotas.map quotaL) = l0 at *
              go_wp2_with fail
              go_loopw [3, 7] (fun v iv wr => ∃ k : Nat, iv = .int .i64 k ∧ k ≤ d.barred.length ∧ v = .string (arrB (flatL (l0 ++ (d.barred.take k).map barL))) ∧ Only (fun _ => False) w2 wr) (fun _ iv _ => d.barred.length - (intOf iv).toNat)
              case atStart => exact ⟨0, rfl, Nat.zero_le _, by simp, HO1.out⟩
              case round =>
                obtain ⟨k, rfl, hk, rfl, hO4⟩ := hrel
                have HO4 := Lib.hid hO4
                have HZ4 := Lib.hid (row_still hO4 HZ2.out)
                have HD4 := Lib.hid (HD2.out.only hO4 (fun _ _ h => h))
                clear hO4
                have c12 : wr.cell? ⟨w.heap.size, 12, none⟩ = some (Value.slice ab1 d.barred.length cb) := cell_of_row _ _ 12 _ _ _ HZ4.out
                have ns : (arrB (flatL (l0 ++ (d.barred.take k).map barL))).size ≤ 500000 := by obtain ⟨b, hb⟩ := HPQ.out; exact HPX.out _ _ (px_take _ _ k _ _ _ hb)
                by_cases hlt : k < d.barred.length
                · have HLN := Lib.hid (show l0 ++ (d.barred.take (k + 1)).map barL = (l0 ++ (d.barred.take k).map barL) ++ [barL d.barred[k]] by
                    rw [take_snoc hlt, List.map_append, List.append_assoc]; rfl)
                  obtain ⟨s, hs⟩ : ∃ s, arrB (flatL (l0 ++ (d.barred.take k).map barL)) = s := ⟨_, rfl⟩
                  rw [hs] at ns ⊢
                  have HSS := Lib.hid hs
                  clear hs
                  have j1 : (k : Int) < d.barred.length := by omega
                  have j2 : 0 ≤ (k : Int) := by omega
                  have h0 : (irow d.barred)[k]? = some (.int .i64 d.barred[k]) := by unfold irow; simp [hlt]
                  obtain ⟨g, cap, hv, hg, hc1, hc2, d0⟩ := own_cell HD4.out.bars h0
                  simp only [Value.slice.injEq, true_and] at hv
                  obtain ⟨rfl, rfl⟩ := hv
                  have r1 := HI.out.barred _ (List.getElem_mem hlt)
                  clear h0
                  generalize d.barred[k] = ya at *
                  obtain ⟨xa, hxa⟩ : ∃ xa, decW ya = xa := ⟨_, rfl⟩
                  have nxa : xa.size ≤ 21 := by rw [← hxa]; exact dec64_size r1
                  have HXxa := Lib.hid hxa
                  have HCxa := Lib.hid (fun W => rdec13_any ya W r1)
                  rw [hxa] at HCxa
                  clear hxa
                  have i1 : ¬ (9223372036854775807 < s.size + 4) := by omega
                  have i2 : ¬ (9223372036854775807 < s.size + 4 + xa.size) := by omega
                  have i3 : ¬ (9223372036854775807 < s.size + 4 + xa.size + 1) := by omega
                  go_wp2_with fail
                  refine (HCxa.out _).mono ?_
                  rintro e wy ⟨rfl, hOy⟩
                  have HOy := Lib.hid hOy
                  clear hOy
                  go_wp2_with fail
                  go_roundw
                  case rel =>
                    refine ⟨k + 1, by go_num, hlt, ?_, HO4.out.trans HOy.out⟩
                    rw [HLN.out]
                    show _ = Value.string (arrB (flatL (_ ++ [[kBar, decW ya]])))
                    rw [HXxa.out, ← HSS.out]
                    exact congrArg Value.string (st_1 _ kBar _ _ (by rfl))
                  case measure => simp [intOf]; omega
                · obtain rfl : k = d.barred.length := by omega
                  have j1 : ¬ (d.barred.length : Int) < d.barred.length := by omega
                  rw [List.take_length]
                  clear hlt hk ns
                  go_wp2_with fail
                  go_meet
                  exact ⟨rfl, HO4.out⟩
            case rest =>
              obtain ⟨rfl, hO1⟩ := hcut
              have HO1 := Lib.hid hO1
              clear hO1 HPQ
              have hfull : ((((headL d ++ d.tiers.map tierL) ++ rollL d.roll) ++ d.places.map placeL) ++ d.quotas.map quotaL) ++ d.barred.map barL = lnsZ d := by unfold lnsZ restL; simp only [List.append_assoc]
              rw [hfull]
              clear hfull
              go_wp2_with fail
              go_ret
              exact ⟨rfl, HO.out.trans HO1.out⟩
end Go.Proofs.YteikkpiginfbkaaGreatDoor

namespace Go.Proofs.YteikkpiginfbkaaGreatDoor
open Go.RowKit

theorem cells_one (d : Dr) (at1 ap1 aq1 ab1 : Option Addr) (nt ct np cp nq cq nb cb : Nat) : (drCells d (.slice at1 nt ct) (.slice ap1 np cp) (.slice aq1 nq cq) (.slice ab1 nb cb)).all (·.oneCell') = true := by
  simp [drCells, Value.oneCell']
theorem eq_bool (a b : Dr) : ∃ bb : Bool, bb = true ↔ a = b := by
  by_cases h : a = b
  · exact ⟨true, by simp [h]⟩
  · exact ⟨false, by simp [h]⟩
theorem right_DrB {d : Dr} (h : Right d) : DrB d := by
  have h1 := right_many h; have h2 := h.b40
  unfold DrB; omega
theorem write_size {d : Dr} (hs : Short 1000 21 d) (hl : d.tiers.length + d.places.length + d.quotas.length + d.barred.length ≤ 400) : (writeB d).size ≤ 500000 := by
  have h1 := write_len hs (c := 405) (by omega)
  unfold writeB
  rw [show (⟨(writeL d).toArray⟩ : ByteArray).size = (writeL d).length by simp [ByteArray.size]]
  omega
set_option maxRecDepth 100000 in
set_option maxHeartbeats 4000000 in
theorem rprint13_any (d : Dr) (vt vp vq vb : Value) (base : Nat) (w : World) (hd : DrOwn base w d vt vp vq vb) (hs : Short 1000 21 d) (hi : Dr64 d) (hl : d.tiers.length + d.places.length + d.quotas.length + d.barred.length ≤ 400) :
    Calls Tryz.prog 19 #[.agg (drCells d vt vp vq vb)] w fun e w' => e = .returned (.string (printZ d)) ∧ Only (fun _ => False) w w' := by
  obtain ⟨at1, ct, rfl⟩ := slice_of_own hd.tiers
  obtain ⟨ap1, cp, rfl⟩ := slice_of_own hd.places
  obtain ⟨aq1, cq, rfl⟩ := slice_of_own hd.quotas
  obtain ⟨ab1, cb, rfl⟩ := slice_of_own hd.bars
  have HD := Lib.hid hd
  have HZ := Lib.hid (heap_alloc_last w (.cells (drCells d (.slice at1 d.tiers.length ct) (.slice ap1 d.places.length cp) (.slice aq1 d.quotas.length cq) (.slice ab1 d.barred.length cb)) 33))
  have HO := Lib.hid ((Only.refl (fun _ => False) w).alloc (.cells (drCells d (.slice at1 d.tiers.length ct) (.slice ap1 d.places.length cp) (.slice aq1 d.quotas.length cq) (.slice ab1 d.barred.length cb)) 33))
  have HW := Lib.hid (fun W (h : DrOwn base W d (.slice at1 d.tiers.length ct) (.slice ap1 d.places.length cp) (.slice aq1 d.quotas.length cq) (.slice ab1 d.barred.length cb)) => rwrite_any d _ _ _ _ base W h hs hi hl)
  have HSZ := Lib.hid (write_size hs hl)
  have HPY := Lib.hid (show ∀ x : Int × Nat × Dr, x = parseZ (writeB d) → x.1 = 0 → Right x.2.2 ∧ (x.2.2 = d → printZ d = writeB d) from fun x e h => by
    subst e
    exact ⟨(parse_right h).1, fun h2 => by unfold printZ; rw [if_pos (print_yes h h2)]⟩)
  have HPN := Lib.hid (show ∀ x : Int × Nat × Dr, x = parseZ (writeB d) → ¬ (x.1 = 0 ∧ x.2.2 = d) → printZ d = ByteArray.empty from fun x e h => by
    subst e
    unfold printZ
    rw [if_neg (fun hr => h (print_no hr))])
  have HB := Lib.hid (show DrB d by unfold DrB; omega)
  clear hd hs hi hl
  go_enter Tryz.func19, Tryz.ntmps19
  go_upto_region 1 with (fail)
  generalize World.alloc w _ = w1 at *
  have HD1 := Lib.hid (HD.out.only HO.out (fun _ _ h => h))
  have hlt0 : w.heap.size < w1.heap.size := (Array.getElem?_eq_some_iff.1 HZ.out).1
  go_wp2_with (first | (refine wpList_load_row rfl 33 _ rfl w.heap.size rfl 33 (drCells d (.slice at1 d.tiers.length ct) (.slice ap1 d.places.length cp) (.slice aq1 d.quotas.length cq) (.slice ab1 d.barred.length cb)) (0, 0) _ HZ.out Tryz.underlying33 rfl Tryz.infoDr ?_))
  refine (HW.out _ HD1.out).mono ?_
  rintro e w2 ⟨rfl, hO2⟩
  have HO2 := Lib.hid (HO.out.trans hO2)
  have HZ2 := Lib.hid (row_still hO2 HZ.out)
  have HD2 := Lib.hid (HD1.out.only hO2 (fun _ _ h => h))
  clear hO2
  obtain ⟨s, hs⟩ : ∃ s, writeB d = s := ⟨_, rfl⟩
  rw [hs] at HPY HPN HSZ ⊢
  clear hs HW
  go_wp2_with fail
  refine (rparse13_any s w2 (by have := HSZ.out; omega)).mono ?_
  rintro e w3 ⟨ut, up, uq, ub, rfl, hdx, hO3⟩
  have HQY := Lib.hid (HPY.out _ rfl)
  have HQN := Lib.hid (HPN.out _ rfl)
  clear HPY HPN
  generalize parseZ s = q at *
  obtain ⟨err, at0, x⟩ := q
  have hdx : DrOwn w2.heap.size w3 x ut up uq ub := hdx
  obtain ⟨bt1, dt, rfl⟩ := slice_of_own hdx.tiers
  obtain ⟨bp1, dp, rfl⟩ := slice_of_own hdx.places
  obtain ⟨bq1, dq, rfl⟩ := slice_of_own hdx.quotas
  obtain ⟨bb1, db, rfl⟩ := slice_of_own hdx.bars
  have HO3 := Lib.hid (HO2.out.trans hO3)
  have HZ3 := Lib.hid (row_still hO3 HZ2.out)
  have HD3 := Lib.hid (HD2.out.only hO3 (fun _ _ h => h))
  have HX3 := Lib.hid hdx
  have hle3 : w2.heap.size ≤ w3.heap.size := hO3.size
  clear hdx hO3
  go_upto_region 3 with (first | (refine wpList_store_row rfl 33 _ _ rfl w3.heap.size (drCells x (.slice bt1 x.tiers.length dt) (.slice bp1 x.places.length dp) (.slice bq1 x.quotas.length dq) (.slice bb1 x.barred.length db)) rfl rfl 33 _ (heap_alloc_last w3 _) Tryz.infoDr rfl (cells_one _ _ _ _ _ _ _ _ _ _ _ _ _) ?_; rw [World.setRow_alloc_new]))
  have HX4 := Lib.hid (heap_alloc_last w3 (.cells (drCells x (.slice bt1 x.tiers.length dt) (.slice bp1 x.places.length dp) (.slice bq1 x.quotas.length dq) (.slice bb1 x.barred.length db)) 33))
  have HA4 := Lib.hid ((Only.refl (fun _ => False) w3).alloc (.cells (drCells x (.slice bt1 x.tiers.length dt) (.slice bp1 x.places.length dp) (.slice bq1 x.quotas.length dq) (.slice bb1 x.barred.length db)) 33))
  generalize World.alloc w3 _ = w4 at *
  have HO4 := Lib.hid (HO3.out.trans HA4.out)
  have HZ4 := Lib.hid (row_still HA4.out HZ3.out)
  have HD4 := Lib.hid (HD3.out.only HA4.out (fun _ _ h => h))
  have HU4 := Lib.hid (HX3.out.only HA4.out (fun _ _ h => h))
  have hlt4 : w3.heap.size < w4.heap.size := (Array.getElem?_eq_some_iff.1 HX4.out).1
  have hlt5 : w.heap.size < w4.heap.size := (Array.getElem?_eq_some_iff.1 HZ4.out).1
  by_cases he : err = 0
  · subst he
    obtain ⟨bb, hbb⟩ := eq_bool x d
    have HR := Lib.hid (HQY.out rfl)
    have HBB := Lib.hid hbb
    have HEQ := Lib.hid (fun W (h1 : DrOwn w2.heap.size W x (.slice bt1 x.tiers.length dt) (.slice bp1 x.places.length dp) (.slice bq1 x.quotas.length dq) (.slice bb1 x.barred.length db)) (h2 : DrOwn base W d (.slice at1 d.tiers.length ct) (.slice ap1 d.places.length cp) (.slice aq1 d.quotas.length cq) (.slice ab1 d.barred.length cb)) => requal_any x d _ _ _ _ _ _ _ _ bb w2.heap.size base W h1 h2 (right_DrB HR.out.1) HB.out hbb)
    clear hbb
    have e0 : w4.cell? ⟨w3.heap.size, 0, none⟩ = some (Value.string x.name) := cell_of_row _ _ 0 _ _ _ HX4.out
    have e1 : w4.cell? ⟨w3.heap.size, 1, none⟩ = some (Value.int .i64 x.kind) := cell_of_row _ _ 1 _ _ _ HX4.out
    have e2 : w4.cell? ⟨w3.heap.size, 2, none⟩ = some (Value.int .i64 x.round) := cell_of_row _ _ 2 _ _ _ HX4.out
    have e3 : w4.cell? ⟨w3.heap.size, 3, none⟩ = some (Value.int .i64 x.price) := cell_of_row _ _ 3 _ _ _ HX4.out
    have e4 : w4.cell? ⟨w3.heap.size, 4, none⟩ = some (Value.int .i64 x.pool) := cell_of_row _ _ 4 _ _ _ HX4.out
    have e5 : w4.cell? ⟨w3.heap.size, 5, none⟩ = some (Value.int .i64 x.pick) := cell_of_row _ _ 5 _ _ _ HX4.out
    have e6 : w4.cell? ⟨w3.heap.size, 6, none⟩ = some (Value.slice bt1 x.tiers.length dt) := cell_of_row _ _ 6 _ _ _ HX4.out
    have e7 : w4.cell? ⟨w3.heap.size, 7, none⟩ = some (Value.bool x.roll) := cell_of_row _ _ 7 _ _ _ HX4.out
    have e8 : w4.cell? ⟨w3.heap.size, 8, none⟩ = some (Value.slice bp1 x.places.length dp) := cell_of_row _ _ 8 _ _ _ HX4.out
    have e9 : w4.cell? ⟨w3.heap.size, 9, none⟩ = some (Value.int .i64 x.cls) := cell_of_row _ _ 9 _ _ _ HX4.out
    have e10 : w4.cell? ⟨w3.heap.size, 10, none⟩ = some (Value.int .i64 x.size) := cell_of_row _ _ 10 _ _ _ HX4.out
    have e11 : w4.cell? ⟨w3.heap.size, 11, none⟩ = some (Value.slice bq1 x.quotas.length dq) := cell_of_row _ _ 11 _ _ _ HX4.out
    have e12 : w4.cell? ⟨w3.heap.size, 12, none⟩ = some (Value.slice bb1 x.barred.length db) := cell_of_row _ _ 12 _ _ _ HX4.out
    have c0 : w4.cell? ⟨w.heap.size, 0, none⟩ = some (Value.string d.name) := cell_of_row _ _ 0 _ _ _ HZ4.out
    have c1 : w4.cell? ⟨w.heap.size, 1, none⟩ = some (Value.int .i64 d.kind) := cell_of_row _ _ 1 _ _ _ HZ4.out
    have c2 : w4.cell? ⟨w.heap.size, 2, none⟩ = some (Value.int .i64 d.round) := cell_of_row _ _ 2 _ _ _ HZ4.out
    have c3 : w4.cell? ⟨w.heap.size, 3, none⟩ = some (Value.int .i64 d.price) := cell_of_row _ _ 3 _ _ _ HZ4.out
    have c4 : w4.cell? ⟨w.heap.size, 4, none⟩ = some (Value.int .i64 d.pool) := cell_of_row _ _ 4 _ _ _ HZ4.out
    have c5 : w4.cell? ⟨w.heap.size, 5, none⟩ = some (Value.int .i64 d.pick) := cell_of_row _ _ 5 _ _ _ HZ4.out
    have c6 : w4.cell? ⟨w.heap.size, 6, none⟩ = some (Value.slice at1 d.tiers.length ct) := cell_of_row _ _ 6 _ _ _ HZ4.out
    have c7 : w4.cell? ⟨w.heap.size, 7, none⟩ = some (Value.bool d.roll) := cell_of_row _ _ 7 _ _ _ HZ4.out
    have c8 : w4.cell? ⟨w.heap.size, 8, none⟩ = some (Value.slice ap1 d.places.length cp) := cell_of_row _ _ 8 _ _ _ HZ4.out
    have c9 : w4.cell? ⟨w.heap.size, 9, none⟩ = some (Value.int .i64 d.cls) := cell_of_row _ _ 9 _ _ _ HZ4.out
    have c10 : w4.cell? ⟨w.heap.size, 10, none⟩ = some (Value.int .i64 d.size) := cell_of_row _ _ 10 _ _ _ HZ4.out
    have c11 : w4.cell? ⟨w.heap.size, 11, none⟩ = some (Value.slice aq1 d.quotas.length cq) := cell_of_row _ _ 11 _ _ _ HZ4.out
    have c12 : w4.cell? ⟨w.heap.size, 12, none⟩ = some (Value.slice ab1 d.barred.length cb) := cell_of_row _ _ 12 _ _ _ HZ4.out
    go_wp2_with fail
    refine (HEQ.out _ HU4.out HD4.out).mono ?_
    rintro e w5 ⟨rfl, hO5⟩
    have HO5 := Lib.hid (HO4.out.trans hO5)
    clear hO5 HEQ
    cases bb
    · have HE := Lib.hid (HQN.out (fun h => by have := HBB.out.2 h.2; cases this))
      go_wp2_with fail
      go_ret
      exact ⟨by rw [HE.out]; rfl, HO5.out⟩
    · have HE := Lib.hid (HR.out.2 (HBB.out.1 rfl))
      go_wp2_with fail
      go_ret
      exact ⟨by rw [HE.out]; rfl, HO5.out⟩
  · have HE := Lib.hid (HQN.out (fun h => he h.1))
    have q1 : (err != 0) = true := by simpa using he
    clear he
    go_wp2_with fail
    go_ret
    exact ⟨by rw [HE.out]; rfl, HO4.out⟩
end Go.Proofs.YteikkpiginfbkaaGreatDoor

namespace Go.Proofs.YteikkpiginfbkaaGreatDoor
open Go.RowKit

theorem parse_no {s : ByteArray} (h : (parseZ s).1 ≠ 0) : (parseZ s).2.2 = dr0 := by
  unfold parseZ at h ⊢
  by_cases h2 : s.size ≤ 4000
  · rw [if_pos h2] at h ⊢
    by_cases h3 : (runL st0 0 [] s.data.toList).1 = 0
    · rw [if_pos h3] at h; exact absurd rfl h
    · rw [if_neg h3]
  · rw [if_neg h2]
theorem parse_DrB (s : ByteArray) : DrB (parseZ s).2.2 := by
  by_cases h : (parseZ s).1 = 0
  · exact right_DrB (parse_right h).1
  · rw [parse_no h]; exact ⟨by decide, by decide, by decide, by decide⟩
set_option maxRecDepth 100000 in
set_option maxHeartbeats 4000000 in
theorem fails_any (s : ByteArray) (at0 : Nat) (err : Int) (w : World) (hs : s.size ≤ 281474976710656) (hp : (parseZ s).1 = err) (ha : (parseZ s).2.1 = at0) (he : err ≠ 0) (hG : GlobU w) :
    Calls Tryz.prog 27 #[.string s, .int .i64 at0, .int .i64 err] w fun e w' => e = .returned (.bool true) ∧ Only (fun _ => False) w w' := by
  have HX := Lib.hid (show parseZ s = (err, at0, dr0) from by
    have h1 := parse_no (s := s) (by rw [hp]; exact he)
    rw [← hp, ← ha, ← h1])
  have HC := Lib.hid (parse_any s w hs hG.len)
  rw [HX.out] at HC
  clear hp ha he hs hG HX
  go_enter Tryz.func27, Tryz.ntmps27
  go_wp2_with fail
  refine HC.out.mono ?_
  rintro e w3 ⟨vt, vp, vq, vb, rfl, hdx, hO3⟩
  have HO3 := Lib.hid hO3
  clear HC
  have hdx : DrOwn w.heap.size w3 dr0 vt vp vq vb := hdx
  obtain ⟨x, hx⟩ : ∃ x, dr0 = x := ⟨_, rfl⟩
  rw [hx] at hdx
  have HDX := Lib.hid hx
  have hdr : (drCells (err, at0, dr0).2.2 vt vp vq vb) = drCells x vt vp vq vb := by rw [← hx]
  rw [hdr]
  clear hdr hx
  obtain ⟨at1, ct, rfl⟩ := slice_of_own hdx.tiers
  obtain ⟨ap1, cp, rfl⟩ := slice_of_own hdx.places
  obtain ⟨aq1, cq, rfl⟩ := slice_of_own hdx.quotas
  obtain ⟨ab1, cb, rfl⟩ := slice_of_own hdx.bars
  have HD3 := Lib.hid hdx
  clear hdx hO3
  go_upto_region 2 with (first | (refine wpList_store_row rfl 33 _ _ rfl w3.heap.size (drCells x (.slice at1 x.tiers.length ct) (.slice ap1 x.places.length cp) (.slice aq1 x.quotas.length cq) (.slice ab1 x.barred.length cb)) rfl rfl 33 _ (heap_alloc_last w3 _) Tryz.infoDr rfl (cells_one _ _ _ _ _ _ _ _ _ _ _ _ _) ?_; rw [World.setRow_alloc_new]))
  have HZ4 := Lib.hid (heap_alloc_last w3 (.cells (drCells x (.slice at1 x.tiers.length ct) (.slice ap1 x.places.length cp) (.slice aq1 x.quotas.length cq) (.slice ab1 x.barred.length cb)) 33))
  have HA4 := Lib.hid ((Only.refl (fun _ => False) w3).alloc (.cells (drCells x (.slice at1 x.tiers.length ct) (.slice ap1 x.places.length cp) (.slice aq1 x.quotas.length cq) (.slice ab1 x.barred.length cb)) 33))
  generalize World.alloc w3 _ = w4 at *
  obtain ⟨n3, hn3⟩ : ∃ n, w3.heap.size = n := ⟨_, rfl⟩
  rw [hn3] at HZ4 ⊢
  clear hn3
  have HO4 := Lib.hid (HO3.out.trans HA4.out)
  have HD4 := Lib.hid (HD3.out.only HA4.out (fun _ _ h => h))
  have hlt4 : n3 < w4.heap.size := (Array.getElem?_eq_some_iff.1 HZ4.out).1
  clear HO3 HD3 HA4
  have c0 : w4.cell? ⟨n3, 0, none⟩ = some (Value.string x.name) := cell_of_row _ _ 0 _ _ _ HZ4.out
  have c1 : w4.cell? ⟨n3, 1, none⟩ = some (Value.int .i64 x.kind) := cell_of_row _ _ 1 _ _ _ HZ4.out
  have c2 : w4.cell? ⟨n3, 2, none⟩ = some (Value.int .i64 x.round) := cell_of_row _ _ 2 _ _ _ HZ4.out
  have c3 : w4.cell? ⟨n3, 3, none⟩ = some (Value.int .i64 x.price) := cell_of_row _ _ 3 _ _ _ HZ4.out
  have c4 : w4.cell? ⟨n3, 4, none⟩ = some (Value.int .i64 x.pool) := cell_of_row _ _ 4 _ _ _ HZ4.out
  have c5 : w4.cell? ⟨n3, 5, none⟩ = some (Value.int .i64 x.pick) := cell_of_row _ _ 5 _ _ _ HZ4.out
  have c6 : w4.cell? ⟨n3, 6, none⟩ = some (Value.slice at1 x.tiers.length ct) := cell_of_row _ _ 6 _ _ _ HZ4.out
  have c7 : w4.cell? ⟨n3, 7, none⟩ = some (Value.bool x.roll) := cell_of_row _ _ 7 _ _ _ HZ4.out
  have c8 : w4.cell? ⟨n3, 8, none⟩ = some (Value.slice ap1 x.places.length cp) := cell_of_row _ _ 8 _ _ _ HZ4.out
  have c9 : w4.cell? ⟨n3, 9, none⟩ = some (Value.int .i64 x.cls) := cell_of_row _ _ 9 _ _ _ HZ4.out
  have c10 : w4.cell? ⟨n3, 10, none⟩ = some (Value.int .i64 x.size) := cell_of_row _ _ 10 _ _ _ HZ4.out
  have c11 : w4.cell? ⟨n3, 11, none⟩ = some (Value.slice aq1 x.quotas.length cq) := cell_of_row _ _ 11 _ _ _ HZ4.out
  have c12 : w4.cell? ⟨n3, 12, none⟩ = some (Value.slice ab1 x.barred.length cb) := cell_of_row _ _ 12 _ _ _ HZ4.out
  have q1 : ((at0 : Int) == at0) = true := by simp
  have q2 : (err == err) = true := by simp
  go_wp2_with fail
  refine (equal_any x dr0 _ _ _ _ (.slice none 0 0) (.slice none 0 0) (.slice none 0 0) (.slice none 0 0) true w.heap.size 0 w4 HD4.out (dr0_own 0 w4) (by rw [← HDX.out]; exact ⟨by decide, by decide, by decide, by decide⟩) ⟨by decide, by decide, by decide, by decide⟩ (by simp [HDX.out])).mono ?_
  rintro e w7 ⟨rfl, hO7⟩
  have HO7 := Lib.hid (HO4.out.trans hO7)
  clear hO7
  go_wp2_with fail
  go_ret
  exact ⟨rfl, HO7.out⟩
end Go.Proofs.YteikkpiginfbkaaGreatDoor

namespace Go.Proofs.YteikkpiginfbkaaGreatDoor
open Go.RowKit

theorem tmod_fixR (a m : Int) (h : 0 < m) : (if a.tmod m < 0 then a.tmod m + m else a.tmod m) = a % m := by
  have h2 := Int.tmod_lt_of_pos a h
  have h3 := Int.lt_tmod_of_pos a h
  have h4 := Int.mul_tdiv_add_tmod a m
  have h5 := Int.mul_ediv_add_emod a m
  have h6 := Int.emod_nonneg a (show m ≠ 0 by omega)
  have h7 := Int.emod_lt_of_pos a h
  have e : (a % m - a.tmod m) = m * (a.tdiv m - a / m) := by rw [Int.mul_sub]; omega
  generalize a.tdiv m - a / m = k at e
  split
  · have : k = 1 := by
      rcases Int.lt_trichotomy k 1 with hk | hk | hk
      · have := Int.mul_le_mul_of_nonneg_left (show k ≤ 0 by omega) (show (0:Int) ≤ m by omega); omega
      · exact hk
      · have := Int.mul_le_mul_of_nonneg_left (show 2 ≤ k by omega) (show (0:Int) ≤ m by omega); omega
    rw [this] at e; omega
  · have : k = 0 := by
      rcases Int.lt_trichotomy k 0 with hk | hk | hk
      · have := Int.mul_le_mul_of_nonneg_left (show k ≤ -1 by omega) (show (0:Int) ≤ m by omega); omega
      · exact hk
      · have := Int.mul_le_mul_of_nonneg_left (show 1 ≤ k by omega) (show (0:Int) ≤ m by omega); omega
    rw [this] at e; omega
set_option maxRecDepth 100000 in
set_option maxHeartbeats 4000000 in
theorem rmodR_any (a m : Int) (w : World) (hm : 0 < m) (hm2 : m ≤ 1000000000000000000) :
    Calls Tryz.prog 22 #[.int .i64 a, .int .i64 m] w fun e w' => e = .returned (.int .i64 (a % m)) ∧ w = w' := by
  have h1 := Int.lt_tmod_of_pos a hm
  have h2 := Int.tmod_lt_of_pos a hm
  have hz : (m == 0) = false := beq_eq_false_iff_ne.2 (by omega)
  have hf2 : (a.tmod m + m) % m = a % m := by
    have e := tmod_fixR a m hm
    by_cases h0 : a.tmod m < 0
    · rw [if_pos h0] at e
      rw [← e, Int.emod_eq_of_lt (by omega) (by omega)]
    · rw [if_neg h0] at e
      rw [← e, Int.add_emod_right, Int.emod_eq_of_lt (by omega) (by omega)]
  have HF := Lib.hid (show (a.tmod m + m).tmod m = a % m by rw [Int.tmod_eq_emod_of_nonneg (by omega)]; exact hf2)
  have HF2 := Lib.hid hf2
  clear hf2
  have HW := Lib.hid (show IntKind.i64.wrap (a.tmod m + m) = a.tmod m + m from IntWalk.i64_in _ (by omega))
  have h3 := Int.emod_nonneg a (show m ≠ 0 by omega)
  have h4 := Int.emod_lt_of_pos a hm
  go_enter Tryz.func22, Tryz.ntmps22
  go_wp2
  go_ret
  refine ⟨ret_int ?_, rfl⟩
  first | exact HF.out | exact HF2.out
def namesP : List ByteArray := [⟨#[97]⟩, ⟨#[98]⟩, ⟨#[110, 111, 114, 116, 104]⟩, ⟨#[83, 111, 117, 116, 104, 45, 50]⟩, ⟨#[99]⟩, ⟨#[100, 45]⟩, ⟨#[101, 55]⟩, ⟨#[102]⟩, ⟨#[103]⟩, ⟨#[97, 98, 99, 100, 101, 102, 103, 104, 105, 106, 107, 108, 109, 110, 111, 112, 113, 114, 115, 116]⟩, ⟨#[104]⟩, ⟨#[105]⟩, ⟨#[106]⟩, ⟨#[107]⟩, ⟨#[]⟩, ⟨#[55, 97]⟩, ⟨#[116, 119, 111, 32, 119, 111, 114, 100, 115]⟩, ⟨#[97, 98, 99, 100, 101, 102, 103, 104, 105, 106, 107, 108, 109, 110, 111, 112, 113, 114, 115, 116, 117]⟩, ⟨#[97, 10]⟩, ⟨#[45]⟩]
/-- The number of a name, and the number, of a plan. -/
def nmZ (wild : Bool) (n : Int) : ByteArray := namesP.getD (n % (if wild then 20 else 14)).toNat ByteArray.empty
def nbZ (wild : Bool) (n : Int) : Int := if wild then n else n % 1000000001
theorem nm_ok (n : Int) : nameB (nmZ false n) = true := by
  unfold nmZ
  have h1 := Int.emod_nonneg n (show (14 : Int) ≠ 0 by decide)
  have h2 := Int.emod_lt_of_pos n (show (0 : Int) < 14 by decide)
  have : ∀ k, k < 14 → nameB (namesP.getD k ByteArray.empty) = true := by decide
  exact this _ (by simp; omega)
theorem nm_len (wild : Bool) (n : Int) : (nmZ wild n).size ≤ 21 := by
  unfold nmZ
  generalize (n % (if wild then 20 else 14)).toNat = k
  have : ∀ k, k < 20 → (namesP.getD k ByteArray.empty).size ≤ 21 := by decide
  by_cases h : k < 20
  · exact this k h
  · rw [show namesP.getD k ByteArray.empty = ByteArray.empty by simp [List.getD, List.getElem?_eq_none (show namesP.length ≤ k by show 20 ≤ k; omega)]]; decide
theorem nb_ok (n : Int) : rgB (nbZ false n) = true := by
  have h1 := Int.emod_nonneg n (show (1000000001 : Int) ≠ 0 by decide)
  have h2 := Int.emod_lt_of_pos n (show (0 : Int) < 1000000001 by decide)
  unfold nbZ rgB
  simp
  omega
theorem nb_R64 (wild : Bool) (n : Int) (h : R64 n) : R64 (nbZ wild n) := by
  cases wild
  · exact rg_R64 (nb_ok n)
  · exact h
theorem names_at (wild : Bool) (n : Int) : ∃ k : Nat, (k : Int) = n % (if wild then 20 else 14) ∧ k < 20 ∧ namesP[k]? = some (nmZ wild n) := by
  have h1 := Int.emod_nonneg n (show (14 : Int) ≠ 0 by decide)
  have h2 := Int.emod_lt_of_pos n (show (0 : Int) < 14 by decide)
  have h3 := Int.emod_nonneg n (show (20 : Int) ≠ 0 by decide)
  have h4 := Int.emod_lt_of_pos n (show (0 : Int) < 20 by decide)
  have hk : (n % (if wild then 20 else 14)).toNat < 20 := by cases wild <;> simp <;> omega
  refine ⟨(n % (if wild then 20 else 14)).toNat, by cases wild <;> simp <;> omega, hk, ?_⟩
  unfold nmZ
  rw [List.getD_eq_getElem?_getD]
  have : (n % (if wild then 20 else 14)).toNat < namesP.length := hk
  rw [List.getElem?_eq_getElem this]; rfl
/-- A plan, and its cells. -/
structure Plan13 where
  kind : Int
  h0 : Int
  h1 : Int
  h2 : Int
  h3 : Int
  h4 : Int
  h5 : Int
  lines : List (Int × Int × Int)
  roll : Bool
  barred : List Int
  wild : Bool
def plCells (p : Plan13) (vl vb : Value) : Array Value :=
  #[.int .i64 p.kind, .int .i64 p.h0, .int .i64 p.h1, .int .i64 p.h2, .int .i64 p.h3, .int .i64 p.h4, .int .i64 p.h5, vl, .bool p.roll, vb, .bool p.wild]
theorem Tryz.infoP13 : (Tryz.prog.info? 26).map (·.size) = some 11 := by kernel_rfl
set_option maxRecDepth 100000 in
set_option maxHeartbeats 4000000 in
theorem number_any13 (p : Plan13) (vl vb : Value) (n : Int) (w : World) :
    Calls Tryz.prog 32 #[.agg (plCells p vl vb), .int .i64 n] w fun e w' => e = .returned (.int .i64 (nbZ p.wild n)) ∧ Only (fun _ => False) w w' := by
  have HZ := Lib.hid (heap_alloc_last w (.cells (plCells p vl vb) 26))
  have HO := Lib.hid ((Only.refl (fun _ => False) w).alloc (.cells (plCells p vl vb) 26))
  go_enter Tryz.func32, Tryz.ntmps32
  go_upto_region 1 with (fail)
  generalize World.alloc w _ = w1 at *
  have c5 : w1.cell? ⟨w.heap.size, 10, none⟩ = some (Value.bool p.wild) := cell_of_row _ _ 10 _ _ _ HZ.out
  have hlt0 : w.heap.size < w1.heap.size := (Array.getElem?_eq_some_iff.1 HZ.out).1
  cases hw : p.wild
  · rw [hw] at c5
    go_wp2_with fail
    refine (rmodR_any n 1000000001 w1 (by decide) (by decide)).mono ?_
    rintro e w2 ⟨rfl, rfl⟩
    go_wp2_with fail
    go_ret
    exact ⟨by rw [hw]; rfl, HO.out⟩
  · rw [hw] at c5
    go_wp2_with fail
    go_ret
    exact ⟨by rw [hw]; rfl, HO.out⟩
def namesV : List Value := namesP.map .string
set_option maxRecDepth 100000 in
set_option maxHeartbeats 4000000 in
theorem nameP_any (n : Int) (wild : Bool) (w : World) :
    Calls Tryz.prog 31 #[.int .i64 n, .bool wild] w fun e w' => e = .returned (.string (nmZ wild n)) ∧ Only (fun _ => False) w w' := by
  obtain ⟨k, hk, hk2, hk3⟩ := names_at wild n
  have HK := Lib.hid hk
  have HK3 := Lib.hid hk3
  have HO := Lib.hid ((Only.refl (fun _ => False) w).alloc (.cells namesV.toArray 9))
  have HZ := Lib.hid (heap_alloc_last w (.cells namesV.toArray 9))
  have HV := Lib.hid (show namesV.toArray[k]? = some (Value.string (nmZ wild n)) by rw [List.getElem?_toArray]; unfold namesV; rw [List.getElem?_map, hk3]; rfl)
  clear hk hk3
  go_enter Tryz.func31, Tryz.ntmps31
  go_upto_region 2 with (fail)
  change World at w
  have hww : w.alloc (.cells namesV.toArray 9) = w.alloc (.cells namesV.toArray 9) := rfl
  unfold namesV namesP at HZ HO hww
  simp only [List.map_cons, List.map_nil] at HZ HO hww
  generalize World.alloc w _ = w1 at *
  have hlt0 : w.heap.size < w1.heap.size := (Array.getElem?_eq_some_iff.1 HZ.out).1
  have c : w1.cell? ⟨w.heap.size, k, none⟩ = some (Value.string (nmZ wild n)) := (cell_of_row _ _ k _ _ _ HZ.out).trans HV.out
  have j1 : 0 ≤ (k : Int) := by omega
  have j2 : (k : Int) < 20 := by omega
  cases wild
  · go_wp2_with fail
    refine (rmodR_any n 14 w1 (by decide) (by decide)).mono ?_
    rintro e w2 ⟨rfl, rfl⟩
    rw [show n % 14 = (k : Int) from HK.out.symm]
    go_wp2_with fail
    go_ret
    exact ⟨rfl, HO.out⟩
  · go_wp2_with fail
    refine (rmodR_any n 20 w1 (by decide) (by decide)).mono ?_
    rintro e w2 ⟨rfl, rfl⟩
    rw [show n % 20 = (k : Int) from HK.out.symm]
    go_wp2_with fail
    go_ret
    exact ⟨rfl, HO.out⟩
end Go.Proofs.YteikkpiginfbkaaGreatDoor

namespace Go.Proofs.YteikkpiginfbkaaGreatDoor
open Go.RowKit

/-- The numbers of a plan are words of 64 bits. -/
structure Pl64 (p : Plan13) : Prop where
  h1 : R64 p.h1
  h2 : R64 p.h2
  h3 : R64 p.h3
  h4 : R64 p.h4
  lines : ∀ x ∈ p.lines, R64 x.2.1 ∧ R64 x.2.2
  barred : ∀ x ∈ p.barred, R64 x
def kdZ (p : Plan13) : Int := 1 + p.kind % 3
theorem kd_123 (p : Plan13) : kdZ p = 1 ∨ kdZ p = 2 ∨ kdZ p = 3 := by unfold kdZ; omega
def baseD (p : Plan13) : Dr :=
  { name := nmZ p.wild p.h0, kind := kdZ p, round := nbZ p.wild p.h1, price := nbZ p.wild p.h2
    pool := if kdZ p = 1 then nbZ p.wild p.h3 else 0, pick := if kdZ p = 1 then nbZ p.wild p.h4 else 0
    tiers := [], roll := if kdZ p = 1 then p.roll else false, places := []
    cls := if kdZ p = 2 then nbZ p.wild p.h3 else 0, size := if kdZ p = 3 then nbZ p.wild p.h3 else 0, quotas := [], barred := [] }
def moreL (p : Plan13) (d : Dr) (x : Int × Int × Int) : Dr :=
  if d.kind = 1 then { d with tiers := d.tiers ++ [(nbZ p.wild x.2.1, nbZ p.wild x.2.2)] }
  else if d.kind = 2 then { d with places := d.places ++ [(nmZ p.wild x.1, nbZ p.wild x.2.1)] }
  else { d with quotas := d.quotas ++ [(nmZ p.wild x.1, nbZ p.wild x.2.1, nbZ p.wild x.2.2)] }
def moreB (p : Plan13) (d : Dr) (n : Int) : Dr := { d with barred := d.barred ++ [nbZ p.wild n] }
def takeP (p : Plan13) (d more : Dr) : Dr := if (p.wild || rightZ more) = true then more else d
def linesZ (p : Plan13) (k : Nat) : Dr := (p.lines.take k).foldl (fun d x => takeP p d (moreL p d x)) (baseD p)
def barsZ (p : Plan13) (d : Dr) (k : Nat) : Dr := (p.barred.take k).foldl (fun d n => takeP p d (moreB p d n)) d
/-- What Make gives. -/
def makeZ (p : Plan13) : Dr := barsZ p (linesZ p (min p.lines.length 14)) (min p.barred.length 45)
theorem lines_next (p : Plan13) {k : Nat} (h : k < p.lines.length) : linesZ p (k + 1) = takeP p (linesZ p k) (moreL p (linesZ p k) p.lines[k]) := by
  unfold linesZ
  rw [take_snoc h, List.foldl_append]; rfl
theorem bars_next (p : Plan13) (d : Dr) {k : Nat} (h : k < p.barred.length) : barsZ p d (k + 1) = takeP p (barsZ p d k) (moreB p (barsZ p d k) p.barred[k]) := by
  unfold barsZ
  rw [take_snoc h, List.foldl_append]; rfl
/-- What is made so far: n special lines, m barred numbers at most. -/
structure MkOk (p : Plan13) (n m : Nat) (d : Dr) : Prop where
  kind : d.kind = 1 ∨ d.kind = 2 ∨ d.kind = 3
  name : d.name.size ≤ 21
  nums : Dr64 d
  len : d.tiers.length + d.places.length + d.quotas.length ≤ n
  bar : d.barred.length ≤ m
  places : ∀ x ∈ d.places, x.1.size ≤ 21
  quotas : ∀ x ∈ d.quotas, x.1.size ≤ 21
  right : p.wild = false → rightZ d = true
theorem dec64_len {z : Int} (h : R64 z) : (decW z).data.toList.length ≤ 21 := by rw [ba_len]; exact dec64_size h
theorem MkOk.short {p : Plan13} {n m : Nat} {d : Dr} (h : MkOk p n m d) : Short 1000 21 d := by
  have hn := h.nums
  refine ⟨by rw [ba_len]; have := h.name; omega, dec64_len hn.round, dec64_len hn.price, dec64_len hn.pool, dec64_len hn.pick, dec64_len hn.cls, dec64_len hn.size,
    fun x hx => ⟨dec64_len (hn.tiers x hx).1, dec64_len (hn.tiers x hx).2⟩, fun x hx => ⟨by rw [ba_len]; have := h.places x hx; omega, dec64_len (hn.places x hx)⟩,
    fun x hx => ⟨by rw [ba_len]; have := h.quotas x hx; omega, dec64_len (hn.quotas x hx).1, dec64_len (hn.quotas x hx).2⟩, fun x hx => dec64_len (hn.barred x hx)⟩
theorem R64_zero : R64 0 := by unfold R64; omega
theorem base_ok (p : Plan13) (hp : Pl64 p) : MkOk p 0 0 (baseD p) := by
  have h1 := nb_R64 p.wild _ hp.h1
  have h2 := nb_R64 p.wild _ hp.h2
  have h3 := nb_R64 p.wild _ hp.h3
  have h4 := nb_R64 p.wild _ hp.h4
  have hi : ∀ (c : Prop) [Decidable c] (z : Int), R64 z → R64 (if c then z else 0) := fun c _ z hz => by split; exact hz; exact R64_zero
  refine ⟨kd_123 p, nm_len _ _, ⟨h1, h2, hi _ _ h3, hi _ _ h4, hi _ _ h3, hi _ _ h3, ?_, ?_, ?_, ?_⟩, Nat.le_refl _, Nat.le_refl _, ?_, ?_, ?_⟩
  · intro x hx; cases hx
  · intro x hx; cases hx
  · intro x hx; cases hx
  · intro x hx; cases hx
  · intro x hx; cases hx
  · intro x hx; cases hx
  · intro hw
    rw [right_iff]
    have hg : ∀ (c : Prop) [Decidable c] (z : Int), rgB z = true → rgB (if c then z else 0) = true := fun c _ z hz => by split; exact hz; decide
    have n1 : ∀ z, rgB (nbZ p.wild z) = true := fun z => by rw [hw]; exact nb_ok z
    refine ⟨?_, by show nameB (nmZ p.wild p.h0) = true; rw [hw]; exact nm_ok _, n1 _, n1 _, hg _ _ (n1 _), hg _ _ (n1 _), hg _ _ (n1 _), hg _ _ (n1 _), Nat.zero_le _, Nat.zero_le _, Nat.zero_le _, Nat.zero_le _, ?_, ?_, ?_, ?_, ?_⟩
    · rcases kd_123 p with hk | hk | hk
      · rw [owns_1 (by exact hk)]
        refine ⟨?_, rfl, ?_, rfl⟩
        · show (if kdZ p = 2 then _ else (0 : Int)) = 0; rw [if_neg (by rw [hk]; decide)]
        · show (if kdZ p = 3 then _ else (0 : Int)) = 0; rw [if_neg (by rw [hk]; decide)]
      · rw [owns_2 (by exact hk)]
        refine ⟨?_, ?_, rfl, ?_, ?_, rfl⟩
        · show (if kdZ p = 1 then _ else (0 : Int)) = 0; rw [if_neg (by rw [hk]; decide)]
        · show (if kdZ p = 1 then _ else (0 : Int)) = 0; rw [if_neg (by rw [hk]; decide)]
        · show (if kdZ p = 1 then _ else false) = false; rw [if_neg (by rw [hk]; decide)]
        · show (if kdZ p = 3 then _ else (0 : Int)) = 0; rw [if_neg (by rw [hk]; decide)]
      · rw [owns_3 (by exact hk)]
        refine ⟨?_, ?_, rfl, ?_, ?_, rfl⟩
        · show (if kdZ p = 1 then _ else (0 : Int)) = 0; rw [if_neg (by rw [hk]; decide)]
        · show (if kdZ p = 1 then _ else (0 : Int)) = 0; rw [if_neg (by rw [hk]; decide)]
        · show (if kdZ p = 1 then _ else false) = false; rw [if_neg (by rw [hk]; decide)]
        · show (if kdZ p = 2 then _ else (0 : Int)) = 0; rw [if_neg (by rw [hk]; decide)]
    · intro i hi; exact absurd hi (Nat.not_lt_zero _)
    · intro i hi; exact absurd hi (Nat.not_lt_zero _)
    · intro i hi; exact absurd hi (Nat.not_lt_zero _)
    · intro i hi; exact absurd hi (Nat.not_lt_zero _)
    · intro x hx; cases hx
/-- What is tried next, without its being right. -/
structure MkTry (n m : Nat) (d : Dr) : Prop where
  kind : d.kind = 1 ∨ d.kind = 2 ∨ d.kind = 3
  name : d.name.size ≤ 21
  nums : Dr64 d
  len : d.tiers.length + d.places.length + d.quotas.length ≤ n
  bar : d.barred.length ≤ m
  places : ∀ x ∈ d.places, x.1.size ≤ 21
  quotas : ∀ x ∈ d.quotas, x.1.size ≤ 21
theorem MkOk.try' {p : Plan13} {n m : Nat} {d : Dr} (h : MkOk p n m d) : MkTry n m d := ⟨h.kind, h.name, h.nums, h.len, h.bar, h.places, h.quotas⟩
theorem MkTry.ok {p : Plan13} {n m : Nat} {d : Dr} (h : MkTry n m d) (hr : p.wild = false → rightZ d = true) : MkOk p n m d := ⟨h.kind, h.name, h.nums, h.len, h.bar, h.places, h.quotas, hr⟩
theorem MkTry.short {n m : Nat} {d : Dr} (h : MkTry n m d) : Short 1000 21 d :=
  (MkTry.ok (p := ⟨0, 0, 0, 0, 0, 0, 0, [], false, [], true⟩) h (fun h => by cases h)).short
theorem mem_snoc {α : Type} {P : α → Prop} {l : List α} {y : α} (h : ∀ x ∈ l, P x) (hy : P y) : ∀ x ∈ l ++ [y], P x := by
  intro x hx
  rcases List.mem_append.1 hx with hx | hx
  · exact h x hx
  · rw [List.mem_singleton.1 hx]; exact hy
theorem moreL_try {p : Plan13} {n m : Nat} {d : Dr} (h : MkTry n m d) (x : Int × Int × Int) (hx : R64 x.2.1 ∧ R64 x.2.2) : MkTry (n + 1) m (moreL p d x) := by
  have hn := h.nums
  have hl := h.len
  have r1 := nb_R64 p.wild _ hx.1
  have r2 := nb_R64 p.wild _ hx.2
  unfold moreL
  split
  · exact ⟨h.kind, h.name, ⟨hn.round, hn.price, hn.pool, hn.pick, hn.cls, hn.size, mem_snoc hn.tiers ⟨r1, r2⟩, hn.places, hn.quotas, hn.barred⟩, by simp only [List.length_append, List.length_cons, List.length_nil]; omega, h.bar, h.places, h.quotas⟩
  · split
    · exact ⟨h.kind, h.name, ⟨hn.round, hn.price, hn.pool, hn.pick, hn.cls, hn.size, hn.tiers, mem_snoc hn.places r1, hn.quotas, hn.barred⟩, by simp only [List.length_append, List.length_cons, List.length_nil]; omega, h.bar, mem_snoc h.places (nm_len _ _), h.quotas⟩
    · exact ⟨h.kind, h.name, ⟨hn.round, hn.price, hn.pool, hn.pick, hn.cls, hn.size, hn.tiers, hn.places, mem_snoc hn.quotas ⟨r1, r2⟩, hn.barred⟩, by simp only [List.length_append, List.length_cons, List.length_nil]; omega, h.bar, h.places, mem_snoc h.quotas (nm_len _ _)⟩
theorem moreB_try {p : Plan13} {n m : Nat} {d : Dr} (h : MkTry n m d) (z : Int) (hz : R64 z) : MkTry n (m + 1) (moreB p d z) := by
  have hn := h.nums
  exact ⟨h.kind, h.name, ⟨hn.round, hn.price, hn.pool, hn.pick, hn.cls, hn.size, hn.tiers, hn.places, hn.quotas, mem_snoc hn.barred (nb_R64 p.wild _ hz)⟩, h.len, by unfold moreB; simp only [List.length_append, List.length_cons, List.length_nil]; have := h.bar; omega, h.places, h.quotas⟩
theorem MkTry.le {n m n' m' : Nat} {d : Dr} (h : MkTry n m d) (hn : n ≤ n') (hm : m ≤ m') : MkTry n' m' d := ⟨h.kind, h.name, h.nums, Nat.le_trans h.len hn, Nat.le_trans h.bar hm, h.places, h.quotas⟩
theorem takeP_ok {p : Plan13} {n m n' m' : Nat} {d more : Dr} (h : MkOk p n m d) (hm : MkTry n' m' more) (h1 : n ≤ n') (h2 : m ≤ m') : MkOk p n' m' (takeP p d more) := by
  unfold takeP
  split
  · next hw => exact hm.ok (fun h0 => by rw [h0] at hw; exact hw)
  · exact (h.try'.le h1 h2).ok h.right
theorem lines_ok (p : Plan13) (hp : Pl64 p) : ∀ k, k ≤ p.lines.length → MkOk p k 0 (linesZ p k)
  | 0, _ => by unfold linesZ; exact base_ok p hp
  | k + 1, h => by
    have ih := lines_ok p hp k (by omega)
    rw [lines_next p (by omega)]
    exact takeP_ok ih (moreL_try ih.try' _ (hp.lines _ (List.getElem_mem _))) (by omega) (by omega)
theorem bars_ok (p : Plan13) (hp : Pl64 p) {n : Nat} {d : Dr} (hd : MkOk p n 0 d) : ∀ k, k ≤ p.barred.length → MkOk p n k (barsZ p d k)
  | 0, _ => by unfold barsZ; exact hd
  | k + 1, h => by
    have ih := bars_ok p hp hd k (by omega)
    rw [bars_next p d (by omega)]
    exact takeP_ok ih (moreB_try ih.try' _ (hp.barred _ (List.getElem_mem _))) (by omega) (by omega)
theorem make_ok (p : Plan13) (hp : Pl64 p) : MkOk p 14 45 (makeZ p) := by
  unfold makeZ
  have h1 := lines_ok p hp (min p.lines.length 14) (by omega)
  have h2 := bars_ok p hp h1 (min p.barred.length 45) (by omega)
  exact (h2.try'.le (by omega) (by omega)).ok h2.right
end Go.Proofs.YteikkpiginfbkaaGreatDoor

namespace Go.Proofs.YteikkpiginfbkaaGreatDoor
open Go.RowKit

/-- An entrant, and its cells. -/
structure En where
  id : Int
  cls : Int
  fam : Int
  picks : List Int
  wishes : List ByteArray
  groups : List ByteArray
def enCells (e : En) (vp vw vg : Value) : Array Value := #[.int .i64 e.id, .int .i64 e.cls, .int .i64 e.fam, vp, vw, vg]
def nrow (l : List ByteArray) : List Value := l.map .string
structure EnOwn (base : Nat) (W : World) (e : En) (vp vw vg : Value) : Prop where
  picks : W.ownsRow base 3 1 vp e.picks.length (irow e.picks)
  wishes : W.ownsRow base 9 1 vw e.wishes.length (nrow e.wishes)
  groups : W.ownsRow base 9 1 vg e.groups.length (nrow e.groups)
theorem EnOwn.only {base : Nat} {w w' : World} {e : En} {vp vw vg : Value} (h : EnOwn base w e vp vw vg) (hO : Only (fun _ => False) w w') : EnOwn base w' e vp vw vg :=
  ⟨hO.owns h.picks (fun _ _ h => h), hO.owns h.wishes (fun _ _ h => h), hO.owns h.groups (fun _ _ h => h)⟩
theorem EnOwn.base {base base' : Nat} {w : World} {e : En} {vp vw vg : Value} (h : EnOwn base w e vp vw vg) (hb : base' ≤ base) : EnOwn base' w e vp vw vg := ⟨ownR_base h.picks hb, ownR_base h.wishes hb, ownR_base h.groups hb⟩
theorem Tryz.infoEn : (Tryz.prog.info? 44).map (·.size) = some 6 := by kernel_rfl
def naAt (l : List ByteArray) (j : Nat) : ByteArray := l.getD j ByteArray.empty
theorem nrow_cell {w : World} {base : Nat} {a : Option Addr} {c k : Nat} {l : List ByteArray} (h : w.ownsRow base 9 1 (.slice a l.length c) l.length (nrow l)) (hk : k < l.length) :
    ∃ g, a = some ⟨g, 0, none⟩ ∧ g < w.heap.size ∧ l.length ≤ c ∧ c ≤ 9223372036854775807 ∧ w.cell? ⟨g, k, none⟩ = some (.string (naAt l k)) := by
  rcases h.2 with ⟨hv, h0⟩ | ⟨g, cap, cur, hv, hb, hg, hnc, hcm, hcs, htake⟩
  · omega
  · simp only [Value.slice.injEq, true_and] at hv
    obtain ⟨rfl, rfl⟩ := hv
    refine ⟨g, rfl, (Array.getElem?_eq_some_iff.1 hg).1, hnc, hcm, ?_⟩
    rw [cell_of_row w g k cur _ _ hg]
    have h1 : (cur.toList.take (l.length * 1))[k]? = (nrow l)[k]? := by rw [htake]
    rw [List.getElem?_take, if_pos (by omega)] at h1
    rw [Array.getElem?_toList] at h1
    rw [h1]
    unfold nrow naAt
    rw [List.getElem?_map, List.getElem?_eq_getElem hk]
    simp [List.getD, hk]
theorem na_take {l : List ByteArray} {k : Nat} (hk : k < l.length) : l.take (k + 1) = l.take k ++ [naAt l k] := by
  rw [take_snoc hk]; unfold naAt; simp [List.getD, hk]
set_option maxRecDepth 100000 in
set_option maxHeartbeats 4000000 in
theorem rstrings_any (b1 b2 : Nat) (a1 a2 : Option Addr) (c1 c2 : Nat) (xs ys : List ByteArray) (bb : Bool) (w : World) (h1 : w.ownsRow b1 9 1 (.slice a1 xs.length c1) xs.length (nrow xs)) (h2 : w.ownsRow b2 9 1 (.slice a2 ys.length c2) ys.length (nrow ys)) (hb : bb = true ↔ xs = ys) :
    Calls Tryz.prog 41 #[.slice a1 xs.length c1, .slice a2 ys.length c2] w fun e w' => e = .returned (.bool bb) ∧ Only (fun _ => False) w w' := by
  have H1 := Lib.hid h1
  have H2 := Lib.hid h2
  have HB := Lib.hid hb
  clear h1 h2 hb
  go_enter Tryz.func41, Tryz.ntmps41
  by_cases hl : xs.length = ys.length
  · have HLN := Lib.hid hl
    have q1 : ((xs.length : Int) != ys.length) = false := by rw [hl]; simp
    clear hl
    go_wp2_with fail
    go_loopw [5] (fun iv wr => ∃ k : Nat, iv = .int .i64 k ∧ k ≤ xs.length ∧ xs.take k = ys.take k ∧ Only (fun _ => False) w wr) (fun iv _ => xs.length - (intOf iv).toNat)
    case atStart => exact ⟨0, rfl, Nat.zero_le _, rfl, Only.refl _ _⟩
    case round =>
      obtain ⟨k, rfl, hk, htk, hO⟩ := hrel
      have HTK := Lib.hid htk
      have HO := Lib.hid hO
      have HA := Lib.hid (hO.owns H1.out (fun _ _ h => h))
      have HC := Lib.hid (hO.owns H2.out (fun _ _ h => h))
      clear htk hO
      by_cases hlt : k < xs.length
      · have j1 : (k : Int) < xs.length := by omega
        have j2 : 0 ≤ (k : Int) := by omega
        have hlt2 : k < ys.length := by rw [← HLN.out]; exact hlt
        have j3 : (k : Int) < ys.length := by omega
        have HLT := Lib.hid hlt
        obtain ⟨g1, rfl, hb1, hq1, hq2, d1⟩ := nrow_cell HA.out hlt
        obtain ⟨g2, rfl, hb2, hq3, hq4, d2⟩ := nrow_cell HC.out hlt2
        have HNX := Lib.hid (fun (he : naAt xs k = naAt ys k) => show xs.take (k + 1) = ys.take (k + 1) by rw [na_take hlt, na_take hlt2, HTK.out, he])
        have HNE := Lib.hid (fun (he : naAt xs k ≠ naAt ys k) => show bb = false by
          cases hbb : bb with
          | false => rfl
          | true => exact absurd (by rw [HB.out.1 hbb]) he)
        generalize naAt xs k = y at *
        generalize naAt ys k = z at *
        by_cases m : y = z
        · subst m
          have p : (y.toList == y.toList) = true := by simp
          have HG := Lib.hid (HNX.out rfl)
          go_wp2_with fail
          go_quiet (fail)
          go_wp2_with fail
          go_roundw
          case rel => exact ⟨k + 1, by go_num, HLT.out, HG.out, HO.out.drewN _⟩
          case measure => simp [intOf]; have := HLT.out; omega
        · obtain rfl := HNE.out m
          have p : (y.toList == z.toList) = false := by
            rw [beq_eq_false_iff_ne]
            intro e
            rw [ByteArray.toList_eq, ByteArray.toList_eq] at e
            exact m (ba_ext e)
          clear m
          go_wp2_with fail
          go_quiet (fail)
          go_wp2_with fail
          go_ret
          exact ⟨rfl, HO.out.drewN _⟩
      · obtain rfl : k = xs.length := by omega
        have j1 : ¬ (xs.length : Int) < xs.length := by omega
        obtain rfl : bb = true := HB.out.2 (by
          have := HTK.out
          rw [List.take_length] at this
          rw [this, HLN.out, List.take_length])
        go_wp2_with fail
        go_ret
        exact ⟨rfl, HO.out⟩
  · have q1 : ((xs.length : Int) != ys.length) = true := by
      rw [bne_iff_ne]
      omega
    obtain rfl : bb = false := by
      cases hbb : bb with
      | false => rfl
      | true => exact absurd (congrArg List.length (HB.out.1 hbb)) hl
    go_wp2_with fail
    go_ret
    exact ⟨rfl, Only.refl _ _⟩
set_option maxRecDepth 100000 in
set_option maxHeartbeats 4000000 in
theorem rsame_any (a : En) (vp vw vg up uw ug : Value) (b1 b2 : Nat) (w : World) (h1 : EnOwn b1 w a vp vw vg) (h2 : EnOwn b2 w a up uw ug) (hl : a.picks.length ≤ 1000000) :
    Calls Tryz.prog 18 #[.agg (enCells a vp vw vg), .agg (enCells a up uw ug)] w fun e w' => e = .returned (.bool true) ∧ Only (fun _ => False) w w' := by
  obtain ⟨ap1, cp, rfl⟩ := slice_of_own h1.picks
  obtain ⟨aw1, cw, rfl⟩ := slice_of_own h1.wishes
  obtain ⟨ag1, cg, rfl⟩ := slice_of_own h1.groups
  obtain ⟨bp1, dp, rfl⟩ := slice_of_own h2.picks
  obtain ⟨bw1, dw, rfl⟩ := slice_of_own h2.wishes
  obtain ⟨bg1, dg, rfl⟩ := slice_of_own h2.groups
  have H1 := Lib.hid h1
  have H2 := Lib.hid h2
  have HL := Lib.hid hl
  have HZA := Lib.hid (heap_alloc_last w (.cells (enCells a (.slice ap1 a.picks.length cp) (.slice aw1 a.wishes.length cw) (.slice ag1 a.groups.length cg)) 44))
  have HOA := Lib.hid ((Only.refl (fun _ => False) w).alloc (.cells (enCells a (.slice ap1 a.picks.length cp) (.slice aw1 a.wishes.length cw) (.slice ag1 a.groups.length cg)) 44))
  clear h1 h2 hl
  go_enter Tryz.func18, Tryz.ntmps18
  go_upto_region 1 with (fail)
  have HZB := Lib.hid (heap_alloc_last (w.alloc (.cells (enCells a (.slice ap1 a.picks.length cp) (.slice aw1 a.wishes.length cw) (.slice ag1 a.groups.length cg)) 44)) (.cells (enCells a (.slice bp1 a.picks.length dp) (.slice bw1 a.wishes.length dw) (.slice bg1 a.groups.length dg)) 44))
  have HOB := Lib.hid ((Only.refl (fun _ => False) (w.alloc (.cells (enCells a (.slice ap1 a.picks.length cp) (.slice aw1 a.wishes.length cw) (.slice ag1 a.groups.length cg)) 44))).alloc (.cells (enCells a (.slice bp1 a.picks.length dp) (.slice bw1 a.wishes.length dw) (.slice bg1 a.groups.length dg)) 44))
  have HZA := Lib.hid (row_still HOB.out HZA.out)
  have HO := Lib.hid (HOA.out.trans HOB.out)
  rw [World.size_alloc] at HZB
  clear HOA HOB
  generalize World.alloc (World.alloc w _) _ = w1 at *
  have HE1 := Lib.hid (H1.out.only HO.out)
  have HE2 := Lib.hid (H2.out.only HO.out)
  have hlt0 : w.heap.size < w1.heap.size := (Array.getElem?_eq_some_iff.1 HZA.out).1
  have hlt1 : w.heap.size + 1 < w1.heap.size := (Array.getElem?_eq_some_iff.1 HZB.out).1
  have c3 : w1.cell? ⟨w.heap.size, 3, none⟩ = some (.slice ap1 a.picks.length cp) := cell_of_row _ _ 3 _ _ _ HZA.out
  have e3 : w1.cell? ⟨w.heap.size + 1, 3, none⟩ = some (.slice bp1 a.picks.length dp) := cell_of_row _ _ 3 _ _ _ HZB.out
  go_wp2_with fail
  refine (rints13_any ap1 bp1 cp dp a.picks a.picks true w1 (ptsR_of_own HE1.out.picks) (ptsR_of_own HE2.out.picks) (by simp) HL.out).mono ?_
  rintro e w2 ⟨rfl, hO2⟩
  have HZA2 := Lib.hid (row_still hO2 HZA.out)
  have HZB2 := Lib.hid (row_still hO2 HZB.out)
  have HE1b := Lib.hid (HE1.out.only hO2)
  have HE2b := Lib.hid (HE2.out.only hO2)
  have HO2 := Lib.hid (HO.out.trans hO2)
  have c4 : w2.cell? ⟨w.heap.size, 4, none⟩ = some (.slice aw1 a.wishes.length cw) := cell_of_row _ _ 4 _ _ _ HZA2.out
  have e4 : w2.cell? ⟨w.heap.size + 1, 4, none⟩ = some (.slice bw1 a.wishes.length dw) := cell_of_row _ _ 4 _ _ _ HZB2.out
  clear hO2 c3 e3
  go_wp2_with fail
  refine (rstrings_any b1 b2 aw1 bw1 cw dw a.wishes a.wishes true w2 HE1b.out.wishes HE2b.out.wishes (by simp)).mono ?_
  rintro e w3 ⟨rfl, hO3⟩
  have HZA3 := Lib.hid (row_still hO3 HZA2.out)
  have HZB3 := Lib.hid (row_still hO3 HZB2.out)
  have HE1c := Lib.hid (HE1b.out.only hO3)
  have HE2c := Lib.hid (HE2b.out.only hO3)
  have HO3 := Lib.hid (HO2.out.trans hO3)
  have c5 : w3.cell? ⟨w.heap.size, 5, none⟩ = some (.slice ag1 a.groups.length cg) := cell_of_row _ _ 5 _ _ _ HZA3.out
  have e5 : w3.cell? ⟨w.heap.size + 1, 5, none⟩ = some (.slice bg1 a.groups.length dg) := cell_of_row _ _ 5 _ _ _ HZB3.out
  clear hO3 c4 e4
  go_wp2_with fail
  refine (rstrings_any b1 b2 ag1 bg1 cg dg a.groups a.groups true w3 HE1c.out.groups HE2c.out.groups (by simp)).mono ?_
  rintro e w4 ⟨rfl, hO4⟩
  have HZA4 := Lib.hid (row_still hO4 HZA3.out)
  have HZB4 := Lib.hid (row_still hO4 HZB3.out)
  have HO4 := Lib.hid (HO3.out.trans hO4)
  have c0 : w4.cell? ⟨w.heap.size, 0, none⟩ = some (.int .i64 a.id) := cell_of_row _ _ 0 _ _ _ HZA4.out
  have c1 : w4.cell? ⟨w.heap.size, 1, none⟩ = some (.int .i64 a.cls) := cell_of_row _ _ 1 _ _ _ HZA4.out
  have c2 : w4.cell? ⟨w.heap.size, 2, none⟩ = some (.int .i64 a.fam) := cell_of_row _ _ 2 _ _ _ HZA4.out
  have e0 : w4.cell? ⟨w.heap.size + 1, 0, none⟩ = some (.int .i64 a.id) := cell_of_row _ _ 0 _ _ _ HZB4.out
  have e1 : w4.cell? ⟨w.heap.size + 1, 1, none⟩ = some (.int .i64 a.cls) := cell_of_row _ _ 1 _ _ _ HZB4.out
  have e2 : w4.cell? ⟨w.heap.size + 1, 2, none⟩ = some (.int .i64 a.fam) := cell_of_row _ _ 2 _ _ _ HZB4.out
  have q0 : (a.id == a.id) = true := by simp
  have q1 : (a.cls == a.cls) = true := by simp
  have q2 : (a.fam == a.fam) = true := by simp
  clear hO4 c5 e5
  go_wp2_with fail
  go_ret
  exact ⟨rfl, HO4.out⟩
end Go.Proofs.YteikkpiginfbkaaGreatDoor

namespace Go.Proofs.YteikkpiginfbkaaGreatDoor
open Go.RowKit

def rightE (e : En) : Bool := [e.id, e.cls, e.fam].all rgB && e.picks.all rgB && decide (e.picks.length ≤ 60 ∧ e.wishes.length ≤ 12 ∧ e.groups.length ≤ 12) && (e.wishes.all nameB && e.groups.all nameB)
def lkE (e : En) (k : Nat) : List ByteArray := if k = 0 then e.wishes else e.groups
theorem lk_own {base : Nat} {w : World} {e : En} {vp : Value} {aw ag : Option Addr} {cw cg k B : Nat} (h : EnOwn base w e vp (.slice aw e.wishes.length cw) (.slice ag e.groups.length cg))
    (hB : w.heap[B]? = some (.cells #[.slice aw e.wishes.length cw, .slice ag e.groups.length cg] 42 (0, 0))) (hk : k < 2) :
    ∃ a c, w.cell? ⟨B, k, none⟩ = some (.slice a (lkE e k).length c) ∧ w.ownsRow base 9 1 (.slice a (lkE e k).length c) (lkE e k).length (nrow (lkE e k)) := by
  rcases (show k = 0 ∨ k = 1 by omega) with rfl | rfl
  · exact ⟨aw, cw, cell_of_row _ _ 0 _ _ _ hB, h.wishes⟩
  · exact ⟨ag, cg, cell_of_row _ _ 1 _ _ _ hB, h.groups⟩
theorem rightE_no {e : En} {k : Nat} (h : (lkE e k).all nameB = false) : rightE e = false := by
  unfold lkE at h
  unfold rightE
  split at h <;> rw [h] <;> simp
theorem rightE_yes {e : En} (h1 : [e.id, e.cls, e.fam].all rgB = true) (h2 : e.picks.all rgB = true) (h3 : e.picks.length ≤ 60 ∧ e.wishes.length ≤ 12 ∧ e.groups.length ≤ 12) (h4 : ∀ j, j < 2 → (lkE e j).all nameB = true) : rightE e = true := by
  have a := h4 0 (by decide)
  have b := h4 1 (by decide)
  unfold lkE at a b
  rw [if_pos rfl] at a
  rw [if_neg (by decide)] at b
  unfold rightE
  rw [h1, h2, a, b, decide_eq_true h3]; rfl
theorem lk_len {e : En} {k : Nat} (h3 : e.picks.length ≤ 60 ∧ e.wishes.length ≤ 12 ∧ e.groups.length ≤ 12) : (lkE e k).length ≤ 12 := by
  unfold lkE; split <;> omega
theorem all_snoc {l : List ByteArray} {j : Nat} (h : j < l.length) (h1 : (l.take j).all nameB = true) (h2 : nameB (naAt l j) = true) : (l.take (j + 1)).all nameB = true := by
  rw [na_take h, List.all_append, h1, List.all_cons, h2]; rfl
theorem all_not {l : List ByteArray} {j : Nat} (h : j < l.length) (h2 : nameB (naAt l j) = false) : l.all nameB = false := by
  rw [Bool.eq_false_iff]
  intro hh
  have := List.all_eq_true.1 hh (naAt l j) (by unfold naAt; simp [List.getD, h])
  rw [h2] at this; cases this
set_option maxRecDepth 100000 in
set_option maxHeartbeats 4000000 in
theorem rightent_any (e : En) (vp vw vg : Value) (bb : Bool) (base : Nat) (w : World) (h : EnOwn base w e vp vw vg) (hb : rightE e = bb) (hl : e.picks.length ≤ 1000000 ∧ e.wishes.length ≤ 1000000 ∧ e.groups.length ≤ 1000000) :
    Calls Tryz.prog 39 #[.agg (enCells e vp vw vg)] w fun r w' => r = .returned (.bool bb) ∧ Only (fun _ => False) w w' := by
  obtain ⟨ap1, cp, rfl⟩ := slice_of_own h.picks
  obtain ⟨aw1, cw, rfl⟩ := slice_of_own h.wishes
  obtain ⟨ag1, cg, rfl⟩ := slice_of_own h.groups
  have H := Lib.hid h
  have HB := Lib.hid hb
  have HL := Lib.hid hl
  have HZ := Lib.hid (heap_alloc_last w (.cells (enCells e (.slice ap1 e.picks.length cp) (.slice aw1 e.wishes.length cw) (.slice ag1 e.groups.length cg)) 44))
  have HO := Lib.hid ((Only.refl (fun _ => False) w).alloc (.cells (enCells e (.slice ap1 e.picks.length cp) (.slice aw1 e.wishes.length cw) (.slice ag1 e.groups.length cg)) 44))
  have HLE := Lib.hid (fun k => rightE_no (e := e) (k := k))
  have HYE := Lib.hid (rightE_yes (e := e))
  clear h hb hl
  go_enter Tryz.func39, Tryz.ntmps39
  go_upto_region 1 with (fail)
  generalize World.alloc w _ = w1 at *
  have HE1 := Lib.hid (H.out.only HO.out)
  have hlt0 : w.heap.size < w1.heap.size := (Array.getElem?_eq_some_iff.1 HZ.out).1
  have c0 : w1.cell? ⟨w.heap.size, 0, none⟩ = some (.int .i64 e.id) := cell_of_row _ _ 0 _ _ _ HZ.out
  have c1 : w1.cell? ⟨w.heap.size, 1, none⟩ = some (.int .i64 e.cls) := cell_of_row _ _ 1 _ _ _ HZ.out
  have c2 : w1.cell? ⟨w.heap.size, 2, none⟩ = some (.int .i64 e.fam) := cell_of_row _ _ 2 _ _ _ HZ.out
  have c3 : w1.cell? ⟨w.heap.size, 3, none⟩ = some (.slice ap1 e.picks.length cp) := cell_of_row _ _ 3 _ _ _ HZ.out
  go_wp2_with fail
  have HO2 := Lib.hid (HO.out.alloc (.cells #[.int .i64 e.id, .int .i64 e.cls, .int .i64 e.fam] 3))
  have HZ2 := Lib.hid (row_still ((Only.refl (fun _ => False) w1).alloc (.cells #[.int .i64 e.id, .int .i64 e.cls, .int .i64 e.fam] 3)) HZ.out)
  have HE2 := Lib.hid (HE1.out.only ((Only.refl (fun _ => False) w1).alloc (.cells #[.int .i64 e.id, .int .i64 e.cls, .int .i64 e.fam] 3)))
  obtain ⟨b1, hb1⟩ : ∃ b, [e.id, e.cls, e.fam].all rgB = b := ⟨_, rfl⟩
  refine (range_any (some ⟨w1.heap.size, 0, none⟩) 3 [e.id, e.cls, e.fam] b1 (w1.alloc (.cells #[.int .i64 e.id, .int .i64 e.cls, .int .i64 e.fam] 3)) (by exact pts_new w1 [e.id, e.cls, e.fam] (by simp) (by simp)) hb1 (by simp)).mono ?_
  rintro e' w2 ⟨rfl, rfl⟩
  have HB1 := Lib.hid hb1
  clear hb1 c0 c1 c2 c3
  generalize (w1.alloc (.cells #[.int .i64 e.id, .int .i64 e.cls, .int .i64 e.fam] 3)) = w2 at *
  have hlt2 : w.heap.size < w2.heap.size := (Array.getElem?_eq_some_iff.1 HZ2.out).1
  have c3 : w2.cell? ⟨w.heap.size, 3, none⟩ = some (.slice ap1 e.picks.length cp) := cell_of_row _ _ 3 _ _ _ HZ2.out
  have c4 : w2.cell? ⟨w.heap.size, 4, none⟩ = some (.slice aw1 e.wishes.length cw) := cell_of_row _ _ 4 _ _ _ HZ2.out
  have c5 : w2.cell? ⟨w.heap.size, 5, none⟩ = some (.slice ag1 e.groups.length cg) := cell_of_row _ _ 5 _ _ _ HZ2.out
  cases b1
  · have HF := Lib.hid (show bb = false by rw [← HB.out]; unfold rightE; rw [HB1.out]; rfl)
    go_wp2_with fail
    go_ret
    exact ⟨by rw [HF.out]; rfl, HO2.out⟩
  obtain ⟨b2, hb2⟩ : ∃ b, e.picks.all rgB = b := ⟨_, rfl⟩
  have HB2 := Lib.hid hb2
  have HC := Lib.hid (range_any ap1 cp e.picks b2 w2 (ptsR_of_own HE2.out.picks) hb2 HL.out.1)
  clear hb2
  go_wp2_with fail
  refine HC.out.mono ?_
  rintro e' w3 ⟨rfl, rfl⟩
  clear HC
  cases b2
  · have HF := Lib.hid (show bb = false by rw [← HB.out]; unfold rightE; rw [HB2.out]; simp)
    go_wp2_with fail
    go_ret
    exact ⟨by rw [HF.out]; rfl, HO2.out⟩
  by_cases hn : e.picks.length ≤ 60 ∧ e.wishes.length ≤ 12 ∧ e.groups.length ≤ 12
  rotate_left
  · have HF := Lib.hid (show bb = false by rw [← HB.out]; unfold rightE; rw [decide_eq_false hn]; simp)
    by_cases h1 : e.picks.length ≤ 60
    · by_cases h2 : e.wishes.length ≤ 12
      · have i1 : ¬ (60 : Int) < e.picks.length := by omega
        have i2 : ¬ (12 : Int) < e.wishes.length := by omega
        have i3 : (12 : Int) < e.groups.length := by omega
        clear hn h1 h2
        go_wp2_with fail
        go_ret
        exact ⟨by rw [HF.out]; rfl, HO2.out⟩
      · have i1 : ¬ (60 : Int) < e.picks.length := by omega
        have i2 : (12 : Int) < e.wishes.length := by omega
        clear hn h1 h2
        go_wp2_with fail
        go_ret
        exact ⟨by rw [HF.out]; rfl, HO2.out⟩
    · have i1 : (60 : Int) < e.picks.length := by omega
      clear hn h1
      go_wp2_with fail
      go_ret
      exact ⟨by rw [HF.out]; rfl, HO2.out⟩
  have HN := Lib.hid hn
  have i1 : ¬ (60 : Int) < e.picks.length := by omega
  have i2 : ¬ (12 : Int) < e.wishes.length := by omega
  have i3 : ¬ (12 : Int) < e.groups.length := by omega
  clear hn
  go_upto_region 5 with (fail)
  clear i1 i2 i3
  go_wp2_with fail
  have HO3 := Lib.hid (HO2.out.alloc (.cells #[.slice aw1 e.wishes.length cw, .slice ag1 e.groups.length cg] 42))
  have HQ := Lib.hid (heap_alloc_last w2 (.cells #[.slice aw1 e.wishes.length cw, .slice ag1 e.groups.length cg] 42))
  have HE3 := Lib.hid (HE2.out.only ((Only.refl (fun _ => False) w2).alloc (.cells #[.slice aw1 e.wishes.length cw, .slice ag1 e.groups.length cg] 42)))
  clear c3 c4 c5
  generalize (w2.alloc (.cells #[.slice aw1 e.wishes.length cw, .slice ag1 e.groups.length cg] 42)) = w3 at *
  generalize w2.heap.size = B at *
  go_loopw [44] (fun iv wr => ∃ k : Nat, iv = .int .i64 k ∧ k ≤ 2 ∧ (∀ j, j < k → (lkE e j).all nameB = true) ∧ Only (fun _ => False) w3 wr) (fun iv _ => 2 - (intOf iv).toNat)
  case atStart => exact ⟨0, rfl, by decide, fun j hj => absurd hj (Nat.not_lt_zero _), Only.refl _ _⟩
  case round =>
    obtain ⟨k, rfl, hk, hall, hO⟩ := hrel
    have HALL := Lib.hid hall
    have HOR := Lib.hid hO
    clear hall hO
    by_cases hlt : k < 2
    · have j1 : (k : Int) < 2 := by omega
      have j2 : 0 ≤ (k : Int) := by omega
      have HQR := Lib.hid (row_still HOR.out HQ.out)
      obtain ⟨a, c, d0, hown⟩ := lk_own (HE3.out.only HOR.out) HQR.out hlt
      have HW := Lib.hid hown
      have HNO := Lib.hid (HLE.out k)
      have HLT := Lib.hid hlt
      have HLL := Lib.hid (lk_len (k := k) HN.out)
      have HNX := Lib.hid (fun (h : (lkE e k).all nameB = true) => show ∀ j, j < k + 1 → (lkE e j).all nameB = true from fun j hj => by
        rcases Nat.lt_or_ge j k with h1 | h1
        · exact HALL.out j h1
        · rw [show j = k by omega]; exact h)
      have hBr : B < wr.heap.size := (Array.getElem?_eq_some_iff.1 HQR.out).1
      clear hown hlt
      generalize lkE e k = l at *
      go_wp2_with fail
      generalize wr = w6 at *
      go_loopw [50] (fun jv wr => ∃ j : Nat, jv = .int .i64 j ∧ j ≤ l.length ∧ (l.take j).all nameB = true ∧ Only (fun _ => False) w6 wr) (fun jv _ => l.length - (intOf jv).toNat)
      case atStart => exact ⟨0, rfl, Nat.zero_le _, rfl, Only.refl _ _⟩
      case round =>
        obtain ⟨j, rfl, hj, hja, hO⟩ := hrel
        have HJA := Lib.hid hja
        have HOI := Lib.hid hO
        have HWI := Lib.hid (hO.owns HW.out (fun _ _ h => h))
        clear hja hO
        by_cases hjl : j < l.length
        · have m1 : (j : Int) < l.length := by omega
          have m2 : 0 ≤ (j : Int) := by omega
          obtain ⟨g, rfl, hg, hq1, hq2, d1⟩ := nrow_cell HWI.out hjl
          have HJS := Lib.hid (all_snoc hjl HJA.out)
          have HJN := Lib.hid (all_not hjl)
          have HJL := Lib.hid hjl
          generalize naAt l j = y at *
          go_wp2_with fail
          obtain ⟨by1, hby⟩ : ∃ b, nameB y = b := ⟨_, rfl⟩
          refine (isname_any y by1 _ hby).mono ?_
          rintro e' w7 ⟨rfl, rfl⟩
          cases by1
          · have HF := Lib.hid (show bb = false by rw [← HB.out]; exact HNO.out (HJN.out hby))
            clear hby
            go_wp2_with fail
            go_ret
            exact ⟨by rw [HF.out]; rfl, ((HO3.out.trans HOR.out).trans HOI.out)⟩
          · have HS := Lib.hid (HJS.out hby)
            clear hby
            go_wp2_with fail
            go_roundw
            case rel => exact ⟨j + 1, by go_num, HJL.out, HS.out, HOI.out⟩
            case measure => simp [intOf]; have := HJL.out; omega
        · obtain rfl : j = l.length := by omega
          have m1 : ¬ (l.length : Int) < l.length := by omega
          have HLA := Lib.hid (show l.all nameB = true by have := HJA.out; rw [List.take_length] at this; exact this)
          clear hjl hj
          go_wp2_with fail
          go_roundw
          case rel => exact ⟨k + 1, by go_num, HLT.out, HNX.out HLA.out, HOR.out.trans HOI.out⟩
          case measure => simp [intOf]; have := HLT.out; omega
    · obtain rfl : k = 2 := by omega
      have HF := Lib.hid (show bb = true by rw [← HB.out]; exact HYE.out HB1.out HB2.out HN.out HALL.out)
      clear hlt hk
      go_wp2_with fail
      go_ret
      exact ⟨by rw [HF.out]; rfl, HO3.out.trans HOR.out⟩
end Go.Proofs.YteikkpiginfbkaaGreatDoor
