/-
  Rules, plain: the lines of a draw as the program joins them.
  Rules: slices.Equal over tiers, places, quotas.
  Rules: the program's Equal.
-/
import Derived.Test.YteikkpiginfbkaaGreatDoorPh23
import Derived.Test.YteikkpiginfbkaaGreatDoorPh24
namespace Go.Proofs.YteikkpiginfbkaaGreatDoor
open Go.RowKit

def lineB (ws : List ByteArray) : ByteArray := ⟨(lineW ws).toArray⟩
theorem joinC_flat {c : UInt8} : ∀ {r : List (List UInt8)}, Lib.joinTail [c] r ++ [c] = c :: r.flatMap (· ++ [c])
  | [] => rfl
  | x :: r => by
    rw [joinT_cons, List.cons_append, List.append_assoc, joinC_flat, List.flatMap_cons]
    simp
theorem join_lines {ls : List (List ByteArray)} (h : ls ≠ []) : Lib.join ((ls.map lineB).map (·.data.toList)) [10] ++ [10] = flatL ls := by
  cases ls with
  | nil => exact absurd rfl h
  | cons a r =>
    rw [List.map_cons, List.map_cons, Lib.join_cons, List.append_assoc, joinC_flat, flatL_cons]
    congr 2
    unfold flatL
    rw [List.map_map, List.flatMap_map]
    rfl
theorem itoa_dec {n : Int} (h : rgB n = true) : (⟨(Lib.itoa n).toArray⟩ : ByteArray) = decW n := by
  unfold decW decB
  rw [itoa_digs (rg_le h).1]
theorem rg_R64 {n : Int} (h : rgB n = true) : R64 n := by have := rg_le h; unfold R64; omega
theorem ba_ext {a b : ByteArray} (h : a.data.toList = b.data.toList) : a = b := by rw [← arr_list a, h, arr_list]
theorem app_data (a b : ByteArray) : (a ++ b).data.toList = a.data.toList ++ b.data.toList := by simp
theorem text_1 {k : ByteArray} {x : Int} (hx : rgB x = true) : textU k [x] = lineB [k, decW x] := by
  apply ba_ext
  show (k ++ numU x).data.toList = lineW [k, decW x]
  unfold numU
  rw [itoa_dec hx, app_data, app_data, lineW_cons, lineW_one]
  rfl
theorem text_2 {k : ByteArray} {x y : Int} (hx : rgB x = true) (hy : rgB y = true) : textU k [x, y] = lineB [k, decW x, decW y] := by
  apply ba_ext
  show ((k ++ numU x) ++ numU y).data.toList = lineW [k, decW x, decW y]
  unfold numU
  rw [itoa_dec hx, itoa_dec hy, app_data, app_data, app_data, app_data, lineW_cons, lineW_cons, lineW_one, List.append_assoc]
  rfl
theorem text_n1 {k n : ByteArray} {x : Int} (hx : rgB x = true) : textU (k ++ ⟨#[32]⟩ ++ n) [x] = lineB [k, n, decW x] := by
  apply ba_ext
  show (k ++ ⟨#[32]⟩ ++ n ++ numU x).data.toList = lineW [k, n, decW x]
  unfold numU
  rw [itoa_dec hx, app_data, app_data, app_data, app_data, lineW_cons, lineW_cons, lineW_one, List.append_assoc, List.append_assoc]
  rfl
theorem text_n2 {k n : ByteArray} {x y : Int} (hx : rgB x = true) (hy : rgB y = true) : textU (k ++ ⟨#[32]⟩ ++ n) [x, y] = lineB [k, n, decW x, decW y] := by
  apply ba_ext
  show (k ++ ⟨#[32]⟩ ++ n ++ numU x ++ numU y).data.toList = lineW [k, n, decW x, decW y]
  unfold numU
  rw [itoa_dec hx, itoa_dec hy, app_data, app_data, app_data, app_data, app_data, app_data, lineW_cons, lineW_cons, lineW_cons, lineW_one]
  simp only [List.append_assoc]
  rfl
theorem text_pl {n : ByteArray} {x : Int} (hx : rgB x = true) : textU ((⟨#[112, 108, 97, 99, 101, 32]⟩ : ByteArray) ++ n) [x] = lineB [kPlace, n, decW x] := by
  rw [show (⟨#[112, 108, 97, 99, 101, 32]⟩ : ByteArray) = kPlace ++ ⟨#[32]⟩ from by decide]
  exact text_n1 hx
theorem text_qu {n : ByteArray} {x y : Int} (hx : rgB x = true) (hy : rgB y = true) : textU ((⟨#[113, 117, 111, 116, 97, 32]⟩ : ByteArray) ++ n) [x, y] = lineB [kQuota, n, decW x, decW y] := by
  rw [show (⟨#[113, 117, 111, 116, 97, 32]⟩ : ByteArray) = kQuota ++ ⟨#[32]⟩ from by decide]
  exact text_n2 hx hy
/-- Lines, in a slice of strings that is owned. -/
def srowU (l : List (List ByteArray)) : List Value := l.map fun ws => .string (lineB ws)
theorem srowU_app (l : List (List ByteArray)) (x : List ByteArray) : srowU (l ++ [x]) = srowU l ++ [.string (lineB x)] := by simp [srowU]
theorem srowU_app2 (l : List (List ByteArray)) (x y : List ByteArray) : srowU (l ++ [x, y]) = srowU l ++ [.string (lineB x), .string (lineB y)] := by simp [srowU]
def LnsAt (base : Nat) (w : World) (v : Value) (ls : List (List ByteArray)) : Prop := w.ownsRow base 9 1 v ls.length (srowU ls)
theorem LnsAt.only {base : Nat} {w w' : World} {v : Value} {ls : List (List ByteArray)} (h : LnsAt base w v ls) (hO : Only (fun _ => False) w w') : LnsAt base w' v ls := hO.owns h (fun _ _ h => h)
theorem lns_cell {base : Nat} {w : World} {v : Value} {ls : List (List ByteArray)} (h : LnsAt base w v ls) {j : Nat} (hj : j < ls.length) :
    ∃ g cap, v = .slice (some ⟨g, 0, none⟩) ls.length cap ∧ g < w.heap.size ∧ ls.length ≤ cap ∧ w.cell? ⟨g, j, none⟩ = some (.string (lineB ls[j])) := by
  have hu : (srowU ls)[j]? = some (.string (lineB ls[j])) := by unfold srowU; rw [List.getElem?_map, List.getElem?_eq_getElem hj]; rfl
  obtain ⟨g, cap, hv, hg, h1, _, hc⟩ := own_cell h hu
  exact ⟨g, cap, hv, hg, h1, hc⟩
theorem lines_small {d : Dr} (h : Right d) : (lnsZ d).length ≤ 57 := by
  have := lnsZ_len d; have := right_many h; have := h.b40; omega
end Go.Proofs.YteikkpiginfbkaaGreatDoor

namespace Go.Proofs.YteikkpiginfbkaaGreatDoor
open Go.RowKit

theorem take_eq_succ {α : Type} {xs ys : List α} {k : Nat} (h : xs.take k = ys.take k) (h1 : k < xs.length) (h2 : k < ys.length) (he : xs[k] = ys[k]) : xs.take (k + 1) = ys.take (k + 1) := by rw [take_snoc h1, take_snoc h2, h, he]
theorem tlU_iff {a b : ByteArray} : ((a.toList == b.toList) = true) ↔ a = b := by
  rw [beq_iff_eq, ByteArray.toList_eq, ByteArray.toList_eq]
  exact ⟨fun h => ba_ext h, fun h => by rw [h]⟩
theorem ne_at {α : Type} {xs ys : List α} {k : Nat} (h1 : k < xs.length) (h2 : k < ys.length) (he : xs[k] ≠ ys[k]) : xs ≠ ys := fun e => by subst e; exact he rfl
set_option maxRecDepth 100000 in
set_option maxHeartbeats 4000000 in
theorem eqT_any (b1 b2 : Nat) (a1 a2 : Option Addr) (c1 c2 : Nat) (xs ys : List (Int × Int)) (bb : Bool) (w : World) (h1 : w.ownsRow b1 50 2 (.slice a1 xs.length c1) xs.length (trow xs)) (h2 : w.ownsRow b2 50 2 (.slice a2 ys.length c2) ys.length (trow ys)) (hb : bb = true ↔ xs = ys) :
    Calls Tryz.prog 35 #[.slice a1 xs.length c1, .slice a2 ys.length c2] w fun e w' => e = .returned (.bool bb) ∧ Only (fun _ => False) w w' := by
  have H1 := Lib.hid h1
  have H2 := Lib.hid h2
  have HB := Lib.hid hb
  clear h1 h2 hb
  go_enter Tryz.func35, Tryz.ntmps35
  by_cases hl : xs.length = ys.length
  · have HLN := Lib.hid hl
    have q1 : ((xs.length : Int) != ys.length) = false := by rw [hl]; simp
    clear hl
    go_wp2_with fail
    go_loopw [13] (fun iv wr => ∃ k : Nat, iv = .int .i64 k ∧ k ≤ xs.length ∧ xs.take k = ys.take k ∧ Only (fun _ => False) w wr) (fun iv _ => xs.length - (intOf iv).toNat)
    case atStart => exact ⟨0, rfl, Nat.zero_le _, rfl, Only.refl _ _⟩
    case round =>
      obtain ⟨k, rfl, hk, htk, hO⟩ := hrel
      have HTK := Lib.hid htk
      have HO := Lib.hid hO
      have HA := Lib.hid (hO.owns H1.out (fun _ _ h => h))
      have HC := Lib.hid (hO.owns H2.out (fun _ _ h => h))
      clear htk hO
      by_cases hlt : k < xs.length
      · have j1 : (k : Int) < xs.length := by omega
        have j2 : 0 ≤ (k : Int) := by omega
        have hlt2 : k < ys.length := by rw [← HLN.out]; exact hlt
        have j3 : (k : Int) < ys.length := by omega
        have hd0 := flat_at (fun x : Int × Int => [Value.int .i64 x.1, Value.int .i64 x.2]) 2 (fun _ => rfl) xs k 0 hlt (by decide)
        have hd1 := flat_at (fun x : Int × Int => [Value.int .i64 x.1, Value.int .i64 x.2]) 2 (fun _ => rfl) xs k 1 hlt (by decide)
        obtain ⟨g0, capg0, hvg0, hgg, hc1g, hc2g, d0⟩ := own_cell HA.out hd0
        obtain ⟨g1, capg1, hvg1, _, _, _, d1⟩ := own_cell HA.out hd1
        rw [hvg0] at hvg1
        simp only [Value.slice.injEq, Option.some.injEq, Addr.mk.injEq, and_true, true_and] at hvg0 hvg1
        obtain ⟨rfl, rfl⟩ := hvg0
        obtain ⟨rfl, rfl⟩ := hvg1
        have he0 := flat_at (fun x : Int × Int => [Value.int .i64 x.1, Value.int .i64 x.2]) 2 (fun _ => rfl) ys k 0 hlt2 (by decide)
        have he1 := flat_at (fun x : Int × Int => [Value.int .i64 x.1, Value.int .i64 x.2]) 2 (fun _ => rfl) ys k 1 hlt2 (by decide)
        obtain ⟨f0, capf0, hvf0, hgf, hc1f, hc2f, e0⟩ := own_cell HC.out he0
        obtain ⟨f1, capf1, hvf1, _, _, _, e1⟩ := own_cell HC.out he1
        rw [hvf0] at hvf1
        simp only [Value.slice.injEq, Option.some.injEq, Addr.mk.injEq, and_true, true_and] at hvf0 hvf1
        obtain ⟨rfl, rfl⟩ := hvf0
        obtain ⟨rfl, rfl⟩ := hvf1
        have HNX := Lib.hid (fun (he : xs[k] = ys[k]) => take_eq_succ HTK.out hlt hlt2 he)
        have HNE := Lib.hid (fun (he : xs[k] ≠ ys[k]) => show bb = false by
          cases hbb : bb with
          | false => rfl
          | true => exact absurd (HB.out.1 hbb) (ne_at hlt hlt2 he))
        generalize xs[k] = y at *
        generalize ys[k] = z at *
        obtain ⟨ya, yb⟩ := y
        obtain ⟨za, zb⟩ := z
        change _ = some (Value.int .i64 ya) at d0
        change _ = some (Value.int .i64 za) at e0
        change _ = some (Value.int .i64 yb) at d1
        change _ = some (Value.int .i64 zb) at e1
        rw [Nat.add_zero] at d0 e0
        clear hd0 he0 hd1 he1
        by_cases m0 : ya = za
        · by_cases m1 : yb = zb
          · obtain ⟨rfl, rfl⟩ : ya = za ∧ yb = zb := ⟨m0, m1⟩
            clear m0 m1
            have p0 : (ya == ya) = true := by simp
            have p1 : (yb == yb) = true := by simp
            have HG := Lib.hid (HNX.out rfl)
            go_wp2_with fail
            go_quiet (fail)
            go_wp2_with fail
            go_roundw
            case rel => exact ⟨k + 1, by go_num, hlt, HG.out, HO.out.drewN _⟩
            case measure => simp [intOf]; omega
          · obtain rfl := HNE.out (fun h => m1 (by simpa using congrArg (fun u => u.2) h))
            have p0 : (ya == za) = true := by rw [m0]; simp
            have p1 : (yb == zb) = false := by simpa using m1
            clear m0 m1
            go_wp2_with fail
            go_quiet (fail)
            go_wp2_with fail
            go_ret
            exact ⟨rfl, HO.out.drewN _⟩
        · obtain rfl := HNE.out (fun h => m0 (by simpa using congrArg (fun u => u.1) h))
          have p0 : (ya == za) = false := by simpa using m0
          clear m0
          go_wp2_with fail
          go_quiet (fail)
          go_wp2_with fail
          go_ret
          exact ⟨rfl, HO.out.drewN _⟩
      · obtain rfl : k = xs.length := by omega
        have j1 : ¬ (xs.length : Int) < xs.length := by omega
        obtain rfl : bb = true := HB.out.2 (by
          have := HTK.out
          rw [List.take_length] at this
          rw [this, HLN.out, List.take_length])
        go_wp2_with fail
        go_ret
        exact ⟨rfl, HO.out⟩
  · have q1 : ((xs.length : Int) != ys.length) = true := by
      rw [bne_iff_ne]
      omega
    obtain rfl : bb = false := by
      cases hbb : bb with
      | false => rfl
      | true => exact absurd (congrArg List.length (HB.out.1 hbb)) hl
    clear hl
    go_wp2_with fail
    go_ret
    exact ⟨rfl, Only.refl _ _⟩
set_option maxRecDepth 100000 in
set_option maxHeartbeats 4000000 in
theorem eqP_any (b1 b2 : Nat) (a1 a2 : Option Addr) (c1 c2 : Nat) (xs ys : List (ByteArray × Int)) (bb : Bool) (w : World) (h1 : w.ownsRow b1 73 2 (.slice a1 xs.length c1) xs.length (prow xs)) (h2 : w.ownsRow b2 73 2 (.slice a2 ys.length c2) ys.length (prow ys)) (hb : bb = true ↔ xs = ys) :
    Calls Tryz.prog 36 #[.slice a1 xs.length c1, .slice a2 ys.length c2] w fun e w' => e = .returned (.bool bb) ∧ Only (fun _ => False) w w' := by
  have H1 := Lib.hid h1
  have H2 := Lib.hid h2
  have HB := Lib.hid hb
  clear h1 h2 hb
  go_enter Tryz.func36, Tryz.ntmps36
  by_cases hl : xs.length = ys.length
  · have HLN := Lib.hid hl
    have q1 : ((xs.length : Int) != ys.length) = false := by rw [hl]; simp
    clear hl
    go_wp2_with fail
    go_loopw [13] (fun iv wr => ∃ k : Nat, iv = .int .i64 k ∧ k ≤ xs.length ∧ xs.take k = ys.take k ∧ Only (fun _ => False) w wr) (fun iv _ => xs.length - (intOf iv).toNat)
    case atStart => exact ⟨0, rfl, Nat.zero_le _, rfl, Only.refl _ _⟩
    case round =>
      obtain ⟨k, rfl, hk, htk, hO⟩ := hrel
      have HTK := Lib.hid htk
      have HO := Lib.hid hO
      have HA := Lib.hid (hO.owns H1.out (fun _ _ h => h))
      have HC := Lib.hid (hO.owns H2.out (fun _ _ h => h))
      clear htk hO
      by_cases hlt : k < xs.length
      · have j1 : (k : Int) < xs.length := by omega
        have j2 : 0 ≤ (k : Int) := by omega
        have hlt2 : k < ys.length := by rw [← HLN.out]; exact hlt
        have j3 : (k : Int) < ys.length := by omega
        have hd0 := flat_at (fun x : ByteArray × Int => [Value.string x.1, Value.int .i64 x.2]) 2 (fun _ => rfl) xs k 0 hlt (by decide)
        have hd1 := flat_at (fun x : ByteArray × Int => [Value.string x.1, Value.int .i64 x.2]) 2 (fun _ => rfl) xs k 1 hlt (by decide)
        obtain ⟨g0, capg0, hvg0, hgg, hc1g, hc2g, d0⟩ := own_cell HA.out hd0
        obtain ⟨g1, capg1, hvg1, _, _, _, d1⟩ := own_cell HA.out hd1
        rw [hvg0] at hvg1
        simp only [Value.slice.injEq, Option.some.injEq, Addr.mk.injEq, and_true, true_and] at hvg0 hvg1
        obtain ⟨rfl, rfl⟩ := hvg0
        obtain ⟨rfl, rfl⟩ := hvg1
        have he0 := flat_at (fun x : ByteArray × Int => [Value.string x.1, Value.int .i64 x.2]) 2 (fun _ => rfl) ys k 0 hlt2 (by decide)
        have he1 := flat_at (fun x : ByteArray × Int => [Value.string x.1, Value.int .i64 x.2]) 2 (fun _ => rfl) ys k 1 hlt2 (by decide)
        obtain ⟨f0, capf0, hvf0, hgf, hc1f, hc2f, e0⟩ := own_cell HC.out he0
        obtain ⟨f1, capf1, hvf1, _, _, _, e1⟩ := own_cell HC.out he1
        rw [hvf0] at hvf1
        simp only [Value.slice.injEq, Option.some.injEq, Addr.mk.injEq, and_true, true_and] at hvf0 hvf1
        obtain ⟨rfl, rfl⟩ := hvf0
        obtain ⟨rfl, rfl⟩ := hvf1
        have HNX := Lib.hid (fun (he : xs[k] = ys[k]) => take_eq_succ HTK.out hlt hlt2 he)
        have HNE := Lib.hid (fun (he : xs[k] ≠ ys[k]) => show bb = false by
          cases hbb : bb with
          | false => rfl
          | true => exact absurd (HB.out.1 hbb) (ne_at hlt hlt2 he))
        generalize xs[k] = y at *
        generalize ys[k] = z at *
        obtain ⟨ya, yb⟩ := y
        obtain ⟨za, zb⟩ := z
        change _ = some (Value.string ya) at d0
        change _ = some (Value.string za) at e0
        change _ = some (Value.int .i64 yb) at d1
        change _ = some (Value.int .i64 zb) at e1
        rw [Nat.add_zero] at d0 e0
        clear hd0 he0 hd1 he1
        by_cases m0 : ya = za
        · by_cases m1 : yb = zb
          · obtain ⟨rfl, rfl⟩ : ya = za ∧ yb = zb := ⟨m0, m1⟩
            clear m0 m1
            have p0 : (ya.toList == ya.toList) = true := by simp
            have p1 : (yb == yb) = true := by simp
            have HG := Lib.hid (HNX.out rfl)
            go_wp2_with fail
            go_quiet (fail)
            go_wp2_with fail
            go_roundw
            case rel => exact ⟨k + 1, by go_num, hlt, HG.out, HO.out.drewN _⟩
            case measure => simp [intOf]; omega
          · obtain rfl := HNE.out (fun h => m1 (by simpa using congrArg (fun u => u.2) h))
            have p0 : (ya.toList == za.toList) = true := by rw [m0]; simp
            have p1 : (yb == zb) = false := by simpa using m1
            clear m0 m1
            go_wp2_with fail
            go_quiet (fail)
            go_wp2_with fail
            go_ret
            exact ⟨rfl, HO.out.drewN _⟩
        · obtain rfl := HNE.out (fun h => m0 (by simpa using congrArg (fun u => u.1) h))
          have p0 : (ya.toList == za.toList) = false := by rw [Bool.eq_false_iff]; intro h; exact m0 (tlU_iff.1 h)
          clear m0
          go_wp2_with fail
          go_quiet (fail)
          go_wp2_with fail
          go_ret
          exact ⟨rfl, HO.out.drewN _⟩
      · obtain rfl : k = xs.length := by omega
        have j1 : ¬ (xs.length : Int) < xs.length := by omega
        obtain rfl : bb = true := HB.out.2 (by
          have := HTK.out
          rw [List.take_length] at this
          rw [this, HLN.out, List.take_length])
        go_wp2_with fail
        go_ret
        exact ⟨rfl, HO.out⟩
  · have q1 : ((xs.length : Int) != ys.length) = true := by
      rw [bne_iff_ne]
      omega
    obtain rfl : bb = false := by
      cases hbb : bb with
      | false => rfl
      | true => exact absurd (congrArg List.length (HB.out.1 hbb)) hl
    clear hl
    go_wp2_with fail
    go_ret
    exact ⟨rfl, Only.refl _ _⟩
set_option maxRecDepth 100000 in
set_option maxHeartbeats 4000000 in
theorem eqQ_any (b1 b2 : Nat) (a1 a2 : Option Addr) (c1 c2 : Nat) (xs ys : List (ByteArray × Int × Int)) (bb : Bool) (w : World) (h1 : w.ownsRow b1 75 3 (.slice a1 xs.length c1) xs.length (qrow xs)) (h2 : w.ownsRow b2 75 3 (.slice a2 ys.length c2) ys.length (qrow ys)) (hb : bb = true ↔ xs = ys) :
    Calls Tryz.prog 37 #[.slice a1 xs.length c1, .slice a2 ys.length c2] w fun e w' => e = .returned (.bool bb) ∧ Only (fun _ => False) w w' := by
  have H1 := Lib.hid h1
  have H2 := Lib.hid h2
  have HB := Lib.hid hb
  clear h1 h2 hb
  go_enter Tryz.func37, Tryz.ntmps37
  by_cases hl : xs.length = ys.length
  · have HLN := Lib.hid hl
    have q1 : ((xs.length : Int) != ys.length) = false := by rw [hl]; simp
    clear hl
    go_wp2_with fail
    go_loopw [13] (fun iv wr => ∃ k : Nat, iv = .int .i64 k ∧ k ≤ xs.length ∧ xs.take k = ys.take k ∧ Only (fun _ => False) w wr) (fun iv _ => xs.length - (intOf iv).toNat)
    case atStart => exact ⟨0, rfl, Nat.zero_le _, rfl, Only.refl _ _⟩
    case round =>
      obtain ⟨k, rfl, hk, htk, hO⟩ := hrel
      have HTK := Lib.hid htk
      have HO := Lib.hid hO
      have HA := Lib.hid (hO.owns H1.out (fun _ _ h => h))
      have HC := Lib.hid (hO.owns H2.out (fun _ _ h => h))
      clear htk hO
      by_cases hlt : k < xs.length
      · have j1 : (k : Int) < xs.length := by omega
        have j2 : 0 ≤ (k : Int) := by omega
        have hlt2 : k < ys.length := by rw [← HLN.out]; exact hlt
        have j3 : (k : Int) < ys.length := by omega
        have hd0 := flat_at (fun x : ByteArray × Int × Int => [Value.string x.1, Value.int .i64 x.2.1, Value.int .i64 x.2.2]) 3 (fun _ => rfl) xs k 0 hlt (by decide)
        have hd1 := flat_at (fun x : ByteArray × Int × Int => [Value.string x.1, Value.int .i64 x.2.1, Value.int .i64 x.2.2]) 3 (fun _ => rfl) xs k 1 hlt (by decide)
        have hd2 := flat_at (fun x : ByteArray × Int × Int => [Value.string x.1, Value.int .i64 x.2.1, Value.int .i64 x.2.2]) 3 (fun _ => rfl) xs k 2 hlt (by decide)
        obtain ⟨g0, capg0, hvg0, hgg, hc1g, hc2g, d0⟩ := own_cell HA.out hd0
        obtain ⟨g1, capg1, hvg1, _, _, _, d1⟩ := own_cell HA.out hd1
        obtain ⟨g2, capg2, hvg2, _, _, _, d2⟩ := own_cell HA.out hd2
        rw [hvg0] at hvg1
        rw [hvg0] at hvg2
        simp only [Value.slice.injEq, Option.some.injEq, Addr.mk.injEq, and_true, true_and] at hvg0 hvg1 hvg2
        obtain ⟨rfl, rfl⟩ := hvg0
        obtain ⟨rfl, rfl⟩ := hvg1
        obtain ⟨rfl, rfl⟩ := hvg2
        have he0 := flat_at (fun x : ByteArray × Int × Int => [Value.string x.1, Value.int .i64 x.2.1, Value.int .i64 x.2.2]) 3 (fun _ => rfl) ys k 0 hlt2 (by decide)
        have he1 := flat_at (fun x : ByteArray × Int × Int => [Value.string x.1, Value.int .i64 x.2.1, Value.int .i64 x.2.2]) 3 (fun _ => rfl) ys k 1 hlt2 (by decide)
        have he2 := flat_at (fun x : ByteArray × Int × Int => [Value.string x.1, Value.int .i64 x.2.1, Value.int .i64 x.2.2]) 3 (fun _ => rfl) ys k 2 hlt2 (by decide)
        obtain ⟨f0, capf0, hvf0, hgf, hc1f, hc2f, e0⟩ := own_cell HC.out he0
        obtain ⟨f1, capf1, hvf1, _, _, _, e1⟩ := own_cell HC.out he1
        obtain ⟨f2, capf2, hvf2, _, _, _, e2⟩ := own_cell HC.out he2
        rw [hvf0] at hvf1
        rw [hvf0] at hvf2
        simp only [Value.slice.injEq, Option.some.injEq, Addr.mk.injEq, and_true, true_and] at hvf0 hvf1 hvf2
        obtain ⟨rfl, rfl⟩ := hvf0
        obtain ⟨rfl, rfl⟩ := hvf1
        obtain ⟨rfl, rfl⟩ := hvf2
        have HNX := Lib.hid (fun (he : xs[k] = ys[k]) => take_eq_succ HTK.out hlt hlt2 he)
        have HNE := Lib.hid (fun (he : xs[k] ≠ ys[k]) => show bb = false by
          cases hbb : bb with
          | false => rfl
          | true => exact absurd (HB.out.1 hbb) (ne_at hlt hlt2 he))
        generalize xs[k] = y at *
        generalize ys[k] = z at *
        obtain ⟨ya, yb, yc⟩ := y
        obtain ⟨za, zb, zc⟩ := z
        change _ = some (Value.string ya) at d0
        change _ = some (Value.string za) at e0
        change _ = some (Value.int .i64 yb) at d1
        change _ = some (Value.int .i64 zb) at e1
        change _ = some (Value.int .i64 yc) at d2
        change _ = some (Value.int .i64 zc) at e2
        rw [Nat.add_zero] at d0 e0
        clear hd0 he0 hd1 he1 hd2 he2
        by_cases m0 : ya = za
        · by_cases m1 : yb = zb
          · by_cases m2 : yc = zc
            · obtain ⟨rfl, rfl, rfl⟩ : ya = za ∧ yb = zb ∧ yc = zc := ⟨m0, m1, m2⟩
              clear m0 m1 m2
              have p0 : (ya.toList == ya.toList) = true := by simp
              have p1 : (yb == yb) = true := by simp
              have p2 : (yc == yc) = true := by simp
              have HG := Lib.hid (HNX.out rfl)
              go_wp2_with fail
              go_quiet (fail)
              go_wp2_with fail
              go_roundw
              case rel => exact ⟨k + 1, by go_num, hlt, HG.out, HO.out.drewN _⟩
              case measure => simp [intOf]; omega
            · obtain rfl := HNE.out (fun h => m2 (by simpa using congrArg (fun u => u.2.2) h))
              have p0 : (ya.toList == za.toList) = true := by rw [m0]; simp
              have p1 : (yb == zb) = true := by rw [m1]; simp
              have p2 : (yc == zc) = false := by simpa using m2
              clear m0 m1 m2
              go_wp2_with fail
              go_quiet (fail)
              go_wp2_with fail
              go_ret
              exact ⟨rfl, HO.out.drewN _⟩
          · obtain rfl := HNE.out (fun h => m1 (by simpa using congrArg (fun u => u.2.1) h))
            have p0 : (ya.toList == za.toList) = true := by rw [m0]; simp
            have p1 : (yb == zb) = false := by simpa using m1
            clear m0 m1
            go_wp2_with fail
            go_quiet (fail)
            go_wp2_with fail
            go_ret
            exact ⟨rfl, HO.out.drewN _⟩
        · obtain rfl := HNE.out (fun h => m0 (by simpa using congrArg (fun u => u.1) h))
          have p0 : (ya.toList == za.toList) = false := by rw [Bool.eq_false_iff]; intro h; exact m0 (tlU_iff.1 h)
          clear m0
          go_wp2_with fail
          go_quiet (fail)
          go_wp2_with fail
          go_ret
          exact ⟨rfl, HO.out.drewN _⟩
      · obtain rfl : k = xs.length := by omega
        have j1 : ¬ (xs.length : Int) < xs.length := by omega
        obtain rfl : bb = true := HB.out.2 (by
          have := HTK.out
          rw [List.take_length] at this
          rw [this, HLN.out, List.take_length])
        go_wp2_with fail
        go_ret
        exact ⟨rfl, HO.out⟩
  · have q1 : ((xs.length : Int) != ys.length) = true := by
      rw [bne_iff_ne]
      omega
    obtain rfl : bb = false := by
      cases hbb : bb with
      | false => rfl
      | true => exact absurd (congrArg List.length (HB.out.1 hbb)) hl
    clear hl
    go_wp2_with fail
    go_ret
    exact ⟨rfl, Only.refl _ _⟩
end Go.Proofs.YteikkpiginfbkaaGreatDoor

namespace Go.Proofs.YteikkpiginfbkaaGreatDoor
open Go.RowKit

theorem eqI_any (b1 b2 : Nat) (a1 a2 : Option Addr) (c1 c2 : Nat) (xs ys : List Int) (bb : Bool) (w : World) (h1 : w.ownsRow b1 3 1 (.slice a1 xs.length c1) xs.length (irow xs)) (h2 : w.ownsRow b2 3 1 (.slice a2 ys.length c2) ys.length (irow ys)) (hl1 : xs.length ≤ 1000000) (hb : bb = true ↔ xs = ys) :
    Calls Tryz.prog 38 #[.slice a1 xs.length c1, .slice a2 ys.length c2] w fun e w' => e = .returned (.bool bb) ∧ Only (fun _ => False) w w' := by
  by_cases hl : xs.length = ys.length
  · by_cases h0 : xs.length = 0
    · rw [h0]
      refine (Tryz.slices_Equal_int_empty a1 a2 c1 ys.length c2 w (by omega)).mono ?_
      rintro e w' ⟨rfl, rfl⟩
      have e1 : xs = [] := List.length_eq_zero_iff.1 h0
      have e2 : ys = [] := List.length_eq_zero_iff.1 (by omega)
      have : bb = true := hb.2 (by rw [e1, e2])
      rw [this, show decide (ys.length = 0) = true by simp [e2]]
      exact ⟨rfl, Only.refl _ _⟩
    · have hu : ∀ (l : List Int) j, j < l.length → (irow l)[j]? = some (.int .i64 (l.getD j 0)) := fun l j hj => by unfold irow; simp [List.getD, hj]
      obtain ⟨g, cap, hv, _⟩ := own_cell h1 (hu xs 0 (by omega))
      obtain ⟨f, cap2, hv2, _⟩ := own_cell h2 (hu ys 0 (by omega))
      simp only [Value.slice.injEq, true_and] at hv hv2
      obtain ⟨rfl, rfl⟩ := hv
      obtain ⟨rfl, rfl⟩ := hv2
      refine (Tryz.slices_Equal_int g 0 xs.length c1 f 0 ys.length c2 xs ys w (Nat.le_refl _) (Nat.le_refl _) (by omega) (by omega) (fun j hj => ?_) (fun j hj => ?_)).mono ?_
      · obtain ⟨g', cap', hv', _, _, _, hcell⟩ := own_cell h1 (hu xs j hj)
        simp only [Value.slice.injEq, Option.some.injEq, Addr.mk.injEq, and_true, true_and] at hv'
        obtain ⟨rfl, rfl⟩ := hv'
        rw [Nat.zero_add]; exact hcell
      · obtain ⟨g', cap', hv', _, _, _, hcell⟩ := own_cell h2 (hu ys j hj)
        simp only [Value.slice.injEq, Option.some.injEq, Addr.mk.injEq, and_true, true_and] at hv'
        obtain ⟨rfl, rfl⟩ := hv'
        rw [Nat.zero_add]; exact hcell
      rintro e w' ⟨rfl, q, rfl⟩
      refine ⟨?_, (Only.refl _ w).drewN q⟩
      congr 2
      rw [List.take_length, List.take_length, Bool.eq_iff_iff, beq_iff_eq]
      exact hb.symm
  · refine (Tryz.slices_Equal_int_lens a1 a2 xs.length c1 ys.length c2 w hl).mono ?_
    rintro e w' ⟨rfl, rfl⟩
    obtain rfl : bb = false := by
      cases hbb : bb with
      | false => rfl
      | true => exact absurd (congrArg List.length (hb.1 hbb)) hl
    exact ⟨rfl, Only.refl _ _⟩
theorem dr_ext {a b : Dr} (h0 : a.name = b.name) (h1 : a.kind = b.kind) (h2 : a.round = b.round) (h3 : a.price = b.price) (h4 : a.pool = b.pool) (h5 : a.pick = b.pick) (h6 : a.tiers = b.tiers) (h7 : a.roll = b.roll) (h8 : a.places = b.places) (h9 : a.cls = b.cls) (h10 : a.size = b.size) (h11 : a.quotas = b.quotas) (h12 : a.barred = b.barred) : a = b := by
  cases a; cases b; simp only at *; subst h0 h1 h2 h3 h4 h5 h6 h7 h8 h9 h10 h11 h12; rfl
/-- Lists of a draw that are not too long. -/
def DrB (d : Dr) : Prop := d.tiers.length ≤ 1000000 ∧ d.places.length ≤ 1000000 ∧ d.quotas.length ≤ 1000000 ∧ d.barred.length ≤ 1000000
set_option maxRecDepth 100000 in
set_option maxHeartbeats 100000000 in
theorem equal_any (a b : Dr) (vt vp vq vb ut up uq ub : Value) (bb : Bool) (base1 base2 : Nat) (w : World) (ha : DrOwn base1 w a vt vp vq vb) (hb : DrOwn base2 w b ut up uq ub) (hba : DrB a) (hbb : DrB b) (he : bb = true ↔ a = b) :
    Calls Tryz.prog 15 #[.agg (drCells a vt vp vq vb), .agg (drCells b ut up uq ub)] w fun e w' => e = .returned (.bool bb) ∧ Only (fun _ => False) w w' := by
  obtain ⟨at1, ct, rfl⟩ := slice_of_own ha.tiers
  obtain ⟨ap1, cp, rfl⟩ := slice_of_own ha.places
  obtain ⟨aq1, cq, rfl⟩ := slice_of_own ha.quotas
  obtain ⟨ab1, cb, rfl⟩ := slice_of_own ha.bars
  obtain ⟨bt1, dt, rfl⟩ := slice_of_own hb.tiers
  obtain ⟨bp1, dp, rfl⟩ := slice_of_own hb.places
  obtain ⟨bq1, dq, rfl⟩ := slice_of_own hb.quotas
  obtain ⟨bb1, db, rfl⟩ := slice_of_own hb.bars
  have HA := Lib.hid ha
  have HB := Lib.hid hb
  have HE := Lib.hid he
  have HBA := Lib.hid hba
  have HBB := Lib.hid hbb
  have HY1 := Lib.hid (heap_alloc_last w (.cells (drCells a (.slice at1 a.tiers.length ct) (.slice ap1 a.places.length cp) (.slice aq1 a.quotas.length cq) (.slice ab1 a.barred.length cb)) 33))
  have HY2 := Lib.hid (heap_alloc_last (w.alloc (.cells (drCells a (.slice at1 a.tiers.length ct) (.slice ap1 a.places.length cp) (.slice aq1 a.quotas.length cq) (.slice ab1 a.barred.length cb)) 33)) (.cells (drCells b (.slice bt1 b.tiers.length dt) (.slice bp1 b.places.length dp) (.slice bq1 b.quotas.length dq) (.slice bb1 b.barred.length db)) 33))
  have HO2 := Lib.hid ((Only.refl (fun _ => False) (w.alloc (.cells (drCells a (.slice at1 a.tiers.length ct) (.slice ap1 a.places.length cp) (.slice aq1 a.quotas.length cq) (.slice ab1 a.barred.length cb)) 33))).alloc (.cells (drCells b (.slice bt1 b.tiers.length dt) (.slice bp1 b.places.length dp) (.slice bq1 b.quotas.length dq) (.slice bb1 b.barred.length db)) 33))
  have HO := Lib.hid (((Only.refl (fun _ => False) w).alloc (.cells (drCells a (.slice at1 a.tiers.length ct) (.slice ap1 a.places.length cp) (.slice aq1 a.quotas.length cq) (.slice ab1 a.barred.length cb)) 33)).alloc (.cells (drCells b (.slice bt1 b.tiers.length dt) (.slice bp1 b.places.length dp) (.slice bq1 b.quotas.length dq) (.slice bb1 b.barred.length db)) 33))
  have HZ1 := Lib.hid (row_still HO2.out HY1.out)
  have HZ2 := HY2
  rw [World.size_alloc] at HZ2
  clear ha hb he hba hbb HY1 HY2 HO2
  unfold drCells at *
  go_enter Tryz.func15, Tryz.ntmps15
  go_upto_region 1 with (fail)
  generalize World.alloc (World.alloc w _) _ = w1 at *
  have c0 : w1.cell? ⟨w.heap.size, 0, none⟩ = some (Value.string a.name) := cell_of_row _ _ 0 _ _ _ HZ1.out
  have e0 : w1.cell? ⟨w.heap.size + 1, 0, none⟩ = some (Value.string b.name) := cell_of_row _ _ 0 _ _ _ HZ2.out
  have c1 : w1.cell? ⟨w.heap.size, 1, none⟩ = some (Value.int .i64 a.kind) := cell_of_row _ _ 1 _ _ _ HZ1.out
  have e1 : w1.cell? ⟨w.heap.size + 1, 1, none⟩ = some (Value.int .i64 b.kind) := cell_of_row _ _ 1 _ _ _ HZ2.out
  have c2 : w1.cell? ⟨w.heap.size, 2, none⟩ = some (Value.int .i64 a.round) := cell_of_row _ _ 2 _ _ _ HZ1.out
  have e2 : w1.cell? ⟨w.heap.size + 1, 2, none⟩ = some (Value.int .i64 b.round) := cell_of_row _ _ 2 _ _ _ HZ2.out
  have c3 : w1.cell? ⟨w.heap.size, 3, none⟩ = some (Value.int .i64 a.price) := cell_of_row _ _ 3 _ _ _ HZ1.out
  have e3 : w1.cell? ⟨w.heap.size + 1, 3, none⟩ = some (Value.int .i64 b.price) := cell_of_row _ _ 3 _ _ _ HZ2.out
  have c4 : w1.cell? ⟨w.heap.size, 4, none⟩ = some (Value.int .i64 a.pool) := cell_of_row _ _ 4 _ _ _ HZ1.out
  have e4 : w1.cell? ⟨w.heap.size + 1, 4, none⟩ = some (Value.int .i64 b.pool) := cell_of_row _ _ 4 _ _ _ HZ2.out
  have c5 : w1.cell? ⟨w.heap.size, 5, none⟩ = some (Value.int .i64 a.pick) := cell_of_row _ _ 5 _ _ _ HZ1.out
  have e5 : w1.cell? ⟨w.heap.size + 1, 5, none⟩ = some (Value.int .i64 b.pick) := cell_of_row _ _ 5 _ _ _ HZ2.out
  have c6 : w1.cell? ⟨w.heap.size, 6, none⟩ = some (Value.slice at1 a.tiers.length ct) := cell_of_row _ _ 6 _ _ _ HZ1.out
  have e6 : w1.cell? ⟨w.heap.size + 1, 6, none⟩ = some (Value.slice bt1 b.tiers.length dt) := cell_of_row _ _ 6 _ _ _ HZ2.out
  have c7 : w1.cell? ⟨w.heap.size, 7, none⟩ = some (Value.bool a.roll) := cell_of_row _ _ 7 _ _ _ HZ1.out
  have e7 : w1.cell? ⟨w.heap.size + 1, 7, none⟩ = some (Value.bool b.roll) := cell_of_row _ _ 7 _ _ _ HZ2.out
  have c8 : w1.cell? ⟨w.heap.size, 8, none⟩ = some (Value.slice ap1 a.places.length cp) := cell_of_row _ _ 8 _ _ _ HZ1.out
  have e8 : w1.cell? ⟨w.heap.size + 1, 8, none⟩ = some (Value.slice bp1 b.places.length dp) := cell_of_row _ _ 8 _ _ _ HZ2.out
  have c9 : w1.cell? ⟨w.heap.size, 9, none⟩ = some (Value.int .i64 a.cls) := cell_of_row _ _ 9 _ _ _ HZ1.out
  have e9 : w1.cell? ⟨w.heap.size + 1, 9, none⟩ = some (Value.int .i64 b.cls) := cell_of_row _ _ 9 _ _ _ HZ2.out
  have c10 : w1.cell? ⟨w.heap.size, 10, none⟩ = some (Value.int .i64 a.size) := cell_of_row _ _ 10 _ _ _ HZ1.out
  have e10 : w1.cell? ⟨w.heap.size + 1, 10, none⟩ = some (Value.int .i64 b.size) := cell_of_row _ _ 10 _ _ _ HZ2.out
  have c11 : w1.cell? ⟨w.heap.size, 11, none⟩ = some (Value.slice aq1 a.quotas.length cq) := cell_of_row _ _ 11 _ _ _ HZ1.out
  have e11 : w1.cell? ⟨w.heap.size + 1, 11, none⟩ = some (Value.slice bq1 b.quotas.length dq) := cell_of_row _ _ 11 _ _ _ HZ2.out
  have c12 : w1.cell? ⟨w.heap.size, 12, none⟩ = some (Value.slice ab1 a.barred.length cb) := cell_of_row _ _ 12 _ _ _ HZ1.out
  have e12 : w1.cell? ⟨w.heap.size + 1, 12, none⟩ = some (Value.slice bb1 b.barred.length db) := cell_of_row _ _ 12 _ _ _ HZ2.out
  by_cases m0 : a.name = b.name
  · by_cases m1 : a.kind = b.kind
    · by_cases m2 : a.round = b.round
      · by_cases m3 : a.price = b.price
        · by_cases m4 : a.pool = b.pool
          · by_cases m5 : a.pick = b.pick
            · obtain ⟨r6, hr6⟩ : ∃ r : Bool, r = true ↔ a.tiers = b.tiers := by
                by_cases h : a.tiers = b.tiers
                · exact ⟨true, by simp [h]⟩
                · exact ⟨false, by simp [h]⟩
              have p0 : (a.name.toList == b.name.toList) = true := by rw [m0]; simp
              have p1 : (a.kind == b.kind) = true := by rw [m1]; simp
              have p2 : (a.round == b.round) = true := by rw [m2]; simp
              have p3 : (a.price == b.price) = true := by rw [m3]; simp
              have p4 : (a.pool == b.pool) = true := by rw [m4]; simp
              have p5 : (a.pick == b.pick) = true := by rw [m5]; simp
              have HM6 := Lib.hid hr6
              have HMS := Lib.hid (show True from trivial)
              have HH0 := Lib.hid m0
              clear m0
              have HH1 := Lib.hid m1
              clear m1
              have HH2 := Lib.hid m2
              clear m2
              have HH3 := Lib.hid m3
              clear m3
              have HH4 := Lib.hid m4
              clear m4
              have HH5 := Lib.hid m5
              clear m5
              clear hr6 HMS
              go_wp2_with fail
              refine (eqT_any _ _ _ _ _ _ a.tiers b.tiers r6 _ (HA.out.only HO.out (fun _ _ h => h)).tiers (HB.out.only HO.out (fun _ _ h => h)).tiers HM6.out).mono ?_
              rintro e w1n ⟨rfl, hOn⟩
              have HO := Lib.hid (HO.out.trans hOn)
              have HZ1 := Lib.hid (row_still hOn HZ1.out)
              have HZ2 := Lib.hid (row_still hOn HZ2.out)
              clear hOn c0 e0 c1 e1 c2 e2 c3 e3 c4 e4 c5 e5 c6 e6 c7 e7 c8 e8 c9 e9 c10 e10 c11 e11 c12 e12 p0 p1 p2 p3 p4 p5
              cases r6
              · have m6 : ¬ a.tiers = b.tiers := fun h => by have := HM6.out.2 h; cases this
                obtain rfl : bb = false := by
                  cases hbb : bb with
                  | false => rfl
                  | true => exact absurd (by rw [HE.out.1 hbb]) m6
                go_wp2_with fail
                go_ret
                exact ⟨rfl, HO.out⟩
              · have c7 : w1n.cell? ⟨w.heap.size, 7, none⟩ = some (Value.bool a.roll) := cell_of_row _ _ 7 _ _ _ HZ1.out
                have e7 : w1n.cell? ⟨w.heap.size + 1, 7, none⟩ = some (Value.bool b.roll) := cell_of_row _ _ 7 _ _ _ HZ2.out
                have c8 : w1n.cell? ⟨w.heap.size, 8, none⟩ = some (Value.slice ap1 a.places.length cp) := cell_of_row _ _ 8 _ _ _ HZ1.out
                have e8 : w1n.cell? ⟨w.heap.size + 1, 8, none⟩ = some (Value.slice bp1 b.places.length dp) := cell_of_row _ _ 8 _ _ _ HZ2.out
                have c9 : w1n.cell? ⟨w.heap.size, 9, none⟩ = some (Value.int .i64 a.cls) := cell_of_row _ _ 9 _ _ _ HZ1.out
                have e9 : w1n.cell? ⟨w.heap.size + 1, 9, none⟩ = some (Value.int .i64 b.cls) := cell_of_row _ _ 9 _ _ _ HZ2.out
                have c10 : w1n.cell? ⟨w.heap.size, 10, none⟩ = some (Value.int .i64 a.size) := cell_of_row _ _ 10 _ _ _ HZ1.out
                have e10 : w1n.cell? ⟨w.heap.size + 1, 10, none⟩ = some (Value.int .i64 b.size) := cell_of_row _ _ 10 _ _ _ HZ2.out
                have c11 : w1n.cell? ⟨w.heap.size, 11, none⟩ = some (Value.slice aq1 a.quotas.length cq) := cell_of_row _ _ 11 _ _ _ HZ1.out
                have e11 : w1n.cell? ⟨w.heap.size + 1, 11, none⟩ = some (Value.slice bq1 b.quotas.length dq) := cell_of_row _ _ 11 _ _ _ HZ2.out
                have c12 : w1n.cell? ⟨w.heap.size, 12, none⟩ = some (Value.slice ab1 a.barred.length cb) := cell_of_row _ _ 12 _ _ _ HZ1.out
                have e12 : w1n.cell? ⟨w.heap.size + 1, 12, none⟩ = some (Value.slice bb1 b.barred.length db) := cell_of_row _ _ 12 _ _ _ HZ2.out
                have HH6 := Lib.hid (HM6.out.1 rfl)
                clear HM6
                by_cases m7 : a.roll = b.roll
                · obtain ⟨r8, hr8⟩ : ∃ r : Bool, r = true ↔ a.places = b.places := by
                    by_cases h : a.places = b.places
                    · exact ⟨true, by simp [h]⟩
                    · exact ⟨false, by simp [h]⟩
                  have p7 : (a.roll == b.roll) = true := by rw [m7]; simp
                  have HM8 := Lib.hid hr8
                  have HMS := Lib.hid (show True from trivial)
                  have HH7 := Lib.hid m7
                  clear m7
                  clear hr8 HMS
                  go_wp2_with fail
                  refine (eqP_any _ _ _ _ _ _ a.places b.places r8 _ (HA.out.only HO.out (fun _ _ h => h)).places (HB.out.only HO.out (fun _ _ h => h)).places HM8.out).mono ?_
                  rintro e w1nn ⟨rfl, hOn⟩
                  have HO := Lib.hid (HO.out.trans hOn)
                  have HZ1 := Lib.hid (row_still hOn HZ1.out)
                  have HZ2 := Lib.hid (row_still hOn HZ2.out)
                  clear hOn c7 e7 c8 e8 c9 e9 c10 e10 c11 e11 c12 e12 p7
                  cases r8
                  · have m8 : ¬ a.places = b.places := fun h => by have := HM8.out.2 h; cases this
                    obtain rfl : bb = false := by
                      cases hbb : bb with
                      | false => rfl
                      | true => exact absurd (by rw [HE.out.1 hbb]) m8
                    go_wp2_with fail
                    go_ret
                    exact ⟨rfl, HO.out⟩
                  · have c9 : w1nn.cell? ⟨w.heap.size, 9, none⟩ = some (Value.int .i64 a.cls) := cell_of_row _ _ 9 _ _ _ HZ1.out
                    have e9 : w1nn.cell? ⟨w.heap.size + 1, 9, none⟩ = some (Value.int .i64 b.cls) := cell_of_row _ _ 9 _ _ _ HZ2.out
                    have c10 : w1nn.cell? ⟨w.heap.size, 10, none⟩ = some (Value.int .i64 a.size) := cell_of_row _ _ 10 _ _ _ HZ1.out
                    have e10 : w1nn.cell? ⟨w.heap.size + 1, 10, none⟩ = some (Value.int .i64 b.size) := cell_of_row _ _ 10 _ _ _ HZ2.out
                    have c11 : w1nn.cell? ⟨w.heap.size, 11, none⟩ = some (Value.slice aq1 a.quotas.length cq) := cell_of_row _ _ 11 _ _ _ HZ1.out
                    have e11 : w1nn.cell? ⟨w.heap.size + 1, 11, none⟩ = some (Value.slice bq1 b.quotas.length dq) := cell_of_row _ _ 11 _ _ _ HZ2.out
                    have c12 : w1nn.cell? ⟨w.heap.size, 12, none⟩ = some (Value.slice ab1 a.barred.length cb) := cell_of_row _ _ 12 _ _ _ HZ1.out
                    have e12 : w1nn.cell? ⟨w.heap.size + 1, 12, none⟩ = some (Value.slice bb1 b.barred.length db) := cell_of_row _ _ 12 _ _ _ HZ2.out
                    have HH8 := Lib.hid (HM8.out.1 rfl)
                    clear HM8
                    by_cases m9 : a.cls = b.cls
                    · by_cases m10 : a.size = b.size
                      · obtain ⟨r11, hr11⟩ : ∃ r : Bool, r = true ↔ a.quotas = b.quotas := by
                          by_cases h : a.quotas = b.quotas
                          · exact ⟨true, by simp [h]⟩
                          · exact ⟨false, by simp [h]⟩
                        have p9 : (a.cls == b.cls) = true := by rw [m9]; simp
                        have p10 : (a.size == b.size) = true := by rw [m10]; simp
                        have HM11 := Lib.hid hr11
                        have HMS := Lib.hid (show True from trivial)
                        have HH9 := Lib.hid m9
                        clear m9
                        have HH10 := Lib.hid m10
                        clear m10
                        clear hr11 HMS
                        go_wp2_with fail
                        refine (eqQ_any _ _ _ _ _ _ a.quotas b.quotas r11 _ (HA.out.only HO.out (fun _ _ h => h)).quotas (HB.out.only HO.out (fun _ _ h => h)).quotas HM11.out).mono ?_
                        rintro e w1nnn ⟨rfl, hOn⟩
                        have HO := Lib.hid (HO.out.trans hOn)
                        have HZ1 := Lib.hid (row_still hOn HZ1.out)
                        have HZ2 := Lib.hid (row_still hOn HZ2.out)
                        clear hOn c9 e9 c10 e10 c11 e11 c12 e12 p9 p10
                        cases r11
                        · have m11 : ¬ a.quotas = b.quotas := fun h => by have := HM11.out.2 h; cases this
                          obtain rfl : bb = false := by
                            cases hbb : bb with
                            | false => rfl
                            | true => exact absurd (by rw [HE.out.1 hbb]) m11
                          go_wp2_with fail
                          go_ret
                          exact ⟨rfl, HO.out⟩
                        · have c12 : w1nnn.cell? ⟨w.heap.size, 12, none⟩ = some (Value.slice ab1 a.barred.length cb) := cell_of_row _ _ 12 _ _ _ HZ1.out
                          have e12 : w1nnn.cell? ⟨w.heap.size + 1, 12, none⟩ = some (Value.slice bb1 b.barred.length db) := cell_of_row _ _ 12 _ _ _ HZ2.out
                          have HH11 := Lib.hid (HM11.out.1 rfl)
                          clear HM11
                          obtain ⟨r12, hr12⟩ : ∃ r : Bool, r = true ↔ a.barred = b.barred := by
                            by_cases h : a.barred = b.barred
                            · exact ⟨true, by simp [h]⟩
                            · exact ⟨false, by simp [h]⟩
                          have HM12 := Lib.hid hr12
                          have HMS := Lib.hid (show True from trivial)
                          clear hr12 HMS
                          go_wp2_with fail
                          refine (eqI_any _ _ _ _ _ _ a.barred b.barred r12 _ (HA.out.only HO.out (fun _ _ h => h)).bars (HB.out.only HO.out (fun _ _ h => h)).bars HBA.out.2.2.2 HM12.out).mono ?_
                          rintro e w1nnnn ⟨rfl, hOn⟩
                          have HO := Lib.hid (HO.out.trans hOn)
                          have HZ1 := Lib.hid (row_still hOn HZ1.out)
                          have HZ2 := Lib.hid (row_still hOn HZ2.out)
                          clear hOn c12 e12 
                          cases r12
                          · have m12 : ¬ a.barred = b.barred := fun h => by have := HM12.out.2 h; cases this
                            obtain rfl : bb = false := by
                              cases hbb : bb with
                              | false => rfl
                              | true => exact absurd (by rw [HE.out.1 hbb]) m12
                            go_wp2_with fail
                            go_ret
                            exact ⟨rfl, HO.out⟩
                          · have HH12 := Lib.hid (HM12.out.1 rfl)
                            clear HM12
                            obtain rfl : bb = true := HE.out.2 (dr_ext HH0.out HH1.out HH2.out HH3.out HH4.out HH5.out HH6.out HH7.out HH8.out HH9.out HH10.out HH11.out HH12.out)
                            go_wp2_with fail
                            go_ret
                            exact ⟨rfl, HO.out⟩
                      · obtain rfl : bb = false := by
                          cases hbb : bb with
                          | false => rfl
                          | true => exact absurd (by rw [HE.out.1 hbb]) m10
                        have p9 : (a.cls == b.cls) = true := by rw [m9]; simp
                        have p10 : (a.size == b.size) = false := by simpa using m10
                        clear m9 m10
                        go_wp2_with fail
                        go_ret
                        exact ⟨rfl, HO.out⟩
                    · obtain rfl : bb = false := by
                        cases hbb : bb with
                        | false => rfl
                        | true => exact absurd (by rw [HE.out.1 hbb]) m9
                      have p9 : (a.cls == b.cls) = false := by simpa using m9
                      clear m9
                      go_wp2_with fail
                      go_ret
                      exact ⟨rfl, HO.out⟩
                · obtain rfl : bb = false := by
                    cases hbb : bb with
                    | false => rfl
                    | true => exact absurd (by rw [HE.out.1 hbb]) m7
                  have p7 : (a.roll == b.roll) = false := by simpa using m7
                  clear m7
                  go_wp2_with fail
                  go_ret
                  exact ⟨rfl, HO.out⟩
            · obtain rfl : bb = false := by
                cases hbb : bb with
                | false => rfl
                | true => exact absurd (by rw [HE.out.1 hbb]) m5
              have p0 : (a.name.toList == b.name.toList) = true := by rw [m0]; simp
              have p1 : (a.kind == b.kind) = true := by rw [m1]; simp
              have p2 : (a.round == b.round) = true := by rw [m2]; simp
              have p3 : (a.price == b.price) = true := by rw [m3]; simp
              have p4 : (a.pool == b.pool) = true := by rw [m4]; simp
              have p5 : (a.pick == b.pick) = false := by simpa using m5
              clear m0 m1 m2 m3 m4 m5
              go_wp2_with fail
              go_ret
              exact ⟨rfl, HO.out⟩
          · obtain rfl : bb = false := by
              cases hbb : bb with
              | false => rfl
              | true => exact absurd (by rw [HE.out.1 hbb]) m4
            have p0 : (a.name.toList == b.name.toList) = true := by rw [m0]; simp
            have p1 : (a.kind == b.kind) = true := by rw [m1]; simp
            have p2 : (a.round == b.round) = true := by rw [m2]; simp
            have p3 : (a.price == b.price) = true := by rw [m3]; simp
            have p4 : (a.pool == b.pool) = false := by simpa using m4
            clear m0 m1 m2 m3 m4
            go_wp2_with fail
            go_ret
            exact ⟨rfl, HO.out⟩
        · obtain rfl : bb = false := by
            cases hbb : bb with
            | false => rfl
            | true => exact absurd (by rw [HE.out.1 hbb]) m3
          have p0 : (a.name.toList == b.name.toList) = true := by rw [m0]; simp
          have p1 : (a.kind == b.kind) = true := by rw [m1]; simp
          have p2 : (a.round == b.round) = true := by rw [m2]; simp
          have p3 : (a.price == b.price) = false := by simpa using m3
          clear m0 m1 m2 m3
          go_wp2_with fail
          go_ret
          exact ⟨rfl, HO.out⟩
      · obtain rfl : bb = false := by
          cases hbb : bb with
          | false => rfl
          | true => exact absurd (by rw [HE.out.1 hbb]) m2
        have p0 : (a.name.toList == b.name.toList) = true := by rw [m0]; simp
        have p1 : (a.kind == b.kind) = true := by rw [m1]; simp
        have p2 : (a.round == b.round) = false := by simpa using m2
        clear m0 m1 m2
        go_wp2_with fail
        go_ret
        exact ⟨rfl, HO.out⟩
    · obtain rfl : bb = false := by
        cases hbb : bb with
        | false => rfl
        | true => exact absurd (by rw [HE.out.1 hbb]) m1
      have p0 : (a.name.toList == b.name.toList) = true := by rw [m0]; simp
      have p1 : (a.kind == b.kind) = false := by simpa using m1
      clear m0 m1
      go_wp2_with fail
      go_ret
      exact ⟨rfl, HO.out⟩
  · obtain rfl : bb = false := by
      cases hbb : bb with
      | false => rfl
      | true => exact absurd (by rw [HE.out.1 hbb]) m0
    have p0 : (a.name.toList == b.name.toList) = false := by rw [Bool.eq_false_iff]; intro h; exact m0 (tlU_iff.1 h)
    clear m0
    go_wp2_with fail
    go_ret
    exact ⟨rfl, HO.out⟩
end Go.Proofs.YteikkpiginfbkaaGreatDoor
