/-
  Rules, plain: the lines of a draw as the program joins them.
  Rules: the program's Print.
  Rules, the reference: numeral, amount, IsName, words.
  Rules, the reference: words.
  Rules, plain: the reference's shapes of lines, and what may follow.
  Rules, the reference: shape, kind, follows.
  Rules, the reference: what it holds in memory; follows.
  Rules, the reference: take.
  Rules, plain: the reference's line and the program's are one.
  Rules, the reference: line.
  Rules, the reference: Parse.
  Rules: slices.Equal over tiers, places, quotas.
  Rules: the program's Equal.
  Rules, the reference: Ints, Equal.
  Rules: an entrant; the reference's Strings and SameEntrant; the program's rightEntrant.
  Rules: the program's rightEntrant and PrintEntrant.
  Rules: the program's PrintEntrant.
  Rules: the closures of the program's ParseEntrant: next, amount, names.
  Rules, the reference: decimal.
  Rules, the reference: write (whatever draw it gets).
  Rules, the reference: Print; the laws' same.
  Rules: the laws' same and fails.
  Rules: names and numbers of a plan.
  Rules, plain: the draw of a plan.
  Rules: the walk of Plan.Make. (Under way.)
  Rules, plain: texts with many special lines and many barred numbers.
-/
import Derived.Test.YteikkpiginfbkaaGreatDoorPf17
import Derived.Test.YteikkpiginfbkaaGreatDoorPf18
import Derived.Test.YteikkpiginfbkaaGreatDoorPf15
namespace Go.Proofs.YteikkpiginfbkaaGreatDoor
open Go.RowKit

def lineB (ws : List ByteArray) : ByteArray := ⟨(lineW ws).toArray⟩
theorem joinC_flat {c : UInt8} : ∀ {r : List (List UInt8)}, Lib.joinTail [c] r ++ [c] = c :: r.flatMap (· ++ [c])
  | [] => rfl
  | x :: r => by
    rw [joinT_cons, List.cons_append, List.append_assoc, joinC_flat, List.flatMap_cons]
    simp
theorem join_lines {ls : List (List ByteArray)} (h : ls ≠ []) : Lib.join ((ls.map lineB).map (·.data.toList)) [10] ++ [10] = flatL ls := by
  cases ls with
  | nil => exact absurd rfl h
  | cons a r =>
    rw [List.map_cons, List.map_cons, Lib.join_cons, List.append_assoc, joinC_flat, flatL_cons]
    congr 2
    unfold flatL
    rw [List.map_map, List.flatMap_map]
    rfl
theorem itoa_dec {n : Int} (h : rgB n = true) : (⟨(Lib.itoa n).toArray⟩ : ByteArray) = decW n := by
  unfold decW decB
  rw [itoa_digs (rg_le h).1]
theorem rg_R64 {n : Int} (h : rgB n = true) : R64 n := by have := rg_le h; unfold R64; omega
theorem ba_ext {a b : ByteArray} (h : a.data.toList = b.data.toList) : a = b := by rw [← arr_list a, h, arr_list]
theorem app_data (a b : ByteArray) : (a ++ b).data.toList = a.data.toList ++ b.data.toList := by simp
theorem text_1 {k : ByteArray} {x : Int} (hx : rgB x = true) : textU k [x] = lineB [k, decW x] := by
  apply ba_ext
  show (k ++ numU x).data.toList = lineW [k, decW x]
  unfold numU
  rw [itoa_dec hx, app_data, app_data, lineW_cons, lineW_one]
  rfl
theorem text_2 {k : ByteArray} {x y : Int} (hx : rgB x = true) (hy : rgB y = true) : textU k [x, y] = lineB [k, decW x, decW y] := by
  apply ba_ext
  show ((k ++ numU x) ++ numU y).data.toList = lineW [k, decW x, decW y]
  unfold numU
  rw [itoa_dec hx, itoa_dec hy, app_data, app_data, app_data, app_data, lineW_cons, lineW_cons, lineW_one, List.append_assoc]
  rfl
theorem text_n1 {k n : ByteArray} {x : Int} (hx : rgB x = true) : textU (k ++ ⟨#[32]⟩ ++ n) [x] = lineB [k, n, decW x] := by
  apply ba_ext
  show (k ++ ⟨#[32]⟩ ++ n ++ numU x).data.toList = lineW [k, n, decW x]
  unfold numU
  rw [itoa_dec hx, app_data, app_data, app_data, app_data, lineW_cons, lineW_cons, lineW_one, List.append_assoc, List.append_assoc]
  rfl
theorem text_n2 {k n : ByteArray} {x y : Int} (hx : rgB x = true) (hy : rgB y = true) : textU (k ++ ⟨#[32]⟩ ++ n) [x, y] = lineB [k, n, decW x, decW y] := by
  apply ba_ext
  show (k ++ ⟨#[32]⟩ ++ n ++ numU x ++ numU y).data.toList = lineW [k, n, decW x, decW y]
  unfold numU
  rw [itoa_dec hx, itoa_dec hy, app_data, app_data, app_data, app_data, app_data, app_data, lineW_cons, lineW_cons, lineW_cons, lineW_one]
  simp only [List.append_assoc]
  rfl
theorem text_pl {n : ByteArray} {x : Int} (hx : rgB x = true) : textU ((⟨#[112, 108, 97, 99, 101, 32]⟩ : ByteArray) ++ n) [x] = lineB [kPlace, n, decW x] := by
  rw [show (⟨#[112, 108, 97, 99, 101, 32]⟩ : ByteArray) = kPlace ++ ⟨#[32]⟩ from by decide]
  exact text_n1 hx
theorem text_qu {n : ByteArray} {x y : Int} (hx : rgB x = true) (hy : rgB y = true) : textU ((⟨#[113, 117, 111, 116, 97, 32]⟩ : ByteArray) ++ n) [x, y] = lineB [kQuota, n, decW x, decW y] := by
  rw [show (⟨#[113, 117, 111, 116, 97, 32]⟩ : ByteArray) = kQuota ++ ⟨#[32]⟩ from by decide]
  exact text_n2 hx hy
/-- Lines, in a slice of strings that is owned. -/
def srowU (l : List (List ByteArray)) : List Value := l.map fun ws => .string (lineB ws)
theorem srowU_app (l : List (List ByteArray)) (x : List ByteArray) : srowU (l ++ [x]) = srowU l ++ [.string (lineB x)] := by simp [srowU]
theorem srowU_app2 (l : List (List ByteArray)) (x y : List ByteArray) : srowU (l ++ [x, y]) = srowU l ++ [.string (lineB x), .string (lineB y)] := by simp [srowU]
def LnsAt (base : Nat) (w : World) (v : Value) (ls : List (List ByteArray)) : Prop := w.ownsRow base 9 1 v ls.length (srowU ls)
theorem LnsAt.only {base : Nat} {w w' : World} {v : Value} {ls : List (List ByteArray)} (h : LnsAt base w v ls) (hO : Only (fun _ => False) w w') : LnsAt base w' v ls := hO.owns h (fun _ _ h => h)
theorem lns_cell {base : Nat} {w : World} {v : Value} {ls : List (List ByteArray)} (h : LnsAt base w v ls) {j : Nat} (hj : j < ls.length) :
    ∃ g cap, v = .slice (some ⟨g, 0, none⟩) ls.length cap ∧ g < w.heap.size ∧ ls.length ≤ cap ∧ w.cell? ⟨g, j, none⟩ = some (.string (lineB ls[j])) := by
  have hu : (srowU ls)[j]? = some (.string (lineB ls[j])) := by unfold srowU; rw [List.getElem?_map, List.getElem?_eq_getElem hj]; rfl
  obtain ⟨g, cap, hv, hg, h1, _, hc⟩ := own_cell h hu
  exact ⟨g, cap, hv, hg, h1, hc⟩
theorem lines_small {d : Dr} (h : Right d) : (lnsZ d).length ≤ 57 := by
  have := lnsZ_len d; have := right_many h; have := h.b40; omega
end Go.Proofs.YteikkpiginfbkaaGreatDoor

namespace Go.Proofs.YteikkpiginfbkaaGreatDoor
open Go.RowKit

theorem Tryz.infoStr : (Tryz.prog.info? 9).map (fun i => (i.zero, i.size, i.bytes)) = some (some (.string ⟨#[]⟩), 1, 16) := by kernel_rfl
theorem one_str1 (s : ByteArray) : ∀ v ∈ [Value.string s], v.oneCell' = true := by intro v hv; simp at hv; subst hv; rfl
theorem one_str2 (s t : ByteArray) : ∀ v ∈ [Value.string s, .string t], v.oneCell' = true := by
  intro v hv; simp at hv; rcases hv with rfl | rfl <;> rfl
theorem print_no2 (d : Dr) (h : rightZ d = false) : printZ d = ByteArray.empty := by unfold printZ; rw [if_neg (by rw [h]; decide)]
theorem own_new (w : World) (e : TypeId) (xs : List Value) (hl : xs.length ≤ 1000) : (w.alloc (.cells xs.toArray e)).ownsRow w.heap.size e 1 (.slice (some ⟨w.heap.size, 0, none⟩) xs.length xs.length) xs.length xs :=
  ⟨by omega, .inr ⟨w.heap.size, xs.length, xs.toArray, rfl, Nat.le_refl _, heap_alloc_last w _, Nat.le_refl _, by unfold maxLen; omega, by simp, by simp⟩⟩
theorem pts_2 (w : World) (x y : Int) : PtsAt (w.alloc (.cells #[.int .i64 x, .int .i64 y] 3)).heap.size (w.alloc (.cells #[.int .i64 x, .int .i64 y] 3)) (.slice (some ⟨w.heap.size, 0, none⟩) [x, y].length 2) [x, y] := pts_new w [x, y] (by simp) (by simp)
theorem pts_1 (w : World) (x : Int) : PtsAt (w.alloc (.cells #[.int .i64 x] 3)).heap.size (w.alloc (.cells #[.int .i64 x] 3)) (.slice (some ⟨w.heap.size, 0, none⟩) [x].length 1) [x] := pts_new w [x] (by simp) (by simp)
theorem draw_line (n : ByteArray) : (⟨#[100, 114, 97, 119, 32]⟩ : ByteArray) ++ n = lineB [kDraw, n] := by
  apply ba_ext
  rw [app_data]
  show _ = lineW [kDraw, n]
  rw [lineW_cons, lineW_one]; rfl
theorem all1 {x : Int} (h : R64 x) : ∀ n ∈ [x], R64 n := fun n hn => by rw [List.mem_singleton.1 hn]; exact h
theorem all2 {x y : Int} (h : R64 x) (h' : R64 y) : ∀ n ∈ [x, y], R64 n := fun n hn => by
  rcases List.mem_cons.1 hn with rfl | hn
  · exact h
  · rw [List.mem_singleton.1 hn]; exact h'
set_option maxRecDepth 100000 in
set_option maxHeartbeats 4000000 in
theorem print_false (d : Dr) (vt vp vq vb : Value) (base : Nat) (w : World) (hd : DrOwn base w d vt vp vq vb) (hr : rightZ d = false) (hbig : d.tiers.length ≤ 1000000 ∧ d.places.length ≤ 1000000 ∧ d.quotas.length ≤ 1000000 ∧ d.barred.length ≤ 1000000) :
    Calls Tryz.prog 11 #[.agg (drCells d vt vp vq vb)] w fun e w' => e = .returned (.string ByteArray.empty) ∧ Only (fun _ => False) w w' := by
  have HD := Lib.hid hd
  have HC1 := Lib.hid (fun (w : World) (hd : DrOwn base w d vt vp vq vb) => right_any d vt vp vq vb false base w hd hr hbig)
  have HZ := Lib.hid (heap_alloc_last w (.cells (drCells d vt vp vq vb) 33))
  have HO := Lib.hid ((Only.refl (fun _ => False) w).alloc (.cells (drCells d vt vp vq vb) 33))
  clear hd hr hbig
  go_enter Tryz.func11, Tryz.ntmps11
  go_upto_region 1 with (fail)
  generalize World.alloc w _ = w1 at *
  have HD1 := Lib.hid (HD.out.only HO.out (fun _ _ h => h))
  have c0 : w1.cell? ⟨w.heap.size, 0, none⟩ = some (Value.string d.name) := cell_of_row _ _ 0 _ _ _ HZ.out
  have c1 : w1.cell? ⟨w.heap.size, 1, none⟩ = some (Value.int .i64 d.kind) := cell_of_row _ _ 1 _ _ _ HZ.out
  have c2 : w1.cell? ⟨w.heap.size, 2, none⟩ = some (Value.int .i64 d.round) := cell_of_row _ _ 2 _ _ _ HZ.out
  have c3 : w1.cell? ⟨w.heap.size, 3, none⟩ = some (Value.int .i64 d.price) := cell_of_row _ _ 3 _ _ _ HZ.out
  have c4 : w1.cell? ⟨w.heap.size, 4, none⟩ = some (Value.int .i64 d.pool) := cell_of_row _ _ 4 _ _ _ HZ.out
  have c5 : w1.cell? ⟨w.heap.size, 5, none⟩ = some (Value.int .i64 d.pick) := cell_of_row _ _ 5 _ _ _ HZ.out
  have c6 : w1.cell? ⟨w.heap.size, 6, none⟩ = some (vt) := cell_of_row _ _ 6 _ _ _ HZ.out
  have c7 : w1.cell? ⟨w.heap.size, 7, none⟩ = some (Value.bool d.roll) := cell_of_row _ _ 7 _ _ _ HZ.out
  have c8 : w1.cell? ⟨w.heap.size, 8, none⟩ = some (vp) := cell_of_row _ _ 8 _ _ _ HZ.out
  have c9 : w1.cell? ⟨w.heap.size, 9, none⟩ = some (Value.int .i64 d.cls) := cell_of_row _ _ 9 _ _ _ HZ.out
  have c10 : w1.cell? ⟨w.heap.size, 10, none⟩ = some (Value.int .i64 d.size) := cell_of_row _ _ 10 _ _ _ HZ.out
  have c11 : w1.cell? ⟨w.heap.size, 11, none⟩ = some (vq) := cell_of_row _ _ 11 _ _ _ HZ.out
  have c12 : w1.cell? ⟨w.heap.size, 12, none⟩ = some (vb) := cell_of_row _ _ 12 _ _ _ HZ.out
  go_wp2_with fail
  refine (HC1.out _ HD1.out).mono ?_
  rintro e w2 ⟨rfl, hO2⟩
  go_wp2_with fail
  go_ret
  exact ⟨rfl, HO.out.trans hO2⟩
set_option maxRecDepth 100000 in
set_option maxHeartbeats 100000000 in
theorem print_true (d : Dr) (vt vp vq vb : Value) (base : Nat) (w : World) (hd : DrOwn base w d vt vp vq vb) (hr : Right d) (hG : GlobU w) :
    Calls Tryz.prog 11 #[.agg (drCells d vt vp vq vb)] w fun e w' => e = .returned (.string (writeB d)) ∧ Only (fun _ => False) w w' := by
  obtain ⟨at1, ct, rfl⟩ := slice_of_own hd.tiers
  obtain ⟨ap1, cp, rfl⟩ := slice_of_own hd.places
  obtain ⟨aq1, cq, rfl⟩ := slice_of_own hd.quotas
  obtain ⟨ab1, cb, rfl⟩ := slice_of_own hd.bars
  have HD := Lib.hid hd
  have HR := Lib.hid hr
  have HG := Lib.hid hG
  have HC1 := Lib.hid (fun (w : World) (hd : DrOwn base w d (.slice at1 d.tiers.length ct) (.slice ap1 d.places.length cp) (.slice aq1 d.quotas.length cq) (.slice ab1 d.barred.length cb)) => right_any d _ _ _ _ true base w hd (right_iff.2 hr) ⟨by have := hr.t12; omega, by have := hr.p12; omega, by have := hr.q12; omega, by have := hr.b40; omega⟩)
  have HZ := Lib.hid (heap_alloc_last w (.cells (drCells d (.slice at1 d.tiers.length ct) (.slice ap1 d.places.length cp) (.slice aq1 d.quotas.length cq) (.slice ab1 d.barred.length cb)) 33))
  have HO := Lib.hid ((Only.refl (fun _ => False) w).alloc (.cells (drCells d (.slice at1 d.tiers.length ct) (.slice ap1 d.places.length cp) (.slice aq1 d.quotas.length cq) (.slice ab1 d.barred.length cb)) 33))
  have HN := Lib.hid (show d.name.size ≤ 20 by have := name_len hr.name; have e : d.name.data.toList.length = d.name.size := Array.length_toList; omega)
  obtain ⟨i0, hi, hz0, hz1, hz2⟩ := info_parts Tryz.infoStr
  have HI := Lib.hid hi
  have HI0 := Lib.hid hz0
  have HI1 := Lib.hid hz1
  have HI2 := Lib.hid hz2
  clear hd hr hG hi hz0 hz1 hz2
  go_enter Tryz.func11, Tryz.ntmps11
  go_upto_region 1 with (fail)
  generalize World.alloc w _ = w1 at *
  have HD1 := Lib.hid (HD.out.only HO.out (fun _ _ h => h))
  have c0 : w1.cell? ⟨w.heap.size, 0, none⟩ = some (Value.string d.name) := cell_of_row _ _ 0 _ _ _ HZ.out
  have c1 : w1.cell? ⟨w.heap.size, 1, none⟩ = some (Value.int .i64 d.kind) := cell_of_row _ _ 1 _ _ _ HZ.out
  have c2 : w1.cell? ⟨w.heap.size, 2, none⟩ = some (Value.int .i64 d.round) := cell_of_row _ _ 2 _ _ _ HZ.out
  have c3 : w1.cell? ⟨w.heap.size, 3, none⟩ = some (Value.int .i64 d.price) := cell_of_row _ _ 3 _ _ _ HZ.out
  have c4 : w1.cell? ⟨w.heap.size, 4, none⟩ = some (Value.int .i64 d.pool) := cell_of_row _ _ 4 _ _ _ HZ.out
  have c5 : w1.cell? ⟨w.heap.size, 5, none⟩ = some (Value.int .i64 d.pick) := cell_of_row _ _ 5 _ _ _ HZ.out
  have c6 : w1.cell? ⟨w.heap.size, 6, none⟩ = some (Value.slice at1 d.tiers.length ct) := cell_of_row _ _ 6 _ _ _ HZ.out
  have c7 : w1.cell? ⟨w.heap.size, 7, none⟩ = some (Value.bool d.roll) := cell_of_row _ _ 7 _ _ _ HZ.out
  have c8 : w1.cell? ⟨w.heap.size, 8, none⟩ = some (Value.slice ap1 d.places.length cp) := cell_of_row _ _ 8 _ _ _ HZ.out
  have c9 : w1.cell? ⟨w.heap.size, 9, none⟩ = some (Value.int .i64 d.cls) := cell_of_row _ _ 9 _ _ _ HZ.out
  have c10 : w1.cell? ⟨w.heap.size, 10, none⟩ = some (Value.int .i64 d.size) := cell_of_row _ _ 10 _ _ _ HZ.out
  have c11 : w1.cell? ⟨w.heap.size, 11, none⟩ = some (Value.slice aq1 d.quotas.length cq) := cell_of_row _ _ 11 _ _ _ HZ.out
  have c12 : w1.cell? ⟨w.heap.size, 12, none⟩ = some (Value.slice ab1 d.barred.length cb) := cell_of_row _ _ 12 _ _ _ HZ.out
  go_wp2_with fail
  refine (HC1.out _ HD1.out).mono ?_
  rintro e w2 ⟨rfl, hO2⟩
  have HO2 := Lib.hid (HO.out.trans hO2)
  have HZ2 := Lib.hid (row_still hO2 HZ.out)
  have HD2 := Lib.hid (HD1.out.only hO2 (fun _ _ h => h))
  clear hO2 c0 c1 c2 c3 c4 c5 c6 c7 c8 c9 c10 c11 c12
  have c0 : w2.cell? ⟨w.heap.size, 0, none⟩ = some (Value.string d.name) := cell_of_row _ _ 0 _ _ _ HZ2.out
  have c1 : w2.cell? ⟨w.heap.size, 1, none⟩ = some (Value.int .i64 d.kind) := cell_of_row _ _ 1 _ _ _ HZ2.out
  have c2 : w2.cell? ⟨w.heap.size, 2, none⟩ = some (Value.int .i64 d.round) := cell_of_row _ _ 2 _ _ _ HZ2.out
  have c3 : w2.cell? ⟨w.heap.size, 3, none⟩ = some (Value.int .i64 d.price) := cell_of_row _ _ 3 _ _ _ HZ2.out
  have c4 : w2.cell? ⟨w.heap.size, 4, none⟩ = some (Value.int .i64 d.pool) := cell_of_row _ _ 4 _ _ _ HZ2.out
  have c5 : w2.cell? ⟨w.heap.size, 5, none⟩ = some (Value.int .i64 d.pick) := cell_of_row _ _ 5 _ _ _ HZ2.out
  have c6 : w2.cell? ⟨w.heap.size, 6, none⟩ = some (Value.slice at1 d.tiers.length ct) := cell_of_row _ _ 6 _ _ _ HZ2.out
  have c7 : w2.cell? ⟨w.heap.size, 7, none⟩ = some (Value.bool d.roll) := cell_of_row _ _ 7 _ _ _ HZ2.out
  have c8 : w2.cell? ⟨w.heap.size, 8, none⟩ = some (Value.slice ap1 d.places.length cp) := cell_of_row _ _ 8 _ _ _ HZ2.out
  have c9 : w2.cell? ⟨w.heap.size, 9, none⟩ = some (Value.int .i64 d.cls) := cell_of_row _ _ 9 _ _ _ HZ2.out
  have c10 : w2.cell? ⟨w.heap.size, 10, none⟩ = some (Value.int .i64 d.size) := cell_of_row _ _ 10 _ _ _ HZ2.out
  have c11 : w2.cell? ⟨w.heap.size, 11, none⟩ = some (Value.slice aq1 d.quotas.length cq) := cell_of_row _ _ 11 _ _ _ HZ2.out
  have c12 : w2.cell? ⟨w.heap.size, 12, none⟩ = some (Value.slice ab1 d.barred.length cb) := cell_of_row _ _ 12 _ _ _ HZ2.out
  have hlt0 : w.heap.size < w2.heap.size := (Array.getElem?_eq_some_iff.1 HZ2.out).1
  have nsz := HN.out
  have i1 : ¬ (9223372036854775807 < 5 + d.name.size) := by omega
  go_upto_block 0 with (fail)
  have HL1 := Lib.hid (show LnsAt w2.heap.size (w2.alloc (.cells #[.string (⟨#[100, 114, 97, 119, 32]⟩ ++ d.name)] 9)) (.slice (some ⟨w2.heap.size, 0, none⟩) [[kDraw, d.name]].length 1) [[kDraw, d.name]] by
    rw [draw_line]
    exact own_new w2 9 [.string (lineB [kDraw, d.name])] (by simp))
  have HO1 := Lib.hid ((Only.refl (fun _ => False) w2).alloc (.cells #[.string (⟨#[100, 114, 97, 119, 32]⟩ ++ d.name)] 9))
  generalize World.alloc w2 (.cells #[.string (⟨#[100, 114, 97, 119, 32]⟩ ++ d.name)] 9) = wl at *
  clear c0 c1 c2 c3 c4 c5 c6 c7 c8 c9 c10 c11 c12
  have HZ3 := Lib.hid (row_still HO1.out HZ2.out)
  have c0 : wl.cell? ⟨w.heap.size, 0, none⟩ = some (Value.string d.name) := cell_of_row _ _ 0 _ _ _ HZ3.out
  have c1 : wl.cell? ⟨w.heap.size, 1, none⟩ = some (Value.int .i64 d.kind) := cell_of_row _ _ 1 _ _ _ HZ3.out
  have c2 : wl.cell? ⟨w.heap.size, 2, none⟩ = some (Value.int .i64 d.round) := cell_of_row _ _ 2 _ _ _ HZ3.out
  have c3 : wl.cell? ⟨w.heap.size, 3, none⟩ = some (Value.int .i64 d.price) := cell_of_row _ _ 3 _ _ _ HZ3.out
  have c4 : wl.cell? ⟨w.heap.size, 4, none⟩ = some (Value.int .i64 d.pool) := cell_of_row _ _ 4 _ _ _ HZ3.out
  have c5 : wl.cell? ⟨w.heap.size, 5, none⟩ = some (Value.int .i64 d.pick) := cell_of_row _ _ 5 _ _ _ HZ3.out
  have c6 : wl.cell? ⟨w.heap.size, 6, none⟩ = some (Value.slice at1 d.tiers.length ct) := cell_of_row _ _ 6 _ _ _ HZ3.out
  have c7 : wl.cell? ⟨w.heap.size, 7, none⟩ = some (Value.bool d.roll) := cell_of_row _ _ 7 _ _ _ HZ3.out
  have c8 : wl.cell? ⟨w.heap.size, 8, none⟩ = some (Value.slice ap1 d.places.length cp) := cell_of_row _ _ 8 _ _ _ HZ3.out
  have c9 : wl.cell? ⟨w.heap.size, 9, none⟩ = some (Value.int .i64 d.cls) := cell_of_row _ _ 9 _ _ _ HZ3.out
  have c10 : wl.cell? ⟨w.heap.size, 10, none⟩ = some (Value.int .i64 d.size) := cell_of_row _ _ 10 _ _ _ HZ3.out
  have c11 : wl.cell? ⟨w.heap.size, 11, none⟩ = some (Value.slice aq1 d.quotas.length cq) := cell_of_row _ _ 11 _ _ _ HZ3.out
  have c12 : wl.cell? ⟨w.heap.size, 12, none⟩ = some (Value.slice ab1 d.barred.length cb) := cell_of_row _ _ 12 _ _ _ HZ3.out
  have HWS := Lib.hid (show kLottery.size ≤ 1000000 ∧ kBallot.size ≤ 1000000 ∧ kPanel.size ≤ 1000000 from by decide)
  go_cut [3] (fun v wx => ∃ a c, v = .slice a ([kDraw, d.name] :: kindL d).length c ∧ LnsAt w2.heap.size wx v ([kDraw, d.name] :: kindL d) ∧ Only (fun _ => False) w2 wx)
  case first =>
    rcases owns_k HR.out.owns with hk | hk | hk
    · have q1 : (d.kind == 1) = true := by rw [hk]; rfl
      have HK := Lib.hid hk
      clear hk
      have HNL := Lib.hid (show [[kDraw, d.name]].length ≤ 100 by simp)
      have HOa := Lib.hid (HO1.out.alloc (.cells #[.int .i64 d.pool, .int .i64 d.pick] 3))
      go_wp2_with fail
      refine (text_any kLottery _ _ [d.pool, d.pick] _ (by exact pts_2 _ _ _) (by simp) (by exact (show (kLottery).size ≤ 1000000 by decide)) (by exact all2 (rg_R64 HR.out.pool) (rg_R64 HR.out.pick)) (HG.out.only (HO2.out.trans HOa.out))).mono ?_
      rintro e w3 ⟨rfl, hO3⟩
      rw [text_2 HR.out.pool HR.out.pick]
      have HO3 := Lib.hid (HOa.out.trans hO3)
      obtain ⟨s, hs⟩ : ∃ s, lineB [kLottery, decW d.pool, decW d.pick] = s := ⟨_, rfl⟩
      rw [hs]
      have HS := Lib.hid hs
      have HL3 := Lib.hid ((HL1.out.only (((Only.refl (fun _ => False) _).alloc (.cells #[.int .i64 d.pool, .int .i64 d.pick] 3)).trans hO3)).only ((Only.refl (fun _ => False) _).alloc (.cells #[.string s] 9)))
      clear hs hO3
      have hbs := (HO3.out.alloc (.cells #[.string s] 9)).size
      go_wp2_with (first | (refine wpList_append_lies _ rfl _ _ 42 rfl w2.heap.size 9 i0 _ 1 16 Tryz.underlying42 HI.out HI0.out HI1.out HI2.out rfl (by decide) _ _ _ rfl HL3.out ⟨w3.heap.size, 0, none⟩ 1 1 [.string s] rfl rfl (by exact newsR' w3 _ _) (one_str1 _) (by decide) (by have := HNL.out; unfold maxLen; omega) (by have := HNL.out; omega) hbs _ rfl ?_; intro g cap w5 hown1 hgrow hat hlt2))
      have HO5 := Lib.hid ((HO3.out.alloc (.cells #[.string s] 9)).trans' (S := fun _ => False) (T := fun i => (Value.slice (some ⟨w2.heap.size, 0, none⟩) ([[kDraw, d.name]]).length 1).ownBlock = some i) ((Only.refl _ _).grown hgrow (fun i e _ => e)) (fun i hi e => by have := ownR_ge HL3.out e; omega))
      have HL5 := Lib.hid (show LnsAt w2.heap.size w5 (.slice (some ⟨g, 0, none⟩) (([[kDraw, d.name]]) ++ [[kLottery, decW d.pool, decW d.pick]]).length cap) (([[kDraw, d.name]]) ++ [[kLottery, decW d.pool, decW d.pick]]) by
        unfold LnsAt
        rw [srowU_app, HS.out, List.length_append]; exact hown1)
      go_meet
      have hk := HK.out
      rw [show kindL d = [[kLottery, decW d.pool, decW d.pick]] by unfold kindL; rw [if_pos hk]]
      exact ⟨_, _, rfl, HL5.out, HO5.out⟩
    · have q1 : (d.kind == 1) = false := by rw [hk]; rfl
      have q2 : (d.kind == 2) = true := by rw [hk]; rfl
      have HK := Lib.hid hk
      clear hk
      have HNL := Lib.hid (show [[kDraw, d.name]].length ≤ 100 by simp)
      have HOa := Lib.hid (HO1.out.alloc (.cells #[.int .i64 d.cls] 3))
      go_wp2_with fail
      refine (text_any kBallot _ _ [d.cls] _ (by exact pts_1 _ _) (by simp) (by exact (show (kBallot).size ≤ 1000000 by decide)) (by exact all1 (rg_R64 HR.out.cls)) (HG.out.only (HO2.out.trans HOa.out))).mono ?_
      rintro e w3 ⟨rfl, hO3⟩
      rw [text_1 HR.out.cls]
      have HO3 := Lib.hid (HOa.out.trans hO3)
      obtain ⟨s, hs⟩ : ∃ s, lineB [kBallot, decW d.cls] = s := ⟨_, rfl⟩
      rw [hs]
      have HS := Lib.hid hs
      have HL3 := Lib.hid ((HL1.out.only (((Only.refl (fun _ => False) _).alloc (.cells #[.int .i64 d.cls] 3)).trans hO3)).only ((Only.refl (fun _ => False) _).alloc (.cells #[.string s] 9)))
      clear hs hO3
      have hbs := (HO3.out.alloc (.cells #[.string s] 9)).size
      go_wp2_with (first | (refine wpList_append_lies _ rfl _ _ 42 rfl w2.heap.size 9 i0 _ 1 16 Tryz.underlying42 HI.out HI0.out HI1.out HI2.out rfl (by decide) _ _ _ rfl HL3.out ⟨w3.heap.size, 0, none⟩ 1 1 [.string s] rfl rfl (by exact newsR' w3 _ _) (one_str1 _) (by decide) (by have := HNL.out; unfold maxLen; omega) (by have := HNL.out; omega) hbs _ rfl ?_; intro g cap w5 hown1 hgrow hat hlt2))
      have HO5 := Lib.hid ((HO3.out.alloc (.cells #[.string s] 9)).trans' (S := fun _ => False) (T := fun i => (Value.slice (some ⟨w2.heap.size, 0, none⟩) ([[kDraw, d.name]]).length 1).ownBlock = some i) ((Only.refl _ _).grown hgrow (fun i e _ => e)) (fun i hi e => by have := ownR_ge HL3.out e; omega))
      have HL5 := Lib.hid (show LnsAt w2.heap.size w5 (.slice (some ⟨g, 0, none⟩) (([[kDraw, d.name]]) ++ [[kBallot, decW d.cls]]).length cap) (([[kDraw, d.name]]) ++ [[kBallot, decW d.cls]]) by
        unfold LnsAt
        rw [srowU_app, HS.out, List.length_append]; exact hown1)
      go_meet
      have hk := HK.out
      rw [show kindL d = [[kBallot, decW d.cls]] by unfold kindL; rw [if_neg (by rw [hk]; decide), if_pos hk]]
      exact ⟨_, _, rfl, HL5.out, HO5.out⟩
    · have q1 : (d.kind == 1) = false := by rw [hk]; rfl
      have q2 : (d.kind == 2) = false := by rw [hk]; rfl
      have q3 : (d.kind == 3) = true := by rw [hk]; rfl
      have HK := Lib.hid hk
      clear hk
      have HNL := Lib.hid (show [[kDraw, d.name]].length ≤ 100 by simp)
      have HOa := Lib.hid (HO1.out.alloc (.cells #[.int .i64 d.size] 3))
      go_wp2_with fail
      refine (text_any kPanel _ _ [d.size] _ (by exact pts_1 _ _) (by simp) (by exact (show (kPanel).size ≤ 1000000 by decide)) (by exact all1 (rg_R64 HR.out.size)) (HG.out.only (HO2.out.trans HOa.out))).mono ?_
      rintro e w3 ⟨rfl, hO3⟩
      rw [text_1 HR.out.size]
      have HO3 := Lib.hid (HOa.out.trans hO3)
      obtain ⟨s, hs⟩ : ∃ s, lineB [kPanel, decW d.size] = s := ⟨_, rfl⟩
      rw [hs]
      have HS := Lib.hid hs
      have HL3 := Lib.hid ((HL1.out.only (((Only.refl (fun _ => False) _).alloc (.cells #[.int .i64 d.size] 3)).trans hO3)).only ((Only.refl (fun _ => False) _).alloc (.cells #[.string s] 9)))
      clear hs hO3
      have hbs := (HO3.out.alloc (.cells #[.string s] 9)).size
      go_wp2_with (first | (refine wpList_append_lies _ rfl _ _ 42 rfl w2.heap.size 9 i0 _ 1 16 Tryz.underlying42 HI.out HI0.out HI1.out HI2.out rfl (by decide) _ _ _ rfl HL3.out ⟨w3.heap.size, 0, none⟩ 1 1 [.string s] rfl rfl (by exact newsR' w3 _ _) (one_str1 _) (by decide) (by have := HNL.out; unfold maxLen; omega) (by have := HNL.out; omega) hbs _ rfl ?_; intro g cap w5 hown1 hgrow hat hlt2))
      have HO5 := Lib.hid ((HO3.out.alloc (.cells #[.string s] 9)).trans' (S := fun _ => False) (T := fun i => (Value.slice (some ⟨w2.heap.size, 0, none⟩) ([[kDraw, d.name]]).length 1).ownBlock = some i) ((Only.refl _ _).grown hgrow (fun i e _ => e)) (fun i hi e => by have := ownR_ge HL3.out e; omega))
      have HL5 := Lib.hid (show LnsAt w2.heap.size w5 (.slice (some ⟨g, 0, none⟩) (([[kDraw, d.name]]) ++ [[kPanel, decW d.size]]).length cap) (([[kDraw, d.name]]) ++ [[kPanel, decW d.size]]) by
        unfold LnsAt
        rw [srowU_app, HS.out, List.length_append]; exact hown1)
      go_meet
      have hk := HK.out
      rw [show kindL d = [[kPanel, decW d.size]] by unfold kindL; rw [if_neg (by rw [hk]; decide), if_neg (by rw [hk]; decide), if_pos hk]]
      exact ⟨_, _, rfl, HL5.out, HO5.out⟩
  case rest =>
    obtain ⟨a2, c2s, rfl, hlR, hoR⟩ := hcut
    have HL1 := Lib.hid hlR
    have HO1 := Lib.hid hoR
    have hkl : (kindL d).length = 1 := by
      unfold kindL
      rcases owns_k HR.out.owns with hk | hk | hk
      · rw [if_pos hk]; rfl
      · rw [if_neg (by rw [hk]; decide), if_pos hk]; rfl
      · rw [if_neg (by rw [hk]; decide), if_neg (by rw [hk]; decide), if_pos hk]; rfl
    have HNL := Lib.hid (show ([kDraw, d.name] :: kindL d).length ≤ 100 by rw [List.length_cons, hkl]; decide)
    clear hkl hlR hoR c0 c1 c2 c3 c4 c5 c6 c7 c8 c9 c10 c11 c12
    have HZ3 := Lib.hid (row_still HO1.out HZ2.out)
    have c2 : wc.cell? ⟨w.heap.size, 2, none⟩ = some (Value.int .i64 d.round) := cell_of_row _ _ 2 _ _ _ HZ3.out
    have c3 : wc.cell? ⟨w.heap.size, 3, none⟩ = some (Value.int .i64 d.price) := cell_of_row _ _ 3 _ _ _ HZ3.out
    have HHE := Lib.hid (show ([kDraw, d.name] :: kindL d) ++ [[kRound, decW d.round], [kPrice, decW d.price]] = headL d from rfl)
    generalize ([kDraw, d.name] :: kindL d) = l2 at *
    go_upto_region 11 with (fail)
    go_cut [3] (fun v wx => ∃ a c, v = .slice a (headL d).length c ∧ LnsAt w2.heap.size wx v (headL d) ∧ Only (fun _ => False) w2 wx)
    case first =>
      have HKS := Lib.hid (show ∀ W, Only (fun _ => False) w2 W → W.cell? ⟨w.heap.size, 2, none⟩ = some (.int .i64 d.round) ∧ W.cell? ⟨w.heap.size, 3, none⟩ = some (.int .i64 d.price) from fun W hW => ⟨hW.cell (cell_of_row _ _ 2 _ _ _ HZ2.out) id, hW.cell (cell_of_row _ _ 3 _ _ _ HZ2.out) id⟩)
      refine wp_region_held_drew (S := fun W => W.cell? ⟨w.heap.size, 2, none⟩ = some (.int .i64 d.round) ∧ W.cell? ⟨w.heap.size, 3, none⟩ = some (.int .i64 d.price)) (by kernel_rfl) (HKS.out _ HO1.out.drew) fun hHeld => ?_
      have HOX := Lib.hid HO1.out.drew
      have HL1 := Lib.hid (show LnsAt w2.heap.size wc.drew _ l2 from HL1.out)
      generalize wc.drew = wd at *
      refine' wpAnyH_take (i := 0) (v := _) rfl (by kernel_rfl) (by kernel_rfl) (by kernel_rfl) (fun _ _ _ h => h) (Or.inl ⟨by rfl, ?hya0⟩) hHeld ?ra0
      case hya0 => (intro w hSw; obtain ⟨s0, s1⟩ := hSw; go_simp; with_reducible rfl)
      simp only [Act.put, List.getElem_toArray, List.getElem_cons_zero, List.setIfInBounds_toArray, List.set_cons_zero, List.set_cons_succ]
      refine' wpAnyH_take (i := 1) (v := _) rfl (by kernel_rfl) (by kernel_rfl) (by kernel_rfl) (fun _ _ _ h => h) (Or.inl ⟨by rfl, ?hya1⟩) hHeld ?ra1
      case hya1 => (intro w hSw; obtain ⟨s0, s1⟩ := hSw; go_simp; with_reducible rfl)
      simp only [Act.put, List.getElem_toArray, List.getElem_cons_zero, List.getElem_cons_succ, List.setIfInBounds_toArray, List.set_cons_zero, List.set_cons_succ]
      refine' wpAnyH_take (i := 2) (v := _) rfl (by kernel_rfl) (by kernel_rfl) (by kernel_rfl) (fun _ _ _ h => h) (Or.inl ⟨by rfl, ?hya2⟩) hHeld ?ra2
      case hya2 => (intro w hSw; obtain ⟨s0, s1⟩ := hSw; go_simp; with_reducible rfl)
      simp only [Act.put, List.getElem_toArray, List.getElem_cons_zero, List.getElem_cons_succ, List.setIfInBounds_toArray, List.set_cons_zero, List.set_cons_succ]
      refine' wpAnyH_take (i := 5) (v := _) rfl (by kernel_rfl) (by kernel_rfl) (by kernel_rfl) (fun _ _ _ h => h) (Or.inl ⟨by rfl, ?hya5⟩) hHeld ?ra5
      case hya5 => (intro w hSw; obtain ⟨s0, s1⟩ := hSw; go_simp; with_reducible rfl)
      simp only [Act.put, List.getElem_toArray, List.getElem_cons_zero, List.getElem_cons_succ, List.setIfInBounds_toArray, List.set_cons_zero, List.set_cons_succ]
      refine' wpAnyH_take (i := 6) (v := _) rfl (by kernel_rfl) (by kernel_rfl) (by kernel_rfl) (fun _ _ _ h => h) (Or.inl ⟨by rfl, ?hya6⟩) hHeld ?ra6
      case hya6 => (intro w hSw; obtain ⟨s0, s1⟩ := hSw; go_simp; with_reducible rfl)
      simp only [Act.put, List.getElem_toArray, List.getElem_cons_zero, List.getElem_cons_succ, List.setIfInBounds_toArray, List.set_cons_zero, List.set_cons_succ]
      refine wpAnyH_ready (rs := [3, 7]) (by kernel_rfl) (by simp) ?_
      refine AllReadyH.cons rfl (fun K hK => ?_) (AllReadyH.cons rfl (fun K hK => ?_) AllReadyH.nil)
      · go_simp
        have HST := Lib.hid ((Only.refl (fun _ => False) wd).alloc (.cells #[.int .i64 d.round] 3))
        have HOX := Lib.hid (HOX.out.trans HST.out)
        have HL1 := Lib.hid (HL1.out.only HST.out)
        have HPA := Lib.hid (pts_1 wd d.round)
        refine hK.out _ _ (HKS.out _ HOX.out) (fun hHeld => ?_)
        clear hK K
        try simp only [Act.put, List.getElem_toArray, List.getElem_cons_zero, List.getElem_cons_succ, List.setIfInBounds_toArray, List.set_cons_zero, List.set_cons_succ]
        generalize (wd.alloc (.cells #[.int .i64 d.round] 3)) = v1 at *
        clear HST
        refine wpAnyH_ready (rs := [4, 7]) (by kernel_rfl) (by simp) ?_
        refine AllReadyH.cons rfl (fun K hK => ?_) (AllReadyH.cons rfl (fun K hK => ?_) AllReadyH.nil)
        · go_simp
          refine (text_any kRound _ _ [d.round] _ HPA.out (by simp) (by decide) (by exact all1 (rg_R64 HR.out.round)) (HG.out.only (HO2.out.trans HOX.out))).mono ?_
          rintro e v2 ⟨rfl, hST⟩
          have HST := Lib.hid hST
          clear hST HPA
          have HOX := Lib.hid (HOX.out.trans HST.out)
          have HL1 := Lib.hid (HL1.out.only HST.out)
          rw [text_1 HR.out.round]
          refine hK.out _ _ (HKS.out _ HOX.out) (fun hHeld => ?_)
          clear hK K
          try simp only [Act.put, List.getElem_toArray, List.getElem_cons_zero, List.getElem_cons_succ, List.setIfInBounds_toArray, List.set_cons_zero, List.set_cons_succ]
          clear HST
          refine wpAnyH_ready (rs := [7]) (by kernel_rfl) (by simp) ?_
          refine AllReadyH.cons rfl (fun K hK => ?_) AllReadyH.nil
          go_simp
          have HST := Lib.hid ((Only.refl (fun _ => False) v2).alloc (.cells #[.int .i64 d.price] 3))
          have HOX := Lib.hid (HOX.out.trans HST.out)
          have HL1 := Lib.hid (HL1.out.only HST.out)
          have HPB := Lib.hid (pts_1 v2 d.price)
          refine hK.out _ _ (HKS.out _ HOX.out) (fun hHeld => ?_)
          clear hK K
          try simp only [Act.put, List.getElem_toArray, List.getElem_cons_zero, List.getElem_cons_succ, List.setIfInBounds_toArray, List.set_cons_zero, List.set_cons_succ]
          generalize (v2.alloc (.cells #[.int .i64 d.price] 3)) = v3 at *
          clear HST
          refine wpAnyH_ready (rs := [8]) (by kernel_rfl) (by simp) ?_
          refine AllReadyH.cons rfl (fun K hK => ?_) AllReadyH.nil
          go_simp
          refine (text_any kPrice _ _ [d.price] _ HPB.out (by simp) (by decide) (by exact all1 (rg_R64 HR.out.price)) (HG.out.only (HO2.out.trans HOX.out))).mono ?_
          rintro e v4 ⟨rfl, hST⟩
          have HST := Lib.hid hST
          clear hST HPB
          have HOX := Lib.hid (HOX.out.trans HST.out)
          have HL1 := Lib.hid (HL1.out.only HST.out)
          rw [text_1 HR.out.price]
          refine hK.out _ _ (HKS.out _ HOX.out) (fun hHeld => ?_)
          clear hK K
          try simp only [Act.put, List.getElem_toArray, List.getElem_cons_zero, List.getElem_cons_succ, List.setIfInBounds_toArray, List.set_cons_zero, List.set_cons_succ]
          clear HST
          refine wpAnyH_ready (rs := [9]) (by kernel_rfl) (by simp) ?_
          refine AllReadyH.cons rfl (fun K hK => ?_) AllReadyH.nil
          go_simp
          have HL1 := Lib.hid (HL1.out.only ((Only.refl (fun _ => False) _).alloc (.cells #[.string (lineB [kRound, decW d.round]), .string (lineB [kPrice, decW d.price])] 9)))
          have HOX := Lib.hid (HOX.out.alloc (.cells #[.string (lineB [kRound, decW d.round]), .string (lineB [kPrice, decW d.price])] 9))
          have HNW := Lib.hid (newsR' v4 [.string (lineB [kRound, decW d.round]), .string (lineB [kPrice, decW d.price])] 9)
          refine hK.out _ _ (HKS.out _ HOX.out) (fun hHeld => ?_)
          clear hK K
          try simp only [Act.put, List.getElem_toArray, List.getElem_cons_zero, List.getElem_cons_succ, List.setIfInBounds_toArray, List.set_cons_zero, List.set_cons_succ]
          
          have hgg : (v4.alloc (.cells #[.string (lineB [kRound, decW d.round]), .string (lineB [kPrice, decW d.price])] 9)) = (v4.alloc (.cells #[.string (lineB [kRound, decW d.round]), .string (lineB [kPrice, decW d.price])] 9)) := rfl
          clear hgg
          refine wpAnyH_ready (rs := [10]) (by kernel_rfl) (by simp) ?_
          refine AllReadyH.cons rfl (fun K hK => ?_) AllReadyH.nil
          have hbs := HOX.out.size
          refine step_append_lies _ rfl _ _ 42 rfl w2.heap.size 9 i0 _ 1 16 Tryz.underlying42 HI.out HI0.out HI1.out HI2.out rfl (by decide) _ _ _ (by rfl) HL1.out ⟨v4.heap.size, 0, none⟩ 2 2 [.string (lineB [kRound, decW d.round]), .string (lineB [kPrice, decW d.price])] (by rfl) rfl HNW.out (one_str2 _ _) (by decide) (by have := HNL.out; unfold maxLen; omega) (by have := HNL.out; omega) hbs _ rfl ?_
          intro g cap w5 hown1 hgrow hat hlt2
          have HOX := Lib.hid (HOX.out.trans' (S := fun _ => False) (T := fun i => (Value.slice a2 l2.length c2s).ownBlock = some i) ((Only.refl _ _).grown hgrow (fun i e _ => e)) (fun i hi e => by have := ownR_ge HL1.out e; omega))
          have HL5 := Lib.hid (show LnsAt w2.heap.size w5 (.slice (some ⟨g, 0, none⟩) (headL d).length cap) (headL d) by
            rw [← HHE.out]
            unfold LnsAt
            rw [srowU_app2, List.length_append]; exact hown1)
          refine hK.out _ _ (HKS.out _ HOX.out) (fun hHeld => ?_)
          clear hK K
          try simp only [Act.put, List.getElem_toArray, List.getElem_cons_zero, List.getElem_cons_succ, List.setIfInBounds_toArray, List.set_cons_zero, List.set_cons_succ]
          refine' wpAnyH_take (i := 11) (v := _) rfl (by kernel_rfl) (by kernel_rfl) (by kernel_rfl) (fun _ _ _ h => h) (Or.inl ⟨by rfl, ?hyz6x11⟩) hHeld ?rz6x11
          case hyz6x11 => (intro w hSw; obtain ⟨s0, s1⟩ := hSw; go_simp; with_reducible rfl)
          simp only [Act.put, List.getElem_toArray, List.getElem_cons_zero, List.getElem_cons_succ, List.setIfInBounds_toArray, List.set_cons_zero, List.set_cons_succ]
          refine wpAnyH_done (by kernel_rfl) ?_ _
          go_wp2_with fail
          go_meet
          have hhl : (headL d).length = l2.length + 2 := by rw [← HHE.out, List.length_append]; rfl
          have HL5 := HL5.out
          rw [hhl] at HL5 ⊢
          exact ⟨_, _, rfl, HL5, HOX.out⟩
        · go_simp
          have HST := Lib.hid ((Only.refl (fun _ => False) v1).alloc (.cells #[.int .i64 d.price] 3))
          have HOX := Lib.hid (HOX.out.trans HST.out)
          have HL1 := Lib.hid (HL1.out.only HST.out)
          have HPA := Lib.hid (PtsAt.only HST.out HPA.out)
          have HPB := Lib.hid (pts_1 v1 d.price)
          refine hK.out _ _ (HKS.out _ HOX.out) (fun hHeld => ?_)
          clear hK K
          try simp only [Act.put, List.getElem_toArray, List.getElem_cons_zero, List.getElem_cons_succ, List.setIfInBounds_toArray, List.set_cons_zero, List.set_cons_succ]
          generalize (v1.alloc (.cells #[.int .i64 d.price] 3)) = v7 at *
          clear HST
          refine wpAnyH_ready (rs := [4]) (by kernel_rfl) (by simp) ?_
          refine AllReadyH.cons rfl (fun K hK => ?_) AllReadyH.nil
          go_simp
          refine (text_any kRound _ _ [d.round] _ HPA.out (by simp) (by decide) (by exact all1 (rg_R64 HR.out.round)) (HG.out.only (HO2.out.trans HOX.out))).mono ?_
          rintro e v8 ⟨rfl, hST⟩
          have HST := Lib.hid hST
          clear hST HPA
          have HOX := Lib.hid (HOX.out.trans HST.out)
          have HL1 := Lib.hid (HL1.out.only HST.out)
          have HPB := Lib.hid (PtsAt.only HST.out HPB.out)
          rw [text_1 HR.out.round]
          refine hK.out _ _ (HKS.out _ HOX.out) (fun hHeld => ?_)
          clear hK K
          try simp only [Act.put, List.getElem_toArray, List.getElem_cons_zero, List.getElem_cons_succ, List.setIfInBounds_toArray, List.set_cons_zero, List.set_cons_succ]
          clear HST
          refine wpAnyH_ready (rs := [8]) (by kernel_rfl) (by simp) ?_
          refine AllReadyH.cons rfl (fun K hK => ?_) AllReadyH.nil
          go_simp
          refine (text_any kPrice _ _ [d.price] _ HPB.out (by simp) (by decide) (by exact all1 (rg_R64 HR.out.price)) (HG.out.only (HO2.out.trans HOX.out))).mono ?_
          rintro e v9 ⟨rfl, hST⟩
          have HST := Lib.hid hST
          clear hST HPB
          have HOX := Lib.hid (HOX.out.trans HST.out)
          have HL1 := Lib.hid (HL1.out.only HST.out)
          rw [text_1 HR.out.price]
          refine hK.out _ _ (HKS.out _ HOX.out) (fun hHeld => ?_)
          clear hK K
          try simp only [Act.put, List.getElem_toArray, List.getElem_cons_zero, List.getElem_cons_succ, List.setIfInBounds_toArray, List.set_cons_zero, List.set_cons_succ]
          clear HST
          refine wpAnyH_ready (rs := [9]) (by kernel_rfl) (by simp) ?_
          refine AllReadyH.cons rfl (fun K hK => ?_) AllReadyH.nil
          go_simp
          have HL1 := Lib.hid (HL1.out.only ((Only.refl (fun _ => False) _).alloc (.cells #[.string (lineB [kRound, decW d.round]), .string (lineB [kPrice, decW d.price])] 9)))
          have HOX := Lib.hid (HOX.out.alloc (.cells #[.string (lineB [kRound, decW d.round]), .string (lineB [kPrice, decW d.price])] 9))
          have HNW := Lib.hid (newsR' v9 [.string (lineB [kRound, decW d.round]), .string (lineB [kPrice, decW d.price])] 9)
          refine hK.out _ _ (HKS.out _ HOX.out) (fun hHeld => ?_)
          clear hK K
          try simp only [Act.put, List.getElem_toArray, List.getElem_cons_zero, List.getElem_cons_succ, List.setIfInBounds_toArray, List.set_cons_zero, List.set_cons_succ]
          
          have hgg : (v9.alloc (.cells #[.string (lineB [kRound, decW d.round]), .string (lineB [kPrice, decW d.price])] 9)) = (v9.alloc (.cells #[.string (lineB [kRound, decW d.round]), .string (lineB [kPrice, decW d.price])] 9)) := rfl
          clear hgg
          refine wpAnyH_ready (rs := [10]) (by kernel_rfl) (by simp) ?_
          refine AllReadyH.cons rfl (fun K hK => ?_) AllReadyH.nil
          have hbs := HOX.out.size
          refine step_append_lies _ rfl _ _ 42 rfl w2.heap.size 9 i0 _ 1 16 Tryz.underlying42 HI.out HI0.out HI1.out HI2.out rfl (by decide) _ _ _ (by rfl) HL1.out ⟨v9.heap.size, 0, none⟩ 2 2 [.string (lineB [kRound, decW d.round]), .string (lineB [kPrice, decW d.price])] (by rfl) rfl HNW.out (one_str2 _ _) (by decide) (by have := HNL.out; unfold maxLen; omega) (by have := HNL.out; omega) hbs _ rfl ?_
          intro g cap w5 hown1 hgrow hat hlt2
          have HOX := Lib.hid (HOX.out.trans' (S := fun _ => False) (T := fun i => (Value.slice a2 l2.length c2s).ownBlock = some i) ((Only.refl _ _).grown hgrow (fun i e _ => e)) (fun i hi e => by have := ownR_ge HL1.out e; omega))
          have HL5 := Lib.hid (show LnsAt w2.heap.size w5 (.slice (some ⟨g, 0, none⟩) (headL d).length cap) (headL d) by
            rw [← HHE.out]
            unfold LnsAt
            rw [srowU_app2, List.length_append]; exact hown1)
          refine hK.out _ _ (HKS.out _ HOX.out) (fun hHeld => ?_)
          clear hK K
          try simp only [Act.put, List.getElem_toArray, List.getElem_cons_zero, List.getElem_cons_succ, List.setIfInBounds_toArray, List.set_cons_zero, List.set_cons_succ]
          refine' wpAnyH_take (i := 11) (v := _) rfl (by kernel_rfl) (by kernel_rfl) (by kernel_rfl) (fun _ _ _ h => h) (Or.inl ⟨by rfl, ?hyz11x11⟩) hHeld ?rz11x11
          case hyz11x11 => (intro w hSw; obtain ⟨s0, s1⟩ := hSw; go_simp; with_reducible rfl)
          simp only [Act.put, List.getElem_toArray, List.getElem_cons_zero, List.getElem_cons_succ, List.setIfInBounds_toArray, List.set_cons_zero, List.set_cons_succ]
          refine wpAnyH_done (by kernel_rfl) ?_ _
          go_wp2_with fail
          go_meet
          have hhl : (headL d).length = l2.length + 2 := by rw [← HHE.out, List.length_append]; rfl
          have HL5 := HL5.out
          rw [hhl] at HL5 ⊢
          exact ⟨_, _, rfl, HL5, HOX.out⟩
      · go_simp
        have HST := Lib.hid ((Only.refl (fun _ => False) wd).alloc (.cells #[.int .i64 d.price] 3))
        have HOX := Lib.hid (HOX.out.trans HST.out)
        have HL1 := Lib.hid (HL1.out.only HST.out)
        have HPB := Lib.hid (pts_1 wd d.price)
        refine hK.out _ _ (HKS.out _ HOX.out) (fun hHeld => ?_)
        clear hK K
        try simp only [Act.put, List.getElem_toArray, List.getElem_cons_zero, List.getElem_cons_succ, List.setIfInBounds_toArray, List.set_cons_zero, List.set_cons_succ]
        generalize (wd.alloc (.cells #[.int .i64 d.price] 3)) = v12 at *
        clear HST
        refine wpAnyH_ready (rs := [3]) (by kernel_rfl) (by simp) ?_
        refine AllReadyH.cons rfl (fun K hK => ?_) AllReadyH.nil
        go_simp
        have HST := Lib.hid ((Only.refl (fun _ => False) v12).alloc (.cells #[.int .i64 d.round] 3))
        have HOX := Lib.hid (HOX.out.trans HST.out)
        have HL1 := Lib.hid (HL1.out.only HST.out)
        have HPB := Lib.hid (PtsAt.only HST.out HPB.out)
        have HPA := Lib.hid (pts_1 v12 d.round)
        refine hK.out _ _ (HKS.out _ HOX.out) (fun hHeld => ?_)
        clear hK K
        try simp only [Act.put, List.getElem_toArray, List.getElem_cons_zero, List.getElem_cons_succ, List.setIfInBounds_toArray, List.set_cons_zero, List.set_cons_succ]
        generalize (v12.alloc (.cells #[.int .i64 d.round] 3)) = v13 at *
        clear HST
        refine wpAnyH_ready (rs := [4]) (by kernel_rfl) (by simp) ?_
        refine AllReadyH.cons rfl (fun K hK => ?_) AllReadyH.nil
        go_simp
        refine (text_any kRound _ _ [d.round] _ HPA.out (by simp) (by decide) (by exact all1 (rg_R64 HR.out.round)) (HG.out.only (HO2.out.trans HOX.out))).mono ?_
        rintro e v14 ⟨rfl, hST⟩
        have HST := Lib.hid hST
        clear hST HPA
        have HOX := Lib.hid (HOX.out.trans HST.out)
        have HL1 := Lib.hid (HL1.out.only HST.out)
        have HPB := Lib.hid (PtsAt.only HST.out HPB.out)
        rw [text_1 HR.out.round]
        refine hK.out _ _ (HKS.out _ HOX.out) (fun hHeld => ?_)
        clear hK K
        try simp only [Act.put, List.getElem_toArray, List.getElem_cons_zero, List.getElem_cons_succ, List.setIfInBounds_toArray, List.set_cons_zero, List.set_cons_succ]
        clear HST
        refine wpAnyH_ready (rs := [8]) (by kernel_rfl) (by simp) ?_
        refine AllReadyH.cons rfl (fun K hK => ?_) AllReadyH.nil
        go_simp
        refine (text_any kPrice _ _ [d.price] _ HPB.out (by simp) (by decide) (by exact all1 (rg_R64 HR.out.price)) (HG.out.only (HO2.out.trans HOX.out))).mono ?_
        rintro e v15 ⟨rfl, hST⟩
        have HST := Lib.hid hST
        clear hST HPB
        have HOX := Lib.hid (HOX.out.trans HST.out)
        have HL1 := Lib.hid (HL1.out.only HST.out)
        rw [text_1 HR.out.price]
        refine hK.out _ _ (HKS.out _ HOX.out) (fun hHeld => ?_)
        clear hK K
        try simp only [Act.put, List.getElem_toArray, List.getElem_cons_zero, List.getElem_cons_succ, List.setIfInBounds_toArray, List.set_cons_zero, List.set_cons_succ]
        clear HST
        refine wpAnyH_ready (rs := [9]) (by kernel_rfl) (by simp) ?_
        refine AllReadyH.cons rfl (fun K hK => ?_) AllReadyH.nil
        go_simp
        have HL1 := Lib.hid (HL1.out.only ((Only.refl (fun _ => False) _).alloc (.cells #[.string (lineB [kRound, decW d.round]), .string (lineB [kPrice, decW d.price])] 9)))
        have HOX := Lib.hid (HOX.out.alloc (.cells #[.string (lineB [kRound, decW d.round]), .string (lineB [kPrice, decW d.price])] 9))
        have HNW := Lib.hid (newsR' v15 [.string (lineB [kRound, decW d.round]), .string (lineB [kPrice, decW d.price])] 9)
        refine hK.out _ _ (HKS.out _ HOX.out) (fun hHeld => ?_)
        clear hK K
        try simp only [Act.put, List.getElem_toArray, List.getElem_cons_zero, List.getElem_cons_succ, List.setIfInBounds_toArray, List.set_cons_zero, List.set_cons_succ]
        
        have hgg : (v15.alloc (.cells #[.string (lineB [kRound, decW d.round]), .string (lineB [kPrice, decW d.price])] 9)) = (v15.alloc (.cells #[.string (lineB [kRound, decW d.round]), .string (lineB [kPrice, decW d.price])] 9)) := rfl
        clear hgg
        refine wpAnyH_ready (rs := [10]) (by kernel_rfl) (by simp) ?_
        refine AllReadyH.cons rfl (fun K hK => ?_) AllReadyH.nil
        have hbs := HOX.out.size
        refine step_append_lies _ rfl _ _ 42 rfl w2.heap.size 9 i0 _ 1 16 Tryz.underlying42 HI.out HI0.out HI1.out HI2.out rfl (by decide) _ _ _ (by rfl) HL1.out ⟨v15.heap.size, 0, none⟩ 2 2 [.string (lineB [kRound, decW d.round]), .string (lineB [kPrice, decW d.price])] (by rfl) rfl HNW.out (one_str2 _ _) (by decide) (by have := HNL.out; unfold maxLen; omega) (by have := HNL.out; omega) hbs _ rfl ?_
        intro g cap w5 hown1 hgrow hat hlt2
        have HOX := Lib.hid (HOX.out.trans' (S := fun _ => False) (T := fun i => (Value.slice a2 l2.length c2s).ownBlock = some i) ((Only.refl _ _).grown hgrow (fun i e _ => e)) (fun i hi e => by have := ownR_ge HL1.out e; omega))
        have HL5 := Lib.hid (show LnsAt w2.heap.size w5 (.slice (some ⟨g, 0, none⟩) (headL d).length cap) (headL d) by
          rw [← HHE.out]
          unfold LnsAt
          rw [srowU_app2, List.length_append]; exact hown1)
        refine hK.out _ _ (HKS.out _ HOX.out) (fun hHeld => ?_)
        clear hK K
        try simp only [Act.put, List.getElem_toArray, List.getElem_cons_zero, List.getElem_cons_succ, List.setIfInBounds_toArray, List.set_cons_zero, List.set_cons_succ]
        refine' wpAnyH_take (i := 11) (v := _) rfl (by kernel_rfl) (by kernel_rfl) (by kernel_rfl) (fun _ _ _ h => h) (Or.inl ⟨by rfl, ?hyz17x11⟩) hHeld ?rz17x11
        case hyz17x11 => (intro w hSw; obtain ⟨s0, s1⟩ := hSw; go_simp; with_reducible rfl)
        simp only [Act.put, List.getElem_toArray, List.getElem_cons_zero, List.getElem_cons_succ, List.setIfInBounds_toArray, List.set_cons_zero, List.set_cons_succ]
        refine wpAnyH_done (by kernel_rfl) ?_ _
        go_wp2_with fail
        go_meet
        have hhl : (headL d).length = l2.length + 2 := by rw [← HHE.out, List.length_append]; rfl
        have HL5 := HL5.out
        rw [hhl] at HL5 ⊢
        exact ⟨_, _, rfl, HL5, HOX.out⟩
    case rest =>
    obtain ⟨a3, c3s, rfl, hlR, hoR⟩ := hcut
    have HL1 := Lib.hid hlR
    have HO1 := Lib.hid hoR
    clear hlR hoR HHE HNL HZ3
    have HZ3 := Lib.hid (row_still HO1.out HZ2.out)
    have HD3 := Lib.hid (HD2.out.only HO1.out (fun _ _ h => h))
    have c6 : wc.cell? ⟨w.heap.size, 6, none⟩ = some (Value.slice at1 d.tiers.length ct) := cell_of_row _ _ 6 _ _ _ HZ3.out
    have hlt0 : w.heap.size < wc.heap.size := (Array.getElem?_eq_some_iff.1 HZ3.out).1
    go_upto_block 1 with (fail)
    go_cut [3] (fun v wx => ∃ a c, v = .slice a (headL d ++ d.tiers.map tierL).length c ∧ LnsAt w2.heap.size wx v (headL d ++ d.tiers.map tierL) ∧ Only (fun _ => False) w2 wx)
    case first =>
      obtain ⟨l0, hl0⟩ : ∃ l, headL d = l := ⟨_, rfl⟩
      rw [hl0] at HL1 ⊢
      have HLE := Lib.hid hl0
      clear hl0 c6
      go_wp2_with fail
      go_loopw [3, 64] (fun v iv wr => ∃ (k : Nat) (ls : List (List ByteArray)) (a : Option Addr) (c : Nat), iv = .int .i64 k ∧ k ≤ d.tiers.length ∧ v = .slice a ls.length c ∧ ls = l0 ++ (d.tiers.take k).map tierL ∧ LnsAt w2.heap.size wr v ls ∧ Only (fun _ => False) w2 wr) (fun _ iv _ => d.tiers.length - (intOf iv).toNat)
      case atStart => exact ⟨0, l0, _, _, rfl, Nat.zero_le _, rfl, by simp, HL1.out, HO1.out⟩
      case round =>
        obtain ⟨k, ls, al, cl, rfl, hk, rfl, hls, hlw, hO4⟩ := hrel
        have HLS := Lib.hid hls
        have HL4 := Lib.hid hlw
        have HO4 := Lib.hid hO4
        have HZ4 := Lib.hid (row_still hO4 HZ2.out)
        have HD4 := Lib.hid (HD2.out.only hO4 (fun _ _ h => h))
        clear hls hlw hO4
        by_cases hlt : k < d.tiers.length
        · have j1 : (k : Int) < d.tiers.length := by omega
          have j2 : 0 ≤ (k : Int) := by omega
          have HNL := Lib.hid (show ls.length ≤ 100 by
            have h1 := HR.out.t12
            have h2 : ((headL d) ++ (d.tiers.take k).map tierL).length ≤ (lnsZ d).length := by
              unfold lnsZ restL
              have h3 : (d.tiers.take k).length ≤ d.tiers.length := by rw [List.length_take]; omega
              simp only [List.length_append, List.length_map] at h3 ⊢
              omega
            have h3 := lines_small HR.out
            rw [HLS.out, ← HLE.out]
            omega)
          have HLN := Lib.hid (show l0 ++ (d.tiers.take (k + 1)).map tierL = ls ++ [tierL d.tiers[k]] by
            rw [take_snoc hlt, List.map_append, HLS.out, List.append_assoc]; rfl)
          have h0 := flat_at (fun x : Int × Int => [Value.int .i64 x.1, Value.int .i64 x.2]) 2 (fun _ => rfl) d.tiers k 0 hlt (by decide)
          have h1 := flat_at (fun x : Int × Int => [Value.int .i64 x.1, Value.int .i64 x.2]) 2 (fun _ => rfl) d.tiers k 1 hlt (by decide)
          obtain ⟨g, cap, hv, hg, hc1, hc2, d0⟩ := own_cell HD4.out.tiers h0
          obtain ⟨g1, cap1, hv1, _, _, _, d1⟩ := own_cell HD4.out.tiers h1
          rw [hv] at hv1
          simp only [Value.slice.injEq, Option.some.injEq, Addr.mk.injEq, and_true, true_and] at hv hv1
          obtain ⟨rfl, rfl⟩ := hv
          obtain ⟨rfl, rfl⟩ := hv1
          obtain ⟨r1, r2, _⟩ := tierOk_at hlt (HR.out.tiers k hlt)
          generalize d.tiers[k] = y at *
          obtain ⟨ya, yb⟩ := y
          change _ = some (Value.int .i64 ya) at d0
          change _ = some (Value.int .i64 yb) at d1
          rw [Nat.add_zero] at d0
          have HRS := Lib.hid (show R64 ya ∧ R64 yb from ⟨rg_R64 r1, rg_R64 r2⟩)
          clear h0 h1
          have hszr : w.heap.size < wr.heap.size := (Array.getElem?_eq_some_iff.1 HZ4.out).1
          have HOa := Lib.hid ((HO4.out.alloc (.cells #[.int .i64 ya, .int .i64 yb] 50)).alloc (.cells #[.int .i64 ya, .int .i64 yb] 3))
          go_wp2_with fail
          have HWO := Lib.hid (show kTier.size ≤ 1000000 by decide)
          refine (text_any kTier _ _ [ya, yb] _ (by exact pts_pair _ _ _ _) (by simp) (by exact HWO.out) (by exact all2 (rg_R64 r1) (rg_R64 r2)) (HG.out.only (HO2.out.trans HOa.out))).mono ?_
          rintro e w3 ⟨rfl, hO3⟩
          rw [text_2 r1 r2]
          have HO3 := Lib.hid (HOa.out.trans hO3)
          obtain ⟨s, hs⟩ : ∃ s, lineB [kTier, decW ya, decW yb] = s := ⟨_, rfl⟩
          rw [hs]
          have HS := Lib.hid hs
          have HL3 := Lib.hid ((HL4.out.only ((((Only.refl (fun _ => False) _).alloc (.cells #[.int .i64 ya, .int .i64 yb] 50)).alloc (.cells #[.int .i64 ya, .int .i64 yb] 3)).trans hO3)).only ((Only.refl (fun _ => False) _).alloc (.cells #[.string s] 9)))
          clear hs hO3
          have hbs := (HO3.out.alloc (.cells #[.string s] 9)).size
          go_wp2_with (first | (refine wpList_append_lies _ rfl _ _ 42 rfl w2.heap.size 9 i0 _ 1 16 Tryz.underlying42 HI.out HI0.out HI1.out HI2.out rfl (by decide) _ _ _ rfl HL3.out ⟨w3.heap.size, 0, none⟩ 1 1 [.string s] rfl rfl (by exact newsR' w3 _ _) (one_str1 _) (by decide) (by have := HNL.out; unfold maxLen; omega) (by have := HNL.out; omega) hbs _ rfl ?_; intro g cap w5 hown1 hgrow hat hlt2))
          have HO5 := Lib.hid ((HO3.out.alloc (.cells #[.string s] 9)).trans' (S := fun _ => False) (T := fun i => (Value.slice al ls.length cl).ownBlock = some i) ((Only.refl _ _).grown hgrow (fun i e _ => e)) (fun i hi e => by have := ownR_ge HL3.out e; omega))
          have HL5 := Lib.hid (show LnsAt w2.heap.size w5 (.slice (some ⟨g, 0, none⟩) (ls ++ [[kTier, decW ya, decW yb]]).length cap) (ls ++ [[kTier, decW ya, decW yb]]) by
            unfold LnsAt
            rw [srowU_app, HS.out, List.length_append]; exact hown1)
          go_roundw
          case rel => exact ⟨k + 1, ls ++ [[kTier, decW ya, decW yb]], _, _, by go_num, hlt, by rw [List.length_append]; rfl, HLN.out.symm, by have h := HL5.out; rw [List.length_append] at h; exact h, HO5.out⟩
          case measure => simp [intOf]; omega
        · obtain rfl : k = d.tiers.length := by omega
          have j1 : ¬ (d.tiers.length : Int) < d.tiers.length := by omega
          have HLX := Lib.hid (show ls = l0 ++ d.tiers.map tierL by rw [HLS.out, List.take_length])
          clear hlt hk
          go_wp2_with fail
          go_meet
          have hle : headL d ++ d.tiers.map tierL = ls := by rw [HLE.out]; exact HLX.out.symm
          rw [hle]
          exact ⟨_, _, rfl, HL4.out, HO4.out⟩
    case rest =>
      obtain ⟨a3, c3s, rfl, hlR, hoR⟩ := hcut
      have HL1 := Lib.hid hlR
      have HO1 := Lib.hid hoR
      clear hlR hoR
      have HZ3 := Lib.hid (row_still HO1.out HZ2.out)
      have HD3 := Lib.hid (HD2.out.only HO1.out (fun _ _ h => h))
      have c7 : wc.cell? ⟨w.heap.size, 7, none⟩ = some (Value.bool d.roll) := cell_of_row _ _ 7 _ _ _ HZ3.out
      have hlt0 : w.heap.size < wc.heap.size := (Array.getElem?_eq_some_iff.1 HZ3.out).1
      have HNL := Lib.hid (show (headL d ++ d.tiers.map tierL).length ≤ 100 by
        have h2 : (headL d ++ d.tiers.map tierL).length ≤ (lnsZ d).length := by
          unfold lnsZ restL
          simp only [List.length_append, List.length_map]
          omega
        have h3 := lines_small HR.out
        omega)
      go_upto_if 79 with (fail)
      go_cut [3] (fun v wx => ∃ a c, v = .slice a (headL d ++ d.tiers.map tierL ++ rollL d.roll).length c ∧ LnsAt w2.heap.size wx v (headL d ++ d.tiers.map tierL ++ rollL d.roll) ∧ Only (fun _ => False) w2 wx)
      case first =>
        obtain ⟨l0, hl0⟩ : ∃ l, headL d ++ d.tiers.map tierL = l := ⟨_, rfl⟩
        rw [hl0] at HL1 HNL ⊢
        have HLE := Lib.hid hl0
        clear hl0
        cases hro : d.roll
        · rw [hro] at c7
          go_wp2_with fail
          go_meet
          rw [hro, HLE.out]
          exact ⟨_, _, by rw [show rollL false = [] from rfl, List.append_nil], by rw [show rollL false = [] from rfl, List.append_nil]; exact HL1.out, HO1.out⟩
        · rw [hro] at c7
          have HS := Lib.hid (show lineB [kRoll] = ⟨#[114, 111, 108, 108]⟩ by apply ba_ext; show lineW [kRoll] = _; rw [lineW_one]; rfl)
          obtain ⟨s, hs⟩ : ∃ s : ByteArray, (⟨#[114, 111, 108, 108]⟩ : ByteArray) = s := ⟨_, rfl⟩
          rw [hs] at HS ⊢
          clear hs
          have HLA := Lib.hid (HL1.out.only ((Only.refl (fun _ => False) _).alloc (.cells #[.string s] 9)))
          have HOA := Lib.hid (HO1.out.alloc (.cells #[.string s] 9))
          have hbs := HOA.out.size
          go_wp2_with (first | (refine wpList_append_lies _ rfl _ _ 42 rfl w2.heap.size 9 i0 _ 1 16 Tryz.underlying42 HI.out HI0.out HI1.out HI2.out rfl (by decide) _ _ _ rfl HLA.out ⟨wc.heap.size, 0, none⟩ 1 1 [.string s] rfl rfl (by exact newsR' wc _ _) (one_str1 _) (by decide) (by have := HNL.out; unfold maxLen; omega) (by have := HNL.out; omega) hbs _ rfl ?_; intro g cap w5 hown1 hgrow hat hlt2))
          have HO5 := Lib.hid (HOA.out.trans' (S := fun _ => False) (T := fun i => (Value.slice a3 l0.length c3s).ownBlock = some i) ((Only.refl _ _).grown hgrow (fun i e _ => e)) (fun i hi e => by have := ownR_ge HLA.out e; omega))
          have HL5 := Lib.hid (show LnsAt w2.heap.size w5 (.slice (some ⟨g, 0, none⟩) (l0.length + 1) cap) (l0 ++ [[kRoll]]) by
            unfold LnsAt
            rw [srowU_app, HS.out, List.length_append]; exact hown1)
          go_meet
          rw [hro, HLE.out]
          exact ⟨_, _, by rw [show rollL true = [[kRoll]] from rfl, List.length_append]; rfl, HL5.out, HO5.out⟩
      case rest =>
        obtain ⟨a3, c3s, rfl, hlR, hoR⟩ := hcut
        have HL1 := Lib.hid hlR
        have HO1 := Lib.hid hoR
        clear hlR hoR
        have HZ3 := Lib.hid (row_still HO1.out HZ2.out)
        have HD3 := Lib.hid (HD2.out.only HO1.out (fun _ _ h => h))
        clear HNL
        have c8 : wc.cell? ⟨w.heap.size, 8, none⟩ = some (Value.slice ap1 d.places.length cp) := cell_of_row _ _ 8 _ _ _ HZ3.out
        have hlt0 : w.heap.size < wc.heap.size := (Array.getElem?_eq_some_iff.1 HZ3.out).1
        go_upto_block 3 with (fail)
        go_cut [3] (fun v wx => ∃ a c, v = .slice a ((headL d ++ d.tiers.map tierL) ++ rollL d.roll ++ d.places.map placeL).length c ∧ LnsAt w2.heap.size wx v ((headL d ++ d.tiers.map tierL) ++ rollL d.roll ++ d.places.map placeL) ∧ Only (fun _ => False) w2 wx)
        case first =>
          obtain ⟨l0, hl0⟩ : ∃ l, (headL d ++ d.tiers.map tierL) ++ rollL d.roll = l := ⟨_, rfl⟩
          rw [hl0] at HL1 ⊢
          have HLE := Lib.hid hl0
          clear hl0 c8
          go_wp2_with fail
          go_loopw [3, 86] (fun v iv wr => ∃ (k : Nat) (ls : List (List ByteArray)) (a : Option Addr) (c : Nat), iv = .int .i64 k ∧ k ≤ d.places.length ∧ v = .slice a ls.length c ∧ ls = l0 ++ (d.places.take k).map placeL ∧ LnsAt w2.heap.size wr v ls ∧ Only (fun _ => False) w2 wr) (fun _ iv _ => d.places.length - (intOf iv).toNat)
          case atStart => exact ⟨0, l0, _, _, rfl, Nat.zero_le _, rfl, by simp, HL1.out, HO1.out⟩
          case round =>
            obtain ⟨k, ls, al, cl, rfl, hk, rfl, hls, hlw, hO4⟩ := hrel
            have HLS := Lib.hid hls
            have HL4 := Lib.hid hlw
            have HO4 := Lib.hid hO4
            have HZ4 := Lib.hid (row_still hO4 HZ2.out)
            have HD4 := Lib.hid (HD2.out.only hO4 (fun _ _ h => h))
            clear hls hlw hO4
            by_cases hlt : k < d.places.length
            · have j1 : (k : Int) < d.places.length := by omega
              have j2 : 0 ≤ (k : Int) := by omega
              have HNL := Lib.hid (show ls.length ≤ 100 by
                have h1 := HR.out.p12
                have h2 : (((headL d ++ d.tiers.map tierL) ++ rollL d.roll) ++ (d.places.take k).map placeL).length ≤ (lnsZ d).length := by
                  unfold lnsZ restL
                  have h3 : (d.places.take k).length ≤ d.places.length := by rw [List.length_take]; omega
                  simp only [List.length_append, List.length_map] at h3 ⊢
                  omega
                have h3 := lines_small HR.out
                rw [HLS.out, ← HLE.out]
                omega)
              have HLN := Lib.hid (show l0 ++ (d.places.take (k + 1)).map placeL = ls ++ [placeL d.places[k]] by
                rw [take_snoc hlt, List.map_append, HLS.out, List.append_assoc]; rfl)
              have h0 := flat_at (fun x : ByteArray × Int => [Value.string x.1, Value.int .i64 x.2]) 2 (fun _ => rfl) d.places k 0 hlt (by decide)
              have h1 := flat_at (fun x : ByteArray × Int => [Value.string x.1, Value.int .i64 x.2]) 2 (fun _ => rfl) d.places k 1 hlt (by decide)
              obtain ⟨g, cap, hv, hg, hc1, hc2, d0⟩ := own_cell HD4.out.places h0
              obtain ⟨g1, cap1, hv1, _, _, _, d1⟩ := own_cell HD4.out.places h1
              rw [hv] at hv1
              simp only [Value.slice.injEq, Option.some.injEq, Addr.mk.injEq, and_true, true_and] at hv hv1
              obtain ⟨rfl, rfl⟩ := hv
              obtain ⟨rfl, rfl⟩ := hv1
              obtain ⟨r0, r1, _⟩ := placeOk_at hlt (HR.out.places k hlt)
              generalize d.places[k] = y at *
              obtain ⟨yn, ya⟩ := y
              change _ = some (Value.string yn) at d0
              change _ = some (Value.int .i64 ya) at d1
              rw [Nat.add_zero] at d0
              change nameB yn = true at r0
              have hns : yn.size ≤ 20 := by have := name_len r0; have e : yn.data.toList.length = yn.size := Array.length_toList; omega
              have i2 : ¬ (9223372036854775807 < 6 + yn.size) := by omega
              have HNS := Lib.hid hns
              clear r0 hns
              have HRS := Lib.hid (show R64 ya from rg_R64 r1)
              clear h0 h1
              have hszr : w.heap.size < wr.heap.size := (Array.getElem?_eq_some_iff.1 HZ4.out).1
              have HOa := Lib.hid ((HO4.out.alloc (.cells #[.string yn, .int .i64 ya] 73)).alloc (.cells #[.int .i64 ya] 3))
              go_wp2_with fail
              have HWO := Lib.hid (show ((⟨#[112, 108, 97, 99, 101, 32]⟩ : ByteArray) ++ yn).size ≤ 1000000 by rw [ByteArray.size_append, show (⟨#[112, 108, 97, 99, 101, 32]⟩ : ByteArray).size = 6 from rfl]; have := HNS.out; omega)
              refine (text_any _ _ _ [ya] _ (by exact pts_one _ _ _) (by simp) (by exact HWO.out) (by exact all1 (rg_R64 r1)) (HG.out.only (HO2.out.trans HOa.out))).mono ?_
              rintro e w3 ⟨rfl, hO3⟩
              rw [text_pl r1]
              have HO3 := Lib.hid (HOa.out.trans hO3)
              obtain ⟨s, hs⟩ : ∃ s, lineB [kPlace, yn, decW ya] = s := ⟨_, rfl⟩
              rw [hs]
              have HS := Lib.hid hs
              have HL3 := Lib.hid ((HL4.out.only ((((Only.refl (fun _ => False) _).alloc (.cells #[.string yn, .int .i64 ya] 73)).alloc (.cells #[.int .i64 ya] 3)).trans hO3)).only ((Only.refl (fun _ => False) _).alloc (.cells #[.string s] 9)))
              clear hs hO3
              have hbs := (HO3.out.alloc (.cells #[.string s] 9)).size
              go_wp2_with (first | (refine wpList_append_lies _ rfl _ _ 42 rfl w2.heap.size 9 i0 _ 1 16 Tryz.underlying42 HI.out HI0.out HI1.out HI2.out rfl (by decide) _ _ _ rfl HL3.out ⟨w3.heap.size, 0, none⟩ 1 1 [.string s] rfl rfl (by exact newsR' w3 _ _) (one_str1 _) (by decide) (by have := HNL.out; unfold maxLen; omega) (by have := HNL.out; omega) hbs _ rfl ?_; intro g cap w5 hown1 hgrow hat hlt2))
              have HO5 := Lib.hid ((HO3.out.alloc (.cells #[.string s] 9)).trans' (S := fun _ => False) (T := fun i => (Value.slice al ls.length cl).ownBlock = some i) ((Only.refl _ _).grown hgrow (fun i e _ => e)) (fun i hi e => by have := ownR_ge HL3.out e; omega))
              have HL5 := Lib.hid (show LnsAt w2.heap.size w5 (.slice (some ⟨g, 0, none⟩) (ls ++ [[kPlace, yn, decW ya]]).length cap) (ls ++ [[kPlace, yn, decW ya]]) by
                unfold LnsAt
                rw [srowU_app, HS.out, List.length_append]; exact hown1)
              go_roundw
              case rel => exact ⟨k + 1, ls ++ [[kPlace, yn, decW ya]], _, _, by go_num, hlt, by rw [List.length_append]; rfl, HLN.out.symm, by have h := HL5.out; rw [List.length_append] at h; exact h, HO5.out⟩
              case measure => simp [intOf]; omega
            · obtain rfl : k = d.places.length := by omega
              have j1 : ¬ (d.places.length : Int) < d.places.length := by omega
              have HLX := Lib.hid (show ls = l0 ++ d.places.map placeL by rw [HLS.out, List.take_length])
              clear hlt hk
              go_wp2_with fail
              go_meet
              have hle : (headL d ++ d.tiers.map tierL) ++ rollL d.roll ++ d.places.map placeL = ls := by rw [HLE.out]; exact HLX.out.symm
              rw [hle]
              exact ⟨_, _, rfl, HL4.out, HO4.out⟩
        case rest =>
          obtain ⟨a3, c3s, rfl, hlR, hoR⟩ := hcut
          have HL1 := Lib.hid hlR
          have HO1 := Lib.hid hoR
          clear hlR hoR
          have HZ3 := Lib.hid (row_still HO1.out HZ2.out)
          have HD3 := Lib.hid (HD2.out.only HO1.out (fun _ _ h => h))
          have c11 : wc.cell? ⟨w.heap.size, 11, none⟩ = some (Value.slice aq1 d.quotas.length cq) := cell_of_row _ _ 11 _ _ _ HZ3.out
          have hlt0 : w.heap.size < wc.heap.size := (Array.getElem?_eq_some_iff.1 HZ3.out).1
          go_upto_block 5 with (fail)
          go_cut [3] (fun v wx => ∃ a c, v = .slice a ((headL d ++ d.tiers.map tierL ++ rollL d.roll) ++ d.places.map placeL ++ d.quotas.map quotaL).length c ∧ LnsAt w2.heap.size wx v ((headL d ++ d.tiers.map tierL ++ rollL d.roll) ++ d.places.map placeL ++ d.quotas.map quotaL) ∧ Only (fun _ => False) w2 wx)
          case first =>
            obtain ⟨l0, hl0⟩ : ∃ l, (headL d ++ d.tiers.map tierL ++ rollL d.roll) ++ d.places.map placeL = l := ⟨_, rfl⟩
            rw [hl0] at HL1 ⊢
            have HLE := Lib.hid hl0
            clear hl0 c11
            go_wp2_with fail
            go_loopw [3, 104] (fun v iv wr => ∃ (k : Nat) (ls : List (List ByteArray)) (a : Option Addr) (c : Nat), iv = .int .i64 k ∧ k ≤ d.quotas.length ∧ v = .slice a ls.length c ∧ ls = l0 ++ (d.quotas.take k).map quotaL ∧ LnsAt w2.heap.size wr v ls ∧ Only (fun _ => False) w2 wr) (fun _ iv _ => d.quotas.length - (intOf iv).toNat)
            case atStart => exact ⟨0, l0, _, _, rfl, Nat.zero_le _, rfl, by simp, HL1.out, HO1.out⟩
            case round =>
              obtain ⟨k, ls, al, cl, rfl, hk, rfl, hls, hlw, hO4⟩ := hrel
              have HLS := Lib.hid hls
              have HL4 := Lib.hid hlw
              have HO4 := Lib.hid hO4
              have HZ4 := Lib.hid (row_still hO4 HZ2.out)
              have HD4 := Lib.hid (HD2.out.only hO4 (fun _ _ h => h))
              clear hls hlw hO4
              by_cases hlt : k < d.quotas.length
              · have j1 : (k : Int) < d.quotas.length := by omega
                have j2 : 0 ≤ (k : Int) := by omega
                have HNL := Lib.hid (show ls.length ≤ 100 by
                  have h1 := HR.out.q12
                  have h2 : (((headL d ++ d.tiers.map tierL ++ rollL d.roll) ++ d.places.map placeL) ++ (d.quotas.take k).map quotaL).length ≤ (lnsZ d).length := by
                    unfold lnsZ restL
                    have h3 : (d.quotas.take k).length ≤ d.quotas.length := by rw [List.length_take]; omega
                    simp only [List.length_append, List.length_map] at h3 ⊢
                    omega
                  have h3 := lines_small HR.out
                  rw [HLS.out, ← HLE.out]
                  omega)
                have HLN := Lib.hid (show l0 ++ (d.quotas.take (k + 1)).map quotaL = ls ++ [quotaL d.quotas[k]] by
                  rw [take_snoc hlt, List.map_append, HLS.out, List.append_assoc]; rfl)
                have h0 := flat_at (fun x : ByteArray × Int × Int => [Value.string x.1, Value.int .i64 x.2.1, Value.int .i64 x.2.2]) 3 (fun _ => rfl) d.quotas k 0 hlt (by decide)
                have h1 := flat_at (fun x : ByteArray × Int × Int => [Value.string x.1, Value.int .i64 x.2.1, Value.int .i64 x.2.2]) 3 (fun _ => rfl) d.quotas k 1 hlt (by decide)
                have h2 := flat_at (fun x : ByteArray × Int × Int => [Value.string x.1, Value.int .i64 x.2.1, Value.int .i64 x.2.2]) 3 (fun _ => rfl) d.quotas k 2 hlt (by decide)
                obtain ⟨g, cap, hv, hg, hc1, hc2, d0⟩ := own_cell HD4.out.quotas h0
                obtain ⟨g1, cap1, hv1, _, _, _, d1⟩ := own_cell HD4.out.quotas h1
                obtain ⟨g2, cap2, hv2, _, _, _, d2⟩ := own_cell HD4.out.quotas h2
                rw [hv] at hv1 hv2
                simp only [Value.slice.injEq, Option.some.injEq, Addr.mk.injEq, and_true, true_and] at hv hv1 hv2
                obtain ⟨rfl, rfl⟩ := hv
                obtain ⟨rfl, rfl⟩ := hv1
                obtain ⟨rfl, rfl⟩ := hv2
                obtain ⟨r0, r1, r2, _⟩ := quotaOk_at hlt (HR.out.quotas k hlt)
                generalize d.quotas[k] = y at *
                obtain ⟨yn, ya, yb⟩ := y
                change _ = some (Value.string yn) at d0
                change _ = some (Value.int .i64 ya) at d1
                change _ = some (Value.int .i64 yb) at d2
                rw [Nat.add_zero] at d0
                change nameB yn = true at r0
                have hns : yn.size ≤ 20 := by have := name_len r0; have e : yn.data.toList.length = yn.size := Array.length_toList; omega
                have i2 : ¬ (9223372036854775807 < 6 + yn.size) := by omega
                have HNS := Lib.hid hns
                clear r0 hns
                have HRS := Lib.hid (show R64 ya ∧ R64 yb from ⟨rg_R64 r1, rg_R64 r2⟩)
                clear h0 h1 h2
                have hszr : w.heap.size < wr.heap.size := (Array.getElem?_eq_some_iff.1 HZ4.out).1
                have HOa := Lib.hid ((HO4.out.alloc (.cells #[.string yn, .int .i64 ya, .int .i64 yb] 75)).alloc (.cells #[.int .i64 ya, .int .i64 yb] 3))
                go_wp2_with fail
                have HWO := Lib.hid (show ((⟨#[113, 117, 111, 116, 97, 32]⟩ : ByteArray) ++ yn).size ≤ 1000000 by rw [ByteArray.size_append, show (⟨#[113, 117, 111, 116, 97, 32]⟩ : ByteArray).size = 6 from rfl]; have := HNS.out; omega)
                refine (text_any _ _ _ [ya, yb] _ (by exact pts_pair _ _ _ _) (by simp) (by exact HWO.out) (by exact all2 (rg_R64 r1) (rg_R64 r2)) (HG.out.only (HO2.out.trans HOa.out))).mono ?_
                rintro e w3 ⟨rfl, hO3⟩
                rw [text_qu r1 r2]
                have HO3 := Lib.hid (HOa.out.trans hO3)
                obtain ⟨s, hs⟩ : ∃ s, lineB [kQuota, yn, decW ya, decW yb] = s := ⟨_, rfl⟩
                rw [hs]
                have HS := Lib.hid hs
                have HL3 := Lib.hid ((HL4.out.only ((((Only.refl (fun _ => False) _).alloc (.cells #[.string yn, .int .i64 ya, .int .i64 yb] 75)).alloc (.cells #[.int .i64 ya, .int .i64 yb] 3)).trans hO3)).only ((Only.refl (fun _ => False) _).alloc (.cells #[.string s] 9)))
                clear hs hO3
                have hbs := (HO3.out.alloc (.cells #[.string s] 9)).size
                go_wp2_with (first | (refine wpList_append_lies _ rfl _ _ 42 rfl w2.heap.size 9 i0 _ 1 16 Tryz.underlying42 HI.out HI0.out HI1.out HI2.out rfl (by decide) _ _ _ rfl HL3.out ⟨w3.heap.size, 0, none⟩ 1 1 [.string s] rfl rfl (by exact newsR' w3 _ _) (one_str1 _) (by decide) (by have := HNL.out; unfold maxLen; omega) (by have := HNL.out; omega) hbs _ rfl ?_; intro g cap w5 hown1 hgrow hat hlt2))
                have HO5 := Lib.hid ((HO3.out.alloc (.cells #[.string s] 9)).trans' (S := fun _ => False) (T := fun i => (Value.slice al ls.length cl).ownBlock = some i) ((Only.refl _ _).grown hgrow (fun i e _ => e)) (fun i hi e => by have := ownR_ge HL3.out e; omega))
                have HL5 := Lib.hid (show LnsAt w2.heap.size w5 (.slice (some ⟨g, 0, none⟩) (ls ++ [[kQuota, yn, decW ya, decW yb]]).length cap) (ls ++ [[kQuota, yn, decW ya, decW yb]]) by
                  unfold LnsAt
                  rw [srowU_app, HS.out, List.length_append]; exact hown1)
                go_roundw
                case rel => exact ⟨k + 1, ls ++ [[kQuota, yn, decW ya, decW yb]], _, _, by go_num, hlt, by rw [List.length_append]; rfl, HLN.out.symm, by have h := HL5.out; rw [List.length_append] at h; exact h, HO5.out⟩
                case measure => simp [intOf]; omega
              · obtain rfl : k = d.quotas.length := by omega
                have j1 : ¬ (d.quotas.length : Int) < d.quotas.length := by omega
                have HLX := Lib.hid (show ls = l0 ++ d.quotas.map quotaL by rw [HLS.out, List.take_length])
                clear hlt hk
                go_wp2_with fail
                go_meet
                have hle : (headL d ++ d.tiers.map tierL ++ rollL d.roll) ++ d.places.map placeL ++ d.quotas.map quotaL = ls := by rw [HLE.out]; exact HLX.out.symm
                rw [hle]
                exact ⟨_, _, rfl, HL4.out, HO4.out⟩
          case rest =>
            obtain ⟨a3, c3s, rfl, hlR, hoR⟩ := hcut
            have HL1 := Lib.hid hlR
            have HO1 := Lib.hid hoR
            clear hlR hoR
            have HZ3 := Lib.hid (row_still HO1.out HZ2.out)
            have HD3 := Lib.hid (HD2.out.only HO1.out (fun _ _ h => h))
            have c12 : wc.cell? ⟨w.heap.size, 12, none⟩ = some (Value.slice ab1 d.barred.length cb) := cell_of_row _ _ 12 _ _ _ HZ3.out
            have hlt0 : w.heap.size < wc.heap.size := (Array.getElem?_eq_some_iff.1 HZ3.out).1
            go_upto_block 7 with (fail)
            go_cut [3] (fun v wx => ∃ a c, v = .slice a (((headL d ++ d.tiers.map tierL ++ rollL d.roll) ++ d.places.map placeL) ++ d.quotas.map quotaL ++ d.barred.map barL).length c ∧ LnsAt w2.heap.size wx v (((headL d ++ d.tiers.map tierL ++ rollL d.roll) ++ d.places.map placeL) ++ d.quotas.map quotaL ++ d.barred.map barL) ∧ Only (fun _ => False) w2 wx)
            case first =>
              obtain ⟨l0, hl0⟩ : ∃ l, ((headL d ++ d.tiers.map tierL ++ rollL d.roll) ++ d.places.map placeL) ++ d.quotas.map quotaL = l := ⟨_, rfl⟩
              rw [hl0] at HL1 ⊢
              have HLE := Lib.hid hl0
              clear hl0 c12
              go_wp2_with fail
              go_loopw [3, 124] (fun v iv wr => ∃ (k : Nat) (ls : List (List ByteArray)) (a : Option Addr) (c : Nat), iv = .int .i64 k ∧ k ≤ d.barred.length ∧ v = .slice a ls.length c ∧ ls = l0 ++ (d.barred.take k).map barL ∧ LnsAt w2.heap.size wr v ls ∧ Only (fun _ => False) w2 wr) (fun _ iv _ => d.barred.length - (intOf iv).toNat)
              case atStart => exact ⟨0, l0, _, _, rfl, Nat.zero_le _, rfl, by simp, HL1.out, HO1.out⟩
              case round =>
                obtain ⟨k, ls, al, cl, rfl, hk, rfl, hls, hlw, hO4⟩ := hrel
                have HLS := Lib.hid hls
                have HL4 := Lib.hid hlw
                have HO4 := Lib.hid hO4
                have HZ4 := Lib.hid (row_still hO4 HZ2.out)
                have HD4 := Lib.hid (HD2.out.only hO4 (fun _ _ h => h))
                clear hls hlw hO4
                by_cases hlt : k < d.barred.length
                · have j1 : (k : Int) < d.barred.length := by omega
                  have j2 : 0 ≤ (k : Int) := by omega
                  have HNL := Lib.hid (show ls.length ≤ 100 by
                    have h1 := HR.out.b40
                    have h2 : ((((headL d ++ d.tiers.map tierL ++ rollL d.roll) ++ d.places.map placeL) ++ d.quotas.map quotaL) ++ (d.barred.take k).map barL).length ≤ (lnsZ d).length := by
                      unfold lnsZ restL
                      have h3 : (d.barred.take k).length ≤ d.barred.length := by rw [List.length_take]; omega
                      simp only [List.length_append, List.length_map] at h3 ⊢
                      omega
                    have h3 := lines_small HR.out
                    rw [HLS.out, ← HLE.out]
                    omega)
                  have HLN := Lib.hid (show l0 ++ (d.barred.take (k + 1)).map barL = ls ++ [barL d.barred[k]] by
                    rw [take_snoc hlt, List.map_append, HLS.out, List.append_assoc]; rfl)
                  have h0 : (irow d.barred)[k]? = some (.int .i64 d.barred[k]) := by unfold irow; simp [hlt]
                  obtain ⟨g, cap, hv, hg, hc1, hc2, d0⟩ := own_cell HD4.out.bars h0
                  simp only [Value.slice.injEq, true_and] at hv
                  obtain ⟨rfl, rfl⟩ := hv
                  have r1 := HR.out.barR _ (List.getElem_mem hlt)
                  generalize d.barred[k] = ya at *
                  have HRS := Lib.hid (show R64 ya from rg_R64 r1)
                  clear h0
                  have hszr : w.heap.size < wr.heap.size := (Array.getElem?_eq_some_iff.1 HZ4.out).1
                  have HOa := Lib.hid ((HO4.out).alloc (.cells #[.int .i64 ya] 3))
                  go_wp2_with fail
                  have HWO := Lib.hid (show kBar.size ≤ 1000000 by decide)
                  refine (text_any kBar _ _ [ya] _ (by exact pts_1 _ _) (by simp) (by exact HWO.out) (by exact all1 (rg_R64 r1)) (HG.out.only (HO2.out.trans HOa.out))).mono ?_
                  rintro e w3 ⟨rfl, hO3⟩
                  rw [text_1 r1]
                  have HO3 := Lib.hid (HOa.out.trans hO3)
                  obtain ⟨s, hs⟩ : ∃ s, lineB [kBar, decW ya] = s := ⟨_, rfl⟩
                  rw [hs]
                  have HS := Lib.hid hs
                  have HL3 := Lib.hid ((HL4.out.only ((((Only.refl (fun _ => False) _)).alloc (.cells #[.int .i64 ya] 3)).trans hO3)).only ((Only.refl (fun _ => False) _).alloc (.cells #[.string s] 9)))
                  clear hs hO3
                  have hbs := (HO3.out.alloc (.cells #[.string s] 9)).size
                  go_wp2_with (first | (refine wpList_append_lies _ rfl _ _ 42 rfl w2.heap.size 9 i0 _ 1 16 Tryz.underlying42 HI.out HI0.out HI1.out HI2.out rfl (by decide) _ _ _ rfl HL3.out ⟨w3.heap.size, 0, none⟩ 1 1 [.string s] rfl rfl (by exact newsR' w3 _ _) (one_str1 _) (by decide) (by have := HNL.out; unfold maxLen; omega) (by have := HNL.out; omega) hbs _ rfl ?_; intro g cap w5 hown1 hgrow hat hlt2))
                  have HO5 := Lib.hid ((HO3.out.alloc (.cells #[.string s] 9)).trans' (S := fun _ => False) (T := fun i => (Value.slice al ls.length cl).ownBlock = some i) ((Only.refl _ _).grown hgrow (fun i e _ => e)) (fun i hi e => by have := ownR_ge HL3.out e; omega))
                  have HL5 := Lib.hid (show LnsAt w2.heap.size w5 (.slice (some ⟨g, 0, none⟩) (ls ++ [[kBar, decW ya]]).length cap) (ls ++ [[kBar, decW ya]]) by
                    unfold LnsAt
                    rw [srowU_app, HS.out, List.length_append]; exact hown1)
                  go_roundw
                  case rel => exact ⟨k + 1, ls ++ [[kBar, decW ya]], _, _, by go_num, hlt, by rw [List.length_append]; rfl, HLN.out.symm, by have h := HL5.out; rw [List.length_append] at h; exact h, HO5.out⟩
                  case measure => simp [intOf]; omega
                · obtain rfl : k = d.barred.length := by omega
                  have j1 : ¬ (d.barred.length : Int) < d.barred.length := by omega
                  have HLX := Lib.hid (show ls = l0 ++ d.barred.map barL by rw [HLS.out, List.take_length])
                  clear hlt hk
                  go_wp2_with fail
                  go_meet
                  have hle : ((headL d ++ d.tiers.map tierL ++ rollL d.roll) ++ d.places.map placeL) ++ d.quotas.map quotaL ++ d.barred.map barL = ls := by rw [HLE.out]; exact HLX.out.symm
                  rw [hle]
                  exact ⟨_, _, rfl, HL4.out, HO4.out⟩
            case rest =>
              obtain ⟨a3, c3s, rfl, hlR, hoR⟩ := hcut
              have HL1 := Lib.hid hlR
              have HO1 := Lib.hid hoR
              clear hlR hoR
              have HZ3 := Lib.hid (row_still HO1.out HZ2.out)
              have HD3 := Lib.hid (HD2.out.only HO1.out (fun _ _ h => h))
              clear HD3 HZ3
              have hfull : ((((headL d ++ d.tiers.map tierL) ++ rollL d.roll) ++ d.places.map placeL) ++ d.quotas.map quotaL) ++ d.barred.map barL = lnsZ d := by unfold lnsZ restL; simp only [List.append_assoc]
              rw [hfull] at HL1 ⊢
              have hlen5 : 4 ≤ (lnsZ d).length := by
                unfold lnsZ headL
                have : (kindL d).length = 1 := by
                  unfold kindL
                  rcases owns_k HR.out.owns with hk | hk | hk
                  · rw [if_pos hk]; rfl
                  · rw [if_neg (by rw [hk]; decide), if_pos hk]; rfl
                  · rw [if_neg (by rw [hk]; decide), if_neg (by rw [hk]; decide), if_pos hk]; rfl
                simp only [List.length_append, List.length_cons, List.length_nil, this]
                omega
              obtain ⟨g, cap, hv, hg, hc1, hcx⟩ := lns_cell HL1.out (j := 0) (by omega)
              clear hcx
              simp only [Value.slice.injEq, true_and] at hv
              obtain ⟨rfl, rfl⟩ := hv
              have hjl := join_lines (ls := lnsZ d) (fun h => by rw [h] at hlen5; simp at hlen5)
              have hwl := right_size HR.out
              have hj2 : (Lib.join (((lnsZ d).map lineB).map (·.data.toList)) [10]).length + 1 = (writeB d).size := by
                have := congrArg List.length hjl
                rw [List.length_append] at this
                rw [show (writeB d).size = (flatL (lnsZ d)).length by unfold writeB writeL; simp [ByteArray.size], ← this]
                rfl
              have hJ := sjoin_many g 0 c3s ((lnsZ d).map lineB) ⟨#[10]⟩ wc (fun j x hx => by
                rw [List.getElem?_map] at hx
                cases hj : (lnsZ d)[j]? with
                | none => rw [hj] at hx; cases hx
                | some y =>
                  rw [hj] at hx
                  have hx := Option.some.inj hx
                  have hlt := (List.getElem?_eq_some_iff.1 hj).1
                  obtain ⟨g', cap', hv', _, _, hcell⟩ := lns_cell HL1.out (j := j) hlt
                  simp only [Value.slice.injEq, Option.some.injEq, Addr.mk.injEq, and_true, true_and] at hv'
                  obtain ⟨rfl, rfl⟩ := hv'
                  rw [Nat.zero_add, hcell, ← hx]
                  have : (lnsZ d)[j] = y := (List.getElem?_eq_some_iff.1 hj).2
                  rw [this]) hg (by rw [List.length_map]; omega) (by rw [List.length_map]; have := lines_small HR.out; omega) (by rw [List.length_map]; exact hc1) (by
                have : (⟨#[10]⟩ : ByteArray).data.toList = [10] := rfl
                rw [this]
                omega)
              rw [List.length_map] at hJ
              have HJ := Lib.hid hJ
              have HE := Lib.hid (show (⟨(Lib.join (((lnsZ d).map lineB).map (·.data.toList)) (⟨#[10]⟩ : ByteArray).data.toList).toArray⟩ : ByteArray) ++ ⟨#[10]⟩ = writeB d by
                apply ba_ext
                rw [app_data]
                show Lib.join _ [10] ++ [10] = writeL d
                exact hjl)
              have hsz : (⟨(Lib.join (((lnsZ d).map lineB).map (·.data.toList)) (⟨#[10]⟩ : ByteArray).data.toList).toArray⟩ : ByteArray).size + 1 = (writeB d).size := by
                rw [← hj2]
                simp [ByteArray.size]
              generalize (⟨(Lib.join (((lnsZ d).map lineB).map (·.data.toList)) (⟨#[10]⟩ : ByteArray).data.toList).toArray⟩ : ByteArray) = s at *
              have i2 : ¬ (9223372036854775807 < s.size + 1) := by omega
              clear hJ hj2 hjl hwl hlen5 hfull hc1 hsz
              go_wp2_with fail
              refine HJ.out.mono ?_
              rintro e w6 ⟨rfl, hb6⟩
              have HO6 := Lib.hid (HO1.out.trans (Only.ofBelow hb6 _))
              go_wp2_with fail
              go_ret
              rw [← HE.out]
              exact ⟨rfl, HO2.out.trans HO6.out⟩
theorem print_any (d : Dr) (vt vp vq vb : Value) (base : Nat) (w : World) (hd : DrOwn base w d vt vp vq vb) (hG : GlobU w) (hbig : d.tiers.length ≤ 1000000 ∧ d.places.length ≤ 1000000 ∧ d.quotas.length ≤ 1000000 ∧ d.barred.length ≤ 1000000) :
    Calls Tryz.prog 11 #[.agg (drCells d vt vp vq vb)] w fun e w' => e = .returned (.string (printZ d)) ∧ Only (fun _ => False) w w' := by
  cases h : rightZ d with
  | false => rw [print_no2 d h]; exact print_false d vt vp vq vb base w hd h hbig
  | true =>
    rw [show printZ d = writeB d by unfold printZ; rw [if_pos h]]
    exact print_true d vt vp vq vb base w hd (right_iff.1 h) hG
end Go.Proofs.YteikkpiginfbkaaGreatDoor

namespace Go.Proofs.YteikkpiginfbkaaGreatDoor
open Go.RowKit

end Go.Proofs.YteikkpiginfbkaaGreatDoor

namespace Go.Proofs.YteikkpiginfbkaaGreatDoor
open Go.RowKit

def arrB (l : List UInt8) : ByteArray := ⟨l.toArray⟩
/-- The pieces of a text between bytes c. -/
def wordsC (c : UInt8) (s : ByteArray) : List ByteArray := (cutC c s.data.toList).map arrB
/-- How far cutting has come. -/
structure CutAt (c : UInt8) (s : ByteArray) (k f : Nat) (L : List (List UInt8)) : Prop where
  free : ∀ l ∈ L, noC c l
  le : f ≤ k
  flat : s.data.toList.take f = L.flatMap (· ++ [c])
  last : noC c ((s.data.toList.take k).drop f)
  few : L.length ≤ f
theorem CutAt.start (c : UInt8) (s : ByteArray) : CutAt c s 0 0 [] := ⟨(fun l h => (by cases h)), Nat.le_refl _, rfl, (fun b h => (by simp at h)), Nat.le_refl _⟩
theorem drop_take_snoc {s : ByteArray} {k f : Nat} (hf : f ≤ k) (hk : k < s.data.toList.length) : (s.data.toList.take (k + 1)).drop f = (s.data.toList.take k).drop f ++ [s.data.toList[k]] := by
  rw [take_snoc hk, List.drop_append_of_le_length (by rw [List.length_take]; omega)]
theorem CutAt.step {c : UInt8} {s : ByteArray} {k f : Nat} {L : List (List UInt8)} (h : CutAt c s k f L) (hk : k < s.data.toList.length) (hc : s.data.toList[k] ≠ c) : CutAt c s (k + 1) f L := by
  refine ⟨h.free, by have := h.le; omega, h.flat, ?_, h.few⟩
  rw [drop_take_snoc h.le hk]
  intro b hb
  rcases List.mem_append.1 hb with hb | hb
  · exact h.last b hb
  · rw [List.mem_singleton.1 hb]; exact hc
theorem take_parts {l : List UInt8} {k f : Nat} (hf : f ≤ k) : l.take k = l.take f ++ (l.take k).drop f := by
  have e : (l.take k).take f = l.take f := by rw [List.take_take, Nat.min_eq_left hf]
  rw [← e, List.take_append_drop]
theorem CutAt.cut {c : UInt8} {s : ByteArray} {k f : Nat} {L : List (List UInt8)} (h : CutAt c s k f L) (hk : k < s.data.toList.length) (hc : s.data.toList[k] = c) : CutAt c s (k + 1) (k + 1) (L ++ [(s.data.toList.take k).drop f]) := by
  refine ⟨fun l hl => ?_, Nat.le_refl _, ?_, fun b hb => by simp at hb, by rw [List.length_append, List.length_singleton]; have := h.few; have := h.le; omega⟩
  · rcases List.mem_append.1 hl with hl | hl
    · exact h.free l hl
    · rw [List.mem_singleton.1 hl]; exact h.last
  · have h1 := take_parts (l := s.data.toList) h.le
    rw [h.flat] at h1
    generalize (s.data.toList.take k).drop f = p at *
    rw [take_snoc hk, h1, hc]
    simp
theorem CutAt.done {c : UInt8} {s : ByteArray} {f : Nat} {L : List (List UInt8)} (h : CutAt c s s.size f L) : wordsC c s = (L ++ [(s.data.toList.take s.size).drop f]).map arrB := by
  have e : s.data.toList.length = s.size := Array.length_toList
  unfold wordsC
  congr 1
  have h1 := take_parts (l := s.data.toList) h.le
  rw [h.flat] at h1
  have h2 := h.last
  generalize (s.data.toList.take s.size).drop f = p at *
  rw [take_all (by omega)] at h1
  rw [h1]
  exact cutC_flat h.free h2
end Go.Proofs.YteikkpiginfbkaaGreatDoor

namespace Go.Proofs.YteikkpiginfbkaaGreatDoor
open Go.RowKit

end Go.Proofs.YteikkpiginfbkaaGreatDoor

namespace Go.Proofs.YteikkpiginfbkaaGreatDoor
open Go.RowKit

theorem lit_eq (s : ByteArray) (l : List UInt8) (b : Bool) (h : decide (s = arrB l) = b) : (s.toList == l) = b := by
  rw [← h, Bool.eq_iff_iff, beq_iff_eq, decide_eq_true_eq, ByteArray.toList_eq]
  exact ⟨fun e => ba_ext e, fun e => by rw [e]; rfl⟩
end Go.Proofs.YteikkpiginfbkaaGreatDoor

namespace Go.Proofs.YteikkpiginfbkaaGreatDoor
open Go.RowKit

def stCells (t : St) (vt vp vq vb : Value) : Array Value :=
  #[.string t.d.name, .int .i64 t.d.kind, .int .i64 t.d.round, .int .i64 t.d.price, .int .i64 t.d.pool, .int .i64 t.d.pick, vt, .bool t.d.roll, vp, .int .i64 t.d.cls, .int .i64 t.d.size, vq, vb, .int .i64 t.lines, .bool t.rolled, .bool t.barred]
/-- The reference's state in a block of its own, and its lists. -/
structure StAt (base : Nat) (W : World) (B : Nat) (t : St) (vt vp vq vb : Value) : Prop where
  blk : W.heap[B]? = some (.cells (stCells t vt vp vq vb) 130 (0, 0))
  tiers : W.ownsRow base 50 2 vt t.d.tiers.length (trow t.d.tiers)
  places : W.ownsRow base 73 2 vp t.d.places.length (prow t.d.places)
  quotas : W.ownsRow base 75 3 vq t.d.quotas.length (qrow t.d.quotas)
  bars : W.ownsRow base 3 1 vb t.d.barred.length (irow t.d.barred)
theorem StAt.still {base B : Nat} {w w' : World} {t : St} {vt vp vq vb : Value} (h : StAt base w B t vt vp vq vb) (hO : Only (fun _ => False) w w') : StAt base w' B t vt vp vq vb :=
  ⟨row_still hO h.blk, hO.owns h.tiers (fun _ _ h => h), hO.owns h.places (fun _ _ h => h), hO.owns h.quotas (fun _ _ h => h), hO.owns h.bars (fun _ _ h => h)⟩
theorem StAt.lt {base B : Nat} {w : World} {t : St} {vt vp vq vb : Value} (h : StAt base w B t vt vp vq vb) : B < w.heap.size := (Array.getElem?_eq_some_iff.1 h.blk).1
theorem StAt.cell {base B : Nat} {w : World} {t : St} {vt vp vq vb : Value} (h : StAt base w B t vt vp vq vb) (j : Nat) {v : Value} (hv : (stCells t vt vp vq vb)[j]? = some v) : w.cell? ⟨B, j, none⟩ = some v := (cell_of_row _ _ j _ _ _ h.blk).trans hv
theorem StAt.frz {base B : Nat} {w : World} {t : St} {vt vp vq vb : Value} (h : StAt base w B t vt vp vq vb) (j : Nat) : w.frozen? ⟨B, j, none⟩ = false := frozen_of_row _ _ _ _ _ h.blk
theorem StAt.set {base B : Nat} {w : World} {t : St} {vt vp vq vb : Value} (h : StAt base w B t vt vp vq vb) {t' : St} (j : Nat) (v : Value)
    (he : (stCells t vt vp vq vb).setIfInBounds j v = stCells t' vt vp vq vb) (e1 : t'.d.tiers = t.d.tiers) (e2 : t'.d.places = t.d.places) (e3 : t'.d.quotas = t.d.quotas) (e4 : t'.d.barred = t.d.barred) :
    StAt base (w.setCell ⟨B, j, none⟩ v) B t' vt vp vq vb := by
  refine ⟨?_, ?_, ?_, ?_, ?_⟩
  · rw [← he]; exact heap_setCell_same w B j _ _ _ h.blk
  · rw [e1]; exact set_own h.tiers (ownR_blk h.tiers h.blk (by decide))
  · rw [e2]; exact set_own h.places (ownR_blk h.places h.blk (by decide))
  · rw [e3]; exact set_own h.quotas (ownR_blk h.quotas h.blk (by decide))
  · rw [e4]; exact set_own h.bars (ownR_blk h.bars h.blk (by decide))
end Go.Proofs.YteikkpiginfbkaaGreatDoor

namespace Go.Proofs.YteikkpiginfbkaaGreatDoor
open Go.RowKit

theorem StAt.tierBack {base B : Nat} {w w1 : World} {t : St} {vt vp vq vb v : Value} {x : Int × Int} (h : StAt base w B t vt vp vq vb) (hg : w.grownBy w1 vt.ownBlock)
    (ho : w1.ownsRow base 50 2 v (t.d.tiers.length + 1) (trow t.d.tiers ++ [.int .i64 x.1, .int .i64 x.2])) :
    StAt base (w1.setCell ⟨B, 6, none⟩ v) B { t with d := { t.d with tiers := t.d.tiers ++ [x] } } v vp vq vb := by
  have hO := (Only.refl (fun k => vt.ownBlock = some k) w).grown hg (fun k e _ => e)
  have hb : w1.heap[B]? = _ := (hO.block B h.lt (ownR_blk h.tiers h.blk (by decide))).trans h.blk
  have hv : w1.ownsRow base 50 2 v (t.d.tiers ++ [x]).length (trow (t.d.tiers ++ [x])) := by rw [trow_app, List.length_append]; exact ho
  exact ⟨heap_setCell_same w1 B 6 _ _ v hb, set_own hv (ownR_blk hv hb (by decide)),
    set_own (hO.owns h.places (fun g hg e => ownR_ne h.places h.tiers (by decide) g hg e)) (by have := ownR_blk h.places h.blk (by decide); exact this),
    set_own (hO.owns h.quotas (fun g hg e => ownR_ne h.quotas h.tiers (by decide) g hg e)) (by have := ownR_blk h.quotas h.blk (by decide); exact this),
    set_own (hO.owns h.bars (fun g hg e => ownR_ne h.bars h.tiers (by decide) g hg e)) (by have := ownR_blk h.bars h.blk (by decide); exact this)⟩
theorem StAt.placeBack {base B : Nat} {w w1 : World} {t : St} {vt vp vq vb v : Value} {x : ByteArray × Int} (h : StAt base w B t vt vp vq vb) (hg : w.grownBy w1 vp.ownBlock)
    (ho : w1.ownsRow base 73 2 v (t.d.places.length + 1) (prow t.d.places ++ [.string x.1, .int .i64 x.2])) :
    StAt base (w1.setCell ⟨B, 8, none⟩ v) B { t with d := { t.d with places := t.d.places ++ [x] } } vt v vq vb := by
  have hO := (Only.refl (fun k => vp.ownBlock = some k) w).grown hg (fun k e _ => e)
  have hb : w1.heap[B]? = _ := (hO.block B h.lt (ownR_blk h.places h.blk (by decide))).trans h.blk
  have hv : w1.ownsRow base 73 2 v (t.d.places ++ [x]).length (prow (t.d.places ++ [x])) := by rw [prow_app, List.length_append]; exact ho
  exact ⟨heap_setCell_same w1 B 8 _ _ v hb,
    set_own (hO.owns h.tiers (fun g hg e => ownR_ne h.tiers h.places (by decide) g hg e)) (by have := ownR_blk h.tiers h.blk (by decide); exact this), set_own hv (ownR_blk hv hb (by decide)),
    set_own (hO.owns h.quotas (fun g hg e => ownR_ne h.quotas h.places (by decide) g hg e)) (by have := ownR_blk h.quotas h.blk (by decide); exact this),
    set_own (hO.owns h.bars (fun g hg e => ownR_ne h.bars h.places (by decide) g hg e)) (by have := ownR_blk h.bars h.blk (by decide); exact this)⟩
theorem StAt.quotaBack {base B : Nat} {w w1 : World} {t : St} {vt vp vq vb v : Value} {x : ByteArray × Int × Int} (h : StAt base w B t vt vp vq vb) (hg : w.grownBy w1 vq.ownBlock)
    (ho : w1.ownsRow base 75 3 v (t.d.quotas.length + 1) (qrow t.d.quotas ++ [.string x.1, .int .i64 x.2.1, .int .i64 x.2.2])) :
    StAt base (w1.setCell ⟨B, 11, none⟩ v) B { t with d := { t.d with quotas := t.d.quotas ++ [x] } } vt vp v vb := by
  have hO := (Only.refl (fun k => vq.ownBlock = some k) w).grown hg (fun k e _ => e)
  have hb : w1.heap[B]? = _ := (hO.block B h.lt (ownR_blk h.quotas h.blk (by decide))).trans h.blk
  have hv : w1.ownsRow base 75 3 v (t.d.quotas ++ [x]).length (qrow (t.d.quotas ++ [x])) := by rw [qrow_app, List.length_append]; exact ho
  exact ⟨heap_setCell_same w1 B 11 _ _ v hb,
    set_own (hO.owns h.tiers (fun g hg e => ownR_ne h.tiers h.quotas (by decide) g hg e)) (by have := ownR_blk h.tiers h.blk (by decide); exact this),
    set_own (hO.owns h.places (fun g hg e => ownR_ne h.places h.quotas (by decide) g hg e)) (by have := ownR_blk h.places h.blk (by decide); exact this), set_own hv (ownR_blk hv hb (by decide)),
    set_own (hO.owns h.bars (fun g hg e => ownR_ne h.bars h.quotas (by decide) g hg e)) (by have := ownR_blk h.bars h.blk (by decide); exact this)⟩
theorem StAt.barBack {base B : Nat} {w w1 : World} {t : St} {vt vp vq vb v : Value} {x : Int} (h : StAt base w B t vt vp vq vb) (hg : w.grownBy w1 vb.ownBlock)
    (ho : w1.ownsRow base 3 1 v (t.d.barred.length + 1) (irow t.d.barred ++ [.int .i64 x])) :
    StAt base (w1.setCell ⟨B, 12, none⟩ v) B { t with d := { t.d with barred := t.d.barred ++ [x] } } vt vp vq v := by
  have hO := (Only.refl (fun k => vb.ownBlock = some k) w).grown hg (fun k e _ => e)
  have hb : w1.heap[B]? = _ := (hO.block B h.lt (ownR_blk h.bars h.blk (by decide))).trans h.blk
  have hv : w1.ownsRow base 3 1 v (t.d.barred ++ [x]).length (irow (t.d.barred ++ [x])) := by rw [irow_app, List.length_append]; exact ho
  exact ⟨heap_setCell_same w1 B 12 _ _ v hb,
    set_own (hO.owns h.tiers (fun g hg e => ownR_ne h.tiers h.bars (by decide) g hg e)) (by have := ownR_blk h.tiers h.blk (by decide); exact this),
    set_own (hO.owns h.places (fun g hg e => ownR_ne h.places h.bars (by decide) g hg e)) (by have := ownR_blk h.places h.blk (by decide); exact this),
    set_own (hO.owns h.quotas (fun g hg e => ownR_ne h.quotas h.bars (by decide) g hg e)) (by have := ownR_blk h.quotas h.blk (by decide); exact this), set_own hv (ownR_blk hv hb (by decide))⟩
end Go.Proofs.YteikkpiginfbkaaGreatDoor

namespace Go.Proofs.YteikkpiginfbkaaGreatDoor
open Go.RowKit

end Go.Proofs.YteikkpiginfbkaaGreatDoor

namespace Go.Proofs.YteikkpiginfbkaaGreatDoor
open Go.RowKit

end Go.Proofs.YteikkpiginfbkaaGreatDoor

namespace Go.Proofs.YteikkpiginfbkaaGreatDoor
open Go.RowKit

end Go.Proofs.YteikkpiginfbkaaGreatDoor

namespace Go.Proofs.YteikkpiginfbkaaGreatDoor
open Go.RowKit

theorem take_eq_succ {α : Type} {xs ys : List α} {k : Nat} (h : xs.take k = ys.take k) (h1 : k < xs.length) (h2 : k < ys.length) (he : xs[k] = ys[k]) : xs.take (k + 1) = ys.take (k + 1) := by rw [take_snoc h1, take_snoc h2, h, he]
theorem tlU_iff {a b : ByteArray} : ((a.toList == b.toList) = true) ↔ a = b := by
  rw [beq_iff_eq, ByteArray.toList_eq, ByteArray.toList_eq]
  exact ⟨fun h => ba_ext h, fun h => by rw [h]⟩
theorem ne_at {α : Type} {xs ys : List α} {k : Nat} (h1 : k < xs.length) (h2 : k < ys.length) (he : xs[k] ≠ ys[k]) : xs ≠ ys := fun e => by subst e; exact he rfl
set_option maxRecDepth 100000 in
set_option maxHeartbeats 4000000 in
theorem eqT_any (b1 b2 : Nat) (a1 a2 : Option Addr) (c1 c2 : Nat) (xs ys : List (Int × Int)) (bb : Bool) (w : World) (h1 : w.ownsRow b1 50 2 (.slice a1 xs.length c1) xs.length (trow xs)) (h2 : w.ownsRow b2 50 2 (.slice a2 ys.length c2) ys.length (trow ys)) (hb : bb = true ↔ xs = ys) :
    Calls Tryz.prog 35 #[.slice a1 xs.length c1, .slice a2 ys.length c2] w fun e w' => e = .returned (.bool bb) ∧ Only (fun _ => False) w w' := by
  have H1 := Lib.hid h1
  have H2 := Lib.hid h2
  have HB := Lib.hid hb
  clear h1 h2 hb
  go_enter Tryz.func35, Tryz.ntmps35
  by_cases hl : xs.length = ys.length
  · have HLN := Lib.hid hl
    have q1 : ((xs.length : Int) != ys.length) = false := by rw [hl]; simp
    clear hl
    go_wp2_with fail
    go_loopw [13] (fun iv wr => ∃ k : Nat, iv = .int .i64 k ∧ k ≤ xs.length ∧ xs.take k = ys.take k ∧ Only (fun _ => False) w wr) (fun iv _ => xs.length - (intOf iv).toNat)
    case atStart => exact ⟨0, rfl, Nat.zero_le _, rfl, Only.refl _ _⟩
    case round =>
      obtain ⟨k, rfl, hk, htk, hO⟩ := hrel
      have HTK := Lib.hid htk
      have HO := Lib.hid hO
      have HA := Lib.hid (hO.owns H1.out (fun _ _ h => h))
      have HC := Lib.hid (hO.owns H2.out (fun _ _ h => h))
      clear htk hO
      by_cases hlt : k < xs.length
      · have j1 : (k : Int) < xs.length := by omega
        have j2 : 0 ≤ (k : Int) := by omega
        have hlt2 : k < ys.length := by rw [← HLN.out]; exact hlt
        have j3 : (k : Int) < ys.length := by omega
        have hd0 := flat_at (fun x : Int × Int => [Value.int .i64 x.1, Value.int .i64 x.2]) 2 (fun _ => rfl) xs k 0 hlt (by decide)
        have hd1 := flat_at (fun x : Int × Int => [Value.int .i64 x.1, Value.int .i64 x.2]) 2 (fun _ => rfl) xs k 1 hlt (by decide)
        obtain ⟨g0, capg0, hvg0, hgg, hc1g, hc2g, d0⟩ := own_cell HA.out hd0
        obtain ⟨g1, capg1, hvg1, _, _, _, d1⟩ := own_cell HA.out hd1
        rw [hvg0] at hvg1
        simp only [Value.slice.injEq, Option.some.injEq, Addr.mk.injEq, and_true, true_and] at hvg0 hvg1
        obtain ⟨rfl, rfl⟩ := hvg0
        obtain ⟨rfl, rfl⟩ := hvg1
        have he0 := flat_at (fun x : Int × Int => [Value.int .i64 x.1, Value.int .i64 x.2]) 2 (fun _ => rfl) ys k 0 hlt2 (by decide)
        have he1 := flat_at (fun x : Int × Int => [Value.int .i64 x.1, Value.int .i64 x.2]) 2 (fun _ => rfl) ys k 1 hlt2 (by decide)
        obtain ⟨f0, capf0, hvf0, hgf, hc1f, hc2f, e0⟩ := own_cell HC.out he0
        obtain ⟨f1, capf1, hvf1, _, _, _, e1⟩ := own_cell HC.out he1
        rw [hvf0] at hvf1
        simp only [Value.slice.injEq, Option.some.injEq, Addr.mk.injEq, and_true, true_and] at hvf0 hvf1
        obtain ⟨rfl, rfl⟩ := hvf0
        obtain ⟨rfl, rfl⟩ := hvf1
        have HNX := Lib.hid (fun (he : xs[k] = ys[k]) => take_eq_succ HTK.out hlt hlt2 he)
        have HNE := Lib.hid (fun (he : xs[k] ≠ ys[k]) => show bb = false by
          cases hbb : bb with
          | false => rfl
          | true => exact absurd (HB.out.1 hbb) (ne_at hlt hlt2 he))
        generalize xs[k] = y at *
        generalize ys[k] = z at *
        obtain ⟨ya, yb⟩ := y
        obtain ⟨za, zb⟩ := z
        change _ = some (Value.int .i64 ya) at d0
        change _ = some (Value.int .i64 za) at e0
        change _ = some (Value.int .i64 yb) at d1
        change _ = some (Value.int .i64 zb) at e1
        rw [Nat.add_zero] at d0 e0
        clear hd0 he0 hd1 he1
        by_cases m0 : ya = za
        · by_cases m1 : yb = zb
          · obtain ⟨rfl, rfl⟩ : ya = za ∧ yb = zb := ⟨m0, m1⟩
            clear m0 m1
            have p0 : (ya == ya) = true := by simp
            have p1 : (yb == yb) = true := by simp
            have HG := Lib.hid (HNX.out rfl)
            go_wp2_with fail
            go_quiet (fail)
            go_wp2_with fail
            go_roundw
            case rel => exact ⟨k + 1, by go_num, hlt, HG.out, HO.out.drewN _⟩
            case measure => simp [intOf]; omega
          · obtain rfl := HNE.out (fun h => m1 (by simpa using congrArg (fun u => u.2) h))
            have p0 : (ya == za) = true := by rw [m0]; simp
            have p1 : (yb == zb) = false := by simpa using m1
            clear m0 m1
            go_wp2_with fail
            go_quiet (fail)
            go_wp2_with fail
            go_ret
            exact ⟨rfl, HO.out.drewN _⟩
        · obtain rfl := HNE.out (fun h => m0 (by simpa using congrArg (fun u => u.1) h))
          have p0 : (ya == za) = false := by simpa using m0
          clear m0
          go_wp2_with fail
          go_quiet (fail)
          go_wp2_with fail
          go_ret
          exact ⟨rfl, HO.out.drewN _⟩
      · obtain rfl : k = xs.length := by omega
        have j1 : ¬ (xs.length : Int) < xs.length := by omega
        obtain rfl : bb = true := HB.out.2 (by
          have := HTK.out
          rw [List.take_length] at this
          rw [this, HLN.out, List.take_length])
        go_wp2_with fail
        go_ret
        exact ⟨rfl, HO.out⟩
  · have q1 : ((xs.length : Int) != ys.length) = true := by
      rw [bne_iff_ne]
      omega
    obtain rfl : bb = false := by
      cases hbb : bb with
      | false => rfl
      | true => exact absurd (congrArg List.length (HB.out.1 hbb)) hl
    clear hl
    go_wp2_with fail
    go_ret
    exact ⟨rfl, Only.refl _ _⟩
set_option maxRecDepth 100000 in
set_option maxHeartbeats 4000000 in
theorem eqP_any (b1 b2 : Nat) (a1 a2 : Option Addr) (c1 c2 : Nat) (xs ys : List (ByteArray × Int)) (bb : Bool) (w : World) (h1 : w.ownsRow b1 73 2 (.slice a1 xs.length c1) xs.length (prow xs)) (h2 : w.ownsRow b2 73 2 (.slice a2 ys.length c2) ys.length (prow ys)) (hb : bb = true ↔ xs = ys) :
    Calls Tryz.prog 36 #[.slice a1 xs.length c1, .slice a2 ys.length c2] w fun e w' => e = .returned (.bool bb) ∧ Only (fun _ => False) w w' := by
  have H1 := Lib.hid h1
  have H2 := Lib.hid h2
  have HB := Lib.hid hb
  clear h1 h2 hb
  go_enter Tryz.func36, Tryz.ntmps36
  by_cases hl : xs.length = ys.length
  · have HLN := Lib.hid hl
    have q1 : ((xs.length : Int) != ys.length) = false := by rw [hl]; simp
    clear hl
    go_wp2_with fail
    go_loopw [13] (fun iv wr => ∃ k : Nat, iv = .int .i64 k ∧ k ≤ xs.length ∧ xs.take k = ys.take k ∧ Only (fun _ => False) w wr) (fun iv _ => xs.length - (intOf iv).toNat)
    case atStart => exact ⟨0, rfl, Nat.zero_le _, rfl, Only.refl _ _⟩
    case round =>
      obtain ⟨k, rfl, hk, htk, hO⟩ := hrel
      have HTK := Lib.hid htk
      have HO := Lib.hid hO
      have HA := Lib.hid (hO.owns H1.out (fun _ _ h => h))
      have HC := Lib.hid (hO.owns H2.out (fun _ _ h => h))
      clear htk hO
      by_cases hlt : k < xs.length
      · have j1 : (k : Int) < xs.length := by omega
        have j2 : 0 ≤ (k : Int) := by omega
        have hlt2 : k < ys.length := by rw [← HLN.out]; exact hlt
        have j3 : (k : Int) < ys.length := by omega
        have hd0 := flat_at (fun x : ByteArray × Int => [Value.string x.1, Value.int .i64 x.2]) 2 (fun _ => rfl) xs k 0 hlt (by decide)
        have hd1 := flat_at (fun x : ByteArray × Int => [Value.string x.1, Value.int .i64 x.2]) 2 (fun _ => rfl) xs k 1 hlt (by decide)
        obtain ⟨g0, capg0, hvg0, hgg, hc1g, hc2g, d0⟩ := own_cell HA.out hd0
        obtain ⟨g1, capg1, hvg1, _, _, _, d1⟩ := own_cell HA.out hd1
        rw [hvg0] at hvg1
        simp only [Value.slice.injEq, Option.some.injEq, Addr.mk.injEq, and_true, true_and] at hvg0 hvg1
        obtain ⟨rfl, rfl⟩ := hvg0
        obtain ⟨rfl, rfl⟩ := hvg1
        have he0 := flat_at (fun x : ByteArray × Int => [Value.string x.1, Value.int .i64 x.2]) 2 (fun _ => rfl) ys k 0 hlt2 (by decide)
        have he1 := flat_at (fun x : ByteArray × Int => [Value.string x.1, Value.int .i64 x.2]) 2 (fun _ => rfl) ys k 1 hlt2 (by decide)
        obtain ⟨f0, capf0, hvf0, hgf, hc1f, hc2f, e0⟩ := own_cell HC.out he0
        obtain ⟨f1, capf1, hvf1, _, _, _, e1⟩ := own_cell HC.out he1
        rw [hvf0] at hvf1
        simp only [Value.slice.injEq, Option.some.injEq, Addr.mk.injEq, and_true, true_and] at hvf0 hvf1
        obtain ⟨rfl, rfl⟩ := hvf0
        obtain ⟨rfl, rfl⟩ := hvf1
        have HNX := Lib.hid (fun (he : xs[k] = ys[k]) => take_eq_succ HTK.out hlt hlt2 he)
        have HNE := Lib.hid (fun (he : xs[k] ≠ ys[k]) => show bb = false by
          cases hbb : bb with
          | false => rfl
          | true => exact absurd (HB.out.1 hbb) (ne_at hlt hlt2 he))
        generalize xs[k] = y at *
        generalize ys[k] = z at *
        obtain ⟨ya, yb⟩ := y
        obtain ⟨za, zb⟩ := z
        change _ = some (Value.string ya) at d0
        change _ = some (Value.string za) at e0
        change _ = some (Value.int .i64 yb) at d1
        change _ = some (Value.int .i64 zb) at e1
        rw [Nat.add_zero] at d0 e0
        clear hd0 he0 hd1 he1
        by_cases m0 : ya = za
        · by_cases m1 : yb = zb
          · obtain ⟨rfl, rfl⟩ : ya = za ∧ yb = zb := ⟨m0, m1⟩
            clear m0 m1
            have p0 : (ya.toList == ya.toList) = true := by simp
            have p1 : (yb == yb) = true := by simp
            have HG := Lib.hid (HNX.out rfl)
            go_wp2_with fail
            go_quiet (fail)
            go_wp2_with fail
            go_roundw
            case rel => exact ⟨k + 1, by go_num, hlt, HG.out, HO.out.drewN _⟩
            case measure => simp [intOf]; omega
          · obtain rfl := HNE.out (fun h => m1 (by simpa using congrArg (fun u => u.2) h))
            have p0 : (ya.toList == za.toList) = true := by rw [m0]; simp
            have p1 : (yb == zb) = false := by simpa using m1
            clear m0 m1
            go_wp2_with fail
            go_quiet (fail)
            go_wp2_with fail
            go_ret
            exact ⟨rfl, HO.out.drewN _⟩
        · obtain rfl := HNE.out (fun h => m0 (by simpa using congrArg (fun u => u.1) h))
          have p0 : (ya.toList == za.toList) = false := by rw [Bool.eq_false_iff]; intro h; exact m0 (tlU_iff.1 h)
          clear m0
          go_wp2_with fail
          go_quiet (fail)
          go_wp2_with fail
          go_ret
          exact ⟨rfl, HO.out.drewN _⟩
      · obtain rfl : k = xs.length := by omega
        have j1 : ¬ (xs.length : Int) < xs.length := by omega
        obtain rfl : bb = true := HB.out.2 (by
          have := HTK.out
          rw [List.take_length] at this
          rw [this, HLN.out, List.take_length])
        go_wp2_with fail
        go_ret
        exact ⟨rfl, HO.out⟩
  · have q1 : ((xs.length : Int) != ys.length) = true := by
      rw [bne_iff_ne]
      omega
    obtain rfl : bb = false := by
      cases hbb : bb with
      | false => rfl
      | true => exact absurd (congrArg List.length (HB.out.1 hbb)) hl
    clear hl
    go_wp2_with fail
    go_ret
    exact ⟨rfl, Only.refl _ _⟩
set_option maxRecDepth 100000 in
set_option maxHeartbeats 4000000 in
theorem eqQ_any (b1 b2 : Nat) (a1 a2 : Option Addr) (c1 c2 : Nat) (xs ys : List (ByteArray × Int × Int)) (bb : Bool) (w : World) (h1 : w.ownsRow b1 75 3 (.slice a1 xs.length c1) xs.length (qrow xs)) (h2 : w.ownsRow b2 75 3 (.slice a2 ys.length c2) ys.length (qrow ys)) (hb : bb = true ↔ xs = ys) :
    Calls Tryz.prog 37 #[.slice a1 xs.length c1, .slice a2 ys.length c2] w fun e w' => e = .returned (.bool bb) ∧ Only (fun _ => False) w w' := by
  have H1 := Lib.hid h1
  have H2 := Lib.hid h2
  have HB := Lib.hid hb
  clear h1 h2 hb
  go_enter Tryz.func37, Tryz.ntmps37
  by_cases hl : xs.length = ys.length
  · have HLN := Lib.hid hl
    have q1 : ((xs.length : Int) != ys.length) = false := by rw [hl]; simp
    clear hl
    go_wp2_with fail
    go_loopw [13] (fun iv wr => ∃ k : Nat, iv = .int .i64 k ∧ k ≤ xs.length ∧ xs.take k = ys.take k ∧ Only (fun _ => False) w wr) (fun iv _ => xs.length - (intOf iv).toNat)
    case atStart => exact ⟨0, rfl, Nat.zero_le _, rfl, Only.refl _ _⟩
    case round =>
      obtain ⟨k, rfl, hk, htk, hO⟩ := hrel
      have HTK := Lib.hid htk
      have HO := Lib.hid hO
      have HA := Lib.hid (hO.owns H1.out (fun _ _ h => h))
      have HC := Lib.hid (hO.owns H2.out (fun _ _ h => h))
      clear htk hO
      by_cases hlt : k < xs.length
      · have j1 : (k : Int) < xs.length := by omega
        have j2 : 0 ≤ (k : Int) := by omega
        have hlt2 : k < ys.length := by rw [← HLN.out]; exact hlt
        have j3 : (k : Int) < ys.length := by omega
        have hd0 := flat_at (fun x : ByteArray × Int × Int => [Value.string x.1, Value.int .i64 x.2.1, Value.int .i64 x.2.2]) 3 (fun _ => rfl) xs k 0 hlt (by decide)
        have hd1 := flat_at (fun x : ByteArray × Int × Int => [Value.string x.1, Value.int .i64 x.2.1, Value.int .i64 x.2.2]) 3 (fun _ => rfl) xs k 1 hlt (by decide)
        have hd2 := flat_at (fun x : ByteArray × Int × Int => [Value.string x.1, Value.int .i64 x.2.1, Value.int .i64 x.2.2]) 3 (fun _ => rfl) xs k 2 hlt (by decide)
        obtain ⟨g0, capg0, hvg0, hgg, hc1g, hc2g, d0⟩ := own_cell HA.out hd0
        obtain ⟨g1, capg1, hvg1, _, _, _, d1⟩ := own_cell HA.out hd1
        obtain ⟨g2, capg2, hvg2, _, _, _, d2⟩ := own_cell HA.out hd2
        rw [hvg0] at hvg1
        rw [hvg0] at hvg2
        simp only [Value.slice.injEq, Option.some.injEq, Addr.mk.injEq, and_true, true_and] at hvg0 hvg1 hvg2
        obtain ⟨rfl, rfl⟩ := hvg0
        obtain ⟨rfl, rfl⟩ := hvg1
        obtain ⟨rfl, rfl⟩ := hvg2
        have he0 := flat_at (fun x : ByteArray × Int × Int => [Value.string x.1, Value.int .i64 x.2.1, Value.int .i64 x.2.2]) 3 (fun _ => rfl) ys k 0 hlt2 (by decide)
        have he1 := flat_at (fun x : ByteArray × Int × Int => [Value.string x.1, Value.int .i64 x.2.1, Value.int .i64 x.2.2]) 3 (fun _ => rfl) ys k 1 hlt2 (by decide)
        have he2 := flat_at (fun x : ByteArray × Int × Int => [Value.string x.1, Value.int .i64 x.2.1, Value.int .i64 x.2.2]) 3 (fun _ => rfl) ys k 2 hlt2 (by decide)
        obtain ⟨f0, capf0, hvf0, hgf, hc1f, hc2f, e0⟩ := own_cell HC.out he0
        obtain ⟨f1, capf1, hvf1, _, _, _, e1⟩ := own_cell HC.out he1
        obtain ⟨f2, capf2, hvf2, _, _, _, e2⟩ := own_cell HC.out he2
        rw [hvf0] at hvf1
        rw [hvf0] at hvf2
        simp only [Value.slice.injEq, Option.some.injEq, Addr.mk.injEq, and_true, true_and] at hvf0 hvf1 hvf2
        obtain ⟨rfl, rfl⟩ := hvf0
        obtain ⟨rfl, rfl⟩ := hvf1
        obtain ⟨rfl, rfl⟩ := hvf2
        have HNX := Lib.hid (fun (he : xs[k] = ys[k]) => take_eq_succ HTK.out hlt hlt2 he)
        have HNE := Lib.hid (fun (he : xs[k] ≠ ys[k]) => show bb = false by
          cases hbb : bb with
          | false => rfl
          | true => exact absurd (HB.out.1 hbb) (ne_at hlt hlt2 he))
        generalize xs[k] = y at *
        generalize ys[k] = z at *
        obtain ⟨ya, yb, yc⟩ := y
        obtain ⟨za, zb, zc⟩ := z
        change _ = some (Value.string ya) at d0
        change _ = some (Value.string za) at e0
        change _ = some (Value.int .i64 yb) at d1
        change _ = some (Value.int .i64 zb) at e1
        change _ = some (Value.int .i64 yc) at d2
        change _ = some (Value.int .i64 zc) at e2
        rw [Nat.add_zero] at d0 e0
        clear hd0 he0 hd1 he1 hd2 he2
        by_cases m0 : ya = za
        · by_cases m1 : yb = zb
          · by_cases m2 : yc = zc
            · obtain ⟨rfl, rfl, rfl⟩ : ya = za ∧ yb = zb ∧ yc = zc := ⟨m0, m1, m2⟩
              clear m0 m1 m2
              have p0 : (ya.toList == ya.toList) = true := by simp
              have p1 : (yb == yb) = true := by simp
              have p2 : (yc == yc) = true := by simp
              have HG := Lib.hid (HNX.out rfl)
              go_wp2_with fail
              go_quiet (fail)
              go_wp2_with fail
              go_roundw
              case rel => exact ⟨k + 1, by go_num, hlt, HG.out, HO.out.drewN _⟩
              case measure => simp [intOf]; omega
            · obtain rfl := HNE.out (fun h => m2 (by simpa using congrArg (fun u => u.2.2) h))
              have p0 : (ya.toList == za.toList) = true := by rw [m0]; simp
              have p1 : (yb == zb) = true := by rw [m1]; simp
              have p2 : (yc == zc) = false := by simpa using m2
              clear m0 m1 m2
              go_wp2_with fail
              go_quiet (fail)
              go_wp2_with fail
              go_ret
              exact ⟨rfl, HO.out.drewN _⟩
          · obtain rfl := HNE.out (fun h => m1 (by simpa using congrArg (fun u => u.2.1) h))
            have p0 : (ya.toList == za.toList) = true := by rw [m0]; simp
            have p1 : (yb == zb) = false := by simpa using m1
            clear m0 m1
            go_wp2_with fail
            go_quiet (fail)
            go_wp2_with fail
            go_ret
            exact ⟨rfl, HO.out.drewN _⟩
        · obtain rfl := HNE.out (fun h => m0 (by simpa using congrArg (fun u => u.1) h))
          have p0 : (ya.toList == za.toList) = false := by rw [Bool.eq_false_iff]; intro h; exact m0 (tlU_iff.1 h)
          clear m0
          go_wp2_with fail
          go_quiet (fail)
          go_wp2_with fail
          go_ret
          exact ⟨rfl, HO.out.drewN _⟩
      · obtain rfl : k = xs.length := by omega
        have j1 : ¬ (xs.length : Int) < xs.length := by omega
        obtain rfl : bb = true := HB.out.2 (by
          have := HTK.out
          rw [List.take_length] at this
          rw [this, HLN.out, List.take_length])
        go_wp2_with fail
        go_ret
        exact ⟨rfl, HO.out⟩
  · have q1 : ((xs.length : Int) != ys.length) = true := by
      rw [bne_iff_ne]
      omega
    obtain rfl : bb = false := by
      cases hbb : bb with
      | false => rfl
      | true => exact absurd (congrArg List.length (HB.out.1 hbb)) hl
    clear hl
    go_wp2_with fail
    go_ret
    exact ⟨rfl, Only.refl _ _⟩
end Go.Proofs.YteikkpiginfbkaaGreatDoor

namespace Go.Proofs.YteikkpiginfbkaaGreatDoor
open Go.RowKit

theorem eqI_any (b1 b2 : Nat) (a1 a2 : Option Addr) (c1 c2 : Nat) (xs ys : List Int) (bb : Bool) (w : World) (h1 : w.ownsRow b1 3 1 (.slice a1 xs.length c1) xs.length (irow xs)) (h2 : w.ownsRow b2 3 1 (.slice a2 ys.length c2) ys.length (irow ys)) (hl1 : xs.length ≤ 1000000) (hb : bb = true ↔ xs = ys) :
    Calls Tryz.prog 38 #[.slice a1 xs.length c1, .slice a2 ys.length c2] w fun e w' => e = .returned (.bool bb) ∧ Only (fun _ => False) w w' := by
  by_cases hl : xs.length = ys.length
  · by_cases h0 : xs.length = 0
    · rw [h0]
      refine (Tryz.slices_Equal_int_empty a1 a2 c1 ys.length c2 w (by omega)).mono ?_
      rintro e w' ⟨rfl, rfl⟩
      have e1 : xs = [] := List.length_eq_zero_iff.1 h0
      have e2 : ys = [] := List.length_eq_zero_iff.1 (by omega)
      have : bb = true := hb.2 (by rw [e1, e2])
      rw [this, show decide (ys.length = 0) = true by simp [e2]]
      exact ⟨rfl, Only.refl _ _⟩
    · have hu : ∀ (l : List Int) j, j < l.length → (irow l)[j]? = some (.int .i64 (l.getD j 0)) := fun l j hj => by unfold irow; simp [List.getD, hj]
      obtain ⟨g, cap, hv, _⟩ := own_cell h1 (hu xs 0 (by omega))
      obtain ⟨f, cap2, hv2, _⟩ := own_cell h2 (hu ys 0 (by omega))
      simp only [Value.slice.injEq, true_and] at hv hv2
      obtain ⟨rfl, rfl⟩ := hv
      obtain ⟨rfl, rfl⟩ := hv2
      refine (Tryz.slices_Equal_int g 0 xs.length c1 f 0 ys.length c2 xs ys w (Nat.le_refl _) (Nat.le_refl _) (by omega) (by omega) (fun j hj => ?_) (fun j hj => ?_)).mono ?_
      · obtain ⟨g', cap', hv', _, _, _, hcell⟩ := own_cell h1 (hu xs j hj)
        simp only [Value.slice.injEq, Option.some.injEq, Addr.mk.injEq, and_true, true_and] at hv'
        obtain ⟨rfl, rfl⟩ := hv'
        rw [Nat.zero_add]; exact hcell
      · obtain ⟨g', cap', hv', _, _, _, hcell⟩ := own_cell h2 (hu ys j hj)
        simp only [Value.slice.injEq, Option.some.injEq, Addr.mk.injEq, and_true, true_and] at hv'
        obtain ⟨rfl, rfl⟩ := hv'
        rw [Nat.zero_add]; exact hcell
      rintro e w' ⟨rfl, q, rfl⟩
      refine ⟨?_, (Only.refl _ w).drewN q⟩
      congr 2
      rw [List.take_length, List.take_length, Bool.eq_iff_iff, beq_iff_eq]
      exact hb.symm
  · refine (Tryz.slices_Equal_int_lens a1 a2 xs.length c1 ys.length c2 w hl).mono ?_
    rintro e w' ⟨rfl, rfl⟩
    obtain rfl : bb = false := by
      cases hbb : bb with
      | false => rfl
      | true => exact absurd (congrArg List.length (hb.1 hbb)) hl
    exact ⟨rfl, Only.refl _ _⟩
theorem dr_ext {a b : Dr} (h0 : a.name = b.name) (h1 : a.kind = b.kind) (h2 : a.round = b.round) (h3 : a.price = b.price) (h4 : a.pool = b.pool) (h5 : a.pick = b.pick) (h6 : a.tiers = b.tiers) (h7 : a.roll = b.roll) (h8 : a.places = b.places) (h9 : a.cls = b.cls) (h10 : a.size = b.size) (h11 : a.quotas = b.quotas) (h12 : a.barred = b.barred) : a = b := by
  cases a; cases b; simp only at *; subst h0 h1 h2 h3 h4 h5 h6 h7 h8 h9 h10 h11 h12; rfl
/-- Lists of a draw that are not too long. -/
def DrB (d : Dr) : Prop := d.tiers.length ≤ 1000000 ∧ d.places.length ≤ 1000000 ∧ d.quotas.length ≤ 1000000 ∧ d.barred.length ≤ 1000000
set_option maxRecDepth 100000 in
set_option maxHeartbeats 100000000 in
theorem equal_any (a b : Dr) (vt vp vq vb ut up uq ub : Value) (bb : Bool) (base1 base2 : Nat) (w : World) (ha : DrOwn base1 w a vt vp vq vb) (hb : DrOwn base2 w b ut up uq ub) (hba : DrB a) (hbb : DrB b) (he : bb = true ↔ a = b) :
    Calls Tryz.prog 15 #[.agg (drCells a vt vp vq vb), .agg (drCells b ut up uq ub)] w fun e w' => e = .returned (.bool bb) ∧ Only (fun _ => False) w w' := by
  obtain ⟨at1, ct, rfl⟩ := slice_of_own ha.tiers
  obtain ⟨ap1, cp, rfl⟩ := slice_of_own ha.places
  obtain ⟨aq1, cq, rfl⟩ := slice_of_own ha.quotas
  obtain ⟨ab1, cb, rfl⟩ := slice_of_own ha.bars
  obtain ⟨bt1, dt, rfl⟩ := slice_of_own hb.tiers
  obtain ⟨bp1, dp, rfl⟩ := slice_of_own hb.places
  obtain ⟨bq1, dq, rfl⟩ := slice_of_own hb.quotas
  obtain ⟨bb1, db, rfl⟩ := slice_of_own hb.bars
  have HA := Lib.hid ha
  have HB := Lib.hid hb
  have HE := Lib.hid he
  have HBA := Lib.hid hba
  have HBB := Lib.hid hbb
  have HY1 := Lib.hid (heap_alloc_last w (.cells (drCells a (.slice at1 a.tiers.length ct) (.slice ap1 a.places.length cp) (.slice aq1 a.quotas.length cq) (.slice ab1 a.barred.length cb)) 33))
  have HY2 := Lib.hid (heap_alloc_last (w.alloc (.cells (drCells a (.slice at1 a.tiers.length ct) (.slice ap1 a.places.length cp) (.slice aq1 a.quotas.length cq) (.slice ab1 a.barred.length cb)) 33)) (.cells (drCells b (.slice bt1 b.tiers.length dt) (.slice bp1 b.places.length dp) (.slice bq1 b.quotas.length dq) (.slice bb1 b.barred.length db)) 33))
  have HO2 := Lib.hid ((Only.refl (fun _ => False) (w.alloc (.cells (drCells a (.slice at1 a.tiers.length ct) (.slice ap1 a.places.length cp) (.slice aq1 a.quotas.length cq) (.slice ab1 a.barred.length cb)) 33))).alloc (.cells (drCells b (.slice bt1 b.tiers.length dt) (.slice bp1 b.places.length dp) (.slice bq1 b.quotas.length dq) (.slice bb1 b.barred.length db)) 33))
  have HO := Lib.hid (((Only.refl (fun _ => False) w).alloc (.cells (drCells a (.slice at1 a.tiers.length ct) (.slice ap1 a.places.length cp) (.slice aq1 a.quotas.length cq) (.slice ab1 a.barred.length cb)) 33)).alloc (.cells (drCells b (.slice bt1 b.tiers.length dt) (.slice bp1 b.places.length dp) (.slice bq1 b.quotas.length dq) (.slice bb1 b.barred.length db)) 33))
  have HZ1 := Lib.hid (row_still HO2.out HY1.out)
  have HZ2 := HY2
  rw [World.size_alloc] at HZ2
  clear ha hb he hba hbb HY1 HY2 HO2
  unfold drCells at *
  go_enter Tryz.func15, Tryz.ntmps15
  go_upto_region 1 with (fail)
  generalize World.alloc (World.alloc w _) _ = w1 at *
  have c0 : w1.cell? ⟨w.heap.size, 0, none⟩ = some (Value.string a.name) := cell_of_row _ _ 0 _ _ _ HZ1.out
  have e0 : w1.cell? ⟨w.heap.size + 1, 0, none⟩ = some (Value.string b.name) := cell_of_row _ _ 0 _ _ _ HZ2.out
  have c1 : w1.cell? ⟨w.heap.size, 1, none⟩ = some (Value.int .i64 a.kind) := cell_of_row _ _ 1 _ _ _ HZ1.out
  have e1 : w1.cell? ⟨w.heap.size + 1, 1, none⟩ = some (Value.int .i64 b.kind) := cell_of_row _ _ 1 _ _ _ HZ2.out
  have c2 : w1.cell? ⟨w.heap.size, 2, none⟩ = some (Value.int .i64 a.round) := cell_of_row _ _ 2 _ _ _ HZ1.out
  have e2 : w1.cell? ⟨w.heap.size + 1, 2, none⟩ = some (Value.int .i64 b.round) := cell_of_row _ _ 2 _ _ _ HZ2.out
  have c3 : w1.cell? ⟨w.heap.size, 3, none⟩ = some (Value.int .i64 a.price) := cell_of_row _ _ 3 _ _ _ HZ1.out
  have e3 : w1.cell? ⟨w.heap.size + 1, 3, none⟩ = some (Value.int .i64 b.price) := cell_of_row _ _ 3 _ _ _ HZ2.out
  have c4 : w1.cell? ⟨w.heap.size, 4, none⟩ = some (Value.int .i64 a.pool) := cell_of_row _ _ 4 _ _ _ HZ1.out
  have e4 : w1.cell? ⟨w.heap.size + 1, 4, none⟩ = some (Value.int .i64 b.pool) := cell_of_row _ _ 4 _ _ _ HZ2.out
  have c5 : w1.cell? ⟨w.heap.size, 5, none⟩ = some (Value.int .i64 a.pick) := cell_of_row _ _ 5 _ _ _ HZ1.out
  have e5 : w1.cell? ⟨w.heap.size + 1, 5, none⟩ = some (Value.int .i64 b.pick) := cell_of_row _ _ 5 _ _ _ HZ2.out
  have c6 : w1.cell? ⟨w.heap.size, 6, none⟩ = some (Value.slice at1 a.tiers.length ct) := cell_of_row _ _ 6 _ _ _ HZ1.out
  have e6 : w1.cell? ⟨w.heap.size + 1, 6, none⟩ = some (Value.slice bt1 b.tiers.length dt) := cell_of_row _ _ 6 _ _ _ HZ2.out
  have c7 : w1.cell? ⟨w.heap.size, 7, none⟩ = some (Value.bool a.roll) := cell_of_row _ _ 7 _ _ _ HZ1.out
  have e7 : w1.cell? ⟨w.heap.size + 1, 7, none⟩ = some (Value.bool b.roll) := cell_of_row _ _ 7 _ _ _ HZ2.out
  have c8 : w1.cell? ⟨w.heap.size, 8, none⟩ = some (Value.slice ap1 a.places.length cp) := cell_of_row _ _ 8 _ _ _ HZ1.out
  have e8 : w1.cell? ⟨w.heap.size + 1, 8, none⟩ = some (Value.slice bp1 b.places.length dp) := cell_of_row _ _ 8 _ _ _ HZ2.out
  have c9 : w1.cell? ⟨w.heap.size, 9, none⟩ = some (Value.int .i64 a.cls) := cell_of_row _ _ 9 _ _ _ HZ1.out
  have e9 : w1.cell? ⟨w.heap.size + 1, 9, none⟩ = some (Value.int .i64 b.cls) := cell_of_row _ _ 9 _ _ _ HZ2.out
  have c10 : w1.cell? ⟨w.heap.size, 10, none⟩ = some (Value.int .i64 a.size) := cell_of_row _ _ 10 _ _ _ HZ1.out
  have e10 : w1.cell? ⟨w.heap.size + 1, 10, none⟩ = some (Value.int .i64 b.size) := cell_of_row _ _ 10 _ _ _ HZ2.out
  have c11 : w1.cell? ⟨w.heap.size, 11, none⟩ = some (Value.slice aq1 a.quotas.length cq) := cell_of_row _ _ 11 _ _ _ HZ1.out
  have e11 : w1.cell? ⟨w.heap.size + 1, 11, none⟩ = some (Value.slice bq1 b.quotas.length dq) := cell_of_row _ _ 11 _ _ _ HZ2.out
  have c12 : w1.cell? ⟨w.heap.size, 12, none⟩ = some (Value.slice ab1 a.barred.length cb) := cell_of_row _ _ 12 _ _ _ HZ1.out
  have e12 : w1.cell? ⟨w.heap.size + 1, 12, none⟩ = some (Value.slice bb1 b.barred.length db) := cell_of_row _ _ 12 _ _ _ HZ2.out
  by_cases m0 : a.name = b.name
  · by_cases m1 : a.kind = b.kind
    · by_cases m2 : a.round = b.round
      · by_cases m3 : a.price = b.price
        · by_cases m4 : a.pool = b.pool
          · by_cases m5 : a.pick = b.pick
            · obtain ⟨r6, hr6⟩ : ∃ r : Bool, r = true ↔ a.tiers = b.tiers := by
                by_cases h : a.tiers = b.tiers
                · exact ⟨true, by simp [h]⟩
                · exact ⟨false, by simp [h]⟩
              have p0 : (a.name.toList == b.name.toList) = true := by rw [m0]; simp
              have p1 : (a.kind == b.kind) = true := by rw [m1]; simp
              have p2 : (a.round == b.round) = true := by rw [m2]; simp
              have p3 : (a.price == b.price) = true := by rw [m3]; simp
              have p4 : (a.pool == b.pool) = true := by rw [m4]; simp
              have p5 : (a.pick == b.pick) = true := by rw [m5]; simp
              have HM6 := Lib.hid hr6
              have HMS := Lib.hid (show True from trivial)
              have HH0 := Lib.hid m0
              clear m0
              have HH1 := Lib.hid m1
              clear m1
              have HH2 := Lib.hid m2
              clear m2
              have HH3 := Lib.hid m3
              clear m3
              have HH4 := Lib.hid m4
              clear m4
              have HH5 := Lib.hid m5
              clear m5
              clear hr6 HMS
              go_wp2_with fail
              refine (eqT_any _ _ _ _ _ _ a.tiers b.tiers r6 _ (HA.out.only HO.out (fun _ _ h => h)).tiers (HB.out.only HO.out (fun _ _ h => h)).tiers HM6.out).mono ?_
              rintro e w1n ⟨rfl, hOn⟩
              have HO := Lib.hid (HO.out.trans hOn)
              have HZ1 := Lib.hid (row_still hOn HZ1.out)
              have HZ2 := Lib.hid (row_still hOn HZ2.out)
              clear hOn c0 e0 c1 e1 c2 e2 c3 e3 c4 e4 c5 e5 c6 e6 c7 e7 c8 e8 c9 e9 c10 e10 c11 e11 c12 e12 p0 p1 p2 p3 p4 p5
              cases r6
              · have m6 : ¬ a.tiers = b.tiers := fun h => by have := HM6.out.2 h; cases this
                obtain rfl : bb = false := by
                  cases hbb : bb with
                  | false => rfl
                  | true => exact absurd (by rw [HE.out.1 hbb]) m6
                go_wp2_with fail
                go_ret
                exact ⟨rfl, HO.out⟩
              · have c7 : w1n.cell? ⟨w.heap.size, 7, none⟩ = some (Value.bool a.roll) := cell_of_row _ _ 7 _ _ _ HZ1.out
                have e7 : w1n.cell? ⟨w.heap.size + 1, 7, none⟩ = some (Value.bool b.roll) := cell_of_row _ _ 7 _ _ _ HZ2.out
                have c8 : w1n.cell? ⟨w.heap.size, 8, none⟩ = some (Value.slice ap1 a.places.length cp) := cell_of_row _ _ 8 _ _ _ HZ1.out
                have e8 : w1n.cell? ⟨w.heap.size + 1, 8, none⟩ = some (Value.slice bp1 b.places.length dp) := cell_of_row _ _ 8 _ _ _ HZ2.out
                have c9 : w1n.cell? ⟨w.heap.size, 9, none⟩ = some (Value.int .i64 a.cls) := cell_of_row _ _ 9 _ _ _ HZ1.out
                have e9 : w1n.cell? ⟨w.heap.size + 1, 9, none⟩ = some (Value.int .i64 b.cls) := cell_of_row _ _ 9 _ _ _ HZ2.out
                have c10 : w1n.cell? ⟨w.heap.size, 10, none⟩ = some (Value.int .i64 a.size) := cell_of_row _ _ 10 _ _ _ HZ1.out
                have e10 : w1n.cell? ⟨w.heap.size + 1, 10, none⟩ = some (Value.int .i64 b.size) := cell_of_row _ _ 10 _ _ _ HZ2.out
                have c11 : w1n.cell? ⟨w.heap.size, 11, none⟩ = some (Value.slice aq1 a.quotas.length cq) := cell_of_row _ _ 11 _ _ _ HZ1.out
                have e11 : w1n.cell? ⟨w.heap.size + 1, 11, none⟩ = some (Value.slice bq1 b.quotas.length dq) := cell_of_row _ _ 11 _ _ _ HZ2.out
                have c12 : w1n.cell? ⟨w.heap.size, 12, none⟩ = some (Value.slice ab1 a.barred.length cb) := cell_of_row _ _ 12 _ _ _ HZ1.out
                have e12 : w1n.cell? ⟨w.heap.size + 1, 12, none⟩ = some (Value.slice bb1 b.barred.length db) := cell_of_row _ _ 12 _ _ _ HZ2.out
                have HH6 := Lib.hid (HM6.out.1 rfl)
                clear HM6
                by_cases m7 : a.roll = b.roll
                · obtain ⟨r8, hr8⟩ : ∃ r : Bool, r = true ↔ a.places = b.places := by
                    by_cases h : a.places = b.places
                    · exact ⟨true, by simp [h]⟩
                    · exact ⟨false, by simp [h]⟩
                  have p7 : (a.roll == b.roll) = true := by rw [m7]; simp
                  have HM8 := Lib.hid hr8
                  have HMS := Lib.hid (show True from trivial)
                  have HH7 := Lib.hid m7
                  clear m7
                  clear hr8 HMS
                  go_wp2_with fail
                  refine (eqP_any _ _ _ _ _ _ a.places b.places r8 _ (HA.out.only HO.out (fun _ _ h => h)).places (HB.out.only HO.out (fun _ _ h => h)).places HM8.out).mono ?_
                  rintro e w1nn ⟨rfl, hOn⟩
                  have HO := Lib.hid (HO.out.trans hOn)
                  have HZ1 := Lib.hid (row_still hOn HZ1.out)
                  have HZ2 := Lib.hid (row_still hOn HZ2.out)
                  clear hOn c7 e7 c8 e8 c9 e9 c10 e10 c11 e11 c12 e12 p7
                  cases r8
                  · have m8 : ¬ a.places = b.places := fun h => by have := HM8.out.2 h; cases this
                    obtain rfl : bb = false := by
                      cases hbb : bb with
                      | false => rfl
                      | true => exact absurd (by rw [HE.out.1 hbb]) m8
                    go_wp2_with fail
                    go_ret
                    exact ⟨rfl, HO.out⟩
                  · have c9 : w1nn.cell? ⟨w.heap.size, 9, none⟩ = some (Value.int .i64 a.cls) := cell_of_row _ _ 9 _ _ _ HZ1.out
                    have e9 : w1nn.cell? ⟨w.heap.size + 1, 9, none⟩ = some (Value.int .i64 b.cls) := cell_of_row _ _ 9 _ _ _ HZ2.out
                    have c10 : w1nn.cell? ⟨w.heap.size, 10, none⟩ = some (Value.int .i64 a.size) := cell_of_row _ _ 10 _ _ _ HZ1.out
                    have e10 : w1nn.cell? ⟨w.heap.size + 1, 10, none⟩ = some (Value.int .i64 b.size) := cell_of_row _ _ 10 _ _ _ HZ2.out
                    have c11 : w1nn.cell? ⟨w.heap.size, 11, none⟩ = some (Value.slice aq1 a.quotas.length cq) := cell_of_row _ _ 11 _ _ _ HZ1.out
                    have e11 : w1nn.cell? ⟨w.heap.size + 1, 11, none⟩ = some (Value.slice bq1 b.quotas.length dq) := cell_of_row _ _ 11 _ _ _ HZ2.out
                    have c12 : w1nn.cell? ⟨w.heap.size, 12, none⟩ = some (Value.slice ab1 a.barred.length cb) := cell_of_row _ _ 12 _ _ _ HZ1.out
                    have e12 : w1nn.cell? ⟨w.heap.size + 1, 12, none⟩ = some (Value.slice bb1 b.barred.length db) := cell_of_row _ _ 12 _ _ _ HZ2.out
                    have HH8 := Lib.hid (HM8.out.1 rfl)
                    clear HM8
                    by_cases m9 : a.cls = b.cls
                    · by_cases m10 : a.size = b.size
                      · obtain ⟨r11, hr11⟩ : ∃ r : Bool, r = true ↔ a.quotas = b.quotas := by
                          by_cases h : a.quotas = b.quotas
                          · exact ⟨true, by simp [h]⟩
                          · exact ⟨false, by simp [h]⟩
                        have p9 : (a.cls == b.cls) = true := by rw [m9]; simp
                        have p10 : (a.size == b.size) = true := by rw [m10]; simp
                        have HM11 := Lib.hid hr11
                        have HMS := Lib.hid (show True from trivial)
                        have HH9 := Lib.hid m9
                        clear m9
                        have HH10 := Lib.hid m10
                        clear m10
                        clear hr11 HMS
                        go_wp2_with fail
                        refine (eqQ_any _ _ _ _ _ _ a.quotas b.quotas r11 _ (HA.out.only HO.out (fun _ _ h => h)).quotas (HB.out.only HO.out (fun _ _ h => h)).quotas HM11.out).mono ?_
                        rintro e w1nnn ⟨rfl, hOn⟩
                        have HO := Lib.hid (HO.out.trans hOn)
                        have HZ1 := Lib.hid (row_still hOn HZ1.out)
                        have HZ2 := Lib.hid (row_still hOn HZ2.out)
                        clear hOn c9 e9 c10 e10 c11 e11 c12 e12 p9 p10
                        cases r11
                        · have m11 : ¬ a.quotas = b.quotas := fun h => by have := HM11.out.2 h; cases this
                          obtain rfl : bb = false := by
                            cases hbb : bb with
                            | false => rfl
                            | true => exact absurd (by rw [HE.out.1 hbb]) m11
                          go_wp2_with fail
                          go_ret
                          exact ⟨rfl, HO.out⟩
                        · have c12 : w1nnn.cell? ⟨w.heap.size, 12, none⟩ = some (Value.slice ab1 a.barred.length cb) := cell_of_row _ _ 12 _ _ _ HZ1.out
                          have e12 : w1nnn.cell? ⟨w.heap.size + 1, 12, none⟩ = some (Value.slice bb1 b.barred.length db) := cell_of_row _ _ 12 _ _ _ HZ2.out
                          have HH11 := Lib.hid (HM11.out.1 rfl)
                          clear HM11
                          obtain ⟨r12, hr12⟩ : ∃ r : Bool, r = true ↔ a.barred = b.barred := by
                            by_cases h : a.barred = b.barred
                            · exact ⟨true, by simp [h]⟩
                            · exact ⟨false, by simp [h]⟩
                          have HM12 := Lib.hid hr12
                          have HMS := Lib.hid (show True from trivial)
                          clear hr12 HMS
                          go_wp2_with fail
                          refine (eqI_any _ _ _ _ _ _ a.barred b.barred r12 _ (HA.out.only HO.out (fun _ _ h => h)).bars (HB.out.only HO.out (fun _ _ h => h)).bars HBA.out.2.2.2 HM12.out).mono ?_
                          rintro e w1nnnn ⟨rfl, hOn⟩
                          have HO := Lib.hid (HO.out.trans hOn)
                          have HZ1 := Lib.hid (row_still hOn HZ1.out)
                          have HZ2 := Lib.hid (row_still hOn HZ2.out)
                          clear hOn c12 e12 
                          cases r12
                          · have m12 : ¬ a.barred = b.barred := fun h => by have := HM12.out.2 h; cases this
                            obtain rfl : bb = false := by
                              cases hbb : bb with
                              | false => rfl
                              | true => exact absurd (by rw [HE.out.1 hbb]) m12
                            go_wp2_with fail
                            go_ret
                            exact ⟨rfl, HO.out⟩
                          · have HH12 := Lib.hid (HM12.out.1 rfl)
                            clear HM12
                            obtain rfl : bb = true := HE.out.2 (dr_ext HH0.out HH1.out HH2.out HH3.out HH4.out HH5.out HH6.out HH7.out HH8.out HH9.out HH10.out HH11.out HH12.out)
                            go_wp2_with fail
                            go_ret
                            exact ⟨rfl, HO.out⟩
                      · obtain rfl : bb = false := by
                          cases hbb : bb with
                          | false => rfl
                          | true => exact absurd (by rw [HE.out.1 hbb]) m10
                        have p9 : (a.cls == b.cls) = true := by rw [m9]; simp
                        have p10 : (a.size == b.size) = false := by simpa using m10
                        clear m9 m10
                        go_wp2_with fail
                        go_ret
                        exact ⟨rfl, HO.out⟩
                    · obtain rfl : bb = false := by
                        cases hbb : bb with
                        | false => rfl
                        | true => exact absurd (by rw [HE.out.1 hbb]) m9
                      have p9 : (a.cls == b.cls) = false := by simpa using m9
                      clear m9
                      go_wp2_with fail
                      go_ret
                      exact ⟨rfl, HO.out⟩
                · obtain rfl : bb = false := by
                    cases hbb : bb with
                    | false => rfl
                    | true => exact absurd (by rw [HE.out.1 hbb]) m7
                  have p7 : (a.roll == b.roll) = false := by simpa using m7
                  clear m7
                  go_wp2_with fail
                  go_ret
                  exact ⟨rfl, HO.out⟩
            · obtain rfl : bb = false := by
                cases hbb : bb with
                | false => rfl
                | true => exact absurd (by rw [HE.out.1 hbb]) m5
              have p0 : (a.name.toList == b.name.toList) = true := by rw [m0]; simp
              have p1 : (a.kind == b.kind) = true := by rw [m1]; simp
              have p2 : (a.round == b.round) = true := by rw [m2]; simp
              have p3 : (a.price == b.price) = true := by rw [m3]; simp
              have p4 : (a.pool == b.pool) = true := by rw [m4]; simp
              have p5 : (a.pick == b.pick) = false := by simpa using m5
              clear m0 m1 m2 m3 m4 m5
              go_wp2_with fail
              go_ret
              exact ⟨rfl, HO.out⟩
          · obtain rfl : bb = false := by
              cases hbb : bb with
              | false => rfl
              | true => exact absurd (by rw [HE.out.1 hbb]) m4
            have p0 : (a.name.toList == b.name.toList) = true := by rw [m0]; simp
            have p1 : (a.kind == b.kind) = true := by rw [m1]; simp
            have p2 : (a.round == b.round) = true := by rw [m2]; simp
            have p3 : (a.price == b.price) = true := by rw [m3]; simp
            have p4 : (a.pool == b.pool) = false := by simpa using m4
            clear m0 m1 m2 m3 m4
            go_wp2_with fail
            go_ret
            exact ⟨rfl, HO.out⟩
        · obtain rfl : bb = false := by
            cases hbb : bb with
            | false => rfl
            | true => exact absurd (by rw [HE.out.1 hbb]) m3
          have p0 : (a.name.toList == b.name.toList) = true := by rw [m0]; simp
          have p1 : (a.kind == b.kind) = true := by rw [m1]; simp
          have p2 : (a.round == b.round) = true := by rw [m2]; simp
          have p3 : (a.price == b.price) = false := by simpa using m3
          clear m0 m1 m2 m3
          go_wp2_with fail
          go_ret
          exact ⟨rfl, HO.out⟩
      · obtain rfl : bb = false := by
          cases hbb : bb with
          | false => rfl
          | true => exact absurd (by rw [HE.out.1 hbb]) m2
        have p0 : (a.name.toList == b.name.toList) = true := by rw [m0]; simp
        have p1 : (a.kind == b.kind) = true := by rw [m1]; simp
        have p2 : (a.round == b.round) = false := by simpa using m2
        clear m0 m1 m2
        go_wp2_with fail
        go_ret
        exact ⟨rfl, HO.out⟩
    · obtain rfl : bb = false := by
        cases hbb : bb with
        | false => rfl
        | true => exact absurd (by rw [HE.out.1 hbb]) m1
      have p0 : (a.name.toList == b.name.toList) = true := by rw [m0]; simp
      have p1 : (a.kind == b.kind) = false := by simpa using m1
      clear m0 m1
      go_wp2_with fail
      go_ret
      exact ⟨rfl, HO.out⟩
  · obtain rfl : bb = false := by
      cases hbb : bb with
      | false => rfl
      | true => exact absurd (by rw [HE.out.1 hbb]) m0
    have p0 : (a.name.toList == b.name.toList) = false := by rw [Bool.eq_false_iff]; intro h; exact m0 (tlU_iff.1 h)
    clear m0
    go_wp2_with fail
    go_ret
    exact ⟨rfl, HO.out⟩
end Go.Proofs.YteikkpiginfbkaaGreatDoor

namespace Go.Proofs.YteikkpiginfbkaaGreatDoor
open Go.RowKit

theorem ptAt_is (l : List Int) {k : Nat} (h : k < l.length) : ptAt l k = l[k] := by simp [ptAt, List.getD, h]
theorem take_pt {xs ys : List Int} {k : Nat} (h : xs.take k = ys.take k) (h1 : k < xs.length) (h2 : k < ys.length) (he : ptAt xs k = ptAt ys k) : xs.take (k + 1) = ys.take (k + 1) :=
  take_eq_succ h h1 h2 (by rw [← ptAt_is xs h1, ← ptAt_is ys h2]; exact he)
theorem ne_pt {xs ys : List Int} {k : Nat} (he : ptAt xs k ≠ ptAt ys k) : xs ≠ ys := fun e => he (by rw [e])
set_option maxRecDepth 100000 in
set_option maxHeartbeats 4000000 in
theorem rints13_any (a1 a2 : Option Addr) (c1 c2 : Nat) (xs ys : List Int) (bb : Bool) (w : World) (h1 : PtsAt w.heap.size w (.slice a1 xs.length c1) xs) (h2 : PtsAt w.heap.size w (.slice a2 ys.length c2) ys) (hb : bb = true ↔ xs = ys) (_hl1 : xs.length ≤ 1000000) :
    Calls Tryz.prog 40 #[.slice a1 xs.length c1, .slice a2 ys.length c2] w fun e w' => e = .returned (.bool bb) ∧ Only (fun _ => False) w w' := by
  have H1 := Lib.hid h1
  have H2 := Lib.hid h2
  have HB := Lib.hid hb
  clear h1 h2 hb
  go_enter Tryz.func40, Tryz.ntmps40
  by_cases hl : xs.length = ys.length
  · have HLN := Lib.hid hl
    have q1 : ((xs.length : Int) != ys.length) = false := by rw [hl]; simp
    clear hl
    go_wp2_with fail
    go_loopw [5] (fun iv wr => ∃ k : Nat, iv = .int .i64 k ∧ k ≤ xs.length ∧ xs.take k = ys.take k ∧ Only (fun _ => False) w wr) (fun iv _ => xs.length - (intOf iv).toNat)
    case atStart => exact ⟨0, rfl, Nat.zero_le _, rfl, Only.refl _ _⟩
    case round =>
      obtain ⟨k, rfl, hk, htk, hO⟩ := hrel
      have HTK := Lib.hid htk
      have HO := Lib.hid hO
      have HA := Lib.hid (PtsAt.only hO H1.out)
      have HC := Lib.hid (PtsAt.only hO H2.out)
      clear htk hO
      by_cases hlt : k < xs.length
      · have j1 : (k : Int) < xs.length := by omega
        have j2 : 0 ≤ (k : Int) := by omega
        have hlt2 : k < ys.length := by rw [← HLN.out]; exact hlt
        have j3 : (k : Int) < ys.length := by omega
        have HLT := Lib.hid hlt
        obtain ⟨b1, o1, rfl, hb1, _, hq1, hq2, d1⟩ := HA.out.cellAt hlt
        obtain ⟨b2, o2, rfl, hb2, _, hq3, hq4, d2⟩ := HC.out.cellAt hlt2
        have HNX := Lib.hid (fun (he : ptAt xs k = ptAt ys k) => take_pt HTK.out hlt hlt2 he)
        have HNE := Lib.hid (fun (he : ptAt xs k ≠ ptAt ys k) => show bb = false by
          cases hbb : bb with
          | false => rfl
          | true => exact absurd (HB.out.1 hbb) (ne_pt he))
        generalize ptAt xs k = y at *
        generalize ptAt ys k = z at *
        by_cases m : y = z
        · subst m
          have p : (y != y) = false := by simp
          have HG := Lib.hid (HNX.out rfl)
          go_wp2_with fail
          go_quiet (fail)
          go_wp2_with fail
          go_roundw
          case rel => exact ⟨k + 1, by go_num, HLT.out, HG.out, HO.out.drewN _⟩
          case measure => simp [intOf]; have := HLT.out; omega
        · obtain rfl := HNE.out m
          have p : (y != z) = true := bne_iff_ne.2 m
          clear m
          go_wp2_with fail
          go_quiet (fail)
          go_wp2_with fail
          go_ret
          exact ⟨rfl, HO.out.drewN _⟩
      · obtain rfl : k = xs.length := by omega
        have j1 : ¬ (xs.length : Int) < xs.length := by omega
        obtain rfl : bb = true := HB.out.2 (by
          have := HTK.out
          rw [List.take_length] at this
          rw [this, HLN.out, List.take_length])
        go_wp2_with fail
        go_ret
        exact ⟨rfl, HO.out⟩
  · have q1 : ((xs.length : Int) != ys.length) = true := by
      rw [bne_iff_ne]
      omega
    obtain rfl : bb = false := by
      cases hbb : bb with
      | false => rfl
      | true => exact absurd (congrArg List.length (HB.out.1 hbb)) hl
    clear hl
    go_wp2_with fail
    go_ret
    exact ⟨rfl, Only.refl _ _⟩
end Go.Proofs.YteikkpiginfbkaaGreatDoor

namespace Go.Proofs.YteikkpiginfbkaaGreatDoor
open Go.RowKit

/-- An entrant, and its cells. -/
structure En where
  id : Int
  cls : Int
  fam : Int
  picks : List Int
  wishes : List ByteArray
  groups : List ByteArray
def enCells (e : En) (vp vw vg : Value) : Array Value := #[.int .i64 e.id, .int .i64 e.cls, .int .i64 e.fam, vp, vw, vg]
def nrow (l : List ByteArray) : List Value := l.map .string
structure EnOwn (base : Nat) (W : World) (e : En) (vp vw vg : Value) : Prop where
  picks : W.ownsRow base 3 1 vp e.picks.length (irow e.picks)
  wishes : W.ownsRow base 9 1 vw e.wishes.length (nrow e.wishes)
  groups : W.ownsRow base 9 1 vg e.groups.length (nrow e.groups)
theorem EnOwn.only {base : Nat} {w w' : World} {e : En} {vp vw vg : Value} (h : EnOwn base w e vp vw vg) (hO : Only (fun _ => False) w w') : EnOwn base w' e vp vw vg :=
  ⟨hO.owns h.picks (fun _ _ h => h), hO.owns h.wishes (fun _ _ h => h), hO.owns h.groups (fun _ _ h => h)⟩
theorem EnOwn.base {base base' : Nat} {w : World} {e : En} {vp vw vg : Value} (h : EnOwn base w e vp vw vg) (hb : base' ≤ base) : EnOwn base' w e vp vw vg := ⟨ownR_base h.picks hb, ownR_base h.wishes hb, ownR_base h.groups hb⟩
theorem Tryz.infoEn : (Tryz.prog.info? 44).map (·.size) = some 6 := by kernel_rfl
def naAt (l : List ByteArray) (j : Nat) : ByteArray := l.getD j ByteArray.empty
theorem nrow_cell {w : World} {base : Nat} {a : Option Addr} {c k : Nat} {l : List ByteArray} (h : w.ownsRow base 9 1 (.slice a l.length c) l.length (nrow l)) (hk : k < l.length) :
    ∃ g, a = some ⟨g, 0, none⟩ ∧ g < w.heap.size ∧ l.length ≤ c ∧ c ≤ 9223372036854775807 ∧ w.cell? ⟨g, k, none⟩ = some (.string (naAt l k)) := by
  rcases h.2 with ⟨hv, h0⟩ | ⟨g, cap, cur, hv, hb, hg, hnc, hcm, hcs, htake⟩
  · omega
  · simp only [Value.slice.injEq, true_and] at hv
    obtain ⟨rfl, rfl⟩ := hv
    refine ⟨g, rfl, (Array.getElem?_eq_some_iff.1 hg).1, hnc, hcm, ?_⟩
    rw [cell_of_row w g k cur _ _ hg]
    have h1 : (cur.toList.take (l.length * 1))[k]? = (nrow l)[k]? := by rw [htake]
    rw [List.getElem?_take, if_pos (by omega)] at h1
    rw [Array.getElem?_toList] at h1
    rw [h1]
    unfold nrow naAt
    rw [List.getElem?_map, List.getElem?_eq_getElem hk]
    simp [List.getD, hk]
theorem na_take {l : List ByteArray} {k : Nat} (hk : k < l.length) : l.take (k + 1) = l.take k ++ [naAt l k] := by
  rw [take_snoc hk]; unfold naAt; simp [List.getD, hk]
set_option maxRecDepth 100000 in
set_option maxHeartbeats 4000000 in
theorem rstrings_any (b1 b2 : Nat) (a1 a2 : Option Addr) (c1 c2 : Nat) (xs ys : List ByteArray) (bb : Bool) (w : World) (h1 : w.ownsRow b1 9 1 (.slice a1 xs.length c1) xs.length (nrow xs)) (h2 : w.ownsRow b2 9 1 (.slice a2 ys.length c2) ys.length (nrow ys)) (hb : bb = true ↔ xs = ys) :
    Calls Tryz.prog 41 #[.slice a1 xs.length c1, .slice a2 ys.length c2] w fun e w' => e = .returned (.bool bb) ∧ Only (fun _ => False) w w' := by
  have H1 := Lib.hid h1
  have H2 := Lib.hid h2
  have HB := Lib.hid hb
  clear h1 h2 hb
  go_enter Tryz.func41, Tryz.ntmps41
  by_cases hl : xs.length = ys.length
  · have HLN := Lib.hid hl
    have q1 : ((xs.length : Int) != ys.length) = false := by rw [hl]; simp
    clear hl
    go_wp2_with fail
    go_loopw [5] (fun iv wr => ∃ k : Nat, iv = .int .i64 k ∧ k ≤ xs.length ∧ xs.take k = ys.take k ∧ Only (fun _ => False) w wr) (fun iv _ => xs.length - (intOf iv).toNat)
    case atStart => exact ⟨0, rfl, Nat.zero_le _, rfl, Only.refl _ _⟩
    case round =>
      obtain ⟨k, rfl, hk, htk, hO⟩ := hrel
      have HTK := Lib.hid htk
      have HO := Lib.hid hO
      have HA := Lib.hid (hO.owns H1.out (fun _ _ h => h))
      have HC := Lib.hid (hO.owns H2.out (fun _ _ h => h))
      clear htk hO
      by_cases hlt : k < xs.length
      · have j1 : (k : Int) < xs.length := by omega
        have j2 : 0 ≤ (k : Int) := by omega
        have hlt2 : k < ys.length := by rw [← HLN.out]; exact hlt
        have j3 : (k : Int) < ys.length := by omega
        have HLT := Lib.hid hlt
        obtain ⟨g1, rfl, hb1, hq1, hq2, d1⟩ := nrow_cell HA.out hlt
        obtain ⟨g2, rfl, hb2, hq3, hq4, d2⟩ := nrow_cell HC.out hlt2
        have HNX := Lib.hid (fun (he : naAt xs k = naAt ys k) => show xs.take (k + 1) = ys.take (k + 1) by rw [na_take hlt, na_take hlt2, HTK.out, he])
        have HNE := Lib.hid (fun (he : naAt xs k ≠ naAt ys k) => show bb = false by
          cases hbb : bb with
          | false => rfl
          | true => exact absurd (by rw [HB.out.1 hbb]) he)
        generalize naAt xs k = y at *
        generalize naAt ys k = z at *
        by_cases m : y = z
        · subst m
          have p : (y.toList == y.toList) = true := by simp
          have HG := Lib.hid (HNX.out rfl)
          go_wp2_with fail
          go_quiet (fail)
          go_wp2_with fail
          go_roundw
          case rel => exact ⟨k + 1, by go_num, HLT.out, HG.out, HO.out.drewN _⟩
          case measure => simp [intOf]; have := HLT.out; omega
        · obtain rfl := HNE.out m
          have p : (y.toList == z.toList) = false := by
            rw [beq_eq_false_iff_ne]
            intro e
            rw [ByteArray.toList_eq, ByteArray.toList_eq] at e
            exact m (ba_ext e)
          clear m
          go_wp2_with fail
          go_quiet (fail)
          go_wp2_with fail
          go_ret
          exact ⟨rfl, HO.out.drewN _⟩
      · obtain rfl : k = xs.length := by omega
        have j1 : ¬ (xs.length : Int) < xs.length := by omega
        obtain rfl : bb = true := HB.out.2 (by
          have := HTK.out
          rw [List.take_length] at this
          rw [this, HLN.out, List.take_length])
        go_wp2_with fail
        go_ret
        exact ⟨rfl, HO.out⟩
  · have q1 : ((xs.length : Int) != ys.length) = true := by
      rw [bne_iff_ne]
      omega
    obtain rfl : bb = false := by
      cases hbb : bb with
      | false => rfl
      | true => exact absurd (congrArg List.length (HB.out.1 hbb)) hl
    go_wp2_with fail
    go_ret
    exact ⟨rfl, Only.refl _ _⟩
set_option maxRecDepth 100000 in
set_option maxHeartbeats 4000000 in
theorem rsame_any (a : En) (vp vw vg up uw ug : Value) (b1 b2 : Nat) (w : World) (h1 : EnOwn b1 w a vp vw vg) (h2 : EnOwn b2 w a up uw ug) (hl : a.picks.length ≤ 1000000) :
    Calls Tryz.prog 18 #[.agg (enCells a vp vw vg), .agg (enCells a up uw ug)] w fun e w' => e = .returned (.bool true) ∧ Only (fun _ => False) w w' := by
  obtain ⟨ap1, cp, rfl⟩ := slice_of_own h1.picks
  obtain ⟨aw1, cw, rfl⟩ := slice_of_own h1.wishes
  obtain ⟨ag1, cg, rfl⟩ := slice_of_own h1.groups
  obtain ⟨bp1, dp, rfl⟩ := slice_of_own h2.picks
  obtain ⟨bw1, dw, rfl⟩ := slice_of_own h2.wishes
  obtain ⟨bg1, dg, rfl⟩ := slice_of_own h2.groups
  have H1 := Lib.hid h1
  have H2 := Lib.hid h2
  have HL := Lib.hid hl
  have HZA := Lib.hid (heap_alloc_last w (.cells (enCells a (.slice ap1 a.picks.length cp) (.slice aw1 a.wishes.length cw) (.slice ag1 a.groups.length cg)) 44))
  have HOA := Lib.hid ((Only.refl (fun _ => False) w).alloc (.cells (enCells a (.slice ap1 a.picks.length cp) (.slice aw1 a.wishes.length cw) (.slice ag1 a.groups.length cg)) 44))
  clear h1 h2 hl
  go_enter Tryz.func18, Tryz.ntmps18
  go_upto_region 1 with (fail)
  have HZB := Lib.hid (heap_alloc_last (w.alloc (.cells (enCells a (.slice ap1 a.picks.length cp) (.slice aw1 a.wishes.length cw) (.slice ag1 a.groups.length cg)) 44)) (.cells (enCells a (.slice bp1 a.picks.length dp) (.slice bw1 a.wishes.length dw) (.slice bg1 a.groups.length dg)) 44))
  have HOB := Lib.hid ((Only.refl (fun _ => False) (w.alloc (.cells (enCells a (.slice ap1 a.picks.length cp) (.slice aw1 a.wishes.length cw) (.slice ag1 a.groups.length cg)) 44))).alloc (.cells (enCells a (.slice bp1 a.picks.length dp) (.slice bw1 a.wishes.length dw) (.slice bg1 a.groups.length dg)) 44))
  have HZA := Lib.hid (row_still HOB.out HZA.out)
  have HO := Lib.hid (HOA.out.trans HOB.out)
  rw [World.size_alloc] at HZB
  clear HOA HOB
  generalize World.alloc (World.alloc w _) _ = w1 at *
  have HE1 := Lib.hid (H1.out.only HO.out)
  have HE2 := Lib.hid (H2.out.only HO.out)
  have hlt0 : w.heap.size < w1.heap.size := (Array.getElem?_eq_some_iff.1 HZA.out).1
  have hlt1 : w.heap.size + 1 < w1.heap.size := (Array.getElem?_eq_some_iff.1 HZB.out).1
  have c3 : w1.cell? ⟨w.heap.size, 3, none⟩ = some (.slice ap1 a.picks.length cp) := cell_of_row _ _ 3 _ _ _ HZA.out
  have e3 : w1.cell? ⟨w.heap.size + 1, 3, none⟩ = some (.slice bp1 a.picks.length dp) := cell_of_row _ _ 3 _ _ _ HZB.out
  go_wp2_with fail
  refine (rints13_any ap1 bp1 cp dp a.picks a.picks true w1 (ptsR_of_own HE1.out.picks) (ptsR_of_own HE2.out.picks) (by simp) HL.out).mono ?_
  rintro e w2 ⟨rfl, hO2⟩
  have HZA2 := Lib.hid (row_still hO2 HZA.out)
  have HZB2 := Lib.hid (row_still hO2 HZB.out)
  have HE1b := Lib.hid (HE1.out.only hO2)
  have HE2b := Lib.hid (HE2.out.only hO2)
  have HO2 := Lib.hid (HO.out.trans hO2)
  have c4 : w2.cell? ⟨w.heap.size, 4, none⟩ = some (.slice aw1 a.wishes.length cw) := cell_of_row _ _ 4 _ _ _ HZA2.out
  have e4 : w2.cell? ⟨w.heap.size + 1, 4, none⟩ = some (.slice bw1 a.wishes.length dw) := cell_of_row _ _ 4 _ _ _ HZB2.out
  clear hO2 c3 e3
  go_wp2_with fail
  refine (rstrings_any b1 b2 aw1 bw1 cw dw a.wishes a.wishes true w2 HE1b.out.wishes HE2b.out.wishes (by simp)).mono ?_
  rintro e w3 ⟨rfl, hO3⟩
  have HZA3 := Lib.hid (row_still hO3 HZA2.out)
  have HZB3 := Lib.hid (row_still hO3 HZB2.out)
  have HE1c := Lib.hid (HE1b.out.only hO3)
  have HE2c := Lib.hid (HE2b.out.only hO3)
  have HO3 := Lib.hid (HO2.out.trans hO3)
  have c5 : w3.cell? ⟨w.heap.size, 5, none⟩ = some (.slice ag1 a.groups.length cg) := cell_of_row _ _ 5 _ _ _ HZA3.out
  have e5 : w3.cell? ⟨w.heap.size + 1, 5, none⟩ = some (.slice bg1 a.groups.length dg) := cell_of_row _ _ 5 _ _ _ HZB3.out
  clear hO3 c4 e4
  go_wp2_with fail
  refine (rstrings_any b1 b2 ag1 bg1 cg dg a.groups a.groups true w3 HE1c.out.groups HE2c.out.groups (by simp)).mono ?_
  rintro e w4 ⟨rfl, hO4⟩
  have HZA4 := Lib.hid (row_still hO4 HZA3.out)
  have HZB4 := Lib.hid (row_still hO4 HZB3.out)
  have HO4 := Lib.hid (HO3.out.trans hO4)
  have c0 : w4.cell? ⟨w.heap.size, 0, none⟩ = some (.int .i64 a.id) := cell_of_row _ _ 0 _ _ _ HZA4.out
  have c1 : w4.cell? ⟨w.heap.size, 1, none⟩ = some (.int .i64 a.cls) := cell_of_row _ _ 1 _ _ _ HZA4.out
  have c2 : w4.cell? ⟨w.heap.size, 2, none⟩ = some (.int .i64 a.fam) := cell_of_row _ _ 2 _ _ _ HZA4.out
  have e0 : w4.cell? ⟨w.heap.size + 1, 0, none⟩ = some (.int .i64 a.id) := cell_of_row _ _ 0 _ _ _ HZB4.out
  have e1 : w4.cell? ⟨w.heap.size + 1, 1, none⟩ = some (.int .i64 a.cls) := cell_of_row _ _ 1 _ _ _ HZB4.out
  have e2 : w4.cell? ⟨w.heap.size + 1, 2, none⟩ = some (.int .i64 a.fam) := cell_of_row _ _ 2 _ _ _ HZB4.out
  have q0 : (a.id == a.id) = true := by simp
  have q1 : (a.cls == a.cls) = true := by simp
  have q2 : (a.fam == a.fam) = true := by simp
  clear hO4 c5 e5
  go_wp2_with fail
  go_ret
  exact ⟨rfl, HO4.out⟩
end Go.Proofs.YteikkpiginfbkaaGreatDoor

namespace Go.Proofs.YteikkpiginfbkaaGreatDoor
open Go.RowKit

def rightE (e : En) : Bool := [e.id, e.cls, e.fam].all rgB && e.picks.all rgB && decide (e.picks.length ≤ 60 ∧ e.wishes.length ≤ 12 ∧ e.groups.length ≤ 12) && (e.wishes.all nameB && e.groups.all nameB)
def lkE (e : En) (k : Nat) : List ByteArray := if k = 0 then e.wishes else e.groups
theorem lk_own {base : Nat} {w : World} {e : En} {vp : Value} {aw ag : Option Addr} {cw cg k B : Nat} (h : EnOwn base w e vp (.slice aw e.wishes.length cw) (.slice ag e.groups.length cg))
    (hB : w.heap[B]? = some (.cells #[.slice aw e.wishes.length cw, .slice ag e.groups.length cg] 42 (0, 0))) (hk : k < 2) :
    ∃ a c, w.cell? ⟨B, k, none⟩ = some (.slice a (lkE e k).length c) ∧ w.ownsRow base 9 1 (.slice a (lkE e k).length c) (lkE e k).length (nrow (lkE e k)) := by
  rcases (show k = 0 ∨ k = 1 by omega) with rfl | rfl
  · exact ⟨aw, cw, cell_of_row _ _ 0 _ _ _ hB, h.wishes⟩
  · exact ⟨ag, cg, cell_of_row _ _ 1 _ _ _ hB, h.groups⟩
theorem rightE_no {e : En} {k : Nat} (h : (lkE e k).all nameB = false) : rightE e = false := by
  unfold lkE at h
  unfold rightE
  split at h <;> rw [h] <;> simp
theorem rightE_yes {e : En} (h1 : [e.id, e.cls, e.fam].all rgB = true) (h2 : e.picks.all rgB = true) (h3 : e.picks.length ≤ 60 ∧ e.wishes.length ≤ 12 ∧ e.groups.length ≤ 12) (h4 : ∀ j, j < 2 → (lkE e j).all nameB = true) : rightE e = true := by
  have a := h4 0 (by decide)
  have b := h4 1 (by decide)
  unfold lkE at a b
  rw [if_pos rfl] at a
  rw [if_neg (by decide)] at b
  unfold rightE
  rw [h1, h2, a, b, decide_eq_true h3]; rfl
theorem lk_len {e : En} {k : Nat} (h3 : e.picks.length ≤ 60 ∧ e.wishes.length ≤ 12 ∧ e.groups.length ≤ 12) : (lkE e k).length ≤ 12 := by
  unfold lkE; split <;> omega
theorem all_snoc {l : List ByteArray} {j : Nat} (h : j < l.length) (h1 : (l.take j).all nameB = true) (h2 : nameB (naAt l j) = true) : (l.take (j + 1)).all nameB = true := by
  rw [na_take h, List.all_append, h1, List.all_cons, h2]; rfl
theorem all_not {l : List ByteArray} {j : Nat} (h : j < l.length) (h2 : nameB (naAt l j) = false) : l.all nameB = false := by
  rw [Bool.eq_false_iff]
  intro hh
  have := List.all_eq_true.1 hh (naAt l j) (by unfold naAt; simp [List.getD, h])
  rw [h2] at this; cases this
set_option maxRecDepth 100000 in
set_option maxHeartbeats 4000000 in
theorem rightent_any (e : En) (vp vw vg : Value) (bb : Bool) (base : Nat) (w : World) (h : EnOwn base w e vp vw vg) (hb : rightE e = bb) (hl : e.picks.length ≤ 1000000 ∧ e.wishes.length ≤ 1000000 ∧ e.groups.length ≤ 1000000) :
    Calls Tryz.prog 39 #[.agg (enCells e vp vw vg)] w fun r w' => r = .returned (.bool bb) ∧ Only (fun _ => False) w w' := by
  obtain ⟨ap1, cp, rfl⟩ := slice_of_own h.picks
  obtain ⟨aw1, cw, rfl⟩ := slice_of_own h.wishes
  obtain ⟨ag1, cg, rfl⟩ := slice_of_own h.groups
  have H := Lib.hid h
  have HB := Lib.hid hb
  have HL := Lib.hid hl
  have HZ := Lib.hid (heap_alloc_last w (.cells (enCells e (.slice ap1 e.picks.length cp) (.slice aw1 e.wishes.length cw) (.slice ag1 e.groups.length cg)) 44))
  have HO := Lib.hid ((Only.refl (fun _ => False) w).alloc (.cells (enCells e (.slice ap1 e.picks.length cp) (.slice aw1 e.wishes.length cw) (.slice ag1 e.groups.length cg)) 44))
  have HLE := Lib.hid (fun k => rightE_no (e := e) (k := k))
  have HYE := Lib.hid (rightE_yes (e := e))
  clear h hb hl
  go_enter Tryz.func39, Tryz.ntmps39
  go_upto_region 1 with (fail)
  generalize World.alloc w _ = w1 at *
  have HE1 := Lib.hid (H.out.only HO.out)
  have hlt0 : w.heap.size < w1.heap.size := (Array.getElem?_eq_some_iff.1 HZ.out).1
  have c0 : w1.cell? ⟨w.heap.size, 0, none⟩ = some (.int .i64 e.id) := cell_of_row _ _ 0 _ _ _ HZ.out
  have c1 : w1.cell? ⟨w.heap.size, 1, none⟩ = some (.int .i64 e.cls) := cell_of_row _ _ 1 _ _ _ HZ.out
  have c2 : w1.cell? ⟨w.heap.size, 2, none⟩ = some (.int .i64 e.fam) := cell_of_row _ _ 2 _ _ _ HZ.out
  have c3 : w1.cell? ⟨w.heap.size, 3, none⟩ = some (.slice ap1 e.picks.length cp) := cell_of_row _ _ 3 _ _ _ HZ.out
  go_wp2_with fail
  have HO2 := Lib.hid (HO.out.alloc (.cells #[.int .i64 e.id, .int .i64 e.cls, .int .i64 e.fam] 3))
  have HZ2 := Lib.hid (row_still ((Only.refl (fun _ => False) w1).alloc (.cells #[.int .i64 e.id, .int .i64 e.cls, .int .i64 e.fam] 3)) HZ.out)
  have HE2 := Lib.hid (HE1.out.only ((Only.refl (fun _ => False) w1).alloc (.cells #[.int .i64 e.id, .int .i64 e.cls, .int .i64 e.fam] 3)))
  obtain ⟨b1, hb1⟩ : ∃ b, [e.id, e.cls, e.fam].all rgB = b := ⟨_, rfl⟩
  refine (range_any (some ⟨w1.heap.size, 0, none⟩) 3 [e.id, e.cls, e.fam] b1 (w1.alloc (.cells #[.int .i64 e.id, .int .i64 e.cls, .int .i64 e.fam] 3)) (by exact pts_new w1 [e.id, e.cls, e.fam] (by simp) (by simp)) hb1 (by simp)).mono ?_
  rintro e' w2 ⟨rfl, rfl⟩
  have HB1 := Lib.hid hb1
  clear hb1 c0 c1 c2 c3
  generalize (w1.alloc (.cells #[.int .i64 e.id, .int .i64 e.cls, .int .i64 e.fam] 3)) = w2 at *
  have hlt2 : w.heap.size < w2.heap.size := (Array.getElem?_eq_some_iff.1 HZ2.out).1
  have c3 : w2.cell? ⟨w.heap.size, 3, none⟩ = some (.slice ap1 e.picks.length cp) := cell_of_row _ _ 3 _ _ _ HZ2.out
  have c4 : w2.cell? ⟨w.heap.size, 4, none⟩ = some (.slice aw1 e.wishes.length cw) := cell_of_row _ _ 4 _ _ _ HZ2.out
  have c5 : w2.cell? ⟨w.heap.size, 5, none⟩ = some (.slice ag1 e.groups.length cg) := cell_of_row _ _ 5 _ _ _ HZ2.out
  cases b1
  · have HF := Lib.hid (show bb = false by rw [← HB.out]; unfold rightE; rw [HB1.out]; rfl)
    go_wp2_with fail
    go_ret
    exact ⟨by rw [HF.out]; rfl, HO2.out⟩
  obtain ⟨b2, hb2⟩ : ∃ b, e.picks.all rgB = b := ⟨_, rfl⟩
  have HB2 := Lib.hid hb2
  have HC := Lib.hid (range_any ap1 cp e.picks b2 w2 (ptsR_of_own HE2.out.picks) hb2 HL.out.1)
  clear hb2
  go_wp2_with fail
  refine HC.out.mono ?_
  rintro e' w3 ⟨rfl, rfl⟩
  clear HC
  cases b2
  · have HF := Lib.hid (show bb = false by rw [← HB.out]; unfold rightE; rw [HB2.out]; simp)
    go_wp2_with fail
    go_ret
    exact ⟨by rw [HF.out]; rfl, HO2.out⟩
  by_cases hn : e.picks.length ≤ 60 ∧ e.wishes.length ≤ 12 ∧ e.groups.length ≤ 12
  rotate_left
  · have HF := Lib.hid (show bb = false by rw [← HB.out]; unfold rightE; rw [decide_eq_false hn]; simp)
    by_cases h1 : e.picks.length ≤ 60
    · by_cases h2 : e.wishes.length ≤ 12
      · have i1 : ¬ (60 : Int) < e.picks.length := by omega
        have i2 : ¬ (12 : Int) < e.wishes.length := by omega
        have i3 : (12 : Int) < e.groups.length := by omega
        clear hn h1 h2
        go_wp2_with fail
        go_ret
        exact ⟨by rw [HF.out]; rfl, HO2.out⟩
      · have i1 : ¬ (60 : Int) < e.picks.length := by omega
        have i2 : (12 : Int) < e.wishes.length := by omega
        clear hn h1 h2
        go_wp2_with fail
        go_ret
        exact ⟨by rw [HF.out]; rfl, HO2.out⟩
    · have i1 : (60 : Int) < e.picks.length := by omega
      clear hn h1
      go_wp2_with fail
      go_ret
      exact ⟨by rw [HF.out]; rfl, HO2.out⟩
  have HN := Lib.hid hn
  have i1 : ¬ (60 : Int) < e.picks.length := by omega
  have i2 : ¬ (12 : Int) < e.wishes.length := by omega
  have i3 : ¬ (12 : Int) < e.groups.length := by omega
  clear hn
  go_upto_region 5 with (fail)
  clear i1 i2 i3
  go_wp2_with fail
  have HO3 := Lib.hid (HO2.out.alloc (.cells #[.slice aw1 e.wishes.length cw, .slice ag1 e.groups.length cg] 42))
  have HQ := Lib.hid (heap_alloc_last w2 (.cells #[.slice aw1 e.wishes.length cw, .slice ag1 e.groups.length cg] 42))
  have HE3 := Lib.hid (HE2.out.only ((Only.refl (fun _ => False) w2).alloc (.cells #[.slice aw1 e.wishes.length cw, .slice ag1 e.groups.length cg] 42)))
  clear c3 c4 c5
  generalize (w2.alloc (.cells #[.slice aw1 e.wishes.length cw, .slice ag1 e.groups.length cg] 42)) = w3 at *
  generalize w2.heap.size = B at *
  go_loopw [44] (fun iv wr => ∃ k : Nat, iv = .int .i64 k ∧ k ≤ 2 ∧ (∀ j, j < k → (lkE e j).all nameB = true) ∧ Only (fun _ => False) w3 wr) (fun iv _ => 2 - (intOf iv).toNat)
  case atStart => exact ⟨0, rfl, by decide, fun j hj => absurd hj (Nat.not_lt_zero _), Only.refl _ _⟩
  case round =>
    obtain ⟨k, rfl, hk, hall, hO⟩ := hrel
    have HALL := Lib.hid hall
    have HOR := Lib.hid hO
    clear hall hO
    by_cases hlt : k < 2
    · have j1 : (k : Int) < 2 := by omega
      have j2 : 0 ≤ (k : Int) := by omega
      have HQR := Lib.hid (row_still HOR.out HQ.out)
      obtain ⟨a, c, d0, hown⟩ := lk_own (HE3.out.only HOR.out) HQR.out hlt
      have HW := Lib.hid hown
      have HNO := Lib.hid (HLE.out k)
      have HLT := Lib.hid hlt
      have HLL := Lib.hid (lk_len (k := k) HN.out)
      have HNX := Lib.hid (fun (h : (lkE e k).all nameB = true) => show ∀ j, j < k + 1 → (lkE e j).all nameB = true from fun j hj => by
        rcases Nat.lt_or_ge j k with h1 | h1
        · exact HALL.out j h1
        · rw [show j = k by omega]; exact h)
      have hBr : B < wr.heap.size := (Array.getElem?_eq_some_iff.1 HQR.out).1
      clear hown hlt
      generalize lkE e k = l at *
      go_wp2_with fail
      generalize wr = w6 at *
      go_loopw [50] (fun jv wr => ∃ j : Nat, jv = .int .i64 j ∧ j ≤ l.length ∧ (l.take j).all nameB = true ∧ Only (fun _ => False) w6 wr) (fun jv _ => l.length - (intOf jv).toNat)
      case atStart => exact ⟨0, rfl, Nat.zero_le _, rfl, Only.refl _ _⟩
      case round =>
        obtain ⟨j, rfl, hj, hja, hO⟩ := hrel
        have HJA := Lib.hid hja
        have HOI := Lib.hid hO
        have HWI := Lib.hid (hO.owns HW.out (fun _ _ h => h))
        clear hja hO
        by_cases hjl : j < l.length
        · have m1 : (j : Int) < l.length := by omega
          have m2 : 0 ≤ (j : Int) := by omega
          obtain ⟨g, rfl, hg, hq1, hq2, d1⟩ := nrow_cell HWI.out hjl
          have HJS := Lib.hid (all_snoc hjl HJA.out)
          have HJN := Lib.hid (all_not hjl)
          have HJL := Lib.hid hjl
          generalize naAt l j = y at *
          go_wp2_with fail
          obtain ⟨by1, hby⟩ : ∃ b, nameB y = b := ⟨_, rfl⟩
          refine (isname_any y by1 _ hby).mono ?_
          rintro e' w7 ⟨rfl, rfl⟩
          cases by1
          · have HF := Lib.hid (show bb = false by rw [← HB.out]; exact HNO.out (HJN.out hby))
            clear hby
            go_wp2_with fail
            go_ret
            exact ⟨by rw [HF.out]; rfl, ((HO3.out.trans HOR.out).trans HOI.out)⟩
          · have HS := Lib.hid (HJS.out hby)
            clear hby
            go_wp2_with fail
            go_roundw
            case rel => exact ⟨j + 1, by go_num, HJL.out, HS.out, HOI.out⟩
            case measure => simp [intOf]; have := HJL.out; omega
        · obtain rfl : j = l.length := by omega
          have m1 : ¬ (l.length : Int) < l.length := by omega
          have HLA := Lib.hid (show l.all nameB = true by have := HJA.out; rw [List.take_length] at this; exact this)
          clear hjl hj
          go_wp2_with fail
          go_roundw
          case rel => exact ⟨k + 1, by go_num, HLT.out, HNX.out HLA.out, HOR.out.trans HOI.out⟩
          case measure => simp [intOf]; have := HLT.out; omega
    · obtain rfl : k = 2 := by omega
      have HF := Lib.hid (show bb = true by rw [← HB.out]; exact HYE.out HB1.out HB2.out HN.out HALL.out)
      clear hlt hk
      go_wp2_with fail
      go_ret
      exact ⟨by rw [HF.out]; rfl, HO3.out.trans HOR.out⟩
end Go.Proofs.YteikkpiginfbkaaGreatDoor

namespace Go.Proofs.YteikkpiginfbkaaGreatDoor
open Go.RowKit

def kEntrant : ByteArray := ⟨#[101, 110, 116, 114, 97, 110, 116]⟩
def addN (s : ByteArray) (l : List ByteArray) : ByteArray := l.foldl (fun s w => s ++ (⟨#[32]⟩ ++ w)) s
theorem addN_snoc (s : ByteArray) (l : List ByteArray) (w : ByteArray) : addN s (l ++ [w]) = addN s l ++ (⟨#[32]⟩ ++ w) := by unfold addN; rw [List.foldl_append]; rfl
/-- The names of a list, with their number in front, behind a text. -/
def addW (s : ByteArray) (l : List ByteArray) : ByteArray := addN (textU s [l.length]) l
def pe0 (e : En) : ByteArray := textU (textU kEntrant [e.id, e.cls, e.fam, e.picks.length]) e.picks
def peK (e : En) : Nat → ByteArray
  | 0 => pe0 e
  | k + 1 => addW (peK e k) (lkE e k)
def printEZ (e : En) : ByteArray := if rightE e = true then peK e 2 else ByteArray.empty
theorem rg_all {l : List Int} (h : l.all rgB = true) : ∀ n ∈ l, R64 n := fun n hn => rg_R64 (List.all_eq_true.1 h n hn)
theorem rightE_parts {e : En} (h : rightE e = true) : [e.id, e.cls, e.fam].all rgB = true ∧ e.picks.all rgB = true ∧ (e.picks.length ≤ 60 ∧ e.wishes.length ≤ 12 ∧ e.groups.length ≤ 12) ∧ (∀ k, (lkE e k).all nameB = true) := by
  unfold rightE at h
  simp only [Bool.and_eq_true, decide_eq_true_eq] at h
  obtain ⟨⟨⟨h1, h2⟩, h3⟩, h4, h5⟩ := h
  refine ⟨h1, h2, h3, fun k => ?_⟩
  unfold lkE
  split
  · exact h4
  · exact h5
theorem addN_size {s : ByteArray} : ∀ {l : List ByteArray}, (∀ w ∈ l, w.size ≤ 20) → (addN s l).size ≤ s.size + 21 * l.length
  | [], _ => Nat.le_refl _
  | w :: l, h => by
    have h1 := h w List.mem_cons_self
    have h2 := addN_size (s := s ++ (⟨#[32]⟩ ++ w)) (fun x hx => h x (List.mem_cons_of_mem _ hx))
    rw [ByteArray.size_append, ByteArray.size_append] at h2
    have : (⟨#[32]⟩ : ByteArray).size = 1 := rfl
    show (addN (s ++ (⟨#[32]⟩ ++ w)) l).size ≤ _
    rw [List.length_cons]
    omega
theorem name_20 {s : ByteArray} (h : nameB s = true) : s.size ≤ 20 := by
  unfold nameB at h
  simp only [Bool.and_eq_true, decide_eq_true_eq] at h
  exact h.1.2
theorem all_20 {l : List ByteArray} (h : l.all nameB = true) : ∀ w ∈ l, w.size ≤ 20 := fun w hw => name_20 (List.all_eq_true.1 h w hw)
theorem len_R64 {n : Nat} (h : n ≤ 1000) : R64 (n : Int) := by unfold R64; omega
theorem pe0_size {e : En} (h : rightE e = true) : (pe0 e).size ≤ 1500 := by
  obtain ⟨h1, h2, h3, _⟩ := rightE_parts h
  have a := textU_size (word := kEntrant) (ns := [e.id, e.cls, e.fam, (e.picks.length : Int)]) (fun n hn => by
    simp only [List.mem_cons, List.not_mem_nil, or_false] at hn
    rcases hn with rfl | rfl | rfl | rfl
    · exact rg_all h1 _ (by simp)
    · exact rg_all h1 _ (by simp)
    · exact rg_all h1 _ (by simp)
    · exact len_R64 (by omega))
  have b := textU_size (word := textU kEntrant [e.id, e.cls, e.fam, (e.picks.length : Int)]) (rg_all h2)
  have : kEntrant.size = 7 := rfl
  simp only [List.length_cons, List.length_nil] at a
  unfold pe0
  omega
theorem addW_size {e : En} (h : rightE e = true) (k : Nat) (s : ByteArray) : (addW s (lkE e k)).size ≤ s.size + 300 := by
  obtain ⟨_, _, h3, h4⟩ := rightE_parts h
  have hl := lk_len (k := k) h3
  have a := addN_size (s := textU s [((lkE e k).length : Int)]) (all_20 (h4 k))
  have b := textU_size (word := s) (ns := [((lkE e k).length : Int)]) (fun n hn => by rw [List.mem_singleton.1 hn]; exact len_R64 (by omega))
  simp only [List.length_cons, List.length_nil] at b
  unfold addW
  omega
theorem peK_succ (e : En) (k : Nat) : peK e (k + 1) = addW (peK e k) (lkE e k) := by rw [peK]
theorem peK_zero (e : En) : peK e 0 = pe0 e := by rw [peK]
theorem peK_size {e : En} (h : rightE e = true) : ∀ k, (peK e k).size ≤ 1500 + 300 * k
  | 0 => by rw [peK_zero]; have := pe0_size h; omega
  | k + 1 => by
    have h1 := peK_size h k
    have h2 := addW_size h k (peK e k)
    rw [peK_succ]
    exact Nat.le_trans h2 (Nat.le_trans (Nat.add_le_add_right h1 300) (Nat.le_of_eq (by rw [Nat.mul_succ, Nat.add_assoc])))
set_option maxRecDepth 100000 in
set_option maxHeartbeats 4000000 in
theorem printent_any (e : En) (vp vw vg : Value) (base : Nat) (w : World) (h : EnOwn base w e vp vw vg) (hl : e.picks.length ≤ 1000000 ∧ e.wishes.length ≤ 1000000 ∧ e.groups.length ≤ 1000000) (hG : GlobU w) :
    Calls Tryz.prog 16 #[.agg (enCells e vp vw vg)] w fun r w' => r = .returned (.string (printEZ e)) ∧ Only (fun _ => False) w w' := by
  obtain ⟨ap1, cp, rfl⟩ := slice_of_own h.picks
  obtain ⟨aw1, cw, rfl⟩ := slice_of_own h.wishes
  obtain ⟨ag1, cg, rfl⟩ := slice_of_own h.groups
  have H := Lib.hid h
  have HG := Lib.hid hG
  have HL := Lib.hid hl
  have HZ := Lib.hid (heap_alloc_last w (.cells (enCells e (.slice ap1 e.picks.length cp) (.slice aw1 e.wishes.length cw) (.slice ag1 e.groups.length cg)) 44))
  have HO := Lib.hid ((Only.refl (fun _ => False) w).alloc (.cells (enCells e (.slice ap1 e.picks.length cp) (.slice aw1 e.wishes.length cw) (.slice ag1 e.groups.length cg)) 44))
  clear h hl hG
  go_enter Tryz.func16, Tryz.ntmps16
  go_upto_region 1 with (fail)
  generalize World.alloc w _ = w1 at *
  have HE1 := Lib.hid (H.out.only HO.out)
  have hlt0 : w.heap.size < w1.heap.size := (Array.getElem?_eq_some_iff.1 HZ.out).1
  have c0 : w1.cell? ⟨w.heap.size, 0, none⟩ = some (.int .i64 e.id) := cell_of_row _ _ 0 _ _ _ HZ.out
  have c1 : w1.cell? ⟨w.heap.size, 1, none⟩ = some (.int .i64 e.cls) := cell_of_row _ _ 1 _ _ _ HZ.out
  have c2 : w1.cell? ⟨w.heap.size, 2, none⟩ = some (.int .i64 e.fam) := cell_of_row _ _ 2 _ _ _ HZ.out
  have c3 : w1.cell? ⟨w.heap.size, 3, none⟩ = some (.slice ap1 e.picks.length cp) := cell_of_row _ _ 3 _ _ _ HZ.out
  have c4 : w1.cell? ⟨w.heap.size, 4, none⟩ = some (.slice aw1 e.wishes.length cw) := cell_of_row _ _ 4 _ _ _ HZ.out
  have c5 : w1.cell? ⟨w.heap.size, 5, none⟩ = some (.slice ag1 e.groups.length cg) := cell_of_row _ _ 5 _ _ _ HZ.out
  go_wp2_with fail
  obtain ⟨bb, hb⟩ : ∃ b, rightE e = b := ⟨_, rfl⟩
  refine (rightent_any e _ _ _ bb base w1 HE1.out hb HL.out).mono ?_
  rintro e' w2 ⟨rfl, hO2⟩
  have HB := Lib.hid hb
  have HO2 := Lib.hid (HO.out.trans hO2)
  cases bb
  · go_wp2_with fail
    go_ret
    exact ⟨by unfold printEZ; rw [if_neg (by rw [HB.out]; decide)]; rfl, HO2.out⟩
  have HZ2 := Lib.hid (row_still hO2 HZ.out)
  have HE2 := Lib.hid (HE1.out.only hO2)
  have HPE := Lib.hid (show printEZ e = peK e 2 by unfold printEZ; rw [if_pos hb])
  have HPR := Lib.hid (rightE_parts hb)
  have HSZ := Lib.hid (peK_size hb)
  have HS0 := Lib.hid (pe0_size hb)
  clear hb hO2 c0 c1 c2 c3 c4 c5
  have hlt2 : w.heap.size < w2.heap.size := (Array.getElem?_eq_some_iff.1 HZ2.out).1
  have c0 : w2.cell? ⟨w.heap.size, 0, none⟩ = some (.int .i64 e.id) := cell_of_row _ _ 0 _ _ _ HZ2.out
  have c1 : w2.cell? ⟨w.heap.size, 1, none⟩ = some (.int .i64 e.cls) := cell_of_row _ _ 1 _ _ _ HZ2.out
  have c2 : w2.cell? ⟨w.heap.size, 2, none⟩ = some (.int .i64 e.fam) := cell_of_row _ _ 2 _ _ _ HZ2.out
  have c3 : w2.cell? ⟨w.heap.size, 3, none⟩ = some (.slice ap1 e.picks.length cp) := cell_of_row _ _ 3 _ _ _ HZ2.out
  go_wp2_with fail
  have HOa := Lib.hid (HO2.out.alloc (.cells #[.int .i64 e.id, .int .i64 e.cls, .int .i64 e.fam, .int .i64 e.picks.length] 3))
  have HZa := Lib.hid (row_still ((Only.refl (fun _ => False) w2).alloc (.cells #[.int .i64 e.id, .int .i64 e.cls, .int .i64 e.fam, .int .i64 e.picks.length] 3)) HZ2.out)
  have HEa := Lib.hid (HE2.out.only ((Only.refl (fun _ => False) w2).alloc (.cells #[.int .i64 e.id, .int .i64 e.cls, .int .i64 e.fam, .int .i64 e.picks.length] 3)))
  have HR4 := Lib.hid (show ∀ n ∈ [e.id, e.cls, e.fam, (e.picks.length : Int)], R64 n from fun n hn => by
    have h1 := HPR.out.1
    have h3 := HPR.out.2.2.1
    simp only [List.mem_cons, List.not_mem_nil, or_false] at hn
    rcases hn with rfl | rfl | rfl | rfl
    · exact rg_all h1 _ (by simp)
    · exact rg_all h1 _ (by simp)
    · exact rg_all h1 _ (by simp)
    · exact len_R64 (by omega))
  refine (text_any _ (some ⟨w2.heap.size, 0, none⟩) 4 [e.id, e.cls, e.fam, (e.picks.length : Int)] (w2.alloc (.cells #[.int .i64 e.id, .int .i64 e.cls, .int .i64 e.fam, .int .i64 e.picks.length] 3)) (by exact pts_new w2 [e.id, e.cls, e.fam, (e.picks.length : Int)] (by simp) (by simp)) (by simp) (by decide) HR4.out (HG.out.only HOa.out)).mono ?_
  rintro e' w3 ⟨rfl, hO3⟩
  have HO3 := Lib.hid (HOa.out.trans hO3)
  have HZ3 := Lib.hid (row_still hO3 HZa.out)
  have HE3 := Lib.hid (HEa.out.only hO3)
  have HX3 := Lib.hid (textU_size (word := kEntrant) HR4.out)
  have HXE := Lib.hid (show pe0 e = textU (textU kEntrant [e.id, e.cls, e.fam, (e.picks.length : Int)]) e.picks from rfl)
  unfold kEntrant at HX3 HXE
  generalize textU ⟨#[101, 110, 116, 114, 97, 110, 116]⟩ [e.id, e.cls, e.fam, (e.picks.length : Int)] = s1 at *
  clear hO3 c0 c1 c2 c3
  have hlt3 : w.heap.size < w3.heap.size := (Array.getElem?_eq_some_iff.1 HZ3.out).1
  have c3 : w3.cell? ⟨w.heap.size, 3, none⟩ = some (.slice ap1 e.picks.length cp) := cell_of_row _ _ 3 _ _ _ HZ3.out
  go_wp2_with fail
  refine (text_any s1 ap1 cp e.picks w3 (ptsR_of_own HE3.out.picks) (by have := HPR.out.2.2.1; omega) (by have h := HX3.out; simp only [List.length_cons, List.length_nil] at h; have : (⟨#[101, 110, 116, 114, 97, 110, 116]⟩ : ByteArray).size = 7 := rfl; omega) (rg_all HPR.out.2.1) (HG.out.only HO3.out)).mono ?_
  rintro e' w4 ⟨rfl, hO4⟩
  have HO4 := Lib.hid (HO3.out.trans hO4)
  have HZ4 := Lib.hid (row_still hO4 HZ3.out)
  have HE4 := Lib.hid (HE3.out.only hO4)
  rw [show textU s1 e.picks = peK e 0 from HXE.out.symm.trans (peK_zero e).symm]
  clear hO4 c3 HXE HX3
  have hlt4 : w.heap.size < w4.heap.size := (Array.getElem?_eq_some_iff.1 HZ4.out).1
  have c4 : w4.cell? ⟨w.heap.size, 4, none⟩ = some (.slice aw1 e.wishes.length cw) := cell_of_row _ _ 4 _ _ _ HZ4.out
  have c5 : w4.cell? ⟨w.heap.size, 5, none⟩ = some (.slice ag1 e.groups.length cg) := cell_of_row _ _ 5 _ _ _ HZ4.out
  obtain ⟨s0, hs0⟩ : ∃ s, peK e 0 = s := ⟨_, rfl⟩
  rw [hs0]
  have HSE := Lib.hid hs0
  clear hs0
  go_wp2_with fail
  have HO5 := Lib.hid (HO4.out.alloc (.cells #[.slice aw1 e.wishes.length cw, .slice ag1 e.groups.length cg] 42))
  have HQ := Lib.hid (heap_alloc_last w4 (.cells #[.slice aw1 e.wishes.length cw, .slice ag1 e.groups.length cg] 42))
  have HE5 := Lib.hid (HE4.out.only ((Only.refl (fun _ => False) w4).alloc (.cells #[.slice aw1 e.wishes.length cw, .slice ag1 e.groups.length cg] 42)))
  clear c4 c5
  generalize (w4.alloc (.cells #[.slice aw1 e.wishes.length cw, .slice ag1 e.groups.length cg] 42)) = w5 at *
  generalize w4.heap.size = B at *
  go_loopw [3, 32] (fun sv iv wr => ∃ k : Nat, iv = .int .i64 k ∧ k ≤ 2 ∧ sv = .string (peK e k) ∧ Only (fun _ => False) w5 wr) (fun _ iv _ => 2 - (intOf iv).toNat)
  case atStart => exact ⟨0, rfl, by decide, by rw [HSE.out], Only.refl _ _⟩
  case round =>
    obtain ⟨k, rfl, hk, rfl, hO⟩ := hrel
    have HOR := Lib.hid hO
    clear hO
    by_cases hlt : k < 2
    · have j1 : (k : Int) < 2 := by omega
      have j2 : 0 ≤ (k : Int) := by omega
      have HQR := Lib.hid (row_still HOR.out HQ.out)
      obtain ⟨a, c, d0, hown⟩ := lk_own (HE5.out.only HOR.out) HQR.out hlt
      have HW := Lib.hid hown
      have HLT := Lib.hid hlt
      have HLL := Lib.hid (lk_len (k := k) HPR.out.2.2.1)
      have HAN := Lib.hid (all_20 (HPR.out.2.2.2 k))
      have HPK := Lib.hid (peK_succ e k)
      have hsk := HSZ.out k
      have hBr : B < wr.heap.size := (Array.getElem?_eq_some_iff.1 HQR.out).1
      clear hown hlt
      generalize lkE e k = l at *
      generalize peK e k = s at *
      go_wp2_with fail
      have HOb := Lib.hid (HOR.out.alloc (.cells #[.int .i64 l.length] 3))
      have HWb := Lib.hid (((Only.refl (fun _ => False) wr).alloc (.cells #[.int .i64 l.length] 3)).owns HW.out (fun _ _ h => h))
      refine (text_any s (some ⟨wr.heap.size, 0, none⟩) 1 [(l.length : Int)] (wr.alloc (.cells #[.int .i64 l.length] 3)) (by exact pts_new wr [(l.length : Int)] (by simp) (by simp)) (by simp) (by omega) (fun n hn => by rw [List.mem_singleton.1 hn]; exact len_R64 (by have := HLL.out; omega)) (HG.out.only (HO5.out.trans HOb.out))).mono ?_
      rintro e' w6 ⟨rfl, hO6⟩
      have HO6 := Lib.hid (HOb.out.trans hO6)
      have HW6 := Lib.hid (hO6.owns HWb.out (fun _ _ h => h))
      have HS1 := Lib.hid (textU_size (word := s) (ns := [(l.length : Int)]) (fun n hn => by rw [List.mem_singleton.1 hn]; exact len_R64 (by have := HLL.out; omega)))
      have HPK := Lib.hid (show peK e (k + 1) = addN (textU s [(l.length : Int)]) l from HPK.out)
      have hs1 : (textU s [(l.length : Int)]).size ≤ 2200 := by have h := HS1.out; simp only [List.length_cons, List.length_nil] at h; omega
      generalize textU s [(l.length : Int)] = s1 at *
      clear hO6
      go_wp2_with fail
      generalize wr = w7 at *
      go_loopw [3, 43] (fun sv jv wr => ∃ j : Nat, jv = .int .i64 j ∧ j ≤ l.length ∧ sv = .string (addN s1 (l.take j)) ∧ Only (fun _ => False) w6 wr) (fun _ jv _ => l.length - (intOf jv).toNat)
      case atStart => exact ⟨0, rfl, Nat.zero_le _, rfl, Only.refl _ _⟩
      case round =>
        obtain ⟨j, rfl, hj, rfl, hO⟩ := hrel
        have HOI := Lib.hid hO
        have HWI := Lib.hid (hO.owns HW6.out (fun _ _ h => h))
        clear hO
        by_cases hjl : j < l.length
        · have m1 : (j : Int) < l.length := by omega
          have m2 : 0 ≤ (j : Int) := by omega
          obtain ⟨g, rfl, hg, hq1, hq2, d1⟩ := nrow_cell HWI.out hjl
          have HJL := Lib.hid hjl
          have HJN := Lib.hid (show addN s1 (l.take (j + 1)) = addN s1 (l.take j) ++ (⟨#[32]⟩ ++ naAt l j) by rw [na_take hjl, addN_snoc])
          have hz1 : (addN s1 (l.take j)).size ≤ 3000 := by
            have h := addN_size (s := s1) (l := l.take j) (fun w hw => HAN.out w (List.mem_of_mem_take hw))
            have h2 : (l.take j).length ≤ 12 := by rw [List.length_take]; have := HLL.out; omega
            omega
          have hz2 : (naAt l j).size ≤ 20 := HAN.out _ (by unfold naAt; simp [List.getD, hjl])
          generalize naAt l j = y at *
          generalize addN s1 (l.take j) = t at *
          have z1 : ¬ (9223372036854775807 < 1 + y.size) := by omega
          have z2 : ¬ (9223372036854775807 < t.size + (1 + y.size)) := by omega
          go_wp2_with fail
          go_roundw
          case rel => exact ⟨j + 1, by go_num, HJL.out, by rw [HJN.out], HOI.out⟩
          case measure => simp [intOf]; have := HJL.out; omega
        · obtain rfl : j = l.length := by omega
          have m1 : ¬ (l.length : Int) < l.length := by omega
          have HPX := Lib.hid (show peK e (k + 1) = addN s1 (l.take l.length) by rw [HPK.out, List.take_length])
          generalize addN s1 (l.take l.length) = t at *
          clear hjl hj
          go_wp2_with fail
          go_roundw
          case rel => exact ⟨k + 1, by go_num, HLT.out, by rw [HPX.out], HO6.out.trans HOI.out⟩
          case measure => simp [intOf]; have := HLT.out; omega
    · obtain rfl : k = 2 := by omega
      have j1 : ¬ (2 : Int) < 2 := by omega
      have HF := Lib.hid HPE.out
      obtain ⟨t, ht⟩ : ∃ t, peK e 2 = t := ⟨_, rfl⟩
      rw [ht] at HF ⊢
      clear hlt hk
      go_wp2_with fail
      go_ret
      exact ⟨by rw [HF.out]; rfl, HO5.out.trans HOR.out⟩
end Go.Proofs.YteikkpiginfbkaaGreatDoor

namespace Go.Proofs.YteikkpiginfbkaaGreatDoor
open Go.RowKit

/-- What a step of the reader of an entrant leaves: of the blocks only the line's turns; d words fewer are left there. -/
def LnTo (Lb g o n c d : Nat) (w w' : World) : Prop :=
  Only (fun i => i = Lb) w w' ∧ ∃ a, (d < c → a = some ⟨g, o + d, none⟩) ∧ w'.heap[Lb]? = some (.cells #[.slice a (n - d) (c - d)] 114 (0, 0))
set_option maxRecDepth 100000 in
set_option maxHeartbeats 1000000 in
theorem next_is (Lb R r g o n c : Nat) (v : Value) (w : World) (hR : w.cell? ⟨R, 0, none⟩ = some (.pointer (some ⟨r, 0, none⟩))) (hL : w.heap[Lb]? = some (.cells #[.slice (some ⟨g, o, none⟩) n c] 114 (0, 0)))
    (hn : 1 ≤ n) (hc : n ≤ c) (hcm : c ≤ 9223372036854775807) (hv : w.cell? ⟨g, o, none⟩ = some v) :
    Calls Tryz.prog 56 #[.pointer (some ⟨R, 0, none⟩), .pointer (some ⟨Lb, 0, none⟩)] w fun e w' => e = .returned v ∧ LnTo Lb g o n c 1 w w' := by
  have HL := Lib.hid hL
  have l0 : w.cell? ⟨Lb, 0, none⟩ = some (.slice (some ⟨g, o, none⟩) n c) := cell_of_row _ _ 0 _ _ _ hL
  have z0 : w.frozen? ⟨Lb, 0, none⟩ = false := frozen_of_row _ _ _ _ _ hL
  have j1 : (0 : Int) < n := by omega
  have j2 : (1 : Int) ≤ n := by omega
  have j3 : (n : Int) ≤ c := by omega
  have j4 : decide (0 < n) = true := decide_eq_true (by omega)
  have HN := Lib.hid hn
  have HC := Lib.hid hc
  clear hL
  go_enter Tryz.func56, Tryz.ntmps56
  go_wp2_with fail
  refine (need_ok r 11 w).mono ?_
  rintro e w2 ⟨rfl, rfl⟩
  by_cases h1 : c = 1
  · obtain rfl : n = 1 := by omega
    subst h1
    clear hn hc hcm j1 j2 j3
    go_wp2_with fail
    go_ret
    refine ⟨rfl, (Only.refl (fun i => i = Lb) w).setCell (p := ⟨Lb, 0, none⟩) (.inl rfl) _, ?_⟩
    exact ⟨_, fun h => absurd h (by decide), heap_setCell_same w Lb 0 _ _ _ HL.out⟩
  · have k1 : 1 < c := by omega
    go_wp2_with fail
    go_ret
    refine ⟨rfl, (Only.refl (fun i => i = Lb) w).setCell (p := ⟨Lb, 0, none⟩) (.inl rfl) _, ?_⟩
    exact ⟨_, fun _ => rfl, heap_setCell_same w Lb 0 _ _ _ HL.out⟩
/-- The cells that hold the closures. -/
structure ClAt (w : World) (Lb R r N A : Nat) : Prop where
  rd : w.cell? ⟨R, 0, none⟩ = some (.pointer (some ⟨r, 0, none⟩))
  next : w.cell? ⟨N, 0, none⟩ = some (.func (.func 56) #[] #[.pointer (some ⟨R, 0, none⟩), .pointer (some ⟨Lb, 0, none⟩)])
  amount : w.cell? ⟨A, 0, none⟩ = some (.func (.func 58) #[] #[.pointer (some ⟨N, 0, none⟩), .pointer (some ⟨R, 0, none⟩)])
  apart : R ≠ Lb ∧ N ≠ Lb ∧ A ≠ Lb
theorem ClAt.only {S : Nat → Prop} {w w' : World} {Lb R r N A : Nat} (h : ClAt w Lb R r N A) (hO : Only S w w') (hS : ¬ S R ∧ ¬ S N ∧ ¬ S A) : ClAt w' Lb R r N A :=
  ⟨hO.cell h.rd hS.1, hO.cell h.next hS.2.1, hO.cell h.amount hS.2.2, h.apart⟩
theorem LnTo.zero {Lb g o n c : Nat} {w : World} (h : w.heap[Lb]? = some (.cells #[.slice (some ⟨g, o, none⟩) n c] 114 (0, 0))) : LnTo Lb g o n c 0 w w := ⟨Only.refl _ _, some ⟨g, o, none⟩, fun _ => rfl, h⟩
theorem LnTo.next {Lb g o n c d k : Nat} {w w' w'' : World} (h : LnTo Lb g o n c d w w') (h2 : LnTo Lb g (o + d) (n - d) (c - d) k w' w'') : LnTo Lb g o n c (d + k) w w'' := by
  obtain ⟨a, ha, hb⟩ := h2.2
  refine ⟨h.1.trans h2.1, a, fun hc => ?_, ?_⟩
  · rw [ha (by omega), Nat.add_assoc]
  · rw [show n - (d + k) = n - d - k by omega, show c - (d + k) = c - d - k by omega]; exact hb
set_option maxRecDepth 100000 in
set_option maxHeartbeats 2000000 in
theorem amount_is (Lb R r N A g o n c : Nat) (z most : Int) (w : World) (hA : ClAt w Lb R r N A) (hL : w.heap[Lb]? = some (.cells #[.slice (some ⟨g, o, none⟩) n c] 114 (0, 0)))
    (hn : 1 ≤ n) (hc : n ≤ c) (hcm : c ≤ 9223372036854775807) (hv : w.cell? ⟨g, o, none⟩ = some (.iface 3 (.int .i64 z))) (hz : z ≤ most) :
    Calls Tryz.prog 58 #[.int .i64 most, .pointer (some ⟨N, 0, none⟩), .pointer (some ⟨R, 0, none⟩)] w fun e w' => e = .returned (.int .i64 z) ∧ LnTo Lb g o n c 1 w w' := by
  have ta := ta_int_int z
  have HC := Lib.hid (next_is Lb R r g o n c _ w hA.rd hL hn hc hcm hv)
  have HA := Lib.hid hA
  have n0 := hA.next
  have q : decide (z ≤ most) = true := decide_eq_true hz
  clear hA hL hn hc hcm hv
  go_enter Tryz.func58, Tryz.ntmps58
  go_wp2_with fail
  refine HC.out.mono ?_
  rintro e w2 ⟨rfl, hl⟩
  have HL := Lib.hid hl
  have r0 := hl.1.cell HA.out.rd HA.out.apart.1
  clear hl HC n0
  go_wp2_with fail
  refine (need_ok r 11 w2).mono ?_
  rintro e w3 ⟨rfl, rfl⟩
  go_wp2_with fail
  go_ret
  exact ⟨rfl, HL.out⟩
theorem below_same {w w' : World} (h : w = w') : Below w.heap.size w w' := by subst h; exact (Only.refl (fun _ => False) w).below (Nat.le_refl _) (fun _ _ h => h)
theorem nrow_app (l : List ByteArray) (x : ByteArray) : nrow (l ++ [x]) = nrow l ++ [.string x] := by simp [nrow]
def NamesR (Lb g o n c : Nat) (l : List ByteArray) (w : World) (e : Ending) (w' : World) : Prop :=
  ∃ v, e = .returned v ∧ w'.ownsRow w.heap.size 9 1 v l.length (nrow l) ∧ LnTo Lb g o n c (1 + l.length) w w'
set_option maxRecDepth 100000 in
set_option maxHeartbeats 4000000 in
theorem names_is (Lb R r N A g o n c : Nat) (l : List ByteArray) (w : World) (hA : ClAt w Lb R r N A) (hL : w.heap[Lb]? = some (.cells #[.slice (some ⟨g, o, none⟩) n c] 114 (0, 0)))
    (hn : 1 + l.length ≤ n) (hc : n ≤ c) (hcm : c ≤ 9223372036854775807) (hv : w.cell? ⟨g, o, none⟩ = some (.iface 3 (.int .i64 l.length))) (h12 : l.length ≤ 12) (hg : g ≠ Lb)
    (hvs : ∀ j, j < l.length → w.cell? ⟨g, o + (1 + j), none⟩ = some (.iface 9 (.string (naAt l j))) ∧ nameB (naAt l j) = true) :
    Calls Tryz.prog 59 #[.pointer (some ⟨A, 0, none⟩), .pointer (some ⟨N, 0, none⟩), .pointer (some ⟨R, 0, none⟩)] w fun e w' => NamesR Lb g o n c l w e w' := by
  have HC := Lib.hid (amount_is Lb R r N A g o n c l.length 12 w hA hL (by omega) hc hcm hv (by omega))
  have HA := Lib.hid hA
  have HVS := Lib.hid hvs
  have HNC := Lib.hid (show 1 + l.length ≤ n ∧ n ≤ c ∧ c ≤ 9223372036854775807 ∧ l.length ≤ 12 from ⟨hn, hc, hcm, h12⟩)
  have HG := Lib.hid hg
  have HLB := Lib.hid (show Lb < w.heap.size from (Array.getElem?_eq_some_iff.1 hL).1)
  have a0 := hA.amount
  obtain ⟨i0, hi, hz0, hz1, hz2⟩ := info_parts Tryz.infoStr
  have HI := Lib.hid hi
  have HI0 := Lib.hid hz0
  have HI1 := Lib.hid hz1
  have HI2 := Lib.hid hz2
  clear hA hL hn hc hcm hv h12 hvs hg hi hz0 hz1 hz2
  go_enter Tryz.func59, Tryz.ntmps59
  go_wp2_with fail
  refine HC.out.mono ?_
  rintro e w2 ⟨rfl, hl⟩
  have HL := Lib.hid hl
  clear hl HC a0
  go_wp2_with fail
  go_loopw [4, 9] (fun v4 iv wr => ∃ k : Nat, iv = .int .i64 k ∧ k ≤ l.length ∧ wr.ownsRow w.heap.size 9 1 v4 k (nrow (l.take k)) ∧ LnTo Lb g o n c (1 + k) w wr) (fun _ iv _ => l.length - (intOf iv).toNat)
  case atStart => exact ⟨0, rfl, Nat.zero_le _, World.ownsRow_nil _ _ _ _, HL.out⟩
  case round =>
    obtain ⟨k, rfl, hk, hown, hl⟩ := hrel
    obtain ⟨a4, c4, rfl⟩ := slice_of_own hown
    have HW := Lib.hid hown
    have HK := Lib.hid hl
    clear hown hl
    by_cases hlt : k < l.length
    · have j1 : (k : Int) < l.length := by omega
      have j2 : 0 ≤ (k : Int) := by omega
      have HCL := Lib.hid (HA.out.only HK.out.1 HA.out.apart)
      have n0 := HCL.out.next
      obtain ⟨ax, hax, hrow⟩ := HK.out.2
      obtain rfl := hax (by have := HNC.out; omega)
      have hst := (HVS.out k hlt)
      have HNM := Lib.hid hst.2
      have HNX := Lib.hid (next_is Lb R r g (o + (1 + k)) (n - (1 + k)) (c - (1 + k)) _ wr HCL.out.rd hrow (by have := HNC.out; omega) (by have := HNC.out; omega) (by have := HNC.out; omega) (HK.out.1.cell hst.1 HG.out))
      have HTK := Lib.hid (show l.take (k + 1) = l.take k ++ [naAt l k] from na_take hlt)
      have HLT := Lib.hid hlt
      have ta := ta_str_str (naAt l k)
      clear hst hrow hax hlt
      generalize naAt l k = y at *
      go_wp2_with fail
      refine HNX.out.mono ?_
      rintro e w3 ⟨rfl, hl⟩
      have HK3 := Lib.hid (HK.out.next hl)
      have HW3 := Lib.hid (hl.1.owns HW.out (fun g' hg' e => by
        have h1 := ownR_ge HW.out hg'
        have h2 := HLB.out
        omega))
      clear hl n0 HNX
      have r0 := HK3.out.1.cell HA.out.rd HA.out.apart.1
      have HNC2 := Lib.hid (isname_any y true)
      have hnm := HNM.out
      go_upto_region 5 with (fail)
      have y0 := fun (d : Nat) (os : Array Obj) => cell_regrown r0 d os
      clear r0
      have HIN := Lib.hid (fun W => isname_any y true W hnm)
      clear hnm HNC2
      refine wp_region_quiet_below (by kernel_rfl) (by kernel_rfl) ?_
      repeat (go_big_quiet_step ((first | (go_at_call 60; exact Calls.regrown_of ((HIN.out _).mono fun _ _ h => ⟨h.1, below_same h.2⟩)) | (go_at_call 57; exact Calls.regrown_of ((need_ok r 11 _).mono fun _ _ h => ⟨h.1, below_same h.2⟩)))))
      refine wpQuiet_nil ?_
      intro wy hw'
      obtain ⟨pq, hw''⟩ := hw'
      have HOy := Lib.hid (Only.ofBelow (below_regrown w3 pq.d pq.os) (fun _ => False))
      rw [← hw''] at HOy
      clear hw'' y0
      have HKy := Lib.hid (show LnTo Lb g o n c (1 + k + 1) w wy from ⟨HK3.out.1.trans (HOy.out.mono (fun _ _ h => h.elim)), by obtain ⟨a, h1, h2⟩ := HK3.out.2; exact ⟨a, h1, row_still HOy.out h2⟩⟩)
      have HWy := Lib.hid (HOy.out.owns HW3.out (fun _ _ h => h))
      have HWa := Lib.hid (HWy.out.alloc (.cells #[.string y] 9))
      have hbs := (HKy.out.1.alloc (.cells #[.string y] 9)).size
      have HLN := Lib.hid (show k ≤ 12 by have := HNC.out; have := HLT.out; omega)
      have hb1 := HLN.out
      have hb4 : wrap64 ((k : Int) + 1) = (k : Int) + 1 := IntWalk.wrap64_in _ (by omega)
      go_wp2_with (first | (refine wpList_append_lies _ rfl _ _ 42 rfl w.heap.size 9 i0 _ 1 16 Tryz.underlying42 HI.out HI0.out HI1.out HI2.out rfl (by decide) _ _ _ rfl HWa.out ⟨wy.heap.size, 0, none⟩ 1 1 [.string y] rfl rfl (by exact newsR' wy _ _) (one_str1 _) (by decide) (by have := HLN.out; unfold maxLen; omega) (by have := HLN.out; omega) hbs _ rfl ?_; intro g5 cap w5 hown1 hgrow hat hlt2))
      have hOa := (HKy.out.1.alloc (.cells #[.string y] 9))
      have HK5 := Lib.hid (show LnTo Lb g o n c (1 + (k + 1)) w w5 from ⟨hOa.grown hgrow (fun i e hi => by have := ownR_ge HWa.out e; omega), by
        obtain ⟨a, h1, h2⟩ := HKy.out.2
        refine ⟨a, h1, ?_⟩
        have h3 : (wy.alloc (.cells #[.string y] 9)).heap[Lb]? = _ := row_still ((Only.refl (fun _ => False) wy).alloc _) h2
        rw [hgrow.block Lb (Array.getElem?_eq_some_iff.1 h3).1 (fun e => by have := ownR_ge HWa.out e.symm; have := HLB.out; omega)]
        exact h3⟩)
      go_roundw
      case rel => exact ⟨k + 1, by go_num, HLT.out, by rw [HTK.out, nrow_app]; exact hown1, HK5.out⟩
      case measure => simp [intOf]; have := HLT.out; omega
    · obtain rfl : k = l.length := by omega
      have j1 : ¬ (l.length : Int) < l.length := by omega
      have HWL := Lib.hid (show wr.ownsRow w.heap.size 9 1 (.slice a4 l.length c4) l.length (nrow l) from by have := HW.out; rw [List.take_length] at this; exact this)
      clear hlt hk
      go_wp2_with fail
      go_ret
      exact ⟨_, rfl, HWL.out, HK.out⟩
end Go.Proofs.YteikkpiginfbkaaGreatDoor

namespace Go.Proofs.YteikkpiginfbkaaGreatDoor
open Go.RowKit

set_option maxHeartbeats 1000000 in
set_option maxRecDepth 100000 in
theorem rofneg_any (z : Int) (w : World) (hn : z ≤ 0) :
    Calls Tryz.prog 24 #[.int .i64 z] w fun e w' => e = .returned (.string (natB 0)) ∧ Only (fun _ => False) w w' := by
  have HE0 := Lib.hid (show natB (valB (strOfNums [])) = natB 0 from rfl)
  have hcv := run_convert_bytes_nil (P := Tryz.prog) w 93 5 Tryz.underlying93 Tryz.underlying5 0 0 63 Tryz.underlying63
  have i1 : ¬ 0 < z := by omega
  clear hn
  go_enter Tryz.func24, Tryz.ntmps24
  go_wp2_with fail
  go_loop [3, 4] (fun vb vi => vb = .slice none 0 0 ∧ vi = .int .i64 56) (fun _ _ => 0)
  case atStart => exact ⟨rfl, rfl⟩
  case round =>
    obtain ⟨rfl, rfl⟩ := hrel
    go_wp2_with fail
    refine (rcanon_any _ _ (by decide)).mono ?_
    rintro e w' ⟨rfl, rfl⟩
    go_wp2
    go_ret
    exact ⟨by rw [← HE0.out]; rfl, Only.refl _ _⟩
theorem rofall_any (z : Int) (w : World) (h : z ≤ 9223372036854775807) :
    Calls Tryz.prog 24 #[.int .i64 z] w fun e w' => e = .returned (.string (natB z.toNat)) ∧ Only (fun _ => False) w w' := by
  by_cases h0 : z ≤ 0
  · have := rofneg_any z w h0
    rw [show z.toNat = 0 by omega]
    exact this
  · exact (rofI_any z w (by omega) h).mono fun _ _ h => ⟨h.1, Only.ofBelow h.2 _⟩
end Go.Proofs.YteikkpiginfbkaaGreatDoor

namespace Go.Proofs.YteikkpiginfbkaaGreatDoor
open Go.RowKit

theorem ba_len (b : ByteArray) : b.data.toList.length = b.size := Array.length_toList
/-- The numbers of a draw are words of 64 bits. -/
structure Dr64 (d : Dr) : Prop where
  round : R64 d.round
  price : R64 d.price
  pool : R64 d.pool
  pick : R64 d.pick
  cls : R64 d.cls
  size : R64 d.size
  tiers : ∀ x ∈ d.tiers, R64 x.1 ∧ R64 x.2
  places : ∀ x ∈ d.places, R64 x.2
  quotas : ∀ x ∈ d.quotas, R64 x.2.1 ∧ R64 x.2.2
  barred : ∀ x ∈ d.barred, R64 x
theorem dec64_size {z : Int} (h : R64 z) : (decW z).size ≤ 21 := by
  have h1 : z.toNat < 9223372036854775808 := by unfold R64 at h; omega
  have h2 : (decW z).data.toList.length ≤ 20 := by
    rw [dec_data]
    exact (digs_len 19 z.toNat (by simp; omega)).1
  rw [ba_len] at h2
  omega
end Go.Proofs.YteikkpiginfbkaaGreatDoor

namespace Go.Proofs.YteikkpiginfbkaaGreatDoor
open Go.RowKit

theorem cells_one (d : Dr) (at1 ap1 aq1 ab1 : Option Addr) (nt ct np cp nq cq nb cb : Nat) : (drCells d (.slice at1 nt ct) (.slice ap1 np cp) (.slice aq1 nq cq) (.slice ab1 nb cb)).all (·.oneCell') = true := by
  simp [drCells, Value.oneCell']
theorem right_DrB {d : Dr} (h : Right d) : DrB d := by
  have h1 := right_many h; have h2 := h.b40
  unfold DrB; omega
end Go.Proofs.YteikkpiginfbkaaGreatDoor

namespace Go.Proofs.YteikkpiginfbkaaGreatDoor
open Go.RowKit

theorem parse_no {s : ByteArray} (h : (parseZ s).1 ≠ 0) : (parseZ s).2.2 = dr0 := by
  unfold parseZ at h ⊢
  by_cases h2 : s.size ≤ 4000
  · rw [if_pos h2] at h ⊢
    by_cases h3 : (runL st0 0 [] s.data.toList).1 = 0
    · rw [if_pos h3] at h; exact absurd rfl h
    · rw [if_neg h3]
  · rw [if_neg h2]
theorem parse_DrB (s : ByteArray) : DrB (parseZ s).2.2 := by
  by_cases h : (parseZ s).1 = 0
  · exact right_DrB (parse_right h).1
  · rw [parse_no h]; exact ⟨by decide, by decide, by decide, by decide⟩
set_option maxRecDepth 100000 in
set_option maxHeartbeats 4000000 in
theorem fails_any (s : ByteArray) (at0 : Nat) (err : Int) (w : World) (hs : s.size ≤ 281474976710656) (hp : (parseZ s).1 = err) (ha : (parseZ s).2.1 = at0) (he : err ≠ 0) (hG : GlobU w) :
    Calls Tryz.prog 27 #[.string s, .int .i64 at0, .int .i64 err] w fun e w' => e = .returned (.bool true) ∧ Only (fun _ => False) w w' := by
  have HX := Lib.hid (show parseZ s = (err, at0, dr0) from by
    have h1 := parse_no (s := s) (by rw [hp]; exact he)
    rw [← hp, ← ha, ← h1])
  have HC := Lib.hid (parse_any s w hs hG.len)
  rw [HX.out] at HC
  clear hp ha he hs hG HX
  go_enter Tryz.func27, Tryz.ntmps27
  go_wp2_with fail
  refine HC.out.mono ?_
  rintro e w3 ⟨vt, vp, vq, vb, rfl, hdx, hO3⟩
  have HO3 := Lib.hid hO3
  clear HC
  have hdx : DrOwn w.heap.size w3 dr0 vt vp vq vb := hdx
  obtain ⟨x, hx⟩ : ∃ x, dr0 = x := ⟨_, rfl⟩
  rw [hx] at hdx
  have HDX := Lib.hid hx
  have hdr : (drCells (err, at0, dr0).2.2 vt vp vq vb) = drCells x vt vp vq vb := by rw [← hx]
  rw [hdr]
  clear hdr hx
  obtain ⟨at1, ct, rfl⟩ := slice_of_own hdx.tiers
  obtain ⟨ap1, cp, rfl⟩ := slice_of_own hdx.places
  obtain ⟨aq1, cq, rfl⟩ := slice_of_own hdx.quotas
  obtain ⟨ab1, cb, rfl⟩ := slice_of_own hdx.bars
  have HD3 := Lib.hid hdx
  clear hdx hO3
  go_upto_region 2 with (first | (refine wpList_store_row rfl 33 _ _ rfl w3.heap.size (drCells x (.slice at1 x.tiers.length ct) (.slice ap1 x.places.length cp) (.slice aq1 x.quotas.length cq) (.slice ab1 x.barred.length cb)) rfl rfl 33 _ (heap_alloc_last w3 _) Tryz.infoDr rfl (cells_one _ _ _ _ _ _ _ _ _ _ _ _ _) ?_; rw [World.setRow_alloc_new]))
  have HZ4 := Lib.hid (heap_alloc_last w3 (.cells (drCells x (.slice at1 x.tiers.length ct) (.slice ap1 x.places.length cp) (.slice aq1 x.quotas.length cq) (.slice ab1 x.barred.length cb)) 33))
  have HA4 := Lib.hid ((Only.refl (fun _ => False) w3).alloc (.cells (drCells x (.slice at1 x.tiers.length ct) (.slice ap1 x.places.length cp) (.slice aq1 x.quotas.length cq) (.slice ab1 x.barred.length cb)) 33))
  generalize World.alloc w3 _ = w4 at *
  obtain ⟨n3, hn3⟩ : ∃ n, w3.heap.size = n := ⟨_, rfl⟩
  rw [hn3] at HZ4 ⊢
  clear hn3
  have HO4 := Lib.hid (HO3.out.trans HA4.out)
  have HD4 := Lib.hid (HD3.out.only HA4.out (fun _ _ h => h))
  have hlt4 : n3 < w4.heap.size := (Array.getElem?_eq_some_iff.1 HZ4.out).1
  clear HO3 HD3 HA4
  have c0 : w4.cell? ⟨n3, 0, none⟩ = some (Value.string x.name) := cell_of_row _ _ 0 _ _ _ HZ4.out
  have c1 : w4.cell? ⟨n3, 1, none⟩ = some (Value.int .i64 x.kind) := cell_of_row _ _ 1 _ _ _ HZ4.out
  have c2 : w4.cell? ⟨n3, 2, none⟩ = some (Value.int .i64 x.round) := cell_of_row _ _ 2 _ _ _ HZ4.out
  have c3 : w4.cell? ⟨n3, 3, none⟩ = some (Value.int .i64 x.price) := cell_of_row _ _ 3 _ _ _ HZ4.out
  have c4 : w4.cell? ⟨n3, 4, none⟩ = some (Value.int .i64 x.pool) := cell_of_row _ _ 4 _ _ _ HZ4.out
  have c5 : w4.cell? ⟨n3, 5, none⟩ = some (Value.int .i64 x.pick) := cell_of_row _ _ 5 _ _ _ HZ4.out
  have c6 : w4.cell? ⟨n3, 6, none⟩ = some (Value.slice at1 x.tiers.length ct) := cell_of_row _ _ 6 _ _ _ HZ4.out
  have c7 : w4.cell? ⟨n3, 7, none⟩ = some (Value.bool x.roll) := cell_of_row _ _ 7 _ _ _ HZ4.out
  have c8 : w4.cell? ⟨n3, 8, none⟩ = some (Value.slice ap1 x.places.length cp) := cell_of_row _ _ 8 _ _ _ HZ4.out
  have c9 : w4.cell? ⟨n3, 9, none⟩ = some (Value.int .i64 x.cls) := cell_of_row _ _ 9 _ _ _ HZ4.out
  have c10 : w4.cell? ⟨n3, 10, none⟩ = some (Value.int .i64 x.size) := cell_of_row _ _ 10 _ _ _ HZ4.out
  have c11 : w4.cell? ⟨n3, 11, none⟩ = some (Value.slice aq1 x.quotas.length cq) := cell_of_row _ _ 11 _ _ _ HZ4.out
  have c12 : w4.cell? ⟨n3, 12, none⟩ = some (Value.slice ab1 x.barred.length cb) := cell_of_row _ _ 12 _ _ _ HZ4.out
  have q1 : ((at0 : Int) == at0) = true := by simp
  have q2 : (err == err) = true := by simp
  go_wp2_with fail
  refine (equal_any x dr0 _ _ _ _ (.slice none 0 0) (.slice none 0 0) (.slice none 0 0) (.slice none 0 0) true w.heap.size 0 w4 HD4.out (dr0_own 0 w4) (by rw [← HDX.out]; exact ⟨by decide, by decide, by decide, by decide⟩) ⟨by decide, by decide, by decide, by decide⟩ (by simp [HDX.out])).mono ?_
  rintro e w7 ⟨rfl, hO7⟩
  have HO7 := Lib.hid (HO4.out.trans hO7)
  clear hO7
  go_wp2_with fail
  go_ret
  exact ⟨rfl, HO7.out⟩
end Go.Proofs.YteikkpiginfbkaaGreatDoor

namespace Go.Proofs.YteikkpiginfbkaaGreatDoor
open Go.RowKit

/-- A plan, and its cells. -/
structure Plan13 where
  kind : Int
  h0 : Int
  h1 : Int
  h2 : Int
  h3 : Int
  h4 : Int
  h5 : Int
  lines : List (Int × Int × Int)
  roll : Bool
  barred : List Int
  wild : Bool
def plCells (p : Plan13) (vl vb : Value) : Array Value :=
  #[.int .i64 p.kind, .int .i64 p.h0, .int .i64 p.h1, .int .i64 p.h2, .int .i64 p.h3, .int .i64 p.h4, .int .i64 p.h5, vl, .bool p.roll, vb, .bool p.wild]
end Go.Proofs.YteikkpiginfbkaaGreatDoor

namespace Go.Proofs.YteikkpiginfbkaaGreatDoor
open Go.RowKit

/-- What is made so far: n special lines, m barred numbers at most. -/
structure MkOk (p : Plan13) (n m : Nat) (d : Dr) : Prop where
  kind : d.kind = 1 ∨ d.kind = 2 ∨ d.kind = 3
  name : d.name.size ≤ 21
  nums : Dr64 d
  len : d.tiers.length + d.places.length + d.quotas.length ≤ n
  bar : d.barred.length ≤ m
  places : ∀ x ∈ d.places, x.1.size ≤ 21
  quotas : ∀ x ∈ d.quotas, x.1.size ≤ 21
  right : p.wild = false → rightZ d = true
theorem dec64_len {z : Int} (h : R64 z) : (decW z).data.toList.length ≤ 21 := by rw [ba_len]; exact dec64_size h
theorem MkOk.short {p : Plan13} {n m : Nat} {d : Dr} (h : MkOk p n m d) : Short 1000 21 d := by
  have hn := h.nums
  refine ⟨by rw [ba_len]; have := h.name; omega, dec64_len hn.round, dec64_len hn.price, dec64_len hn.pool, dec64_len hn.pick, dec64_len hn.cls, dec64_len hn.size,
    fun x hx => ⟨dec64_len (hn.tiers x hx).1, dec64_len (hn.tiers x hx).2⟩, fun x hx => ⟨by rw [ba_len]; have := h.places x hx; omega, dec64_len (hn.places x hx)⟩,
    fun x hx => ⟨by rw [ba_len]; have := h.quotas x hx; omega, dec64_len (hn.quotas x hx).1, dec64_len (hn.quotas x hx).2⟩, fun x hx => dec64_len (hn.barred x hx)⟩
/-- What is tried next, without its being right. -/
structure MkTry (n m : Nat) (d : Dr) : Prop where
  kind : d.kind = 1 ∨ d.kind = 2 ∨ d.kind = 3
  name : d.name.size ≤ 21
  nums : Dr64 d
  len : d.tiers.length + d.places.length + d.quotas.length ≤ n
  bar : d.barred.length ≤ m
  places : ∀ x ∈ d.places, x.1.size ≤ 21
  quotas : ∀ x ∈ d.quotas, x.1.size ≤ 21
theorem MkTry.ok {p : Plan13} {n m : Nat} {d : Dr} (h : MkTry n m d) (hr : p.wild = false → rightZ d = true) : MkOk p n m d := ⟨h.kind, h.name, h.nums, h.len, h.bar, h.places, h.quotas, hr⟩
theorem MkTry.short {n m : Nat} {d : Dr} (h : MkTry n m d) : Short 1000 21 d :=
  (MkTry.ok (p := ⟨0, 0, 0, 0, 0, 0, 0, [], false, [], true⟩) h (fun h => by cases h)).short
theorem MkTry.le {n m n' m' : Nat} {d : Dr} (h : MkTry n m d) (hn : n ≤ n') (hm : m ≤ m') : MkTry n' m' d := ⟨h.kind, h.name, h.nums, Nat.le_trans h.len hn, Nat.le_trans h.bar hm, h.places, h.quotas⟩
end Go.Proofs.YteikkpiginfbkaaGreatDoor

namespace Go.Proofs.YteikkpiginfbkaaGreatDoor
open Go.RowKit


def PlS (B : Nat) (p : Plan13) (vl vb : Value) (W : World) : Prop := W.cell? ⟨B, 0, none⟩ = some (Value.int .i64 p.kind) ∧ W.cell? ⟨B, 1, none⟩ = some (Value.int .i64 p.h0) ∧ W.cell? ⟨B, 2, none⟩ = some (Value.int .i64 p.h1) ∧ W.cell? ⟨B, 3, none⟩ = some (Value.int .i64 p.h2) ∧ W.cell? ⟨B, 4, none⟩ = some (Value.int .i64 p.h3) ∧ W.cell? ⟨B, 5, none⟩ = some (Value.int .i64 p.h4) ∧ W.cell? ⟨B, 6, none⟩ = some (Value.int .i64 p.h5) ∧ W.cell? ⟨B, 7, none⟩ = some (vl) ∧ W.cell? ⟨B, 8, none⟩ = some (Value.bool p.roll) ∧ W.cell? ⟨B, 9, none⟩ = some (vb) ∧ W.cell? ⟨B, 10, none⟩ = some (Value.bool p.wild)
theorem PlS.of {W : World} {B : Nat} {p : Plan13} {vl vb : Value} {fr : Nat × Nat} (h : W.heap[B]? = some (.cells (plCells p vl vb) 26 fr)) : PlS B p vl vb W :=
  ⟨cell_of_row _ _ 0 _ _ _ h, cell_of_row _ _ 1 _ _ _ h, cell_of_row _ _ 2 _ _ _ h, cell_of_row _ _ 3 _ _ _ h, cell_of_row _ _ 4 _ _ _ h, cell_of_row _ _ 5 _ _ _ h, cell_of_row _ _ 6 _ _ _ h, cell_of_row _ _ 7 _ _ _ h, cell_of_row _ _ 8 _ _ _ h, cell_of_row _ _ 9 _ _ _ h, cell_of_row _ _ 10 _ _ _ h⟩
theorem PlS.only {W W' : World} {B : Nat} {p : Plan13} {vl vb : Value} (h : PlS B p vl vb W) (hO : Only (fun _ => False) W W') : PlS B p vl vb W' := by
  obtain ⟨s0, s1, s2, s3, s4, s5, s6, s7, s8, s9, s10⟩ := h
  exact ⟨hO.cell s0 id, hO.cell s1 id, hO.cell s2 id, hO.cell s3 id, hO.cell s4 id, hO.cell s5 id, hO.cell s6 id, hO.cell s7 id, hO.cell s8 id, hO.cell s9 id, hO.cell s10 id⟩
theorem own_newN (w : World) (e : TypeId) (size n : Nat) (xs : List Value) (hl : xs.length = n * size) (hn : n ≤ 1000) : (w.alloc (.cells xs.toArray e)).ownsRow w.heap.size e size (.slice (some ⟨w.heap.size, 0, none⟩) n n) n xs :=
  ⟨hl, .inr ⟨w.heap.size, n, xs.toArray, rfl, Nat.le_refl _, heap_alloc_last w _, Nat.le_refl _, by unfold maxLen; omega, by simpa using hl, by rw [List.take_of_length_le (by rw [Array.length_toList]; simp [hl])]⟩⟩
end Go.Proofs.YteikkpiginfbkaaGreatDoor

namespace Go.Proofs.YteikkpiginfbkaaGreatDoor
open Go.RowKit

def aN (k : Nat) : ByteArray := ⟨#[97]⟩ ++ decW k
def limD (kd m n : Nat) : Dr :=
  let d : Dr := { dr0 with name := ⟨#[97]⟩, round := 1, price := 1, barred := (List.range n).map fun k : Nat => (k : Int) }
  if kd = 0 then { d with kind := 1, pool := 9, pick := 3, tiers := (List.range m).map fun k : Nat => ((k : Int), 1) }
  else if kd = 1 then { d with kind := 2, cls := 1, places := (List.range m).map fun k => (aN k, 1) }
  else { d with kind := 3, size := 5, quotas := (List.range m).map fun k => (aN k, 1, 2) }
def spL (kd k : Nat) : List ByteArray := if kd = 0 then tierL ((k : Int), 1) else if kd = 1 then placeL (aN k, 1) else quotaL (aN k, 1, 2)
def limL (kd m n : Nat) : List (List ByteArray) := headL (limD kd 0 0) ++ (List.range m).map (spL kd) ++ (List.range n).map fun k : Nat => barL (k : Int)
def limB (kd m n : Nat) : ByteArray := ⟨(flatL (limL kd m n)).toArray⟩
def limE (m n : Nat) : Int := if 13 ≤ m ∨ 41 ≤ n then 2 else 0
def limA (kd m n : Nat) : Nat := if 13 ≤ m then (limB kd 12 0).size else if 41 ≤ n then (limB kd m 40).size else 0
theorem lim_lns (kd m n : Nat) (hk : kd < 3) : lnsZ (limD kd m n) = limL kd m n := by
  obtain rfl | rfl | rfl : kd = 0 ∨ kd = 1 ∨ kd = 2 := by omega
  · show headL _ ++ (((List.range m).map fun k : Nat => ((k : Int), (1 : Int))).map tierL ++ ([] ++ ([] ++ ([] ++ ((List.range n).map fun k : Nat => (k : Int)).map barL)))) = headL _ ++ _ ++ _
    rw [List.map_map, List.map_map, List.nil_append, List.nil_append, List.nil_append, List.append_assoc]; rfl
  · show headL _ ++ ([] ++ ([] ++ (((List.range m).map fun k => (aN k, (1 : Int))).map placeL ++ ([] ++ ((List.range n).map fun k : Nat => (k : Int)).map barL)))) = headL _ ++ _ ++ _
    rw [List.map_map, List.map_map, List.nil_append, List.nil_append, List.nil_append, List.append_assoc]; rfl
  · show headL _ ++ ([] ++ ([] ++ ([] ++ (((List.range m).map fun k => (aN k, (1 : Int), (2 : Int))).map quotaL ++ ((List.range n).map fun k : Nat => (k : Int)).map barL)))) = headL _ ++ _ ++ _
    rw [List.map_map, List.map_map, List.nil_append, List.nil_append, List.nil_append, List.append_assoc]; rfl
theorem dig_small (k : Nat) (h : k < 100) : Lib.decDigits k = if k < 10 then [UInt8.ofNat (48 + k)] else [UInt8.ofNat (48 + k / 10), UInt8.ofNat (48 + k % 10)] := by
  by_cases h1 : k < 10
  · rw [Lib.decDigits, dif_pos h1, if_pos h1]
  · rw [Lib.decDigits, dif_neg h1, Lib.decDigits, dif_pos (by omega), if_neg h1]; rfl
theorem aN_data (k : Nat) : (aN k).data.toList = 97 :: Lib.decDigits k := by
  unfold aN
  rw [app_data, dec_data, Int.toNat_natCast]; rfl
def aS (k : Nat) : ByteArray := ⟨(97 :: if k < 10 then [UInt8.ofNat (48 + k)] else [UInt8.ofNat (48 + k / 10), UInt8.ofNat (48 + k % 10)]).toArray⟩
theorem aN_is (k : Nat) (h : k < 100) : aN k = aS k := ba_ext (by rw [aN_data, dig_small k h]; rfl)
theorem aS_name : ∀ k, k < 15 → nameB (aS k) = true := by decide
theorem aN_name (k : Nat) (h : k < 15) : nameB (aN k) = true := by rw [aN_is k (by omega)]; exact aS_name k h
theorem aN_inj {i j : Nat} (hi : i < 100) (hj : j < 100) (h : aN i = aN j) : i = j := by
  have h1 := congrArg (fun b : ByteArray => b.data.toList) h
  simp only [aN_data, List.cons.injEq, true_and] at h1
  have h2 : decW (i : Int) = decW (j : Int) := ba_ext (by rw [dec_data, dec_data, Int.toNat_natCast, Int.toNat_natCast]; exact h1)
  have := dec_inj (by omega) (by omega) (by omega) (by omega) h2
  omega
theorem rg_nat {k : Nat} (h : k < 100) : rgB (k : Int) = true := by unfold rgB; simp; omega
theorem range_at {α : Type} (f : Nat → α) {m i : Nat} (h : i < m) (d : α) : ((List.range m).map f).getD i d = f i := by
  simp [List.getD, h]
theorem range_take {α : Type} (f : Nat → α) {m i : Nat} (h : i ≤ m) : ((List.range m).map f).take i = (List.range i).map f := by
  rw [← List.map_take, List.take_range, Nat.min_eq_left h]
theorem no_tier (i : Nat) : hasTier ((List.range i).map fun k : Nat => ((k : Int), (1 : Int))) (i : Int) = false := by
  unfold hasTier
  rw [List.any_eq_false]
  intro x hx
  obtain ⟨k, hk, rfl⟩ := List.mem_map.1 hx
  have := List.mem_range.1 hk
  simp; omega
theorem no_place {i : Nat} (h : i < 100) : hasPlace ((List.range i).map fun k => (aN k, (1 : Int))) (aN i) = false := by
  unfold hasPlace
  rw [List.any_eq_false]
  intro x hx
  obtain ⟨k, hk, rfl⟩ := List.mem_map.1 hx
  have := List.mem_range.1 hk
  simp only [decide_eq_true_eq]
  intro e
  have := aN_inj (by omega) h e
  omega
theorem no_quota {i : Nat} (h : i < 100) : hasQuota ((List.range i).map fun k => (aN k, (1 : Int), (2 : Int))) (aN i) = false := by
  unfold hasQuota
  rw [List.any_eq_false]
  intro x hx
  obtain ⟨k, hk, rfl⟩ := List.mem_map.1 hx
  have := List.mem_range.1 hk
  simp only [decide_eq_true_eq]
  intro e
  have := aN_inj (by omega) h e
  omega
theorem no_bar (i : Nat) : hasBar ((List.range i).map fun k : Nat => (k : Int)) (i : Int) = false := by
  unfold hasBar
  rw [List.any_eq_false]
  intro x hx
  obtain ⟨k, hk, rfl⟩ := List.mem_map.1 hx
  have := List.mem_range.1 hk
  simp; omega
theorem rl_len {α : Type} (f : Nat → α) (m : Nat) : ((List.range m).map f).length = m := by rw [List.length_map, List.length_range]
theorem lim_right (kd m n : Nat) (hk : kd < 3) (hm : m ≤ 12) (hn : n ≤ 40) : Right (limD kd m n) := by
  have hb : ∀ i, i < ((List.range n).map fun k : Nat => (k : Int)).length → barOk ((List.range n).map fun k : Nat => (k : Int)) i = true := fun i hi => by
    rw [rl_len] at hi
    unfold barOk ptAt
    rw [range_at _ hi, range_take _ (Nat.le_of_lt hi), no_bar]; rfl
  have hr : ∀ x ∈ (List.range n).map fun k : Nat => (k : Int), rgB x = true := fun x hx => by
    obtain ⟨k, hk, rfl⟩ := List.mem_map.1 hx
    exact rg_nat (by have := List.mem_range.1 hk; omega)
  have hbl : ((List.range n).map fun k : Nat => (k : Int)).length ≤ 40 := by rw [rl_len]; exact hn
  obtain rfl | rfl | rfl : kd = 0 ∨ kd = 1 ∨ kd = 2 := by omega
  · refine ⟨rfl, (show nameB ⟨#[97]⟩ = true by decide), rfl, rfl, rfl, rfl, rfl, rfl, (by show ((List.range m).map _).length ≤ 12; rw [rl_len]; exact hm), Nat.zero_le _, Nat.zero_le _, hbl, fun i hi => ?_, fun i hi => absurd hi (Nat.not_lt_zero _), fun i hi => absurd hi (Nat.not_lt_zero _), hb, hr⟩
    have hi : i < m := by have hi : i < ((List.range m).map _).length := hi; rw [rl_len] at hi; exact hi
    show tierOk ((List.range m).map fun k : Nat => ((k : Int), (1 : Int))) i = true
    unfold tierOk tAt
    rw [range_at _ hi, range_take _ (Nat.le_of_lt hi)]
    show (rgB (i : Int) && rgB 1 && !hasTier _ (i : Int)) = true
    rw [no_tier, rg_nat (by omega)]; rfl
  · refine ⟨rfl, (show nameB ⟨#[97]⟩ = true by decide), rfl, rfl, rfl, rfl, rfl, rfl, Nat.zero_le _, (by show ((List.range m).map _).length ≤ 12; rw [rl_len]; exact hm), Nat.zero_le _, hbl, fun i hi => absurd hi (Nat.not_lt_zero _), fun i hi => ?_, fun i hi => absurd hi (Nat.not_lt_zero _), hb, hr⟩
    have hi : i < m := by have hi : i < ((List.range m).map _).length := hi; rw [rl_len] at hi; exact hi
    show placeOk ((List.range m).map fun k => (aN k, (1 : Int))) i = true
    unfold placeOk pAt
    rw [range_at _ hi, range_take _ (Nat.le_of_lt hi)]
    show (nameB (aN i) && rgB 1 && !hasPlace _ (aN i)) = true
    rw [no_place (by omega), aN_name i (by omega)]; rfl
  · refine ⟨rfl, (show nameB ⟨#[97]⟩ = true by decide), rfl, rfl, rfl, rfl, rfl, rfl, Nat.zero_le _, Nat.zero_le _, (by show ((List.range m).map _).length ≤ 12; rw [rl_len]; exact hm), hbl, fun i hi => absurd hi (Nat.not_lt_zero _), fun i hi => absurd hi (Nat.not_lt_zero _), fun i hi => ?_, hb, hr⟩
    have hi : i < m := by have hi : i < ((List.range m).map _).length := hi; rw [rl_len] at hi; exact hi
    show quotaOk ((List.range m).map fun k => (aN k, (1 : Int), (2 : Int))) i = true
    unfold quotaOk qAt
    rw [range_at _ hi, range_take _ (Nat.le_of_lt hi)]
    show (nameB (aN i) && rgB 1 && rgB 2 && !hasQuota _ (aN i)) = true
    rw [no_quota (by omega), aN_name i (by omega)]; rfl
theorem lim_fine (kd m n : Nat) (hk : kd < 3) (hm : m ≤ 12) (hn : n ≤ 40) : parseZ (limB kd m n) = (0, 0, limD kd m n) := by
  have h := parse_write (lim_right kd m n hk hm hn)
  unfold writeB writeL at h
  rw [lim_lns kd m n hk] at h
  exact h
/-- A text whose first lines are those of a right draw, and whose next line is refused. -/
theorem parse_stop {d : Dr} (h : Right d) {ws : List ByteArray} {x : List UInt8} {e : Int} (hc : ws ≠ [] ∧ ∀ w ∈ ws, clean w) (he : ∀ m : Int, 4 ≤ m → (lineZ ⟨d, m, d.roll, !d.barred.isEmpty⟩ ws).1 = e) (he0 : e ≠ 0)
    (hz : (⟨(writeL d ++ (lineW ws ++ 10 :: x)).toArray⟩ : ByteArray).size ≤ 4000) : (parseZ ⟨(writeL d ++ (lineW ws ++ 10 :: x)).toArray⟩).1 = e ∧ (parseZ ⟨(writeL d ++ (lineW ws ++ 10 :: x)).toArray⟩).2.1 = (writeL d).length := by
  obtain ⟨m, hm, h1⟩ := go_lines h
  have h2 := runL_go (r := lineW ws ++ 10 :: x) (p := 0) (right_clean h) (by rw [h1])
  rw [h1] at h2
  have h3 : (lineZ ⟨d, m, d.roll, !d.barred.isEmpty⟩ ws).1 = e := he m hm
  rw [runL_ws hc.1 hc.2, if_neg (by rw [h3]; exact he0), h3, Nat.zero_add] at h2
  have h4 : runL st0 0 [] (writeL d ++ (lineW ws ++ 10 :: x)) = _ := h2
  rw [parse_le hz]
  rw [h4, if_neg he0]
  exact ⟨rfl, rfl⟩
theorem addTo_2 {e : Int} {n m : Nat} {t t' : St} {b : Bool} (h : e = 0) (h1 : b = false) (h2 : ¬ n < m) : addTo e b n m t t' = (2, t) := by
  subst h1
  unfold addTo
  rw [if_pos h, if_neg (by decide), if_neg h2]
theorem line_2 {t : St} {ws : List ByteArray} {k : Nat} (hk : keyOf (wAt ws 0) = k) (h : lnOf t ws k = (2, t)) : (lineZ t ws).1 = 2 := by
  subst hk
  exact line_err (by rw [h]) (by decide)
theorem ln_tier2 {t : St} {x : Int × Int} (hl : 4 ≤ t.lines) (hb : t.barred = false) (hk : t.d.kind = 1) (hr : t.rolled = false) (hx : rgB x.1 = true) (hy : rgB x.2 = true) (ht : hasTier t.d.tiers x.1 = false) (hn : ¬ t.d.tiers.length < 12) : (lineZ t (tierL x)).1 = 2 := by
  have e1 : aAt (tierL x) 1 = x.1 := dec_rg hx
  exact line_2 (k := 6) rfl (addTo_2 (specZ_iff.2 ⟨hl, fb3 (by decide) (dec_num x.1) (dec_num x.2), hb, hk, hr, small_dec2 (by decide) hx hy⟩) (by rw [e1]; exact ht) hn)
theorem ln_place2 {t : St} {x : ByteArray × Int} (hl : 4 ≤ t.lines) (hb : t.barred = false) (hk : t.d.kind = 2) (hr : t.rolled = false) (hx : nameB x.1 = true) (hy : rgB x.2 = true) (ht : hasPlace t.d.places x.1 = false) (hn : ¬ t.d.places.length < 12) : (lineZ t (placeL x)).1 = 2 :=
  line_2 (k := 8) rfl (addTo_2 (specZ_iff.2 ⟨hl, fb3n (by decide) hx (dec_num x.2), hb, hk, hr, small_nd (by decide) (name_not_num hx) hy⟩) (by exact ht) hn)
theorem ln_quota2 {t : St} {x : ByteArray × Int × Int} (hl : 4 ≤ t.lines) (hb : t.barred = false) (hk : t.d.kind = 3) (hr : t.rolled = false) (hx : nameB x.1 = true) (hy : rgB x.2.1 = true) (hz : rgB x.2.2 = true) (ht : hasQuota t.d.quotas x.1 = false) (hn : ¬ t.d.quotas.length < 12) : (lineZ t (quotaL x)).1 = 2 :=
  line_2 (k := 9) rfl (addTo_2 (specZ_iff.2 ⟨hl, fb4 (by decide) hx (dec_num x.2.1) (dec_num x.2.2), hb, hk, hr, small_ndd (by decide) (name_not_num hx) hy hz⟩) (by exact ht) hn)
theorem ln_bar2 {t : St} {x : Int} (hl : 4 ≤ t.lines) (hx : rgB x = true) (ht : hasBar t.d.barred x = false) (hn : ¬ t.d.barred.length < 40) : (lineZ t (barL x)).1 = 2 := by
  have e1 : aAt (barL x) 1 = x := dec_rg hx
  exact line_2 (k := 10) rfl (addTo_2 (barZ_iff.2 ⟨hl, fb2 (by decide) (dec_num x), small_dec (by decide) hx⟩) (by rw [e1]; exact ht) hn)
theorem sp_clean (kd k : Nat) (hk : k < 15) : spL kd k ≠ [] ∧ ∀ w ∈ spL kd k, clean w := by
  unfold spL
  split
  · exact clean_3 (key_clean 6 (by decide)) (dec_clean _) (dec_clean _)
  · split
    · exact clean_3 (key_clean 8 (by decide)) (name_clean (aN_name k hk)) (dec_clean _)
    · exact clean_4 (key_clean 9 (by decide)) (name_clean (aN_name k hk)) (dec_clean _) (dec_clean _)
theorem br_clean (k : Nat) : barL (k : Int) ≠ [] ∧ ∀ w ∈ barL (k : Int), clean w := clean_2 (key_clean 10 (by decide)) (dec_clean _)
theorem sp_stop (kd : Nat) (hk : kd < 3) (m : Int) (hm : 4 ≤ m) : (lineZ ⟨limD kd 12 0, m, (limD kd 12 0).roll, !(limD kd 12 0).barred.isEmpty⟩ (spL kd 12)).1 = 2 := by
  obtain rfl | rfl | rfl : kd = 0 ∨ kd = 1 ∨ kd = 2 := by omega
  · exact ln_tier2 (x := (((12 : Nat) : Int), 1)) hm rfl rfl rfl rfl rfl (no_tier 12) (by show ¬ ((List.range 12).map _).length < 12; rw [rl_len]; omega)
  · exact ln_place2 (x := (aN 12, 1)) hm rfl rfl rfl (aN_name 12 (by omega)) rfl (no_place (by omega)) (by show ¬ ((List.range 12).map _).length < 12; rw [rl_len]; omega)
  · exact ln_quota2 (x := (aN 12, 1, 2)) hm rfl rfl rfl (aN_name 12 (by omega)) rfl rfl (no_quota (by omega)) (by show ¬ ((List.range 12).map _).length < 12; rw [rl_len]; omega)
theorem lim_bars (kd m n : Nat) (hk : kd < 3) : (limD kd m n).barred = (List.range n).map fun k : Nat => (k : Int) := by
  obtain rfl | rfl | rfl : kd = 0 ∨ kd = 1 ∨ kd = 2 := by omega
  all_goals rfl
theorem br_stop (kd k : Nat) (hk : kd < 3) (m : Int) (hm : 4 ≤ m) : (lineZ ⟨limD kd k 40, m, (limD kd k 40).roll, !(limD kd k 40).barred.isEmpty⟩ (barL ((40 : Nat) : Int))).1 = 2 :=
  ln_bar2 hm (rg_nat (by omega)) (by show hasBar (limD kd k 40).barred _ = false; rw [lim_bars kd k 40 hk]; exact no_bar 40) (by show ¬ (limD kd k 40).barred.length < 40; rw [lim_bars kd k 40 hk, rl_len]; omega)
theorem range_split {α : Type} (f : Nat → α) {a m : Nat} (h : a < m) : ∃ r, (List.range m).map f = (List.range a).map f ++ f a :: r := by
  obtain ⟨j, rfl⟩ : ∃ j, m = a + 1 + j := ⟨m - (a + 1), by omega⟩
  refine ⟨((List.range j).map (a + 1 + ·)).map f, ?_⟩
  rw [List.range_add, List.range_succ, List.map_append, List.map_append]
  simp
theorem sp_lw (kd k : Nat) (hk : k < 15) : (lineW (spL kd k)).length + 1 ≤ 40 := by
  have h1 : (aN k).data.toList.length ≤ 20 := name_len (aN_name k hk)
  have h2 : (decW (k : Int)).data.toList.length ≤ 10 := dec_len (by omega)
  have h3 : (decW (1 : Int)).data.toList.length ≤ 1 := by rw [dec_data, show (1 : Int).toNat = 1 from rfl, dig_small 1 (by omega)]; decide
  have h4 : (decW (2 : Int)).data.toList.length ≤ 1 := by rw [dec_data, show (2 : Int).toNat = 2 from rfl, dig_small 2 (by omega)]; decide
  have k6 : kTier.data.toList.length ≤ 7 := key_len 6 (by decide)
  have k8 : kPlace.data.toList.length ≤ 7 := key_len 8 (by decide)
  have k9 : kQuota.data.toList.length ≤ 7 := key_len 9 (by decide)
  unfold spL tierL placeL quotaL
  split
  · rw [lw_3]; dsimp only; omega
  · split
    · rw [lw_3]; dsimp only; omega
    · rw [lw_4]; dsimp only; omega
theorem lim_size (kd m n : Nat) (hk : kd < 3) (hm : m ≤ 14) (hn : n ≤ 44) : (limB kd m n).size ≤ 3200 := by
  have e : (limB kd m n).size = (flatL (limL kd m n)).length := by unfold limB; simp [ByteArray.size]
  have h0 := lines_short (right_short (lim_right kd 0 0 hk (by omega) (by omega)))
  have h1 : ∀ ws ∈ limL kd m n, (lineW ws).length + 1 ≤ 51 := fun ws hw => by
    unfold limL at hw
    simp only [List.mem_append, List.mem_map, List.mem_range] at hw
    rcases hw with (hw | ⟨k, hk, rfl⟩) | ⟨k, hk, rfl⟩
    · have := h0 ws (List.mem_append_left _ hw); omega
    · have := sp_lw kd k (by omega); omega
    · have k10 : kBar.data.toList.length ≤ 7 := key_len 10 (by decide)
      have h2 : (decW (k : Int)).data.toList.length ≤ 10 := dec_len (by omega)
      unfold barL
      rw [lw_2]; omega
  have h2 := flat_le h1
  have h3 : (headL (limD kd 0 0)).length = 4 := by
    obtain rfl | rfl | rfl : kd = 0 ∨ kd = 1 ∨ kd = 2 := by omega
    all_goals rfl
  have h4 : (limL kd m n).length = 4 + m + n := by unfold limL; rw [List.length_append, List.length_append, rl_len, rl_len, h3]
  rw [h4] at h2
  rw [e]
  omega
theorem flat_write (kd m n : Nat) (hk : kd < 3) : writeL (limD kd m n) = flatL (limL kd m n) := by unfold writeL; rw [lim_lns kd m n hk]
theorem limL_stop1 (kd m n : Nat) (h : 13 ≤ m) : ∃ r, limL kd m n = limL kd 12 0 ++ spL kd 12 :: r := by
  obtain ⟨r, hr⟩ := range_split (spL kd) (show 12 < m by omega)
  refine ⟨r ++ (List.range n).map fun k : Nat => barL (k : Int), ?_⟩
  unfold limL
  rw [hr, show (List.range 0).map (fun k : Nat => barL (k : Int)) = [] from rfl, List.append_nil]
  simp only [List.append_assoc, List.cons_append]
theorem limL_stop2 (kd m n : Nat) (h : 41 ≤ n) : ∃ r, limL kd m n = limL kd m 40 ++ barL ((40 : Nat) : Int) :: r := by
  obtain ⟨r, hr⟩ := range_split (fun k : Nat => barL (k : Int)) (show 40 < n by omega)
  refine ⟨r, ?_⟩
  unfold limL
  rw [hr]
  simp only [List.append_assoc]
/-- What such a text gives. -/
theorem lim_law (kd m n : Nat) (hk : kd < 3) (hm : m ≤ 14) (hn : n ≤ 44) : (parseZ (limB kd m n)).1 = limE m n ∧ (parseZ (limB kd m n)).2.1 = limA kd m n := by
  have hz := lim_size kd m n hk hm hn
  have sz : ∀ a b, (limB kd a b).size = (flatL (limL kd a b)).length := fun a b => by unfold limB; simp [ByteArray.size]
  unfold limE limA
  by_cases h1 : 13 ≤ m
  · rw [if_pos (.inl h1), if_pos h1]
    obtain ⟨r, hr⟩ := limL_stop1 kd m n h1
    have e : limB kd m n = ⟨(writeL (limD kd 12 0) ++ (lineW (spL kd 12) ++ 10 :: flatL r)).toArray⟩ := by
      unfold limB; rw [hr, flatL_app, flatL_cons, flat_write kd 12 0 hk]
    have := parse_stop (x := flatL r) (lim_right kd 12 0 hk (Nat.le_refl _) (Nat.zero_le _)) (sp_clean kd 12 (by omega)) (sp_stop kd hk) (by decide) (by rw [← e]; omega)
    rw [← e, flat_write kd 12 0 hk, ← sz] at this
    exact this
  · rw [if_neg h1]
    by_cases h2 : 41 ≤ n
    · rw [if_pos (.inr h2), if_pos h2]
      obtain ⟨r, hr⟩ := limL_stop2 kd m n h2
      have e : limB kd m n = ⟨(writeL (limD kd m 40) ++ (lineW (barL ((40 : Nat) : Int)) ++ 10 :: flatL r)).toArray⟩ := by
        unfold limB; rw [hr, flatL_app, flatL_cons, flat_write kd m 40 hk]
      have := parse_stop (x := flatL r) (lim_right kd m 40 hk (by omega) (Nat.le_refl _)) (br_clean 40) (br_stop kd m hk) (by decide) (by rw [← e]; omega)
      rw [← e, flat_write kd m 40 hk, ← sz] at this
      exact this
    · rw [if_neg (by omega), if_neg h2, lim_fine kd m n hk (by omega) (by omega)]
      exact ⟨rfl, rfl⟩
theorem lim_sp (kd m : Nat) : limB kd (m + 1) 0 = limB kd m 0 ++ ⟨(lineW (spL kd m) ++ [10]).toArray⟩ := by
  apply ba_ext
  rw [app_data]
  show flatL (limL kd (m + 1) 0) = flatL (limL kd m 0) ++ _
  unfold limL
  rw [List.range_succ, List.map_append, show (List.range 0).map (fun k : Nat => barL (k : Int)) = [] from rfl, List.append_nil, List.append_nil, ← List.append_assoc, flatL_app _ (List.map _ [m]), List.map_singleton, flatL_one]
theorem lim_br (kd m n : Nat) : limB kd m (n + 1) = limB kd m n ++ ⟨(lineW (barL (n : Int)) ++ [10]).toArray⟩ := by
  apply ba_ext
  rw [app_data]
  show flatL (limL kd m (n + 1)) = flatL (limL kd m n) ++ _
  unfold limL
  rw [List.range_succ, List.map_append, ← List.append_assoc, flatL_app _ (List.map _ [n]), List.map_singleton, flatL_one]
theorem dec_one : (decW 1).data.toList = [49] := by rw [dec_data, show (1 : Int).toNat = 1 from rfl, dig_small 1 (by omega)]; rfl
theorem dec_two : (decW 2).data.toList = [50] := by rw [dec_data, show (2 : Int).toNat = 2 from rfl, dig_small 2 (by omega)]; rfl
theorem lim_sp0 (m : Nat) : limB 0 (m + 1) 0 = limB 0 m 0 ++ ((⟨#[116, 105, 101, 114, 32]⟩ : ByteArray) ++ decW m ++ ⟨#[32, 49, 10]⟩) := by
  rw [lim_sp]
  congr 1
  apply ba_ext
  rw [app_data, app_data]
  show lineW [kTier, decW m, decW 1] ++ [10] = _
  rw [lineW_cons, lineW_cons, lineW_one, dec_one]
  simp [kTier]
theorem lim_sp1 (m : Nat) : limB 1 (m + 1) 0 = limB 1 m 0 ++ ((⟨#[112, 108, 97, 99, 101, 32, 97]⟩ : ByteArray) ++ decW m ++ ⟨#[32, 49, 10]⟩) := by
  rw [lim_sp]
  congr 1
  apply ba_ext
  rw [app_data, app_data]
  show lineW [kPlace, aN m, decW 1] ++ [10] = _
  rw [lineW_cons, lineW_cons, lineW_one, dec_one, aN_data, dec_data, Int.toNat_natCast]
  simp [kPlace]
theorem lim_sp2 (m : Nat) : limB 2 (m + 1) 0 = limB 2 m 0 ++ ((⟨#[113, 117, 111, 116, 97, 32, 97]⟩ : ByteArray) ++ decW m ++ ⟨#[32, 49, 32, 50, 10]⟩) := by
  rw [lim_sp]
  congr 1
  apply ba_ext
  rw [app_data, app_data]
  show lineW [kQuota, aN m, decW 1, decW 2] ++ [10] = _
  rw [lineW_cons, lineW_cons, lineW_cons, lineW_one, dec_one, dec_two, aN_data, dec_data, Int.toNat_natCast]
  simp [kQuota]
theorem lim_br' (kd m n : Nat) : limB kd m (n + 1) = limB kd m n ++ ((⟨#[98, 97, 114, 32]⟩ : ByteArray) ++ decW n ++ ⟨#[10]⟩) := by
  rw [lim_br]
  congr 1
  apply ba_ext
  rw [app_data, app_data]
  show lineW [kBar, decW n] ++ [10] = _
  rw [lineW_cons, lineW_one]
  simp [kBar]
end Go.Proofs.YteikkpiginfbkaaGreatDoor
