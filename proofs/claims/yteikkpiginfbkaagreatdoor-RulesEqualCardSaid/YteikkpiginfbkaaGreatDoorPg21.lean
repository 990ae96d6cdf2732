/-
  Rules, plain: the lines of a draw as the program joins them.
  Rules: the program's Print.
  Rules, the reference: numeral, amount, IsName, words.
  Rules, the reference: words.
  Rules, plain: the reference's shapes of lines, and what may follow.
  Rules, the reference: shape, kind, follows.
  Rules, the reference: what it holds in memory; follows.
  Rules, the reference: take.
  Rules, plain: the reference's line and the program's are one.
-/
import Derived.Test.YteikkpiginfbkaaGreatDoorPg19
import Derived.Test.YteikkpiginfbkaaGreatDoorPg20
import Derived.Test.YteikkpiginfbkaaGreatDoorPg18
import Derived.Test.YteikkpiginfbkaaGreatDoorPg16
namespace Go.Proofs.YteikkpiginfbkaaGreatDoor
open Go.RowKit

def lineB (ws : List ByteArray) : ByteArray := ⟨(lineW ws).toArray⟩
theorem joinC_flat {c : UInt8} : ∀ {r : List (List UInt8)}, Lib.joinTail [c] r ++ [c] = c :: r.flatMap (· ++ [c])
  | [] => rfl
  | x :: r => by
    rw [joinT_cons, List.cons_append, List.append_assoc, joinC_flat, List.flatMap_cons]
    simp
theorem join_lines {ls : List (List ByteArray)} (h : ls ≠ []) : Lib.join ((ls.map lineB).map (·.data.toList)) [10] ++ [10] = flatL ls := by
  cases ls with
  | nil => exact absurd rfl h
  | cons a r =>
    rw [List.map_cons, List.map_cons, Lib.join_cons, List.append_assoc, joinC_flat, flatL_cons]
    congr 2
    unfold flatL
    rw [List.map_map, List.flatMap_map]
    rfl
theorem itoa_dec {n : Int} (h : rgB n = true) : (⟨(Lib.itoa n).toArray⟩ : ByteArray) = decW n := by
  unfold decW decB
  rw [itoa_digs (rg_le h).1]
theorem rg_R64 {n : Int} (h : rgB n = true) : R64 n := by have := rg_le h; unfold R64; omega
theorem ba_ext {a b : ByteArray} (h : a.data.toList = b.data.toList) : a = b := by rw [← arr_list a, h, arr_list]
theorem app_data (a b : ByteArray) : (a ++ b).data.toList = a.data.toList ++ b.data.toList := by simp
theorem text_1 {k : ByteArray} {x : Int} (hx : rgB x = true) : textU k [x] = lineB [k, decW x] := by
  apply ba_ext
  show (k ++ numU x).data.toList = lineW [k, decW x]
  unfold numU
  rw [itoa_dec hx, app_data, app_data, lineW_cons, lineW_one]
  rfl
theorem text_2 {k : ByteArray} {x y : Int} (hx : rgB x = true) (hy : rgB y = true) : textU k [x, y] = lineB [k, decW x, decW y] := by
  apply ba_ext
  show ((k ++ numU x) ++ numU y).data.toList = lineW [k, decW x, decW y]
  unfold numU
  rw [itoa_dec hx, itoa_dec hy, app_data, app_data, app_data, app_data, lineW_cons, lineW_cons, lineW_one, List.append_assoc]
  rfl
theorem text_n1 {k n : ByteArray} {x : Int} (hx : rgB x = true) : textU (k ++ ⟨#[32]⟩ ++ n) [x] = lineB [k, n, decW x] := by
  apply ba_ext
  show (k ++ ⟨#[32]⟩ ++ n ++ numU x).data.toList = lineW [k, n, decW x]
  unfold numU
  rw [itoa_dec hx, app_data, app_data, app_data, app_data, lineW_cons, lineW_cons, lineW_one, List.append_assoc, List.append_assoc]
  rfl
theorem text_n2 {k n : ByteArray} {x y : Int} (hx : rgB x = true) (hy : rgB y = true) : textU (k ++ ⟨#[32]⟩ ++ n) [x, y] = lineB [k, n, decW x, decW y] := by
  apply ba_ext
  show (k ++ ⟨#[32]⟩ ++ n ++ numU x ++ numU y).data.toList = lineW [k, n, decW x, decW y]
  unfold numU
  rw [itoa_dec hx, itoa_dec hy, app_data, app_data, app_data, app_data, app_data, app_data, lineW_cons, lineW_cons, lineW_cons, lineW_one]
  simp only [List.append_assoc]
  rfl
theorem text_pl {n : ByteArray} {x : Int} (hx : rgB x = true) : textU ((⟨#[112, 108, 97, 99, 101, 32]⟩ : ByteArray) ++ n) [x] = lineB [kPlace, n, decW x] := by
  rw [show (⟨#[112, 108, 97, 99, 101, 32]⟩ : ByteArray) = kPlace ++ ⟨#[32]⟩ from by decide]
  exact text_n1 hx
theorem text_qu {n : ByteArray} {x y : Int} (hx : rgB x = true) (hy : rgB y = true) : textU ((⟨#[113, 117, 111, 116, 97, 32]⟩ : ByteArray) ++ n) [x, y] = lineB [kQuota, n, decW x, decW y] := by
  rw [show (⟨#[113, 117, 111, 116, 97, 32]⟩ : ByteArray) = kQuota ++ ⟨#[32]⟩ from by decide]
  exact text_n2 hx hy
/-- Lines, in a slice of strings that is owned. -/
def srowU (l : List (List ByteArray)) : List Value := l.map fun ws => .string (lineB ws)
theorem srowU_app (l : List (List ByteArray)) (x : List ByteArray) : srowU (l ++ [x]) = srowU l ++ [.string (lineB x)] := by simp [srowU]
theorem srowU_app2 (l : List (List ByteArray)) (x y : List ByteArray) : srowU (l ++ [x, y]) = srowU l ++ [.string (lineB x), .string (lineB y)] := by simp [srowU]
def LnsAt (base : Nat) (w : World) (v : Value) (ls : List (List ByteArray)) : Prop := w.ownsRow base 9 1 v ls.length (srowU ls)
theorem LnsAt.only {base : Nat} {w w' : World} {v : Value} {ls : List (List ByteArray)} (h : LnsAt base w v ls) (hO : Only (fun _ => False) w w') : LnsAt base w' v ls := hO.owns h (fun _ _ h => h)
theorem lns_cell {base : Nat} {w : World} {v : Value} {ls : List (List ByteArray)} (h : LnsAt base w v ls) {j : Nat} (hj : j < ls.length) :
    ∃ g cap, v = .slice (some ⟨g, 0, none⟩) ls.length cap ∧ g < w.heap.size ∧ ls.length ≤ cap ∧ w.cell? ⟨g, j, none⟩ = some (.string (lineB ls[j])) := by
  have hu : (srowU ls)[j]? = some (.string (lineB ls[j])) := by unfold srowU; rw [List.getElem?_map, List.getElem?_eq_getElem hj]; rfl
  obtain ⟨g, cap, hv, hg, h1, _, hc⟩ := own_cell h hu
  exact ⟨g, cap, hv, hg, h1, hc⟩
theorem lines_small {d : Dr} (h : Right d) : (lnsZ d).length ≤ 57 := by
  have := lnsZ_len d; have := right_many h; have := h.b40; omega
end Go.Proofs.YteikkpiginfbkaaGreatDoor

namespace Go.Proofs.YteikkpiginfbkaaGreatDoor
open Go.RowKit

theorem Tryz.infoStr : (Tryz.prog.info? 9).map (fun i => (i.zero, i.size, i.bytes)) = some (some (.string ⟨#[]⟩), 1, 16) := by kernel_rfl
theorem one_str1 (s : ByteArray) : ∀ v ∈ [Value.string s], v.oneCell' = true := by intro v hv; simp at hv; subst hv; rfl
theorem one_str2 (s t : ByteArray) : ∀ v ∈ [Value.string s, .string t], v.oneCell' = true := by
  intro v hv; simp at hv; rcases hv with rfl | rfl <;> rfl
theorem print_no2 (d : Dr) (h : rightZ d = false) : printZ d = ByteArray.empty := by unfold printZ; rw [if_neg (by rw [h]; decide)]
theorem own_new (w : World) (e : TypeId) (xs : List Value) (hl : xs.length ≤ 1000) : (w.alloc (.cells xs.toArray e)).ownsRow w.heap.size e 1 (.slice (some ⟨w.heap.size, 0, none⟩) xs.length xs.length) xs.length xs :=
  ⟨by omega, .inr ⟨w.heap.size, xs.length, xs.toArray, rfl, Nat.le_refl _, heap_alloc_last w _, Nat.le_refl _, by unfold maxLen; omega, by simp, by simp⟩⟩
theorem pts_2 (w : World) (x y : Int) : PtsAt (w.alloc (.cells #[.int .i64 x, .int .i64 y] 3)).heap.size (w.alloc (.cells #[.int .i64 x, .int .i64 y] 3)) (.slice (some ⟨w.heap.size, 0, none⟩) [x, y].length 2) [x, y] := pts_new w [x, y] (by simp) (by simp)
theorem pts_1 (w : World) (x : Int) : PtsAt (w.alloc (.cells #[.int .i64 x] 3)).heap.size (w.alloc (.cells #[.int .i64 x] 3)) (.slice (some ⟨w.heap.size, 0, none⟩) [x].length 1) [x] := pts_new w [x] (by simp) (by simp)
theorem draw_line (n : ByteArray) : (⟨#[100, 114, 97, 119, 32]⟩ : ByteArray) ++ n = lineB [kDraw, n] := by
  apply ba_ext
  rw [app_data]
  show _ = lineW [kDraw, n]
  rw [lineW_cons, lineW_one]; rfl
theorem all1 {x : Int} (h : R64 x) : ∀ n ∈ [x], R64 n := fun n hn => by rw [List.mem_singleton.1 hn]; exact h
theorem all2 {x y : Int} (h : R64 x) (h' : R64 y) : ∀ n ∈ [x, y], R64 n := fun n hn => by
  rcases List.mem_cons.1 hn with rfl | hn
  · exact h
  · rw [List.mem_singleton.1 hn]; exact h'
set_option maxRecDepth 100000 in
set_option maxHeartbeats 4000000 in
theorem print_false (d : Dr) (vt vp vq vb : Value) (base : Nat) (w : World) (hd : DrOwn base w d vt vp vq vb) (hr : rightZ d = false) (hbig : d.tiers.length ≤ 1000000 ∧ d.places.length ≤ 1000000 ∧ d.quotas.length ≤ 1000000 ∧ d.barred.length ≤ 1000000) :
    Calls Tryz.prog 11 #[.agg (drCells d vt vp vq vb)] w fun e w' => e = .returned (.string ByteArray.empty) ∧ Only (fun _ => False) w w' := by
  have HD := Lib.hid hd
  have HC1 := Lib.hid (fun (w : World) (hd : DrOwn base w d vt vp vq vb) => right_any d vt vp vq vb false base w hd hr hbig)
  have HZ := Lib.hid (heap_alloc_last w (.cells (drCells d vt vp vq vb) 33))
  have HO := Lib.hid ((Only.refl (fun _ => False) w).alloc (.cells (drCells d vt vp vq vb) 33))
  clear hd hr hbig
  go_enter Tryz.func11, Tryz.ntmps11
  go_upto_region 1 with (fail)
  generalize World.alloc w _ = w1 at *
  have HD1 := Lib.hid (HD.out.only HO.out (fun _ _ h => h))
  have c0 : w1.cell? ⟨w.heap.size, 0, none⟩ = some (Value.string d.name) := cell_of_row _ _ 0 _ _ _ HZ.out
  have c1 : w1.cell? ⟨w.heap.size, 1, none⟩ = some (Value.int .i64 d.kind) := cell_of_row _ _ 1 _ _ _ HZ.out
  have c2 : w1.cell? ⟨w.heap.size, 2, none⟩ = some (Value.int .i64 d.round) := cell_of_row _ _ 2 _ _ _ HZ.out
  have c3 : w1.cell? ⟨w.heap.size, 3, none⟩ = some (Value.int .i64 d.price) := cell_of_row _ _ 3 _ _ _ HZ.out
  have c4 : w1.cell? ⟨w.heap.size, 4, none⟩ = some (Value.int .i64 d.pool) := cell_of_row _ _ 4 _ _ _ HZ.out
  have c5 : w1.cell? ⟨w.heap.size, 5, none⟩ = some (Value.int .i64 d.pick) := cell_of_row _ _ 5 _ _ _ HZ.out
  have c6 : w1.cell? ⟨w.heap.size, 6, none⟩ = some (vt) := cell_of_row _ _ 6 _ _ _ HZ.out
  have c7 : w1.cell? ⟨w.heap.size, 7, none⟩ = some (Value.bool d.roll) := cell_of_row _ _ 7 _ _ _ HZ.out
  have c8 : w1.cell? ⟨w.heap.size, 8, none⟩ = some (vp) := cell_of_row _ _ 8 _ _ _ HZ.out
  have c9 : w1.cell? ⟨w.heap.size, 9, none⟩ = some (Value.int .i64 d.cls) := cell_of_row _ _ 9 _ _ _ HZ.out
  have c10 : w1.cell? ⟨w.heap.size, 10, none⟩ = some (Value.int .i64 d.size) := cell_of_row _ _ 10 _ _ _ HZ.out
  have c11 : w1.cell? ⟨w.heap.size, 11, none⟩ = some (vq) := cell_of_row _ _ 11 _ _ _ HZ.out
  have c12 : w1.cell? ⟨w.heap.size, 12, none⟩ = some (vb) := cell_of_row _ _ 12 _ _ _ HZ.out
  go_wp2_with fail
  refine (HC1.out _ HD1.out).mono ?_
  rintro e w2 ⟨rfl, hO2⟩
  go_wp2_with fail
  go_ret
  exact ⟨rfl, HO.out.trans hO2⟩
set_option maxRecDepth 100000 in
set_option maxHeartbeats 100000000 in
theorem print_true (d : Dr) (vt vp vq vb : Value) (base : Nat) (w : World) (hd : DrOwn base w d vt vp vq vb) (hr : Right d) (hG : GlobU w) :
    Calls Tryz.prog 11 #[.agg (drCells d vt vp vq vb)] w fun e w' => e = .returned (.string (writeB d)) ∧ Only (fun _ => False) w w' := by
  obtain ⟨at1, ct, rfl⟩ := slice_of_own hd.tiers
  obtain ⟨ap1, cp, rfl⟩ := slice_of_own hd.places
  obtain ⟨aq1, cq, rfl⟩ := slice_of_own hd.quotas
  obtain ⟨ab1, cb, rfl⟩ := slice_of_own hd.bars
  have HD := Lib.hid hd
  have HR := Lib.hid hr
  have HG := Lib.hid hG
  have HC1 := Lib.hid (fun (w : World) (hd : DrOwn base w d (.slice at1 d.tiers.length ct) (.slice ap1 d.places.length cp) (.slice aq1 d.quotas.length cq) (.slice ab1 d.barred.length cb)) => right_any d _ _ _ _ true base w hd (right_iff.2 hr) ⟨by have := hr.t12; omega, by have := hr.p12; omega, by have := hr.q12; omega, by have := hr.b40; omega⟩)
  have HZ := Lib.hid (heap_alloc_last w (.cells (drCells d (.slice at1 d.tiers.length ct) (.slice ap1 d.places.length cp) (.slice aq1 d.quotas.length cq) (.slice ab1 d.barred.length cb)) 33))
  have HO := Lib.hid ((Only.refl (fun _ => False) w).alloc (.cells (drCells d (.slice at1 d.tiers.length ct) (.slice ap1 d.places.length cp) (.slice aq1 d.quotas.length cq) (.slice ab1 d.barred.length cb)) 33))
  have HN := Lib.hid (show d.name.size ≤ 20 by have := name_len hr.name; have e : d.name.data.toList.length = d.name.size := Array.length_toList; omega)
  obtain ⟨i0, hi, hz0, hz1, hz2⟩ := info_parts Tryz.infoStr
  have HI := Lib.hid hi
  have HI0 := Lib.hid hz0
  have HI1 := Lib.hid hz1
  have HI2 := Lib.hid hz2
  clear hd hr hG hi hz0 hz1 hz2
  go_enter Tryz.func11, Tryz.ntmps11
  go_upto_region 1 with (fail)
  generalize World.alloc w _ = w1 at *
  have HD1 := Lib.hid (HD.out.only HO.out (fun _ _ h => h))
  have c0 : w1.cell? ⟨w.heap.size, 0, none⟩ = some (Value.string d.name) := cell_of_row _ _ 0 _ _ _ HZ.out
  have c1 : w1.cell? ⟨w.heap.size, 1, none⟩ = some (Value.int .i64 d.kind) := cell_of_row _ _ 1 _ _ _ HZ.out
  have c2 : w1.cell? ⟨w.heap.size, 2, none⟩ = some (Value.int .i64 d.round) := cell_of_row _ _ 2 _ _ _ HZ.out
  have c3 : w1.cell? ⟨w.heap.size, 3, none⟩ = some (Value.int .i64 d.price) := cell_of_row _ _ 3 _ _ _ HZ.out
  have c4 : w1.cell? ⟨w.heap.size, 4, none⟩ = some (Value.int .i64 d.pool) := cell_of_row _ _ 4 _ _ _ HZ.out
  have c5 : w1.cell? ⟨w.heap.size, 5, none⟩ = some (Value.int .i64 d.pick) := cell_of_row _ _ 5 _ _ _ HZ.out
  have c6 : w1.cell? ⟨w.heap.size, 6, none⟩ = some (Value.slice at1 d.tiers.length ct) := cell_of_row _ _ 6 _ _ _ HZ.out
  have c7 : w1.cell? ⟨w.heap.size, 7, none⟩ = some (Value.bool d.roll) := cell_of_row _ _ 7 _ _ _ HZ.out
  have c8 : w1.cell? ⟨w.heap.size, 8, none⟩ = some (Value.slice ap1 d.places.length cp) := cell_of_row _ _ 8 _ _ _ HZ.out
  have c9 : w1.cell? ⟨w.heap.size, 9, none⟩ = some (Value.int .i64 d.cls) := cell_of_row _ _ 9 _ _ _ HZ.out
  have c10 : w1.cell? ⟨w.heap.size, 10, none⟩ = some (Value.int .i64 d.size) := cell_of_row _ _ 10 _ _ _ HZ.out
  have c11 : w1.cell? ⟨w.heap.size, 11, none⟩ = some (Value.slice aq1 d.quotas.length cq) := cell_of_row _ _ 11 _ _ _ HZ.out
  have c12 : w1.cell? ⟨w.heap.size, 12, none⟩ = some (Value.slice ab1 d.barred.length cb) := cell_of_row _ _ 12 _ _ _ HZ.out
  go_wp2_with fail
  refine (HC1.out _ HD1.out).mono ?_
  rintro e w2 ⟨rfl, hO2⟩
  have HO2 := Lib.hid (HO.out.trans hO2)
  have HZ2 := Lib.hid (row_still hO2 HZ.out)
  have HD2 := Lib.hid (HD1.out.only hO2 (fun _ _ h => h))
  clear hO2 c0 c1 c2 c3 c4 c5 c6 c7 c8 c9 c10 c11 c12
  have c0 : w2.cell? ⟨w.heap.size, 0, none⟩ = some (Value.string d.name) := cell_of_row _ _ 0 _ _ _ HZ2.out
  have c1 : w2.cell? ⟨w.heap.size, 1, none⟩ = some (Value.int .i64 d.kind) := cell_of_row _ _ 1 _ _ _ HZ2.out
  have c2 : w2.cell? ⟨w.heap.size, 2, none⟩ = some (Value.int .i64 d.round) := cell_of_row _ _ 2 _ _ _ HZ2.out
  have c3 : w2.cell? ⟨w.heap.size, 3, none⟩ = some (Value.int .i64 d.price) := cell_of_row _ _ 3 _ _ _ HZ2.out
  have c4 : w2.cell? ⟨w.heap.size, 4, none⟩ = some (Value.int .i64 d.pool) := cell_of_row _ _ 4 _ _ _ HZ2.out
  have c5 : w2.cell? ⟨w.heap.size, 5, none⟩ = some (Value.int .i64 d.pick) := cell_of_row _ _ 5 _ _ _ HZ2.out
  have c6 : w2.cell? ⟨w.heap.size, 6, none⟩ = some (Value.slice at1 d.tiers.length ct) := cell_of_row _ _ 6 _ _ _ HZ2.out
  have c7 : w2.cell? ⟨w.heap.size, 7, none⟩ = some (Value.bool d.roll) := cell_of_row _ _ 7 _ _ _ HZ2.out
  have c8 : w2.cell? ⟨w.heap.size, 8, none⟩ = some (Value.slice ap1 d.places.length cp) := cell_of_row _ _ 8 _ _ _ HZ2.out
  have c9 : w2.cell? ⟨w.heap.size, 9, none⟩ = some (Value.int .i64 d.cls) := cell_of_row _ _ 9 _ _ _ HZ2.out
  have c10 : w2.cell? ⟨w.heap.size, 10, none⟩ = some (Value.int .i64 d.size) := cell_of_row _ _ 10 _ _ _ HZ2.out
  have c11 : w2.cell? ⟨w.heap.size, 11, none⟩ = some (Value.slice aq1 d.quotas.length cq) := cell_of_row _ _ 11 _ _ _ HZ2.out
  have c12 : w2.cell? ⟨w.heap.size, 12, none⟩ = some (Value.slice ab1 d.barred.length cb) := cell_of_row _ _ 12 _ _ _ HZ2.out
  have hlt0 : w.heap.size < w2.heap.size := (Array.getElem?_eq_some_iff.1 HZ2.out).1
  have nsz := HN.out
  have i1 : ¬ (9223372036854775807 < 5 + d.name.size) := by omega
  go_upto_block 0 with (fail)
  have HL1 := Lib.hid (show LnsAt w2.heap.size (w2.alloc (.cells #[.string (⟨#[100, 114, 97, 119, 32]⟩ ++ d.name)] 9)) (.slice (some ⟨w2.heap.size, 0, none⟩) [[kDraw, d.name]].length 1) [[kDraw, d.name]] by
    rw [draw_line]
    exact own_new w2 9 [.string (lineB [kDraw, d.name])] (by simp))
  have HO1 := Lib.hid ((Only.refl (fun _ => False) w2).alloc (.cells #[.string (⟨#[100, 114, 97, 119, 32]⟩ ++ d.name)] 9))
  generalize World.alloc w2 (.cells #[.string (⟨#[100, 114, 97, 119, 32]⟩ ++ d.name)] 9) = wl at *
  clear c0 c1 c2 c3 c4 c5 c6 c7 c8 c9 c10 c11 c12
  have HZ3 := Lib.hid (row_still HO1.out HZ2.out)
  have c0 : wl.cell? ⟨w.heap.size, 0, none⟩ = some (Value.string d.name) := cell_of_row _ _ 0 _ _ _ HZ3.out
  have c1 : wl.cell? ⟨w.heap.size, 1, none⟩ = some (Value.int .i64 d.kind) := cell_of_row _ _ 1 _ _ _ HZ3.out
  have c2 : wl.cell? ⟨w.heap.size, 2, none⟩ = some (Value.int .i64 d.round) := cell_of_row _ _ 2 _ _ _ HZ3.out
  have c3 : wl.cell? ⟨w.heap.size, 3, none⟩ = some (Value.int .i64 d.price) := cell_of_row _ _ 3 _ _ _ HZ3.out
  have c4 : wl.cell? ⟨w.heap.size, 4, none⟩ = some (Value.int .i64 d.pool) := cell_of_row _ _ 4 _ _ _ HZ3.out
  have c5 : wl.cell? ⟨w.heap.size, 5, none⟩ = some (Value.int .i64 d.pick) := cell_of_row _ _ 5 _ _ _ HZ3.out
  have c6 : wl.cell? ⟨w.heap.size, 6, none⟩ = some (Value.slice at1 d.tiers.length ct) := cell_of_row _ _ 6 _ _ _ HZ3.out
  have c7 : wl.cell? ⟨w.heap.size, 7, none⟩ = some (Value.bool d.roll) := cell_of_row _ _ 7 _ _ _ HZ3.out
  have c8 : wl.cell? ⟨w.heap.size, 8, none⟩ = some (Value.slice ap1 d.places.length cp) := cell_of_row _ _ 8 _ _ _ HZ3.out
  have c9 : wl.cell? ⟨w.heap.size, 9, none⟩ = some (Value.int .i64 d.cls) := cell_of_row _ _ 9 _ _ _ HZ3.out
  have c10 : wl.cell? ⟨w.heap.size, 10, none⟩ = some (Value.int .i64 d.size) := cell_of_row _ _ 10 _ _ _ HZ3.out
  have c11 : wl.cell? ⟨w.heap.size, 11, none⟩ = some (Value.slice aq1 d.quotas.length cq) := cell_of_row _ _ 11 _ _ _ HZ3.out
  have c12 : wl.cell? ⟨w.heap.size, 12, none⟩ = some (Value.slice ab1 d.barred.length cb) := cell_of_row _ _ 12 _ _ _ HZ3.out
  have HWS := Lib.hid (show kLottery.size ≤ 1000000 ∧ kBallot.size ≤ 1000000 ∧ kPanel.size ≤ 1000000 from by decide)
  go_cut [3] (fun v wx => ∃ a c, v = .slice a ([kDraw, d.name] :: kindL d).length c ∧ LnsAt w2.heap.size wx v ([kDraw, d.name] :: kindL d) ∧ Only (fun _ => False) w2 wx)
  case first =>
    rcases owns_k HR.out.owns with hk | hk | hk
    · have q1 : (d.kind == 1) = true := by rw [hk]; rfl
      have HK := Lib.hid hk
      clear hk
      have HNL := Lib.hid (show [[kDraw, d.name]].length ≤ 100 by simp)
      have HOa := Lib.hid (HO1.out.alloc (.cells #[.int .i64 d.pool, .int .i64 d.pick] 3))
      go_wp2_with fail
      refine (text_any kLottery _ _ [d.pool, d.pick] _ (by exact pts_2 _ _ _) (by simp) (by exact (show (kLottery).size ≤ 1000000 by decide)) (by exact all2 (rg_R64 HR.out.pool) (rg_R64 HR.out.pick)) (HG.out.only (HO2.out.trans HOa.out))).mono ?_
      rintro e w3 ⟨rfl, hO3⟩
      rw [text_2 HR.out.pool HR.out.pick]
      have HO3 := Lib.hid (HOa.out.trans hO3)
      obtain ⟨s, hs⟩ : ∃ s, lineB [kLottery, decW d.pool, decW d.pick] = s := ⟨_, rfl⟩
      rw [hs]
      have HS := Lib.hid hs
      have HL3 := Lib.hid ((HL1.out.only (((Only.refl (fun _ => False) _).alloc (.cells #[.int .i64 d.pool, .int .i64 d.pick] 3)).trans hO3)).only ((Only.refl (fun _ => False) _).alloc (.cells #[.string s] 9)))
      clear hs hO3
      have hbs := (HO3.out.alloc (.cells #[.string s] 9)).size
      go_wp2_with (first | (refine wpList_append_lies _ rfl _ _ 42 rfl w2.heap.size 9 i0 _ 1 16 Tryz.underlying42 HI.out HI0.out HI1.out HI2.out rfl (by decide) _ _ _ rfl HL3.out ⟨w3.heap.size, 0, none⟩ 1 1 [.string s] rfl rfl (by exact newsR' w3 _ _) (one_str1 _) (by decide) (by have := HNL.out; unfold maxLen; omega) (by have := HNL.out; omega) hbs _ rfl ?_; intro g cap w5 hown1 hgrow hat hlt2))
      have HO5 := Lib.hid ((HO3.out.alloc (.cells #[.string s] 9)).trans' (S := fun _ => False) (T := fun i => (Value.slice (some ⟨w2.heap.size, 0, none⟩) ([[kDraw, d.name]]).length 1).ownBlock = some i) ((Only.refl _ _).grown hgrow (fun i e _ => e)) (fun i hi e => by have := ownR_ge HL3.out e; omega))
      have HL5 := Lib.hid (show LnsAt w2.heap.size w5 (.slice (some ⟨g, 0, none⟩) (([[kDraw, d.name]]) ++ [[kLottery, decW d.pool, decW d.pick]]).length cap) (([[kDraw, d.name]]) ++ [[kLottery, decW d.pool, decW d.pick]]) by
        unfold LnsAt
        rw [srowU_app, HS.out, List.length_append]; exact hown1)
      go_meet
      have hk := HK.out
      rw [show kindL d = [[kLottery, decW d.pool, decW d.pick]] by unfold kindL; rw [if_pos hk]]
      exact ⟨_, _, rfl, HL5.out, HO5.out⟩
    · have q1 : (d.kind == 1) = false := by rw [hk]; rfl
      have q2 : (d.kind == 2) = true := by rw [hk]; rfl
      have HK := Lib.hid hk
      clear hk
      have HNL := Lib.hid (show [[kDraw, d.name]].length ≤ 100 by simp)
      have HOa := Lib.hid (HO1.out.alloc (.cells #[.int .i64 d.cls] 3))
      go_wp2_with fail
      refine (text_any kBallot _ _ [d.cls] _ (by exact pts_1 _ _) (by simp) (by exact (show (kBallot).size ≤ 1000000 by decide)) (by exact all1 (rg_R64 HR.out.cls)) (HG.out.only (HO2.out.trans HOa.out))).mono ?_
      rintro e w3 ⟨rfl, hO3⟩
      rw [text_1 HR.out.cls]
      have HO3 := Lib.hid (HOa.out.trans hO3)
      obtain ⟨s, hs⟩ : ∃ s, lineB [kBallot, decW d.cls] = s := ⟨_, rfl⟩
      rw [hs]
      have HS := Lib.hid hs
      have HL3 := Lib.hid ((HL1.out.only (((Only.refl (fun _ => False) _).alloc (.cells #[.int .i64 d.cls] 3)).trans hO3)).only ((Only.refl (fun _ => False) _).alloc (.cells #[.string s] 9)))
      clear hs hO3
      have hbs := (HO3.out.alloc (.cells #[.string s] 9)).size
      go_wp2_with (first | (refine wpList_append_lies _ rfl _ _ 42 rfl w2.heap.size 9 i0 _ 1 16 Tryz.underlying42 HI.out HI0.out HI1.out HI2.out rfl (by decide) _ _ _ rfl HL3.out ⟨w3.heap.size, 0, none⟩ 1 1 [.string s] rfl rfl (by exact newsR' w3 _ _) (one_str1 _) (by decide) (by have := HNL.out; unfold maxLen; omega) (by have := HNL.out; omega) hbs _ rfl ?_; intro g cap w5 hown1 hgrow hat hlt2))
      have HO5 := Lib.hid ((HO3.out.alloc (.cells #[.string s] 9)).trans' (S := fun _ => False) (T := fun i => (Value.slice (some ⟨w2.heap.size, 0, none⟩) ([[kDraw, d.name]]).length 1).ownBlock = some i) ((Only.refl _ _).grown hgrow (fun i e _ => e)) (fun i hi e => by have := ownR_ge HL3.out e; omega))
      have HL5 := Lib.hid (show LnsAt w2.heap.size w5 (.slice (some ⟨g, 0, none⟩) (([[kDraw, d.name]]) ++ [[kBallot, decW d.cls]]).length cap) (([[kDraw, d.name]]) ++ [[kBallot, decW d.cls]]) by
        unfold LnsAt
        rw [srowU_app, HS.out, List.length_append]; exact hown1)
      go_meet
      have hk := HK.out
      rw [show kindL d = [[kBallot, decW d.cls]] by unfold kindL; rw [if_neg (by rw [hk]; decide), if_pos hk]]
      exact ⟨_, _, rfl, HL5.out, HO5.out⟩
    · have q1 : (d.kind == 1) = false := by rw [hk]; rfl
      have q2 : (d.kind == 2) = false := by rw [hk]; rfl
      have q3 : (d.kind == 3) = true := by rw [hk]; rfl
      have HK := Lib.hid hk
      clear hk
      have HNL := Lib.hid (show [[kDraw, d.name]].length ≤ 100 by simp)
      have HOa := Lib.hid (HO1.out.alloc (.cells #[.int .i64 d.size] 3))
      go_wp2_with fail
      refine (text_any kPanel _ _ [d.size] _ (by exact pts_1 _ _) (by simp) (by exact (show (kPanel).size ≤ 1000000 by decide)) (by exact all1 (rg_R64 HR.out.size)) (HG.out.only (HO2.out.trans HOa.out))).mono ?_
      rintro e w3 ⟨rfl, hO3⟩
      rw [text_1 HR.out.size]
      have HO3 := Lib.hid (HOa.out.trans hO3)
      obtain ⟨s, hs⟩ : ∃ s, lineB [kPanel, decW d.size] = s := ⟨_, rfl⟩
      rw [hs]
      have HS := Lib.hid hs
      have HL3 := Lib.hid ((HL1.out.only (((Only.refl (fun _ => False) _).alloc (.cells #[.int .i64 d.size] 3)).trans hO3)).only ((Only.refl (fun _ => False) _).alloc (.cells #[.string s] 9)))
      clear hs hO3
      have hbs := (HO3.out.alloc (.cells #[.string s] 9)).size
      go_wp2_with (first | (refine wpList_append_lies _ rfl _ _ 42 rfl w2.heap.size 9 i0 _ 1 16 Tryz.underlying42 HI.out HI0.out HI1.out HI2.out rfl (by decide) _ _ _ rfl HL3.out ⟨w3.heap.size, 0, none⟩ 1 1 [.string s] rfl rfl (by exact newsR' w3 _ _) (one_str1 _) (by decide) (by have := HNL.out; unfold maxLen; omega) (by have := HNL.out; omega) hbs _ rfl ?_; intro g cap w5 hown1 hgrow hat hlt2))
      have HO5 := Lib.hid ((HO3.out.alloc (.cells #[.string s] 9)).trans' (S := fun _ => False) (T := fun i => (Value.slice (some ⟨w2.heap.size, 0, none⟩) ([[kDraw, d.name]]).length 1).ownBlock = some i) ((Only.refl _ _).grown hgrow (fun i e _ => e)) (fun i hi e => by have := ownR_ge HL3.out e; omega))
      have HL5 := Lib.hid (show LnsAt w2.heap.size w5 (.slice (some ⟨g, 0, none⟩) (([[kDraw, d.name]]) ++ [[kPanel, decW d.size]]).length cap) (([[kDraw, d.name]]) ++ [[kPanel, decW d.size]]) by
        unfold LnsAt
        rw [srowU_app, HS.out, List.length_append]; exact hown1)
      go_meet
      have hk := HK.out
      rw [show kindL d = [[kPanel, decW d.size]] by unfold kindL; rw [if_neg (by rw [hk]; decide), if_neg (by rw [hk]; decide), if_pos hk]]
      exact ⟨_, _, rfl, HL5.out, HO5.out⟩
  case rest =>
    obtain ⟨a2, c2s, rfl, hlR, hoR⟩ := hcut
    have HL1 := Lib.hid hlR
    have HO1 := Lib.hid hoR
    have hkl : (kindL d).length = 1 := by
      unfold kindL
      rcases owns_k HR.out.owns with hk | hk | hk
      · rw [if_pos hk]; rfl
      · rw [if_neg (by rw [hk]; decide), if_pos hk]; rfl
      · rw [if_neg (by rw [hk]; decide), if_neg (by rw [hk]; decide), if_pos hk]; rfl
    have HNL := Lib.hid (show ([kDraw, d.name] :: kindL d).length ≤ 100 by rw [List.length_cons, hkl]; decide)
    clear hkl hlR hoR c0 c1 c2 c3 c4 c5 c6 c7 c8 c9 c10 c11 c12
    have HZ3 := Lib.hid (row_still HO1.out HZ2.out)
    have c2 : wc.cell? ⟨w.heap.size, 2, none⟩ = some (Value.int .i64 d.round) := cell_of_row _ _ 2 _ _ _ HZ3.out
    have c3 : wc.cell? ⟨w.heap.size, 3, none⟩ = some (Value.int .i64 d.price) := cell_of_row _ _ 3 _ _ _ HZ3.out
    have HHE := Lib.hid (show ([kDraw, d.name] :: kindL d) ++ [[kRound, decW d.round], [kPrice, decW d.price]] = headL d from rfl)
    generalize ([kDraw, d.name] :: kindL d) = l2 at *
    go_upto_region 11 with (fail)
    go_cut [3] (fun v wx => ∃ a c, v = .slice a (headL d).length c ∧ LnsAt w2.heap.size wx v (headL d) ∧ Only (fun _ => False) w2 wx)
    case first =>
      have HKS := Lib.hid (show ∀ W, Only (fun _ => False) w2 W → W.cell? ⟨w.heap.size, 2, none⟩ = some (.int .i64 d.round) ∧ W.cell? ⟨w.heap.size, 3, none⟩ = some (.int .i64 d.price) from fun W hW => ⟨hW.cell (cell_of_row _ _ 2 _ _ _ HZ2.out) id, hW.cell (cell_of_row _ _ 3 _ _ _ HZ2.out) id⟩)
      refine wp_region_held_drew (S := fun W => W.cell? ⟨w.heap.size, 2, none⟩ = some (.int .i64 d.round) ∧ W.cell? ⟨w.heap.size, 3, none⟩ = some (.int .i64 d.price)) (by kernel_rfl) (HKS.out _ HO1.out.drew) fun hHeld => ?_
      have HOX := Lib.hid HO1.out.drew
      have HL1 := Lib.hid (show LnsAt w2.heap.size wc.drew _ l2 from HL1.out)
      generalize wc.drew = wd at *
      refine' wpAnyH_take (i := 0) (v := _) rfl (by kernel_rfl) (by kernel_rfl) (by kernel_rfl) (fun _ _ _ h => h) (Or.inl ⟨by rfl, ?hya0⟩) hHeld ?ra0
      case hya0 => (intro w hSw; obtain ⟨s0, s1⟩ := hSw; go_simp; with_reducible rfl)
      simp only [Act.put, List.getElem_toArray, List.getElem_cons_zero, List.setIfInBounds_toArray, List.set_cons_zero, List.set_cons_succ]
      refine' wpAnyH_take (i := 1) (v := _) rfl (by kernel_rfl) (by kernel_rfl) (by kernel_rfl) (fun _ _ _ h => h) (Or.inl ⟨by rfl, ?hya1⟩) hHeld ?ra1
      case hya1 => (intro w hSw; obtain ⟨s0, s1⟩ := hSw; go_simp; with_reducible rfl)
      simp only [Act.put, List.getElem_toArray, List.getElem_cons_zero, List.getElem_cons_succ, List.setIfInBounds_toArray, List.set_cons_zero, List.set_cons_succ]
      refine' wpAnyH_take (i := 2) (v := _) rfl (by kernel_rfl) (by kernel_rfl) (by kernel_rfl) (fun _ _ _ h => h) (Or.inl ⟨by rfl, ?hya2⟩) hHeld ?ra2
      case hya2 => (intro w hSw; obtain ⟨s0, s1⟩ := hSw; go_simp; with_reducible rfl)
      simp only [Act.put, List.getElem_toArray, List.getElem_cons_zero, List.getElem_cons_succ, List.setIfInBounds_toArray, List.set_cons_zero, List.set_cons_succ]
      refine' wpAnyH_take (i := 5) (v := _) rfl (by kernel_rfl) (by kernel_rfl) (by kernel_rfl) (fun _ _ _ h => h) (Or.inl ⟨by rfl, ?hya5⟩) hHeld ?ra5
      case hya5 => (intro w hSw; obtain ⟨s0, s1⟩ := hSw; go_simp; with_reducible rfl)
      simp only [Act.put, List.getElem_toArray, List.getElem_cons_zero, List.getElem_cons_succ, List.setIfInBounds_toArray, List.set_cons_zero, List.set_cons_succ]
      refine' wpAnyH_take (i := 6) (v := _) rfl (by kernel_rfl) (by kernel_rfl) (by kernel_rfl) (fun _ _ _ h => h) (Or.inl ⟨by rfl, ?hya6⟩) hHeld ?ra6
      case hya6 => (intro w hSw; obtain ⟨s0, s1⟩ := hSw; go_simp; with_reducible rfl)
      simp only [Act.put, List.getElem_toArray, List.getElem_cons_zero, List.getElem_cons_succ, List.setIfInBounds_toArray, List.set_cons_zero, List.set_cons_succ]
      refine wpAnyH_ready (rs := [3, 7]) (by kernel_rfl) (by simp) ?_
      refine AllReadyH.cons rfl (fun K hK => ?_) (AllReadyH.cons rfl (fun K hK => ?_) AllReadyH.nil)
      · go_simp
        have HST := Lib.hid ((Only.refl (fun _ => False) wd).alloc (.cells #[.int .i64 d.round] 3))
        have HOX := Lib.hid (HOX.out.trans HST.out)
        have HL1 := Lib.hid (HL1.out.only HST.out)
        have HPA := Lib.hid (pts_1 wd d.round)
        refine hK.out _ _ (HKS.out _ HOX.out) (fun hHeld => ?_)
        clear hK K
        try simp only [Act.put, List.getElem_toArray, List.getElem_cons_zero, List.getElem_cons_succ, List.setIfInBounds_toArray, List.set_cons_zero, List.set_cons_succ]
        generalize (wd.alloc (.cells #[.int .i64 d.round] 3)) = v1 at *
        clear HST
        refine wpAnyH_ready (rs := [4, 7]) (by kernel_rfl) (by simp) ?_
        refine AllReadyH.cons rfl (fun K hK => ?_) (AllReadyH.cons rfl (fun K hK => ?_) AllReadyH.nil)
        · go_simp
          refine (text_any kRound _ _ [d.round] _ HPA.out (by simp) (by decide) (by exact all1 (rg_R64 HR.out.round)) (HG.out.only (HO2.out.trans HOX.out))).mono ?_
          rintro e v2 ⟨rfl, hST⟩
          have HST := Lib.hid hST
          clear hST HPA
          have HOX := Lib.hid (HOX.out.trans HST.out)
          have HL1 := Lib.hid (HL1.out.only HST.out)
          rw [text_1 HR.out.round]
          refine hK.out _ _ (HKS.out _ HOX.out) (fun hHeld => ?_)
          clear hK K
          try simp only [Act.put, List.getElem_toArray, List.getElem_cons_zero, List.getElem_cons_succ, List.setIfInBounds_toArray, List.set_cons_zero, List.set_cons_succ]
          clear HST
          refine wpAnyH_ready (rs := [7]) (by kernel_rfl) (by simp) ?_
          refine AllReadyH.cons rfl (fun K hK => ?_) AllReadyH.nil
          go_simp
          have HST := Lib.hid ((Only.refl (fun _ => False) v2).alloc (.cells #[.int .i64 d.price] 3))
          have HOX := Lib.hid (HOX.out.trans HST.out)
          have HL1 := Lib.hid (HL1.out.only HST.out)
          have HPB := Lib.hid (pts_1 v2 d.price)
          refine hK.out _ _ (HKS.out _ HOX.out) (fun hHeld => ?_)
          clear hK K
          try simp only [Act.put, List.getElem_toArray, List.getElem_cons_zero, List.getElem_cons_succ, List.setIfInBounds_toArray, List.set_cons_zero, List.set_cons_succ]
          generalize (v2.alloc (.cells #[.int .i64 d.price] 3)) = v3 at *
          clear HST
          refine wpAnyH_ready (rs := [8]) (by kernel_rfl) (by simp) ?_
          refine AllReadyH.cons rfl (fun K hK => ?_) AllReadyH.nil
          go_simp
          refine (text_any kPrice _ _ [d.price] _ HPB.out (by simp) (by decide) (by exact all1 (rg_R64 HR.out.price)) (HG.out.only (HO2.out.trans HOX.out))).mono ?_
          rintro e v4 ⟨rfl, hST⟩
          have HST := Lib.hid hST
          clear hST HPB
          have HOX := Lib.hid (HOX.out.trans HST.out)
          have HL1 := Lib.hid (HL1.out.only HST.out)
          rw [text_1 HR.out.price]
          refine hK.out _ _ (HKS.out _ HOX.out) (fun hHeld => ?_)
          clear hK K
          try simp only [Act.put, List.getElem_toArray, List.getElem_cons_zero, List.getElem_cons_succ, List.setIfInBounds_toArray, List.set_cons_zero, List.set_cons_succ]
          clear HST
          refine wpAnyH_ready (rs := [9]) (by kernel_rfl) (by simp) ?_
          refine AllReadyH.cons rfl (fun K hK => ?_) AllReadyH.nil
          go_simp
          have HL1 := Lib.hid (HL1.out.only ((Only.refl (fun _ => False) _).alloc (.cells #[.string (lineB [kRound, decW d.round]), .string (lineB [kPrice, decW d.price])] 9)))
          have HOX := Lib.hid (HOX.out.alloc (.cells #[.string (lineB [kRound, decW d.round]), .string (lineB [kPrice, decW d.price])] 9))
          have HNW := Lib.hid (newsR' v4 [.string (lineB [kRound, decW d.round]), .string (lineB [kPrice, decW d.price])] 9)
          refine hK.out _ _ (HKS.out _ HOX.out) (fun hHeld => ?_)
          clear hK K
          try simp only [Act.put, List.getElem_toArray, List.getElem_cons_zero, List.getElem_cons_succ, List.setIfInBounds_toArray, List.set_cons_zero, List.set_cons_succ]
          
          have hgg : (v4.alloc (.cells #[.string (lineB [kRound, decW d.round]), .string (lineB [kPrice, decW d.price])] 9)) = (v4.alloc (.cells #[.string (lineB [kRound, decW d.round]), .string (lineB [kPrice, decW d.price])] 9)) := rfl
          clear hgg
          refine wpAnyH_ready (rs := [10]) (by kernel_rfl) (by simp) ?_
          refine AllReadyH.cons rfl (fun K hK => ?_) AllReadyH.nil
          have hbs := HOX.out.size
          refine step_append_lies _ rfl _ _ 42 rfl w2.heap.size 9 i0 _ 1 16 Tryz.underlying42 HI.out HI0.out HI1.out HI2.out rfl (by decide) _ _ _ (by rfl) HL1.out ⟨v4.heap.size, 0, none⟩ 2 2 [.string (lineB [kRound, decW d.round]), .string (lineB [kPrice, decW d.price])] (by rfl) rfl HNW.out (one_str2 _ _) (by decide) (by have := HNL.out; unfold maxLen; omega) (by have := HNL.out; omega) hbs _ rfl ?_
          intro g cap w5 hown1 hgrow hat hlt2
          have HOX := Lib.hid (HOX.out.trans' (S := fun _ => False) (T := fun i => (Value.slice a2 l2.length c2s).ownBlock = some i) ((Only.refl _ _).grown hgrow (fun i e _ => e)) (fun i hi e => by have := ownR_ge HL1.out e; omega))
          have HL5 := Lib.hid (show LnsAt w2.heap.size w5 (.slice (some ⟨g, 0, none⟩) (headL d).length cap) (headL d) by
            rw [← HHE.out]
            unfold LnsAt
            rw [srowU_app2, List.length_append]; exact hown1)
          refine hK.out _ _ (HKS.out _ HOX.out) (fun hHeld => ?_)
          clear hK K
          try simp only [Act.put, List.getElem_toArray, List.getElem_cons_zero, List.getElem_cons_succ, List.setIfInBounds_toArray, List.set_cons_zero, List.set_cons_succ]
          refine' wpAnyH_take (i := 11) (v := _) rfl (by kernel_rfl) (by kernel_rfl) (by kernel_rfl) (fun _ _ _ h => h) (Or.inl ⟨by rfl, ?hyz6x11⟩) hHeld ?rz6x11
          case hyz6x11 => (intro w hSw; obtain ⟨s0, s1⟩ := hSw; go_simp; with_reducible rfl)
          simp only [Act.put, List.getElem_toArray, List.getElem_cons_zero, List.getElem_cons_succ, List.setIfInBounds_toArray, List.set_cons_zero, List.set_cons_succ]
          refine wpAnyH_done (by kernel_rfl) ?_ _
          go_wp2_with fail
          go_meet
          have hhl : (headL d).length = l2.length + 2 := by rw [← HHE.out, List.length_append]; rfl
          have HL5 := HL5.out
          rw [hhl] at HL5 ⊢
          exact ⟨_, _, rfl, HL5, HOX.out⟩
        · go_simp
          have HST := Lib.hid ((Only.refl (fun _ => False) v1).alloc (.cells #[.int .i64 d.price] 3))
          have HOX := Lib.hid (HOX.out.trans HST.out)
          have HL1 := Lib.hid (HL1.out.only HST.out)
          have HPA := Lib.hid (PtsAt.only HST.out HPA.out)
          have HPB := Lib.hid (pts_1 v1 d.price)
          refine hK.out _ _ (HKS.out _ HOX.out) (fun hHeld => ?_)
          clear hK K
          try simp only [Act.put, List.getElem_toArray, List.getElem_cons_zero, List.getElem_cons_succ, List.setIfInBounds_toArray, List.set_cons_zero, List.set_cons_succ]
          generalize (v1.alloc (.cells #[.int .i64 d.price] 3)) = v7 at *
          clear HST
          refine wpAnyH_ready (rs := [4]) (by kernel_rfl) (by simp) ?_
          refine AllReadyH.cons rfl (fun K hK => ?_) AllReadyH.nil
          go_simp
          refine (text_any kRound _ _ [d.round] _ HPA.out (by simp) (by decide) (by exact all1 (rg_R64 HR.out.round)) (HG.out.only (HO2.out.trans HOX.out))).mono ?_
          rintro e v8 ⟨rfl, hST⟩
          have HST := Lib.hid hST
          clear hST HPA
          have HOX := Lib.hid (HOX.out.trans HST.out)
          have HL1 := Lib.hid (HL1.out.only HST.out)
          have HPB := Lib.hid (PtsAt.only HST.out HPB.out)
          rw [text_1 HR.out.round]
          refine hK.out _ _ (HKS.out _ HOX.out) (fun hHeld => ?_)
          clear hK K
          try simp only [Act.put, List.getElem_toArray, List.getElem_cons_zero, List.getElem_cons_succ, List.setIfInBounds_toArray, List.set_cons_zero, List.set_cons_succ]
          clear HST
          refine wpAnyH_ready (rs := [8]) (by kernel_rfl) (by simp) ?_
          refine AllReadyH.cons rfl (fun K hK => ?_) AllReadyH.nil
          go_simp
          refine (text_any kPrice _ _ [d.price] _ HPB.out (by simp) (by decide) (by exact all1 (rg_R64 HR.out.price)) (HG.out.only (HO2.out.trans HOX.out))).mono ?_
          rintro e v9 ⟨rfl, hST⟩
          have HST := Lib.hid hST
          clear hST HPB
          have HOX := Lib.hid (HOX.out.trans HST.out)
          have HL1 := Lib.hid (HL1.out.only HST.out)
          rw [text_1 HR.out.price]
          refine hK.out _ _ (HKS.out _ HOX.out) (fun hHeld => ?_)
          clear hK K
          try simp only [Act.put, List.getElem_toArray, List.getElem_cons_zero, List.getElem_cons_succ, List.setIfInBounds_toArray, List.set_cons_zero, List.set_cons_succ]
          clear HST
          refine wpAnyH_ready (rs := [9]) (by kernel_rfl) (by simp) ?_
          refine AllReadyH.cons rfl (fun K hK => ?_) AllReadyH.nil
          go_simp
          have HL1 := Lib.hid (HL1.out.only ((Only.refl (fun _ => False) _).alloc (.cells #[.string (lineB [kRound, decW d.round]), .string (lineB [kPrice, decW d.price])] 9)))
          have HOX := Lib.hid (HOX.out.alloc (.cells #[.string (lineB [kRound, decW d.round]), .string (lineB [kPrice, decW d.price])] 9))
          have HNW := Lib.hid (newsR' v9 [.string (lineB [kRound, decW d.round]), .string (lineB [kPrice, decW d.price])] 9)
          refine hK.out _ _ (HKS.out _ HOX.out) (fun hHeld => ?_)
          clear hK K
          try simp only [Act.put, List.getElem_toArray, List.getElem_cons_zero, List.getElem_cons_succ, List.setIfInBounds_toArray, List.set_cons_zero, List.set_cons_succ]
          
          have hgg : (v9.alloc (.cells #[.string (lineB [kRound, decW d.round]), .string (lineB [kPrice, decW d.price])] 9)) = (v9.alloc (.cells #[.string (lineB [kRound, decW d.round]), .string (lineB [kPrice, decW d.price])] 9)) := rfl
          clear hgg
          refine wpAnyH_ready (rs := [10]) (by kernel_rfl) (by simp) ?_
          refine AllReadyH.cons rfl (fun K hK => ?_) AllReadyH.nil
          have hbs := HOX.out.size
          refine step_append_lies _ rfl _ _ 42 rfl w2.heap.size 9 i0 _ 1 16 Tryz.underlying42 HI.out HI0.out HI1.out HI2.out rfl (by decide) _ _ _ (by rfl) HL1.out ⟨v9.heap.size, 0, none⟩ 2 2 [.string (lineB [kRound, decW d.round]), .string (lineB [kPrice, decW d.price])] (by rfl) rfl HNW.out (one_str2 _ _) (by decide) (by have := HNL.out; unfold maxLen; omega) (by have := HNL.out; omega) hbs _ rfl ?_
          intro g cap w5 hown1 hgrow hat hlt2
          have HOX := Lib.hid (HOX.out.trans' (S := fun _ => False) (T := fun i => (Value.slice a2 l2.length c2s).ownBlock = some i) ((Only.refl _ _).grown hgrow (fun i e _ => e)) (fun i hi e => by have := ownR_ge HL1.out e; omega))
          have HL5 := Lib.hid (show LnsAt w2.heap.size w5 (.slice (some ⟨g, 0, none⟩) (headL d).length cap) (headL d) by
            rw [← HHE.out]
            unfold LnsAt
            rw [srowU_app2, List.length_append]; exact hown1)
          refine hK.out _ _ (HKS.out _ HOX.out) (fun hHeld => ?_)
          clear hK K
          try simp only [Act.put, List.getElem_toArray, List.getElem_cons_zero, List.getElem_cons_succ, List.setIfInBounds_toArray, List.set_cons_zero, List.set_cons_succ]
          refine' wpAnyH_take (i := 11) (v := _) rfl (by kernel_rfl) (by kernel_rfl) (by kernel_rfl) (fun _ _ _ h => h) (Or.inl ⟨by rfl, ?hyz11x11⟩) hHeld ?rz11x11
          case hyz11x11 => (intro w hSw; obtain ⟨s0, s1⟩ := hSw; go_simp; with_reducible rfl)
          simp only [Act.put, List.getElem_toArray, List.getElem_cons_zero, List.getElem_cons_succ, List.setIfInBounds_toArray, List.set_cons_zero, List.set_cons_succ]
          refine wpAnyH_done (by kernel_rfl) ?_ _
          go_wp2_with fail
          go_meet
          have hhl : (headL d).length = l2.length + 2 := by rw [← HHE.out, List.length_append]; rfl
          have HL5 := HL5.out
          rw [hhl] at HL5 ⊢
          exact ⟨_, _, rfl, HL5, HOX.out⟩
      · go_simp
        have HST := Lib.hid ((Only.refl (fun _ => False) wd).alloc (.cells #[.int .i64 d.price] 3))
        have HOX := Lib.hid (HOX.out.trans HST.out)
        have HL1 := Lib.hid (HL1.out.only HST.out)
        have HPB := Lib.hid (pts_1 wd d.price)
        refine hK.out _ _ (HKS.out _ HOX.out) (fun hHeld => ?_)
        clear hK K
        try simp only [Act.put, List.getElem_toArray, List.getElem_cons_zero, List.getElem_cons_succ, List.setIfInBounds_toArray, List.set_cons_zero, List.set_cons_succ]
        generalize (wd.alloc (.cells #[.int .i64 d.price] 3)) = v12 at *
        clear HST
        refine wpAnyH_ready (rs := [3]) (by kernel_rfl) (by simp) ?_
        refine AllReadyH.cons rfl (fun K hK => ?_) AllReadyH.nil
        go_simp
        have HST := Lib.hid ((Only.refl (fun _ => False) v12).alloc (.cells #[.int .i64 d.round] 3))
        have HOX := Lib.hid (HOX.out.trans HST.out)
        have HL1 := Lib.hid (HL1.out.only HST.out)
        have HPB := Lib.hid (PtsAt.only HST.out HPB.out)
        have HPA := Lib.hid (pts_1 v12 d.round)
        refine hK.out _ _ (HKS.out _ HOX.out) (fun hHeld => ?_)
        clear hK K
        try simp only [Act.put, List.getElem_toArray, List.getElem_cons_zero, List.getElem_cons_succ, List.setIfInBounds_toArray, List.set_cons_zero, List.set_cons_succ]
        generalize (v12.alloc (.cells #[.int .i64 d.round] 3)) = v13 at *
        clear HST
        refine wpAnyH_ready (rs := [4]) (by kernel_rfl) (by simp) ?_
        refine AllReadyH.cons rfl (fun K hK => ?_) AllReadyH.nil
        go_simp
        refine (text_any kRound _ _ [d.round] _ HPA.out (by simp) (by decide) (by exact all1 (rg_R64 HR.out.round)) (HG.out.only (HO2.out.trans HOX.out))).mono ?_
        rintro e v14 ⟨rfl, hST⟩
        have HST := Lib.hid hST
        clear hST HPA
        have HOX := Lib.hid (HOX.out.trans HST.out)
        have HL1 := Lib.hid (HL1.out.only HST.out)
        have HPB := Lib.hid (PtsAt.only HST.out HPB.out)
        rw [text_1 HR.out.round]
        refine hK.out _ _ (HKS.out _ HOX.out) (fun hHeld => ?_)
        clear hK K
        try simp only [Act.put, List.getElem_toArray, List.getElem_cons_zero, List.getElem_cons_succ, List.setIfInBounds_toArray, List.set_cons_zero, List.set_cons_succ]
        clear HST
        refine wpAnyH_ready (rs := [8]) (by kernel_rfl) (by simp) ?_
        refine AllReadyH.cons rfl (fun K hK => ?_) AllReadyH.nil
        go_simp
        refine (text_any kPrice _ _ [d.price] _ HPB.out (by simp) (by decide) (by exact all1 (rg_R64 HR.out.price)) (HG.out.only (HO2.out.trans HOX.out))).mono ?_
        rintro e v15 ⟨rfl, hST⟩
        have HST := Lib.hid hST
        clear hST HPB
        have HOX := Lib.hid (HOX.out.trans HST.out)
        have HL1 := Lib.hid (HL1.out.only HST.out)
        rw [text_1 HR.out.price]
        refine hK.out _ _ (HKS.out _ HOX.out) (fun hHeld => ?_)
        clear hK K
        try simp only [Act.put, List.getElem_toArray, List.getElem_cons_zero, List.getElem_cons_succ, List.setIfInBounds_toArray, List.set_cons_zero, List.set_cons_succ]
        clear HST
        refine wpAnyH_ready (rs := [9]) (by kernel_rfl) (by simp) ?_
        refine AllReadyH.cons rfl (fun K hK => ?_) AllReadyH.nil
        go_simp
        have HL1 := Lib.hid (HL1.out.only ((Only.refl (fun _ => False) _).alloc (.cells #[.string (lineB [kRound, decW d.round]), .string (lineB [kPrice, decW d.price])] 9)))
        have HOX := Lib.hid (HOX.out.alloc (.cells #[.string (lineB [kRound, decW d.round]), .string (lineB [kPrice, decW d.price])] 9))
        have HNW := Lib.hid (newsR' v15 [.string (lineB [kRound, decW d.round]), .string (lineB [kPrice, decW d.price])] 9)
        refine hK.out _ _ (HKS.out _ HOX.out) (fun hHeld => ?_)
        clear hK K
        try simp only [Act.put, List.getElem_toArray, List.getElem_cons_zero, List.getElem_cons_succ, List.setIfInBounds_toArray, List.set_cons_zero, List.set_cons_succ]
        
        have hgg : (v15.alloc (.cells #[.string (lineB [kRound, decW d.round]), .string (lineB [kPrice, decW d.price])] 9)) = (v15.alloc (.cells #[.string (lineB [kRound, decW d.round]), .string (lineB [kPrice, decW d.price])] 9)) := rfl
        clear hgg
        refine wpAnyH_ready (rs := [10]) (by kernel_rfl) (by simp) ?_
        refine AllReadyH.cons rfl (fun K hK => ?_) AllReadyH.nil
        have hbs := HOX.out.size
        refine step_append_lies _ rfl _ _ 42 rfl w2.heap.size 9 i0 _ 1 16 Tryz.underlying42 HI.out HI0.out HI1.out HI2.out rfl (by decide) _ _ _ (by rfl) HL1.out ⟨v15.heap.size, 0, none⟩ 2 2 [.string (lineB [kRound, decW d.round]), .string (lineB [kPrice, decW d.price])] (by rfl) rfl HNW.out (one_str2 _ _) (by decide) (by have := HNL.out; unfold maxLen; omega) (by have := HNL.out; omega) hbs _ rfl ?_
        intro g cap w5 hown1 hgrow hat hlt2
        have HOX := Lib.hid (HOX.out.trans' (S := fun _ => False) (T := fun i => (Value.slice a2 l2.length c2s).ownBlock = some i) ((Only.refl _ _).grown hgrow (fun i e _ => e)) (fun i hi e => by have := ownR_ge HL1.out e; omega))
        have HL5 := Lib.hid (show LnsAt w2.heap.size w5 (.slice (some ⟨g, 0, none⟩) (headL d).length cap) (headL d) by
          rw [← HHE.out]
          unfold LnsAt
          rw [srowU_app2, List.length_append]; exact hown1)
        refine hK.out _ _ (HKS.out _ HOX.out) (fun hHeld => ?_)
        clear hK K
        try simp only [Act.put, List.getElem_toArray, List.getElem_cons_zero, List.getElem_cons_succ, List.setIfInBounds_toArray, List.set_cons_zero, List.set_cons_succ]
        refine' wpAnyH_take (i := 11) (v := _) rfl (by kernel_rfl) (by kernel_rfl) (by kernel_rfl) (fun _ _ _ h => h) (Or.inl ⟨by rfl, ?hyz17x11⟩) hHeld ?rz17x11
        case hyz17x11 => (intro w hSw; obtain ⟨s0, s1⟩ := hSw; go_simp; with_reducible rfl)
        simp only [Act.put, List.getElem_toArray, List.getElem_cons_zero, List.getElem_cons_succ, List.setIfInBounds_toArray, List.set_cons_zero, List.set_cons_succ]
        refine wpAnyH_done (by kernel_rfl) ?_ _
        go_wp2_with fail
        go_meet
        have hhl : (headL d).length = l2.length + 2 := by rw [← HHE.out, List.length_append]; rfl
        have HL5 := HL5.out
        rw [hhl] at HL5 ⊢
        exact ⟨_, _, rfl, HL5, HOX.out⟩
    case rest =>
    obtain ⟨a3, c3s, rfl, hlR, hoR⟩ := hcut
    have HL1 := Lib.hid hlR
    have HO1 := Lib.hid hoR
    clear hlR hoR HHE HNL HZ3
    have HZ3 := Lib.hid (row_still HO1.out HZ2.out)
    have HD3 := Lib.hid (HD2.out.only HO1.out (fun _ _ h => h))
    have c6 : wc.cell? ⟨w.heap.size, 6, none⟩ = some (Value.slice at1 d.tiers.length ct) := cell_of_row _ _ 6 _ _ _ HZ3.out
    have hlt0 : w.heap.size < wc.heap.size := (Array.getElem?_eq_some_iff.1 HZ3.out).1
    go_upto_block 1 with (fail)
    go_cut [3] (fun v wx => ∃ a c, v = .slice a (headL d ++ d.tiers.map tierL).length c ∧ LnsAt w2.heap.size wx v (headL d ++ d.tiers.map tierL) ∧ Only (fun _ => False) w2 wx)
    case first =>
      obtain ⟨l0, hl0⟩ : ∃ l, headL d = l := ⟨_, rfl⟩
      rw [hl0] at HL1 ⊢
      have HLE := Lib.hid hl0
      clear hl0 c6
      go_wp2_with fail
      go_loopw [3, 64] (fun v iv wr => ∃ (k : Nat) (ls : List (List ByteArray)) (a : Option Addr) (c : Nat), iv = .int .i64 k ∧ k ≤ d.tiers.length ∧ v = .slice a ls.length c ∧ ls = l0 ++ (d.tiers.take k).map tierL ∧ LnsAt w2.heap.size wr v ls ∧ Only (fun _ => False) w2 wr) (fun _ iv _ => d.tiers.length - (intOf iv).toNat)
      case atStart => exact ⟨0, l0, _, _, rfl, Nat.zero_le _, rfl, by simp, HL1.out, HO1.out⟩
      case round =>
        obtain ⟨k, ls, al, cl, rfl, hk, rfl, hls, hlw, hO4⟩ := hrel
        have HLS := Lib.hid hls
        have HL4 := Lib.hid hlw
        have HO4 := Lib.hid hO4
        have HZ4 := Lib.hid (row_still hO4 HZ2.out)
        have HD4 := Lib.hid (HD2.out.only hO4 (fun _ _ h => h))
        clear hls hlw hO4
        by_cases hlt : k < d.tiers.length
        · have j1 : (k : Int) < d.tiers.length := by omega
          have j2 : 0 ≤ (k : Int) := by omega
          have HNL := Lib.hid (show ls.length ≤ 100 by
            have h1 := HR.out.t12
            have h2 : ((headL d) ++ (d.tiers.take k).map tierL).length ≤ (lnsZ d).length := by
              unfold lnsZ restL
              have h3 : (d.tiers.take k).length ≤ d.tiers.length := by rw [List.length_take]; omega
              simp only [List.length_append, List.length_map] at h3 ⊢
              omega
            have h3 := lines_small HR.out
            rw [HLS.out, ← HLE.out]
            omega)
          have HLN := Lib.hid (show l0 ++ (d.tiers.take (k + 1)).map tierL = ls ++ [tierL d.tiers[k]] by
            rw [take_snoc hlt, List.map_append, HLS.out, List.append_assoc]; rfl)
          have h0 := flat_at (fun x : Int × Int => [Value.int .i64 x.1, Value.int .i64 x.2]) 2 (fun _ => rfl) d.tiers k 0 hlt (by decide)
          have h1 := flat_at (fun x : Int × Int => [Value.int .i64 x.1, Value.int .i64 x.2]) 2 (fun _ => rfl) d.tiers k 1 hlt (by decide)
          obtain ⟨g, cap, hv, hg, hc1, hc2, d0⟩ := own_cell HD4.out.tiers h0
          obtain ⟨g1, cap1, hv1, _, _, _, d1⟩ := own_cell HD4.out.tiers h1
          rw [hv] at hv1
          simp only [Value.slice.injEq, Option.some.injEq, Addr.mk.injEq, and_true, true_and] at hv hv1
          obtain ⟨rfl, rfl⟩ := hv
          obtain ⟨rfl, rfl⟩ := hv1
          obtain ⟨r1, r2, _⟩ := tierOk_at hlt (HR.out.tiers k hlt)
          generalize d.tiers[k] = y at *
          obtain ⟨ya, yb⟩ := y
          change _ = some (Value.int .i64 ya) at d0
          change _ = some (Value.int .i64 yb) at d1
          rw [Nat.add_zero] at d0
          have HRS := Lib.hid (show R64 ya ∧ R64 yb from ⟨rg_R64 r1, rg_R64 r2⟩)
          clear h0 h1
          have hszr : w.heap.size < wr.heap.size := (Array.getElem?_eq_some_iff.1 HZ4.out).1
          have HOa := Lib.hid ((HO4.out.alloc (.cells #[.int .i64 ya, .int .i64 yb] 50)).alloc (.cells #[.int .i64 ya, .int .i64 yb] 3))
          go_wp2_with fail
          have HWO := Lib.hid (show kTier.size ≤ 1000000 by decide)
          refine (text_any kTier _ _ [ya, yb] _ (by exact pts_pair _ _ _ _) (by simp) (by exact HWO.out) (by exact all2 (rg_R64 r1) (rg_R64 r2)) (HG.out.only (HO2.out.trans HOa.out))).mono ?_
          rintro e w3 ⟨rfl, hO3⟩
          rw [text_2 r1 r2]
          have HO3 := Lib.hid (HOa.out.trans hO3)
          obtain ⟨s, hs⟩ : ∃ s, lineB [kTier, decW ya, decW yb] = s := ⟨_, rfl⟩
          rw [hs]
          have HS := Lib.hid hs
          have HL3 := Lib.hid ((HL4.out.only ((((Only.refl (fun _ => False) _).alloc (.cells #[.int .i64 ya, .int .i64 yb] 50)).alloc (.cells #[.int .i64 ya, .int .i64 yb] 3)).trans hO3)).only ((Only.refl (fun _ => False) _).alloc (.cells #[.string s] 9)))
          clear hs hO3
          have hbs := (HO3.out.alloc (.cells #[.string s] 9)).size
          go_wp2_with (first | (refine wpList_append_lies _ rfl _ _ 42 rfl w2.heap.size 9 i0 _ 1 16 Tryz.underlying42 HI.out HI0.out HI1.out HI2.out rfl (by decide) _ _ _ rfl HL3.out ⟨w3.heap.size, 0, none⟩ 1 1 [.string s] rfl rfl (by exact newsR' w3 _ _) (one_str1 _) (by decide) (by have := HNL.out; unfold maxLen; omega) (by have := HNL.out; omega) hbs _ rfl ?_; intro g cap w5 hown1 hgrow hat hlt2))
          have HO5 := Lib.hid ((HO3.out.alloc (.cells #[.string s] 9)).trans' (S := fun _ => False) (T := fun i => (Value.slice al ls.length cl).ownBlock = some i) ((Only.refl _ _).grown hgrow (fun i e _ => e)) (fun i hi e => by have := ownR_ge HL3.out e; omega))
          have HL5 := Lib.hid (show LnsAt w2.heap.size w5 (.slice (some ⟨g, 0, none⟩) (ls ++ [[kTier, decW ya, decW yb]]).length cap) (ls ++ [[kTier, decW ya, decW yb]]) by
            unfold LnsAt
            rw [srowU_app, HS.out, List.length_append]; exact hown1)
          go_roundw
          case rel => exact ⟨k + 1, ls ++ [[kTier, decW ya, decW yb]], _, _, by go_num, hlt, by rw [List.length_append]; rfl, HLN.out.symm, by have h := HL5.out; rw [List.length_append] at h; exact h, HO5.out⟩
          case measure => simp [intOf]; omega
        · obtain rfl : k = d.tiers.length := by omega
          have j1 : ¬ (d.tiers.length : Int) < d.tiers.length := by omega
          have HLX := Lib.hid (show ls = l0 ++ d.tiers.map tierL by rw [HLS.out, List.take_length])
          clear hlt hk
          go_wp2_with fail
          go_meet
          have hle : headL d ++ d.tiers.map tierL = ls := by rw [HLE.out]; exact HLX.out.symm
          rw [hle]
          exact ⟨_, _, rfl, HL4.out, HO4.out⟩
    case rest =>
      obtain ⟨a3, c3s, rfl, hlR, hoR⟩ := hcut
      have HL1 := Lib.hid hlR
      have HO1 := Lib.hid hoR
      clear hlR hoR
      have HZ3 := Lib.hid (row_still HO1.out HZ2.out)
      have HD3 := Lib.hid (HD2.out.only HO1.out (fun _ _ h => h))
      have c7 : wc.cell? ⟨w.heap.size, 7, none⟩ = some (Value.bool d.roll) := cell_of_row _ _ 7 _ _ _ HZ3.out
      have hlt0 : w.heap.size < wc.heap.size := (Array.getElem?_eq_some_iff.1 HZ3.out).1
      have HNL := Lib.hid (show (headL d ++ d.tiers.map tierL).length ≤ 100 by
        have h2 : (headL d ++ d.tiers.map tierL).length ≤ (lnsZ d).length := by
          unfold lnsZ restL
          simp only [List.length_append, List.length_map]
          omega
        have h3 := lines_small HR.out
        omega)
      go_upto_if 79 with (fail)
      go_cut [3] (fun v wx => ∃ a c, v = .slice a (headL d ++ d.tiers.map tierL ++ rollL d.roll).length c ∧ LnsAt w2.heap.size wx v (headL d ++ d.tiers.map tierL ++ rollL d.roll) ∧ Only (fun _ => False) w2 wx)
      case first =>
        obtain ⟨l0, hl0⟩ : ∃ l, headL d ++ d.tiers.map tierL = l := ⟨_, rfl⟩
        rw [hl0] at HL1 HNL ⊢
        have HLE := Lib.hid hl0
        clear hl0
        cases hro : d.roll
        · rw [hro] at c7
          go_wp2_with fail
          go_meet
          rw [hro, HLE.out]
          exact ⟨_, _, by rw [show rollL false = [] from rfl, List.append_nil], by rw [show rollL false = [] from rfl, List.append_nil]; exact HL1.out, HO1.out⟩
        · rw [hro] at c7
          have HS := Lib.hid (show lineB [kRoll] = ⟨#[114, 111, 108, 108]⟩ by apply ba_ext; show lineW [kRoll] = _; rw [lineW_one]; rfl)
          obtain ⟨s, hs⟩ : ∃ s : ByteArray, (⟨#[114, 111, 108, 108]⟩ : ByteArray) = s := ⟨_, rfl⟩
          rw [hs] at HS ⊢
          clear hs
          have HLA := Lib.hid (HL1.out.only ((Only.refl (fun _ => False) _).alloc (.cells #[.string s] 9)))
          have HOA := Lib.hid (HO1.out.alloc (.cells #[.string s] 9))
          have hbs := HOA.out.size
          go_wp2_with (first | (refine wpList_append_lies _ rfl _ _ 42 rfl w2.heap.size 9 i0 _ 1 16 Tryz.underlying42 HI.out HI0.out HI1.out HI2.out rfl (by decide) _ _ _ rfl HLA.out ⟨wc.heap.size, 0, none⟩ 1 1 [.string s] rfl rfl (by exact newsR' wc _ _) (one_str1 _) (by decide) (by have := HNL.out; unfold maxLen; omega) (by have := HNL.out; omega) hbs _ rfl ?_; intro g cap w5 hown1 hgrow hat hlt2))
          have HO5 := Lib.hid (HOA.out.trans' (S := fun _ => False) (T := fun i => (Value.slice a3 l0.length c3s).ownBlock = some i) ((Only.refl _ _).grown hgrow (fun i e _ => e)) (fun i hi e => by have := ownR_ge HLA.out e; omega))
          have HL5 := Lib.hid (show LnsAt w2.heap.size w5 (.slice (some ⟨g, 0, none⟩) (l0.length + 1) cap) (l0 ++ [[kRoll]]) by
            unfold LnsAt
            rw [srowU_app, HS.out, List.length_append]; exact hown1)
          go_meet
          rw [hro, HLE.out]
          exact ⟨_, _, by rw [show rollL true = [[kRoll]] from rfl, List.length_append]; rfl, HL5.out, HO5.out⟩
      case rest =>
        obtain ⟨a3, c3s, rfl, hlR, hoR⟩ := hcut
        have HL1 := Lib.hid hlR
        have HO1 := Lib.hid hoR
        clear hlR hoR
        have HZ3 := Lib.hid (row_still HO1.out HZ2.out)
        have HD3 := Lib.hid (HD2.out.only HO1.out (fun _ _ h => h))
        clear HNL
        have c8 : wc.cell? ⟨w.heap.size, 8, none⟩ = some (Value.slice ap1 d.places.length cp) := cell_of_row _ _ 8 _ _ _ HZ3.out
        have hlt0 : w.heap.size < wc.heap.size := (Array.getElem?_eq_some_iff.1 HZ3.out).1
        go_upto_block 3 with (fail)
        go_cut [3] (fun v wx => ∃ a c, v = .slice a ((headL d ++ d.tiers.map tierL) ++ rollL d.roll ++ d.places.map placeL).length c ∧ LnsAt w2.heap.size wx v ((headL d ++ d.tiers.map tierL) ++ rollL d.roll ++ d.places.map placeL) ∧ Only (fun _ => False) w2 wx)
        case first =>
          obtain ⟨l0, hl0⟩ : ∃ l, (headL d ++ d.tiers.map tierL) ++ rollL d.roll = l := ⟨_, rfl⟩
          rw [hl0] at HL1 ⊢
          have HLE := Lib.hid hl0
          clear hl0 c8
          go_wp2_with fail
          go_loopw [3, 86] (fun v iv wr => ∃ (k : Nat) (ls : List (List ByteArray)) (a : Option Addr) (c : Nat), iv = .int .i64 k ∧ k ≤ d.places.length ∧ v = .slice a ls.length c ∧ ls = l0 ++ (d.places.take k).map placeL ∧ LnsAt w2.heap.size wr v ls ∧ Only (fun _ => False) w2 wr) (fun _ iv _ => d.places.length - (intOf iv).toNat)
          case atStart => exact ⟨0, l0, _, _, rfl, Nat.zero_le _, rfl, by simp, HL1.out, HO1.out⟩
          case round =>
            obtain ⟨k, ls, al, cl, rfl, hk, rfl, hls, hlw, hO4⟩ := hrel
            have HLS := Lib.hid hls
            have HL4 := Lib.hid hlw
            have HO4 := Lib.hid hO4
            have HZ4 := Lib.hid (row_still hO4 HZ2.out)
            have HD4 := Lib.hid (HD2.out.only hO4 (fun _ _ h => h))
            clear hls hlw hO4
            by_cases hlt : k < d.places.length
            · have j1 : (k : Int) < d.places.length := by omega
              have j2 : 0 ≤ (k : Int) := by omega
              have HNL := Lib.hid (show ls.length ≤ 100 by
                have h1 := HR.out.p12
                have h2 : (((headL d ++ d.tiers.map tierL) ++ rollL d.roll) ++ (d.places.take k).map placeL).length ≤ (lnsZ d).length := by
                  unfold lnsZ restL
                  have h3 : (d.places.take k).length ≤ d.places.length := by rw [List.length_take]; omega
                  simp only [List.length_append, List.length_map] at h3 ⊢
                  omega
                have h3 := lines_small HR.out
                rw [HLS.out, ← HLE.out]
                omega)
              have HLN := Lib.hid (show l0 ++ (d.places.take (k + 1)).map placeL = ls ++ [placeL d.places[k]] by
                rw [take_snoc hlt, List.map_append, HLS.out, List.append_assoc]; rfl)
              have h0 := flat_at (fun x : ByteArray × Int => [Value.string x.1, Value.int .i64 x.2]) 2 (fun _ => rfl) d.places k 0 hlt (by decide)
              have h1 := flat_at (fun x : ByteArray × Int => [Value.string x.1, Value.int .i64 x.2]) 2 (fun _ => rfl) d.places k 1 hlt (by decide)
              obtain ⟨g, cap, hv, hg, hc1, hc2, d0⟩ := own_cell HD4.out.places h0
              obtain ⟨g1, cap1, hv1, _, _, _, d1⟩ := own_cell HD4.out.places h1
              rw [hv] at hv1
              simp only [Value.slice.injEq, Option.some.injEq, Addr.mk.injEq, and_true, true_and] at hv hv1
              obtain ⟨rfl, rfl⟩ := hv
              obtain ⟨rfl, rfl⟩ := hv1
              obtain ⟨r0, r1, _⟩ := placeOk_at hlt (HR.out.places k hlt)
              generalize d.places[k] = y at *
              obtain ⟨yn, ya⟩ := y
              change _ = some (Value.string yn) at d0
              change _ = some (Value.int .i64 ya) at d1
              rw [Nat.add_zero] at d0
              change nameB yn = true at r0
              have hns : yn.size ≤ 20 := by have := name_len r0; have e : yn.data.toList.length = yn.size := Array.length_toList; omega
              have i2 : ¬ (9223372036854775807 < 6 + yn.size) := by omega
              have HNS := Lib.hid hns
              clear r0 hns
              have HRS := Lib.hid (show R64 ya from rg_R64 r1)
              clear h0 h1
              have hszr : w.heap.size < wr.heap.size := (Array.getElem?_eq_some_iff.1 HZ4.out).1
              have HOa := Lib.hid ((HO4.out.alloc (.cells #[.string yn, .int .i64 ya] 73)).alloc (.cells #[.int .i64 ya] 3))
              go_wp2_with fail
              have HWO := Lib.hid (show ((⟨#[112, 108, 97, 99, 101, 32]⟩ : ByteArray) ++ yn).size ≤ 1000000 by rw [ByteArray.size_append, show (⟨#[112, 108, 97, 99, 101, 32]⟩ : ByteArray).size = 6 from rfl]; have := HNS.out; omega)
              refine (text_any _ _ _ [ya] _ (by exact pts_one _ _ _) (by simp) (by exact HWO.out) (by exact all1 (rg_R64 r1)) (HG.out.only (HO2.out.trans HOa.out))).mono ?_
              rintro e w3 ⟨rfl, hO3⟩
              rw [text_pl r1]
              have HO3 := Lib.hid (HOa.out.trans hO3)
              obtain ⟨s, hs⟩ : ∃ s, lineB [kPlace, yn, decW ya] = s := ⟨_, rfl⟩
              rw [hs]
              have HS := Lib.hid hs
              have HL3 := Lib.hid ((HL4.out.only ((((Only.refl (fun _ => False) _).alloc (.cells #[.string yn, .int .i64 ya] 73)).alloc (.cells #[.int .i64 ya] 3)).trans hO3)).only ((Only.refl (fun _ => False) _).alloc (.cells #[.string s] 9)))
              clear hs hO3
              have hbs := (HO3.out.alloc (.cells #[.string s] 9)).size
              go_wp2_with (first | (refine wpList_append_lies _ rfl _ _ 42 rfl w2.heap.size 9 i0 _ 1 16 Tryz.underlying42 HI.out HI0.out HI1.out HI2.out rfl (by decide) _ _ _ rfl HL3.out ⟨w3.heap.size, 0, none⟩ 1 1 [.string s] rfl rfl (by exact newsR' w3 _ _) (one_str1 _) (by decide) (by have := HNL.out; unfold maxLen; omega) (by have := HNL.out; omega) hbs _ rfl ?_; intro g cap w5 hown1 hgrow hat hlt2))
              have HO5 := Lib.hid ((HO3.out.alloc (.cells #[.string s] 9)).trans' (S := fun _ => False) (T := fun i => (Value.slice al ls.length cl).ownBlock = some i) ((Only.refl _ _).grown hgrow (fun i e _ => e)) (fun i hi e => by have := ownR_ge HL3.out e; omega))
              have HL5 := Lib.hid (show LnsAt w2.heap.size w5 (.slice (some ⟨g, 0, none⟩) (ls ++ [[kPlace, yn, decW ya]]).length cap) (ls ++ [[kPlace, yn, decW ya]]) by
                unfold LnsAt
                rw [srowU_app, HS.out, List.length_append]; exact hown1)
              go_roundw
              case rel => exact ⟨k + 1, ls ++ [[kPlace, yn, decW ya]], _, _, by go_num, hlt, by rw [List.length_append]; rfl, HLN.out.symm, by have h := HL5.out; rw [List.length_append] at h; exact h, HO5.out⟩
              case measure => simp [intOf]; omega
            · obtain rfl : k = d.places.length := by omega
              have j1 : ¬ (d.places.length : Int) < d.places.length := by omega
              have HLX := Lib.hid (show ls = l0 ++ d.places.map placeL by rw [HLS.out, List.take_length])
              clear hlt hk
              go_wp2_with fail
              go_meet
              have hle : (headL d ++ d.tiers.map tierL) ++ rollL d.roll ++ d.places.map placeL = ls := by rw [HLE.out]; exact HLX.out.symm
              rw [hle]
              exact ⟨_, _, rfl, HL4.out, HO4.out⟩
        case rest =>
          obtain ⟨a3, c3s, rfl, hlR, hoR⟩ := hcut
          have HL1 := Lib.hid hlR
          have HO1 := Lib.hid hoR
          clear hlR hoR
          have HZ3 := Lib.hid (row_still HO1.out HZ2.out)
          have HD3 := Lib.hid (HD2.out.only HO1.out (fun _ _ h => h))
          have c11 : wc.cell? ⟨w.heap.size, 11, none⟩ = some (Value.slice aq1 d.quotas.length cq) := cell_of_row _ _ 11 _ _ _ HZ3.out
          have hlt0 : w.heap.size < wc.heap.size := (Array.getElem?_eq_some_iff.1 HZ3.out).1
          go_upto_block 5 with (fail)
          go_cut [3] (fun v wx => ∃ a c, v = .slice a ((headL d ++ d.tiers.map tierL ++ rollL d.roll) ++ d.places.map placeL ++ d.quotas.map quotaL).length c ∧ LnsAt w2.heap.size wx v ((headL d ++ d.tiers.map tierL ++ rollL d.roll) ++ d.places.map placeL ++ d.quotas.map quotaL) ∧ Only (fun _ => False) w2 wx)
          case first =>
            obtain ⟨l0, hl0⟩ : ∃ l, (headL d ++ d.tiers.map tierL ++ rollL d.roll) ++ d.places.map placeL = l := ⟨_, rfl⟩
            rw [hl0] at HL1 ⊢
            have HLE := Lib.hid hl0
            clear hl0 c11
            go_wp2_with fail
            go_loopw [3, 104] (fun v iv wr => ∃ (k : Nat) (ls : List (List ByteArray)) (a : Option Addr) (c : Nat), iv = .int .i64 k ∧ k ≤ d.quotas.length ∧ v = .slice a ls.length c ∧ ls = l0 ++ (d.quotas.take k).map quotaL ∧ LnsAt w2.heap.size wr v ls ∧ Only (fun _ => False) w2 wr) (fun _ iv _ => d.quotas.length - (intOf iv).toNat)
            case atStart => exact ⟨0, l0, _, _, rfl, Nat.zero_le _, rfl, by simp, HL1.out, HO1.out⟩
            case round =>
              obtain ⟨k, ls, al, cl, rfl, hk, rfl, hls, hlw, hO4⟩ := hrel
              have HLS := Lib.hid hls
              have HL4 := Lib.hid hlw
              have HO4 := Lib.hid hO4
              have HZ4 := Lib.hid (row_still hO4 HZ2.out)
              have HD4 := Lib.hid (HD2.out.only hO4 (fun _ _ h => h))
              clear hls hlw hO4
              by_cases hlt : k < d.quotas.length
              · have j1 : (k : Int) < d.quotas.length := by omega
                have j2 : 0 ≤ (k : Int) := by omega
                have HNL := Lib.hid (show ls.length ≤ 100 by
                  have h1 := HR.out.q12
                  have h2 : (((headL d ++ d.tiers.map tierL ++ rollL d.roll) ++ d.places.map placeL) ++ (d.quotas.take k).map quotaL).length ≤ (lnsZ d).length := by
                    unfold lnsZ restL
                    have h3 : (d.quotas.take k).length ≤ d.quotas.length := by rw [List.length_take]; omega
                    simp only [List.length_append, List.length_map] at h3 ⊢
                    omega
                  have h3 := lines_small HR.out
                  rw [HLS.out, ← HLE.out]
                  omega)
                have HLN := Lib.hid (show l0 ++ (d.quotas.take (k + 1)).map quotaL = ls ++ [quotaL d.quotas[k]] by
                  rw [take_snoc hlt, List.map_append, HLS.out, List.append_assoc]; rfl)
                have h0 := flat_at (fun x : ByteArray × Int × Int => [Value.string x.1, Value.int .i64 x.2.1, Value.int .i64 x.2.2]) 3 (fun _ => rfl) d.quotas k 0 hlt (by decide)
                have h1 := flat_at (fun x : ByteArray × Int × Int => [Value.string x.1, Value.int .i64 x.2.1, Value.int .i64 x.2.2]) 3 (fun _ => rfl) d.quotas k 1 hlt (by decide)
                have h2 := flat_at (fun x : ByteArray × Int × Int => [Value.string x.1, Value.int .i64 x.2.1, Value.int .i64 x.2.2]) 3 (fun _ => rfl) d.quotas k 2 hlt (by decide)
                obtain ⟨g, cap, hv, hg, hc1, hc2, d0⟩ := own_cell HD4.out.quotas h0
                obtain ⟨g1, cap1, hv1, _, _, _, d1⟩ := own_cell HD4.out.quotas h1
                obtain ⟨g2, cap2, hv2, _, _, _, d2⟩ := own_cell HD4.out.quotas h2
                rw [hv] at hv1 hv2
                simp only [Value.slice.injEq, Option.some.injEq, Addr.mk.injEq, and_true, true_and] at hv hv1 hv2
                obtain ⟨rfl, rfl⟩ := hv
                obtain ⟨rfl, rfl⟩ := hv1
                obtain ⟨rfl, rfl⟩ := hv2
                obtain ⟨r0, r1, r2, _⟩ := quotaOk_at hlt (HR.out.quotas k hlt)
                generalize d.quotas[k] = y at *
                obtain ⟨yn, ya, yb⟩ := y
                change _ = some (Value.string yn) at d0
                change _ = some (Value.int .i64 ya) at d1
                change _ = some (Value.int .i64 yb) at d2
                rw [Nat.add_zero] at d0
                change nameB yn = true at r0
                have hns : yn.size ≤ 20 := by have := name_len r0; have e : yn.data.toList.length = yn.size := Array.length_toList; omega
                have i2 : ¬ (9223372036854775807 < 6 + yn.size) := by omega
                have HNS := Lib.hid hns
                clear r0 hns
                have HRS := Lib.hid (show R64 ya ∧ R64 yb from ⟨rg_R64 r1, rg_R64 r2⟩)
                clear h0 h1 h2
                have hszr : w.heap.size < wr.heap.size := (Array.getElem?_eq_some_iff.1 HZ4.out).1
                have HOa := Lib.hid ((HO4.out.alloc (.cells #[.string yn, .int .i64 ya, .int .i64 yb] 75)).alloc (.cells #[.int .i64 ya, .int .i64 yb] 3))
                go_wp2_with fail
                have HWO := Lib.hid (show ((⟨#[113, 117, 111, 116, 97, 32]⟩ : ByteArray) ++ yn).size ≤ 1000000 by rw [ByteArray.size_append, show (⟨#[113, 117, 111, 116, 97, 32]⟩ : ByteArray).size = 6 from rfl]; have := HNS.out; omega)
                refine (text_any _ _ _ [ya, yb] _ (by exact pts_pair _ _ _ _) (by simp) (by exact HWO.out) (by exact all2 (rg_R64 r1) (rg_R64 r2)) (HG.out.only (HO2.out.trans HOa.out))).mono ?_
                rintro e w3 ⟨rfl, hO3⟩
                rw [text_qu r1 r2]
                have HO3 := Lib.hid (HOa.out.trans hO3)
                obtain ⟨s, hs⟩ : ∃ s, lineB [kQuota, yn, decW ya, decW yb] = s := ⟨_, rfl⟩
                rw [hs]
                have HS := Lib.hid hs
                have HL3 := Lib.hid ((HL4.out.only ((((Only.refl (fun _ => False) _).alloc (.cells #[.string yn, .int .i64 ya, .int .i64 yb] 75)).alloc (.cells #[.int .i64 ya, .int .i64 yb] 3)).trans hO3)).only ((Only.refl (fun _ => False) _).alloc (.cells #[.string s] 9)))
                clear hs hO3
                have hbs := (HO3.out.alloc (.cells #[.string s] 9)).size
                go_wp2_with (first | (refine wpList_append_lies _ rfl _ _ 42 rfl w2.heap.size 9 i0 _ 1 16 Tryz.underlying42 HI.out HI0.out HI1.out HI2.out rfl (by decide) _ _ _ rfl HL3.out ⟨w3.heap.size, 0, none⟩ 1 1 [.string s] rfl rfl (by exact newsR' w3 _ _) (one_str1 _) (by decide) (by have := HNL.out; unfold maxLen; omega) (by have := HNL.out; omega) hbs _ rfl ?_; intro g cap w5 hown1 hgrow hat hlt2))
                have HO5 := Lib.hid ((HO3.out.alloc (.cells #[.string s] 9)).trans' (S := fun _ => False) (T := fun i => (Value.slice al ls.length cl).ownBlock = some i) ((Only.refl _ _).grown hgrow (fun i e _ => e)) (fun i hi e => by have := ownR_ge HL3.out e; omega))
                have HL5 := Lib.hid (show LnsAt w2.heap.size w5 (.slice (some ⟨g, 0, none⟩) (ls ++ [[kQuota, yn, decW ya, decW yb]]).length cap) (ls ++ [[kQuota, yn, decW ya, decW yb]]) by
                  unfold LnsAt
                  rw [srowU_app, HS.out, List.length_append]; exact hown1)
                go_roundw
                case rel => exact ⟨k + 1, ls ++ [[kQuota, yn, decW ya, decW yb]], _, _, by go_num, hlt, by rw [List.length_append]; rfl, HLN.out.symm, by have h := HL5.out; rw [List.length_append] at h; exact h, HO5.out⟩
                case measure => simp [intOf]; omega
              · obtain rfl : k = d.quotas.length := by omega
                have j1 : ¬ (d.quotas.length : Int) < d.quotas.length := by omega
                have HLX := Lib.hid (show ls = l0 ++ d.quotas.map quotaL by rw [HLS.out, List.take_length])
                clear hlt hk
                go_wp2_with fail
                go_meet
                have hle : (headL d ++ d.tiers.map tierL ++ rollL d.roll) ++ d.places.map placeL ++ d.quotas.map quotaL = ls := by rw [HLE.out]; exact HLX.out.symm
                rw [hle]
                exact ⟨_, _, rfl, HL4.out, HO4.out⟩
          case rest =>
            obtain ⟨a3, c3s, rfl, hlR, hoR⟩ := hcut
            have HL1 := Lib.hid hlR
            have HO1 := Lib.hid hoR
            clear hlR hoR
            have HZ3 := Lib.hid (row_still HO1.out HZ2.out)
            have HD3 := Lib.hid (HD2.out.only HO1.out (fun _ _ h => h))
            have c12 : wc.cell? ⟨w.heap.size, 12, none⟩ = some (Value.slice ab1 d.barred.length cb) := cell_of_row _ _ 12 _ _ _ HZ3.out
            have hlt0 : w.heap.size < wc.heap.size := (Array.getElem?_eq_some_iff.1 HZ3.out).1
            go_upto_block 7 with (fail)
            go_cut [3] (fun v wx => ∃ a c, v = .slice a (((headL d ++ d.tiers.map tierL ++ rollL d.roll) ++ d.places.map placeL) ++ d.quotas.map quotaL ++ d.barred.map barL).length c ∧ LnsAt w2.heap.size wx v (((headL d ++ d.tiers.map tierL ++ rollL d.roll) ++ d.places.map placeL) ++ d.quotas.map quotaL ++ d.barred.map barL) ∧ Only (fun _ => False) w2 wx)
            case first =>
              obtain ⟨l0, hl0⟩ : ∃ l, ((headL d ++ d.tiers.map tierL ++ rollL d.roll) ++ d.places.map placeL) ++ d.quotas.map quotaL = l := ⟨_, rfl⟩
              rw [hl0] at HL1 ⊢
              have HLE := Lib.hid hl0
              clear hl0 c12
              go_wp2_with fail
              go_loopw [3, 124] (fun v iv wr => ∃ (k : Nat) (ls : List (List ByteArray)) (a : Option Addr) (c : Nat), iv = .int .i64 k ∧ k ≤ d.barred.length ∧ v = .slice a ls.length c ∧ ls = l0 ++ (d.barred.take k).map barL ∧ LnsAt w2.heap.size wr v ls ∧ Only (fun _ => False) w2 wr) (fun _ iv _ => d.barred.length - (intOf iv).toNat)
              case atStart => exact ⟨0, l0, _, _, rfl, Nat.zero_le _, rfl, by simp, HL1.out, HO1.out⟩
              case round =>
                obtain ⟨k, ls, al, cl, rfl, hk, rfl, hls, hlw, hO4⟩ := hrel
                have HLS := Lib.hid hls
                have HL4 := Lib.hid hlw
                have HO4 := Lib.hid hO4
                have HZ4 := Lib.hid (row_still hO4 HZ2.out)
                have HD4 := Lib.hid (HD2.out.only hO4 (fun _ _ h => h))
                clear hls hlw hO4
                by_cases hlt : k < d.barred.length
                · have j1 : (k : Int) < d.barred.length := by omega
                  have j2 : 0 ≤ (k : Int) := by omega
                  have HNL := Lib.hid (show ls.length ≤ 100 by
                    have h1 := HR.out.b40
                    have h2 : ((((headL d ++ d.tiers.map tierL ++ rollL d.roll) ++ d.places.map placeL) ++ d.quotas.map quotaL) ++ (d.barred.take k).map barL).length ≤ (lnsZ d).length := by
                      unfold lnsZ restL
                      have h3 : (d.barred.take k).length ≤ d.barred.length := by rw [List.length_take]; omega
                      simp only [List.length_append, List.length_map] at h3 ⊢
                      omega
                    have h3 := lines_small HR.out
                    rw [HLS.out, ← HLE.out]
                    omega)
                  have HLN := Lib.hid (show l0 ++ (d.barred.take (k + 1)).map barL = ls ++ [barL d.barred[k]] by
                    rw [take_snoc hlt, List.map_append, HLS.out, List.append_assoc]; rfl)
                  have h0 : (irow d.barred)[k]? = some (.int .i64 d.barred[k]) := by unfold irow; simp [hlt]
                  obtain ⟨g, cap, hv, hg, hc1, hc2, d0⟩ := own_cell HD4.out.bars h0
                  simp only [Value.slice.injEq, true_and] at hv
                  obtain ⟨rfl, rfl⟩ := hv
                  have r1 := HR.out.barR _ (List.getElem_mem hlt)
                  generalize d.barred[k] = ya at *
                  have HRS := Lib.hid (show R64 ya from rg_R64 r1)
                  clear h0
                  have hszr : w.heap.size < wr.heap.size := (Array.getElem?_eq_some_iff.1 HZ4.out).1
                  have HOa := Lib.hid ((HO4.out).alloc (.cells #[.int .i64 ya] 3))
                  go_wp2_with fail
                  have HWO := Lib.hid (show kBar.size ≤ 1000000 by decide)
                  refine (text_any kBar _ _ [ya] _ (by exact pts_1 _ _) (by simp) (by exact HWO.out) (by exact all1 (rg_R64 r1)) (HG.out.only (HO2.out.trans HOa.out))).mono ?_
                  rintro e w3 ⟨rfl, hO3⟩
                  rw [text_1 r1]
                  have HO3 := Lib.hid (HOa.out.trans hO3)
                  obtain ⟨s, hs⟩ : ∃ s, lineB [kBar, decW ya] = s := ⟨_, rfl⟩
                  rw [hs]
                  have HS := Lib.hid hs
                  have HL3 := Lib.hid ((HL4.out.only ((((Only.refl (fun _ => False) _)).alloc (.cells #[.int .i64 ya] 3)).trans hO3)).only ((Only.refl (fun _ => False) _).alloc (.cells #[.string s] 9)))
                  clear hs hO3
                  have hbs := (HO3.out.alloc (.cells #[.string s] 9)).size
                  go_wp2_with (first | (refine wpList_append_lies _ rfl _ _ 42 rfl w2.heap.size 9 i0 _ 1 16 Tryz.underlying42 HI.out HI0.out HI1.out HI2.out rfl (by decide) _ _ _ rfl HL3.out ⟨w3.heap.size, 0, none⟩ 1 1 [.string s] rfl rfl (by exact newsR' w3 _ _) (one_str1 _) (by decide) (by have := HNL.out; unfold maxLen; omega) (by have := HNL.out; omega) hbs _ rfl ?_; intro g cap w5 hown1 hgrow hat hlt2))
                  have HO5 := Lib.hid ((HO3.out.alloc (.cells #[.string s] 9)).trans' (S := fun _ => False) (T := fun i => (Value.slice al ls.length cl).ownBlock = some i) ((Only.refl _ _).grown hgrow (fun i e _ => e)) (fun i hi e => by have := ownR_ge HL3.out e; omega))
                  have HL5 := Lib.hid (show LnsAt w2.heap.size w5 (.slice (some ⟨g, 0, none⟩) (ls ++ [[kBar, decW ya]]).length cap) (ls ++ [[kBar, decW ya]]) by
                    unfold LnsAt
                    rw [srowU_app, HS.out, List.length_append]; exact hown1)
                  go_roundw
                  case rel => exact ⟨k + 1, ls ++ [[kBar, decW ya]], _, _, by go_num, hlt, by rw [List.length_append]; rfl, HLN.out.symm, by have h := HL5.out; rw [List.length_append] at h; exact h, HO5.out⟩
                  case measure => simp [intOf]; omega
                · obtain rfl : k = d.barred.length := by omega
                  have j1 : ¬ (d.barred.length : Int) < d.barred.length := by omega
                  have HLX := Lib.hid (show ls = l0 ++ d.barred.map barL by rw [HLS.out, List.take_length])
                  clear hlt hk
                  go_wp2_with fail
                  go_meet
                  have hle : ((headL d ++ d.tiers.map tierL ++ rollL d.roll) ++ d.places.map placeL) ++ d.quotas.map quotaL ++ d.barred.map barL = ls := by rw [HLE.out]; exact HLX.out.symm
                  rw [hle]
                  exact ⟨_, _, rfl, HL4.out, HO4.out⟩
            case rest =>
              obtain ⟨a3, c3s, rfl, hlR, hoR⟩ := hcut
              have HL1 := Lib.hid hlR
              have HO1 := Lib.hid hoR
              clear hlR hoR
              have HZ3 := Lib.hid (row_still HO1.out HZ2.out)
              have HD3 := Lib.hid (HD2.out.only HO1.out (fun _ _ h => h))
              clear HD3 HZ3
              have hfull : ((((headL d ++ d.tiers.map tierL) ++ rollL d.roll) ++ d.places.map placeL) ++ d.quotas.map quotaL) ++ d.barred.map barL = lnsZ d := by unfold lnsZ restL; simp only [List.append_assoc]
              rw [hfull] at HL1 ⊢
              have hlen5 : 4 ≤ (lnsZ d).length := by
                unfold lnsZ headL
                have : (kindL d).length = 1 := by
                  unfold kindL
                  rcases owns_k HR.out.owns with hk | hk | hk
                  · rw [if_pos hk]; rfl
                  · rw [if_neg (by rw [hk]; decide), if_pos hk]; rfl
                  · rw [if_neg (by rw [hk]; decide), if_neg (by rw [hk]; decide), if_pos hk]; rfl
                simp only [List.length_append, List.length_cons, List.length_nil, this]
                omega
              obtain ⟨g, cap, hv, hg, hc1, hcx⟩ := lns_cell HL1.out (j := 0) (by omega)
              clear hcx
              simp only [Value.slice.injEq, true_and] at hv
              obtain ⟨rfl, rfl⟩ := hv
              have hjl := join_lines (ls := lnsZ d) (fun h => by rw [h] at hlen5; simp at hlen5)
              have hwl := right_size HR.out
              have hj2 : (Lib.join (((lnsZ d).map lineB).map (·.data.toList)) [10]).length + 1 = (writeB d).size := by
                have := congrArg List.length hjl
                rw [List.length_append] at this
                rw [show (writeB d).size = (flatL (lnsZ d)).length by unfold writeB writeL; simp [ByteArray.size], ← this]
                rfl
              have hJ := sjoin_many g 0 c3s ((lnsZ d).map lineB) ⟨#[10]⟩ wc (fun j x hx => by
                rw [List.getElem?_map] at hx
                cases hj : (lnsZ d)[j]? with
                | none => rw [hj] at hx; cases hx
                | some y =>
                  rw [hj] at hx
                  have hx := Option.some.inj hx
                  have hlt := (List.getElem?_eq_some_iff.1 hj).1
                  obtain ⟨g', cap', hv', _, _, hcell⟩ := lns_cell HL1.out (j := j) hlt
                  simp only [Value.slice.injEq, Option.some.injEq, Addr.mk.injEq, and_true, true_and] at hv'
                  obtain ⟨rfl, rfl⟩ := hv'
                  rw [Nat.zero_add, hcell, ← hx]
                  have : (lnsZ d)[j] = y := (List.getElem?_eq_some_iff.1 hj).2
                  rw [this]) hg (by rw [List.length_map]; omega) (by rw [List.length_map]; have := lines_small HR.out; omega) (by rw [List.length_map]; exact hc1) (by
                have : (⟨#[10]⟩ : ByteArray).data.toList = [10] := rfl
                rw [this]
                omega)
              rw [List.length_map] at hJ
              have HJ := Lib.hid hJ
              have HE := Lib.hid (show (⟨(Lib.join (((lnsZ d).map lineB).map (·.data.toList)) (⟨#[10]⟩ : ByteArray).data.toList).toArray⟩ : ByteArray) ++ ⟨#[10]⟩ = writeB d by
                apply ba_ext
                rw [app_data]
                show Lib.join _ [10] ++ [10] = writeL d
                exact hjl)
              have hsz : (⟨(Lib.join (((lnsZ d).map lineB).map (·.data.toList)) (⟨#[10]⟩ : ByteArray).data.toList).toArray⟩ : ByteArray).size + 1 = (writeB d).size := by
                rw [← hj2]
                simp [ByteArray.size]
              generalize (⟨(Lib.join (((lnsZ d).map lineB).map (·.data.toList)) (⟨#[10]⟩ : ByteArray).data.toList).toArray⟩ : ByteArray) = s at *
              have i2 : ¬ (9223372036854775807 < s.size + 1) := by omega
              clear hJ hj2 hjl hwl hlen5 hfull hc1 hsz
              go_wp2_with fail
              refine HJ.out.mono ?_
              rintro e w6 ⟨rfl, hb6⟩
              have HO6 := Lib.hid (HO1.out.trans (Only.ofBelow hb6 _))
              go_wp2_with fail
              go_ret
              rw [← HE.out]
              exact ⟨rfl, HO2.out.trans HO6.out⟩
theorem print_any (d : Dr) (vt vp vq vb : Value) (base : Nat) (w : World) (hd : DrOwn base w d vt vp vq vb) (hG : GlobU w) (hbig : d.tiers.length ≤ 1000000 ∧ d.places.length ≤ 1000000 ∧ d.quotas.length ≤ 1000000 ∧ d.barred.length ≤ 1000000) :
    Calls Tryz.prog 11 #[.agg (drCells d vt vp vq vb)] w fun e w' => e = .returned (.string (printZ d)) ∧ Only (fun _ => False) w w' := by
  cases h : rightZ d with
  | false => rw [print_no2 d h]; exact print_false d vt vp vq vb base w hd h hbig
  | true =>
    rw [show printZ d = writeB d by unfold printZ; rw [if_pos h]]
    exact print_true d vt vp vq vb base w hd (right_iff.1 h) hG
end Go.Proofs.YteikkpiginfbkaaGreatDoor

namespace Go.Proofs.YteikkpiginfbkaaGreatDoor
open Go.RowKit

theorem rnumeral_any (s : ByteArray) (bb : Bool) (w : World) (hs : s.size ≤ 5000) (hb : numB s = bb) :
    Calls Tryz.prog 107 #[.string s] w fun e w' => e = .returned (.bool bb) ∧ Only (fun _ => False) w w' := by
  have HP := Lib.hid (rparse1_any s w hs)
  cases bb
  · rw [prs_no hb] at HP
    clear hb
    go_enter Tryz.func107, Tryz.ntmps107
    go_wp2_with fail
    refine HP.out.mono ?_
    rintro e w2 ⟨rfl, hO⟩
    go_wp2_with fail
    go_ret
    exact ⟨rfl, hO⟩
  · rw [prs_yes hb] at HP
    clear hb
    generalize natB (decFold 0 s.data.toList) = x at *
    go_enter Tryz.func107, Tryz.ntmps107
    go_wp2_with fail
    refine HP.out.mono ?_
    rintro e w2 ⟨rfl, hO⟩
    go_wp2_with fail
    go_ret
    exact ⟨rfl, hO⟩
/-- What amount gives for a numeral: its number, if that is at most 1000000000. -/
def AmtR (s : ByteArray) (w : World) (e : Ending) (w' : World) : Prop := (∃ n, e = .returned (.tuple #[.int .i64 n, .bool (decide (amtV s ≤ 1000000000))]) ∧ (amtV s ≤ 1000000000 → n = amtV s)) ∧ Only (fun _ => False) w w'
theorem ramount_any (s : ByteArray) (w : World) (hs : s.size ≤ 5000) (hb : numB s = true) :
    Calls Tryz.prog 108 #[.string s] w fun e w' => AmtR s w e w' := by
  have HP := Lib.hid (rparse1_any s w hs)
  rw [prs_yes hb] at HP
  have hz : (natB (decFold 0 s.data.toList)).size ≤ 1000000 := by
    have := decFold_size (num_digs hb)
    have e : s.data.toList.length = s.size := Array.length_toList
    omega
  have ham := amt_fold hb
  have HA := Lib.hid ham
  by_cases hbig : decFold 0 s.data.toList < 9223372036854775808
  · have HI := Lib.hid (fun w => rint_any (decFold 0 s.data.toList) w hbig)
    by_cases hm : decFold 0 s.data.toList ≤ 1000000000
    · have HR := Lib.hid (show decide (amtV s ≤ 1000000000) = true ∧ amtV s = (decFold 0 s.data.toList : Int) by rw [decide_eq_true_eq]; omega)
      have q1 : ((decFold 0 s.data.toList : Nat) : Int) ≤ 1000000000 := by omega
      clear hb hz ham hbig hm
      generalize decFold 0 s.data.toList = n at *
      generalize natB n = x at *
      go_enter Tryz.func108, Tryz.ntmps108
      go_wp2_with fail
      refine HP.out.mono ?_
      rintro e w2 ⟨rfl, hO⟩
      go_wp2_with fail
      refine (HI.out _).mono ?_
      rintro e w3 ⟨rfl, rfl⟩
      go_wp2_with fail
      go_ret2
      exact ⟨⟨(n : Int), by rw [HR.out.1]; rfl, fun _ => HR.out.2.symm⟩, hO⟩
    · have HR := Lib.hid (show decide (amtV s ≤ 1000000000) = false ∧ ¬ amtV s ≤ 1000000000 by rw [decide_eq_false_iff_not]; omega)
      have q1 : decide (((decFold 0 s.data.toList : Nat) : Int) ≤ 1000000000) = false := by rw [decide_eq_false_iff_not]; omega
      clear hb hz ham hbig hm
      generalize decFold 0 s.data.toList = n at *
      generalize natB n = x at *
      go_enter Tryz.func108, Tryz.ntmps108
      go_wp2_with fail
      refine HP.out.mono ?_
      rintro e w2 ⟨rfl, hO⟩
      go_wp2_with fail
      refine (HI.out _).mono ?_
      rintro e w3 ⟨rfl, rfl⟩
      go_wp2_with fail
      go_ret2
      exact ⟨⟨(n : Int), by rw [HR.out.1]; rfl, fun h => by have := HR.out.2; omega⟩, hO⟩
  · have HI := Lib.hid (fun w => rint_big (decFold 0 s.data.toList) w (by omega) hz)
    have HR := Lib.hid (show decide (amtV s ≤ 1000000000) = false ∧ ¬ amtV s ≤ 1000000000 by rw [decide_eq_false_iff_not]; omega)
    clear hb hz ham hbig
    generalize decFold 0 s.data.toList = n at *
    generalize natB n = x at *
    go_enter Tryz.func108, Tryz.ntmps108
    go_wp2_with fail
    refine HP.out.mono ?_
    rintro e w2 ⟨rfl, hO⟩
    go_wp2_with fail
    refine (HI.out _).mono ?_
    rintro e w3 ⟨rfl, rfl⟩
    go_wp2_with fail
    go_ret2
    exact ⟨⟨0, by rw [HR.out.1]; rfl, fun h => by have := HR.out.2; omega⟩, hO⟩
set_option maxRecDepth 100000 in
set_option maxHeartbeats 4000000 in
theorem risname_any (s : ByteArray) (bb : Bool) (w : World) (hbb : nameB s = bb) :
    Calls Tryz.prog 125 #[.string s] w fun e w' => e = .returned (.bool bb) ∧ w = w' := by
  by_cases h1 : s.size < 1
  · rw [name_no (.inl h1)] at hbb
    subst hbb
    have i1 : (s.size : Int) < 1 := by omega
    go_enter Tryz.func125, Tryz.ntmps125
    go_wp2
    go_ret
    exact ⟨rfl, rfl⟩
  · by_cases h2 : 20 < s.size
    · rw [name_no (.inr h2)] at hbb
      subst hbb
      have i1 : ¬ (s.size : Int) < 1 := by omega
      have i2 : (20 : Int) < s.size := by omega
      go_enter Tryz.func125, Tryz.ntmps125
      go_wp2
      go_ret
      exact ⟨rfl, rfl⟩
    · rw [name_of (by omega) (by omega)] at hbb
      have HB := Lib.hid hbb
      have i1 : ¬ (s.size : Int) < 1 := by omega
      have i2 : ¬ (20 : Int) < s.size := by omega
      clear hbb
      go_enter Tryz.func125, Tryz.ntmps125
      go_wp2
      go_loop [3] (fun i => ∃ k : Nat, i = .int .i64 k ∧ k ≤ s.size ∧ (List.range k).all (nmOk s) = true) (fun i => s.size - (intOf i).toNat)
      case atStart => exact ⟨0, rfl, Nat.zero_le _, rfl⟩
      case round =>
        obtain ⟨k, rfl, hk, hall⟩ := hrel
        have HA := Lib.hid hall
        clear hall
        by_cases hlt : k < s.size
        · have j1 : (k : Int) < s.size := by omega
          have j2 : 0 ≤ (k : Int) := by omega
          have hc := byteZ_eq s k hlt
          obtain ⟨y0, y1⟩ := byteZ_bdR s k
          have HO := Lib.hid (show nmOk s k = nmOkZ (byteZ s k) k from rfl)
          generalize byteZ s k = y at *
          have HF := Lib.hid (fun (h : nmOkZ y k = false) => show bb = false by rw [← HB.out]; exact all_range_no hlt (by rw [HO.out]; exact h))
          have HT := Lib.hid (fun (h : nmOkZ y k = true) => all_range_succ HA.out (by rw [HO.out]; exact h))
          rcases Nat.eq_zero_or_pos k with hk0 | hk0
          · subst hk0
            rcases @byte_cls y with c | c | c | c | c | c | c | c | c
            all_goals first | (have d0 : decide (97 ≤ y) = true := by simp; omega) | (have d0 : decide (97 ≤ y) = false := by simp; omega)
            all_goals first | (have d1 : decide (y ≤ 122) = true := by simp; omega) | (have d1 : decide (y ≤ 122) = false := by simp; omega)
            all_goals first | (have d2 : decide (65 ≤ y) = true := by simp; omega) | (have d2 : decide (65 ≤ y) = false := by simp; omega)
            all_goals first | (have d3 : decide (y ≤ 90) = true := by simp; omega) | (have d3 : decide (y ≤ 90) = false := by simp; omega)
            all_goals first | (have d4 : decide (48 ≤ y) = true := by simp; omega) | (have d4 : decide (48 ≤ y) = false := by simp; omega)
            all_goals first | (have d5 : decide (y ≤ 57) = true := by simp; omega) | (have d5 : decide (y ≤ 57) = false := by simp; omega)
            all_goals first | (have d6 : decide (y < 48) = true := by simp; omega) | (have d6 : decide (y < 48) = false := by simp; omega)
            all_goals first | (have d7 : decide (57 < y) = true := by simp; omega) | (have d7 : decide (57 < y) = false := by simp; omega)
            all_goals first | (have d8 : (y != 45) = true := by simp; omega) | (have d8 : (y != 45) = false := by simp; omega)
            all_goals first
              | (obtain rfl := HF.out (by simp [nmOkZ]; omega)
                 try subst c
                 go_wp2
                 go_ret
                 exact ⟨rfl, rfl⟩)
              | (have HG := Lib.hid (HT.out (by simp [nmOkZ]; omega))
                 go_wp2
                 go_round
                 case rel => exact ⟨_, rfl, hlt, HG.out⟩
                 case measure => simp [intOf]; omega)
          · have j3 : ((k : Int) == 0) = false := by simp; omega
            rcases @byte_cls y with c | c | c | c | c | c | c | c | c
            all_goals first | (have d0 : decide (97 ≤ y) = true := by simp; omega) | (have d0 : decide (97 ≤ y) = false := by simp; omega)
            all_goals first | (have d1 : decide (y ≤ 122) = true := by simp; omega) | (have d1 : decide (y ≤ 122) = false := by simp; omega)
            all_goals first | (have d2 : decide (65 ≤ y) = true := by simp; omega) | (have d2 : decide (65 ≤ y) = false := by simp; omega)
            all_goals first | (have d3 : decide (y ≤ 90) = true := by simp; omega) | (have d3 : decide (y ≤ 90) = false := by simp; omega)
            all_goals first | (have d4 : decide (48 ≤ y) = true := by simp; omega) | (have d4 : decide (48 ≤ y) = false := by simp; omega)
            all_goals first | (have d5 : decide (y ≤ 57) = true := by simp; omega) | (have d5 : decide (y ≤ 57) = false := by simp; omega)
            all_goals first | (have d6 : decide (y < 48) = true := by simp; omega) | (have d6 : decide (y < 48) = false := by simp; omega)
            all_goals first | (have d7 : decide (57 < y) = true := by simp; omega) | (have d7 : decide (57 < y) = false := by simp; omega)
            all_goals first | (have d8 : (y != 45) = true := by simp; omega) | (have d8 : (y != 45) = false := by simp; omega)
            all_goals first
              | (obtain rfl := HF.out (by simp [nmOkZ]; omega)
                 have j4 : (y == 45) = false := by simp; omega
                 go_wp2
                 go_ret
                 exact ⟨rfl, rfl⟩)
              | (have HG := Lib.hid (HT.out (by simp [nmOkZ]; omega))
                 first | (have j4 : (y == 45) = false := by simp; omega) | subst c
                 go_wp2
                 go_round
                 case rel => exact ⟨k + 1, by go_num, hlt, HG.out⟩
                 case measure => simp [intOf]; omega)
        · obtain rfl : k = s.size := by omega
          obtain rfl : true = bb := HA.out.symm.trans HB.out
          have j1 : ¬ (s.size : Int) < s.size := by omega
          go_wp2
          go_ret
          exact ⟨rfl, rfl⟩
end Go.Proofs.YteikkpiginfbkaaGreatDoor

namespace Go.Proofs.YteikkpiginfbkaaGreatDoor
open Go.RowKit

def arrB (l : List UInt8) : ByteArray := ⟨l.toArray⟩
/-- The pieces of a text between bytes c. -/
def wordsC (c : UInt8) (s : ByteArray) : List ByteArray := (cutC c s.data.toList).map arrB
theorem wordsC_sp (s : ByteArray) : wordsC 32 s = wordsB s := (words_eq s).symm
theorem ext_piece (s : ByteArray) (f k : Nat) : s.extract f k = arrB ((s.data.toList.take k).drop f) := by
  apply ba_ext
  show (s.extract f k).data.toList = (s.data.toList.take k).drop f
  have : (s.extract f k).data = s.data.extract f k := by simp
  rw [this, Array.toList_extract, List.extract_eq_take_drop, List.drop_take]
def rowW (L : List (List UInt8)) : List Value := L.map fun l => .string (arrB l)
theorem rowW_app (L : List (List UInt8)) (x : List UInt8) : rowW (L ++ [x]) = rowW L ++ [.string (arrB x)] := by simp [rowW]
/-- How far cutting has come. -/
structure CutAt (c : UInt8) (s : ByteArray) (k f : Nat) (L : List (List UInt8)) : Prop where
  free : ∀ l ∈ L, noC c l
  le : f ≤ k
  flat : s.data.toList.take f = L.flatMap (· ++ [c])
  last : noC c ((s.data.toList.take k).drop f)
  few : L.length ≤ f
theorem CutAt.start (c : UInt8) (s : ByteArray) : CutAt c s 0 0 [] := ⟨(fun l h => (by cases h)), Nat.le_refl _, rfl, (fun b h => (by simp at h)), Nat.le_refl _⟩
theorem drop_take_snoc {s : ByteArray} {k f : Nat} (hf : f ≤ k) (hk : k < s.data.toList.length) : (s.data.toList.take (k + 1)).drop f = (s.data.toList.take k).drop f ++ [s.data.toList[k]] := by
  rw [take_snoc hk, List.drop_append_of_le_length (by rw [List.length_take]; omega)]
theorem CutAt.step {c : UInt8} {s : ByteArray} {k f : Nat} {L : List (List UInt8)} (h : CutAt c s k f L) (hk : k < s.data.toList.length) (hc : s.data.toList[k] ≠ c) : CutAt c s (k + 1) f L := by
  refine ⟨h.free, by have := h.le; omega, h.flat, ?_, h.few⟩
  rw [drop_take_snoc h.le hk]
  intro b hb
  rcases List.mem_append.1 hb with hb | hb
  · exact h.last b hb
  · rw [List.mem_singleton.1 hb]; exact hc
theorem take_parts {l : List UInt8} {k f : Nat} (hf : f ≤ k) : l.take k = l.take f ++ (l.take k).drop f := by
  have e : (l.take k).take f = l.take f := by rw [List.take_take, Nat.min_eq_left hf]
  rw [← e, List.take_append_drop]
theorem CutAt.cut {c : UInt8} {s : ByteArray} {k f : Nat} {L : List (List UInt8)} (h : CutAt c s k f L) (hk : k < s.data.toList.length) (hc : s.data.toList[k] = c) : CutAt c s (k + 1) (k + 1) (L ++ [(s.data.toList.take k).drop f]) := by
  refine ⟨fun l hl => ?_, Nat.le_refl _, ?_, fun b hb => by simp at hb, by rw [List.length_append, List.length_singleton]; have := h.few; have := h.le; omega⟩
  · rcases List.mem_append.1 hl with hl | hl
    · exact h.free l hl
    · rw [List.mem_singleton.1 hl]; exact h.last
  · have h1 := take_parts (l := s.data.toList) h.le
    rw [h.flat] at h1
    generalize (s.data.toList.take k).drop f = p at *
    rw [take_snoc hk, h1, hc]
    simp
theorem CutAt.done {c : UInt8} {s : ByteArray} {f : Nat} {L : List (List UInt8)} (h : CutAt c s s.size f L) : wordsC c s = (L ++ [(s.data.toList.take s.size).drop f]).map arrB := by
  have e : s.data.toList.length = s.size := Array.length_toList
  unfold wordsC
  congr 1
  have h1 := take_parts (l := s.data.toList) h.le
  rw [h.flat] at h1
  have h2 := h.last
  generalize (s.data.toList.take s.size).drop f = p at *
  rw [take_all (by omega)] at h1
  rw [h1]
  exact cutC_flat h.free h2
def WordsR (c : UInt8) (s : ByteArray) (w : World) (e : Ending) (w' : World) : Prop := ∃ v, e = .returned v ∧ w'.ownsRow w.heap.size 9 1 v (wordsC c s).length ((wordsC c s).map Value.string) ∧ Only (fun _ => False) w w'
set_option maxRecDepth 100000 in
set_option maxHeartbeats 4000000 in
theorem rwords_any (s : ByteArray) (c : UInt8) (w : World) (hs : s.size ≤ 100000) :
    Calls Tryz.prog 44 #[.string s, .int .u8 c.toNat] w fun e w' => WordsR c s w e w' := by
  obtain ⟨i0, hi, hz0, hz1, hz2⟩ := info_parts Tryz.infoStr
  have HI := Lib.hid hi
  have HI0 := Lib.hid hz0
  have HI1 := Lib.hid hz1
  have HI2 := Lib.hid hz2
  have hsl : s.data.toList.length = s.size := Array.length_toList
  have HSL := Lib.hid hsl
  clear hi hz0 hz1 hz2 hsl
  go_enter Tryz.func44, Tryz.ntmps44
  go_wp2_with fail
  go_loopw [5, 6, 7] (fun vo vf vi wr => ∃ (k f : Nat) (L : List (List UInt8)), vi = .int .i64 k ∧ vf = .int .i64 f ∧ k ≤ s.size ∧ CutAt c s k f L ∧ wr.ownsRow w.heap.size 9 1 vo L.length (rowW L) ∧ Only (fun _ => False) w wr) (fun _ _ vi _ => s.size - (intOf vi).toNat)
  case atStart => exact ⟨0, 0, [], rfl, rfl, Nat.zero_le _, CutAt.start c s, World.ownsRow_nil _ _ _ _, Only.refl _ _⟩
  case round =>
    obtain ⟨k, f, L, rfl, rfl, hk, hC, hown, hO⟩ := hrel
    obtain ⟨av, cv, rfl⟩ := slice_of_own hown
    have HC := Lib.hid hC
    have HOWN := Lib.hid hown
    have HO := Lib.hid hO
    have hszw := hO.size
    have hfk := hC.le
    have hfew := hC.few
    clear hC hown hO
    by_cases hlt : k < s.size
    · have j1 : (k : Int) < s.size := by omega
      have j0 : 0 ≤ (k : Int) := by omega
      have b0 := byteZ_eq s k hlt
      have hlt2 : k < s.data.toList.length := by rw [HSL.out]; exact hlt
      have hbz := byte_at hlt2
      by_cases hc : s.data.toList[k] = c
      · have q1 : (byteZ s k == (c.toNat : Int)) = true := by rw [hbz, hc]; simp
        have HCC := Lib.hid (HC.out.cut hlt2 hc)
        have HEX := Lib.hid (ext_piece s f k)
        have hzp : (s.extract f k).size ≤ 100000 := by
          rw [ByteArray.size_extract]; omega
        have j3 : (0 : Int) ≤ f := by omega
        have j4 : (f : Int) ≤ k := by omega
        have j5 : (k : Int) ≤ s.size := by omega
        have HLT := Lib.hid hlt
        clear hc hbz
        generalize byteZ s k = y at *
        go_wp2_with (first | (refine wpList_append_lies _ rfl _ _ 42 rfl w.heap.size 9 i0 _ 1 16 Tryz.underlying42 HI.out HI0.out HI1.out HI2.out rfl (by decide) _ _ _ rfl (HOWN.out.alloc _) ⟨wr.heap.size, 0, none⟩ 1 1 [.string (s.extract f k)] rfl rfl (by exact newsR' wr _ _) (one_str1 _) (by decide) (by unfold maxLen; omega) (by omega) (by simp; omega) _ rfl ?_; intro g cap w5 hown1 hgrow hat hlt5))
        have HO5 := Lib.hid ((HO.out.alloc (.cells #[.string (s.extract f k)] 9)).trans' (S := fun _ => False) (T := fun i => (Value.slice av L.length cv).ownBlock = some i) ((Only.refl _ _).grown hgrow (fun i e _ => e)) (fun i hi e => by have := ownR_ge HOWN.out e; omega))
        have HW5 := Lib.hid (show w5.ownsRow w.heap.size 9 1 (.slice (some ⟨g, 0, none⟩) (L.length + 1) cap) (L ++ [(s.data.toList.take k).drop f]).length (rowW (L ++ [(s.data.toList.take k).drop f])) by
          rw [rowW_app, List.length_append, ← HEX.out]; exact hown1)
        go_roundw
        case rel => exact ⟨k + 1, k + 1, L ++ [(s.data.toList.take k).drop f], by go_num, by go_num, HLT.out, HCC.out, HW5.out, HO5.out⟩
        case measure => simp [intOf]; have := HLT.out; omega
      · have q1 : (byteZ s k == (c.toNat : Int)) = false := by
          rw [hbz, beq_eq_false_iff_ne]
          intro e
          exact hc (UInt8.toNat_inj.1 (by omega))
        have HCC := Lib.hid (HC.out.step hlt2 hc)
        have HLT := Lib.hid hlt
        clear hc hbz
        generalize byteZ s k = y at *
        go_wp2_with fail
        go_roundw
        case rel => exact ⟨k + 1, f, L, by go_num, rfl, HLT.out, HCC.out, HOWN.out, HO.out⟩
        case measure => simp [intOf]; have := HLT.out; omega
    · obtain rfl : k = s.size := by omega
      have j1 : ¬ (s.size : Int) < s.size := by omega
      have HDN := Lib.hid HC.out.done
      have HEX := Lib.hid (ext_piece s f s.size)
      have j3 : (0 : Int) ≤ f := by omega
      have j4 : (f : Int) ≤ s.size := by omega
      go_wp2_with (first | (refine wpList_append_lies _ rfl _ _ 42 rfl w.heap.size 9 i0 _ 1 16 Tryz.underlying42 HI.out HI0.out HI1.out HI2.out rfl (by decide) _ _ _ rfl (HOWN.out.alloc _) ⟨wr.heap.size, 0, none⟩ 1 1 [.string (s.extract f s.size)] rfl rfl (by exact newsR' wr _ _) (one_str1 _) (by decide) (by unfold maxLen; omega) (by omega) (by simp; omega) _ rfl ?_; intro g cap w5 hown1 hgrow hat hlt5))
      have HO5 := Lib.hid ((HO.out.alloc (.cells #[.string (s.extract f s.size)] 9)).trans' (S := fun _ => False) (T := fun i => (Value.slice av L.length cv).ownBlock = some i) ((Only.refl _ _).grown hgrow (fun i e _ => e)) (fun i hi e => by have := ownR_ge HOWN.out e; omega))
      go_ret
      refine ⟨_, rfl, ?_, HO5.out⟩
      rw [HDN.out, List.map_map]
      show w5.ownsRow w.heap.size 9 1 _ (List.map arrB (L ++ [(s.data.toList.take s.size).drop f])).length (rowW (L ++ [(s.data.toList.take s.size).drop f]))
      rw [List.length_map, rowW_app, List.length_append, ← HEX.out]
      exact hown1
end Go.Proofs.YteikkpiginfbkaaGreatDoor

namespace Go.Proofs.YteikkpiginfbkaaGreatDoor
open Go.RowKit

/-- What a word is: d a numeral, n a name, x another one. -/
def kindC (w : ByteArray) : UInt8 := if numB w = true then 100 else if nameB w = true then 110 else 120
def tailS (cs : List UInt8) : List UInt8 := cs.flatMap fun c => [32, c]
def shapeL (ws : List ByteArray) : List UInt8 := (wAt ws 0).data.toList ++ tailS ((ws.drop 1).map kindC)
def shapeB (ws : List ByteArray) : ByteArray := arrB (shapeL ws)
theorem tailS_cons (c : UInt8) (r : List UInt8) : tailS (c :: r) = 32 :: c :: tailS r := rfl
theorem tailS_inj : ∀ {a b : List UInt8}, tailS a = tailS b → a = b
  | [], [], _ => rfl
  | [], _ :: _, h => by simp [tailS] at h
  | _ :: _, [], h => by simp [tailS] at h
  | x :: a, y :: b, h => by
    rw [tailS_cons, tailS_cons] at h
    simp only [List.cons.injEq, true_and] at h
    rw [h.1, tailS_inj h.2]
theorem shape_cut {x y : List UInt8} (hx : noSp x) (hy : noSp y) {a b : List UInt8} (h : x ++ tailS a = y ++ tailS b) : x = y ∧ a = b := by
  cases a with
  | nil =>
    cases b with
    | nil => exact ⟨by simpa [tailS] using h, rfl⟩
    | cons c r =>
      exfalso
      rw [tailS_cons] at h
      have : (32 : UInt8) ∈ x := by
        have h2 : x = y ++ 32 :: c :: tailS r := by simpa [tailS] using h
        rw [h2]; simp
      exact hx 32 this rfl
  | cons c r =>
    cases b with
    | nil =>
      exfalso
      rw [tailS_cons] at h
      have : (32 : UInt8) ∈ y := by
        have h2 : y = x ++ 32 :: c :: tailS r := by simpa [tailS] using h.symm
        rw [h2]; simp
      exact hy 32 this rfl
    | cons c' r' =>
      rw [tailS_cons, tailS_cons] at h
      obtain ⟨e1, e2⟩ := word_cut hx hy h
      simp only [List.cons.injEq] at e2
      exact ⟨e1, by rw [e2.1, tailS_inj e2.2]⟩
theorem shape_is {ws : List ByteArray} (h : noSp (wAt ws 0).data.toList) (k : Nat) (hk : k < 11) (cs : List UInt8) (lit : ByteArray) (hl : lit.data.toList = (keyW k).data.toList ++ tailS cs) :
    shapeB ws = lit ↔ keyOf (wAt ws 0) = k ∧ (ws.drop 1).map kindC = cs := by
  constructor
  · intro e
    have h2 : shapeL ws = lit.data.toList := by rw [← e]; rfl
    rw [hl] at h2
    obtain ⟨e1, e2⟩ := shape_cut h (key_clean k hk).1 h2
    exact ⟨by rw [ba_ext e1, key_word k hk], e2⟩
  · rintro ⟨e1, e2⟩
    have e3 := key_is (w := wAt ws 0) (by omega)
    rw [e1] at e3
    apply ba_ext
    rw [hl]
    show shapeL ws = _
    unfold shapeL
    rw [e2, e3]
def codeC (b : Bool) : UInt8 := if b = true then 110 else 100
theorem kind_code (w : ByteArray) (b : Bool) : kindC w = codeC b ↔ (if b = true then nameB w else numB w) = true := by
  unfold kindC codeC
  cases hn : numB w with
  | true =>
    have h2 := num_not_name hn
    cases b <;> simp [h2]
  | false => cases hm : nameB w <;> cases b <;> simp
theorem fit_kinds : ∀ {f : List Bool} {ws : List ByteArray}, fitB f ws = true ↔ ws.map kindC = f.map codeC
  | [], [] => by simp [fitB]
  | [], w :: ws => by simp [fitB]
  | b :: f, [] => by simp [fitB]
  | b :: f, w :: ws => by
    rw [List.map_cons, List.map_cons, List.cons.injEq, kind_code, ← fit_kinds]
    show ((if b = true then nameB w else numB w) && fitB f ws) = true ↔ _
    rw [Bool.and_eq_true]
theorem fit_key {ws : List ByteArray} {k : Nat} (hk : k < 11) (h : keyOf (wAt ws 0) = k) (h0 : ws ≠ []) (f : List Bool) : fitB (true :: f) ws = true ↔ (ws.drop 1).map kindC = f.map codeC := by
  cases ws with
  | nil => exact absurd rfl h0
  | cons w ws =>
    have e : w = keyW k := by
      have e3 := key_is (w := wAt (w :: ws) 0) (by omega)
      rw [h] at e3
      exact e3
    have hn : nameB w = true := by rw [e]; exact key_nameB k hk
    rw [← fit_kinds]
    show ((if true = true then nameB w else numB w) && fitB f ws) = true ↔ _
    rw [if_pos rfl, hn, Bool.true_and]
    exact Iff.rfl
def sDraw : ByteArray := ⟨#[100, 114, 97, 119, 32, 110]⟩
def sLottery : ByteArray := ⟨#[108, 111, 116, 116, 101, 114, 121, 32, 100, 32, 100]⟩
def sBallot : ByteArray := ⟨#[98, 97, 108, 108, 111, 116, 32, 100]⟩
def sPanel : ByteArray := ⟨#[112, 97, 110, 101, 108, 32, 100]⟩
def sRound : ByteArray := ⟨#[114, 111, 117, 110, 100, 32, 100]⟩
def sPrice : ByteArray := ⟨#[112, 114, 105, 99, 101, 32, 100]⟩
def sTier : ByteArray := ⟨#[116, 105, 101, 114, 32, 100, 32, 100]⟩
def sRoll : ByteArray := ⟨#[114, 111, 108, 108]⟩
def sPlace : ByteArray := ⟨#[112, 108, 97, 99, 101, 32, 110, 32, 100]⟩
def sQuota : ByteArray := ⟨#[113, 117, 111, 116, 97, 32, 110, 32, 100, 32, 100]⟩
def sBar : ByteArray := ⟨#[98, 97, 114, 32, 100]⟩
def kindZ (s : ByteArray) : Int := if s = sTier ∨ s = sRoll then 1 else if s = sPlace then 2 else if s = sQuota then 3 else if s = sBar then 0 else -1
def followsP (ln kd : Int) (ro ba : Bool) (s : ByteArray) : Int :=
  if ln = 0 then (if s = sDraw then 0 else 12)
  else if ln = 1 then (if s = sLottery ∨ s = sBallot ∨ s = sPanel then 0 else 12)
  else if ln = 2 then (if s = sRound then 0 else 12)
  else if ln = 3 then (if s = sPrice then 0 else 12)
  else if kindZ s < 0 ∨ (0 < kindZ s ∧ ba = true) then 12
  else if 0 < kindZ s ∧ kindZ s ≠ kd then 14
  else if kindZ s = 0 ∨ ro = false then 0 else 12
/-- The error of a line as to its shape and its place. -/
def followsZ (t : St) (s : ByteArray) : Int := followsP t.lines t.d.kind t.rolled t.barred s
def formK : Nat → List Bool
  | 0 => [true]
  | 1 => [false, false]
  | 2 => [false]
  | 3 => [false]
  | 4 => [false]
  | 5 => [false]
  | 6 => [false, false]
  | 7 => []
  | 8 => [true, false]
  | 9 => [true, false, false]
  | _ => [false]
/-- The shape of a line by its key, where its form is the key's. -/
def shapeK : Nat → ByteArray
  | 0 => sDraw
  | 1 => sLottery
  | 2 => sBallot
  | 3 => sPanel
  | 4 => sRound
  | 5 => sPrice
  | 6 => sTier
  | 7 => sRoll
  | 8 => sPlace
  | 9 => sQuota
  | _ => sBar
theorem shapeK_data : ∀ k, k < 11 → (shapeK k).data.toList = (keyW k).data.toList ++ tailS ((formK k).map codeC) := by decide
/-- The line has the form of its key. -/
def goodL (ws : List ByteArray) (k : Nat) : Prop := keyOf (wAt ws 0) = k ∧ fitB (true :: formK k) ws = true
theorem good_shape {ws : List ByteArray} (h : noSp (wAt ws 0).data.toList) (h0 : ws ≠ []) (k : Nat) (hk : k < 11) : shapeB ws = shapeK k ↔ goodL ws k := by
  rw [shape_is h k hk _ _ (shapeK_data k hk)]
  constructor
  · rintro ⟨e1, e2⟩
    exact ⟨e1, (fit_key hk e1 h0 _).2 e2⟩
  · rintro ⟨e1, e2⟩
    exact ⟨e1, (fit_key hk e1 h0 _).1 e2⟩
theorem kind_6 : kindZ (shapeK 6) = 1 := by decide
theorem kind_7 : kindZ (shapeK 7) = 1 := by decide
theorem kind_8 : kindZ (shapeK 8) = 2 := by decide
theorem kind_9 : kindZ (shapeK 9) = 3 := by decide
theorem kind_10 : kindZ (shapeK 10) = 0 := by decide
theorem kind_none {s : ByteArray} (h : ∀ k, 6 ≤ k → k < 11 → s ≠ shapeK k) : kindZ s = -1 := by
  unfold kindZ
  rw [if_neg (by rintro (e | e); exact h 6 (by decide) (by decide) e; exact h 7 (by decide) (by decide) e), if_neg (show ¬ s = sPlace from h 8 (by decide) (by decide)), if_neg (show ¬ s = sQuota from h 9 (by decide) (by decide)), if_neg (show ¬ s = sBar from h 10 (by decide) (by decide))]
end Go.Proofs.YteikkpiginfbkaaGreatDoor

namespace Go.Proofs.YteikkpiginfbkaaGreatDoor
open Go.RowKit

def shapeTo (ws : List ByteArray) (k : Nat) : ByteArray := arrB ((wAt ws 0).data.toList ++ tailS (((ws.take k).drop 1).map kindC))
theorem shapeTo_one {ws : List ByteArray} (h : 0 < ws.length) : shapeTo ws 1 = wAt ws 0 := by
  unfold shapeTo
  have e : (ws.take 1).drop 1 = [] := List.drop_of_length_le (by rw [List.length_take]; omega)
  rw [e]
  show arrB ((wAt ws 0).data.toList ++ []) = _
  rw [List.append_nil]
  exact arr_list _
theorem shapeTo_end (ws : List ByteArray) : shapeTo ws ws.length = shapeB ws := by unfold shapeTo; rw [List.take_length]; rfl
theorem tailS_app (a : List UInt8) (c : UInt8) : tailS (a ++ [c]) = tailS a ++ [32, c] := by simp [tailS]
theorem shapeTo_succ {ws : List ByteArray} {k : Nat} (h : k < ws.length) (hk : 1 ≤ k) : shapeTo ws (k + 1) = shapeTo ws k ++ ⟨#[32, kindC (wAt ws k)]⟩ := by
  unfold shapeTo
  apply ba_ext
  rw [app_data, take_snoc h, List.drop_append_of_le_length (by rw [List.length_take]; omega), List.map_append, List.map_singleton, tailS_app, wAt_get h]
  simp [arrB]
theorem tailS_len (a : List UInt8) : (tailS a).length = 2 * a.length := by
  induction a with
  | nil => rfl
  | cons x a ih => rw [tailS_cons, List.length_cons, List.length_cons, ih, List.length_cons]; omega
theorem arrB_size (l : List UInt8) : (arrB l).size = l.length := by show l.toArray.size = l.length; simp
theorem shapeTo_size (ws : List ByteArray) (k : Nat) : (shapeTo ws k).size ≤ (wAt ws 0).size + 2 * k := by
  have e : (shapeTo ws k).size = ((wAt ws 0).data.toList ++ tailS (((ws.take k).drop 1).map kindC)).length := arrB_size _
  have e2 : (wAt ws 0).data.toList.length = (wAt ws 0).size := Array.length_toList
  rw [e, List.length_append, tailS_len, e2, List.length_map, List.length_drop, List.length_take]
  omega
theorem str_cell {w : World} {base c : Nat} {a : Option Addr} {ws : List ByteArray} (h : w.ownsRow base 9 1 (.slice a ws.length c) ws.length (ws.map Value.string)) {j : Nat} (hj : j < ws.length) :
    ∃ g, a = some ⟨g, 0, none⟩ ∧ g < w.heap.size ∧ ws.length ≤ c ∧ c ≤ 9223372036854775807 ∧ w.cell? ⟨g, j, none⟩ = some (.string (wAt ws j)) := by
  have hu : (ws.map Value.string)[j]? = some (.string (wAt ws j)) := by rw [List.getElem?_map, List.getElem?_eq_getElem hj, wAt_get hj]; rfl
  obtain ⟨g, cap, hv, hg, h1, h2, hc⟩ := own_cell h hu
  simp only [Value.slice.injEq, true_and] at hv
  obtain ⟨rfl, rfl⟩ := hv
  exact ⟨g, rfl, hg, h1, h2, hc⟩
set_option maxRecDepth 100000 in
set_option maxHeartbeats 4000000 in
theorem rshape_any (base c : Nat) (a : Option Addr) (ws : List ByteArray) (w : World) (hI : w.ownsRow base 9 1 (.slice a ws.length c) ws.length (ws.map Value.string)) (h0 : 0 < ws.length) (hl : ws.length ≤ 5001) (hs : ∀ x ∈ ws, x.size ≤ 5000) :
    Calls Tryz.prog 106 #[.slice a ws.length c] w fun e w' => e = .returned (.string (shapeB ws)) ∧ Only (fun _ => False) w w' := by
  have HI := Lib.hid hI
  have HS := Lib.hid hs
  have HT1 := Lib.hid (shapeTo_one h0)
  have HTE := Lib.hid (shapeTo_end ws)
  obtain ⟨g, rfl, hg, hc1, hc2, d0⟩ := str_cell hI h0
  have hsz0 : (wAt ws 0).size ≤ 5000 := hs _ (wAt_mem h0)
  have HSZ := Lib.hid hsz0
  have j0 : (0 : Int) < ws.length := by omega
  rw [← HT1.out] at d0
  clear hI hs hsz0
  go_enter Tryz.func106, Tryz.ntmps106
  go_wp2_with fail
  go_loopw [3, 4] (fun vs vi wr => ∃ k : Nat, vi = .int .i64 k ∧ 1 ≤ k ∧ k ≤ ws.length ∧ vs = .string (shapeTo ws k) ∧ Only (fun _ => False) w wr) (fun _ vi _ => ws.length - (intOf vi).toNat)
  case atStart => exact ⟨1, rfl, Nat.le_refl _, h0, rfl, Only.refl _ _⟩
  case round =>
    obtain ⟨k, rfl, hk1, hk, rfl, hO⟩ := hrel
    have HO := Lib.hid hO
    have HW := Lib.hid (hO.owns HI.out (fun _ _ h => h))
    clear hO d0
    by_cases hlt : k < ws.length
    · have j1 : (k : Int) < ws.length := by omega
      have j2 : 0 ≤ (k : Int) := by omega
      have HLT := Lib.hid hlt
      obtain ⟨g', e1, hg', _, _, dk⟩ := str_cell HW.out hlt
      simp only [Option.some.injEq, Addr.mk.injEq, and_true] at e1
      subst e1
      have HST := Lib.hid (shapeTo_succ hlt hk1)
      have hxs : (wAt ws k).size ≤ 5000 := HS.out _ (by rw [← wAt_get hlt]; exact List.getElem_mem hlt)
      have hss := shapeTo_size ws k
      have hs0 := HSZ.out
      have i1 : ¬ (9223372036854775807 < (shapeTo ws k).size + 2) := by omega
      have HX := Lib.hid hxs
      have HKC := Lib.hid (show kindC (wAt ws k) = if numB (wAt ws k) = true then 100 else if nameB (wAt ws k) = true then 110 else 120 from rfl)
      clear hss hs0 hxs
      generalize shapeTo ws k = s at *
      generalize wAt ws k = x at *
      obtain ⟨bn, hbn⟩ : ∃ b, numB x = b := ⟨_, rfl⟩
      obtain ⟨bm, hbm⟩ : ∃ b, nameB x = b := ⟨_, rfl⟩
      have HN := Lib.hid (fun w => rnumeral_any x bn w HX.out hbn)
      have HM := Lib.hid (fun w => risname_any x bm w hbm)
      rw [hbn, hbm] at HKC
      clear hbn hbm
      generalize kindC x = kc at *
      have fin : ∀ w2, Only (fun _ => False) wr w2 → w2.cell? ⟨g, k, none⟩ = some (.string x) := fun w2 h => h.cell dk id
      have HFIN := Lib.hid fin
      clear fin
      cases bn
      · cases bm
        · have e := HKC.out
          simp only [Bool.false_eq_true, if_false] at e
          subst e
          go_wp2_with fail
          refine (HN.out _).mono ?_
          rintro e w2 ⟨rfl, hO2⟩
          have d2 := HFIN.out w2 hO2
          have HO2 := Lib.hid (HO.out.trans hO2)
          clear hO2
          go_wp2_with fail
          refine (HM.out _).mono ?_
          rintro e w3 ⟨rfl, rfl⟩
          go_wp2_with fail
          go_roundw
          case rel => exact ⟨k + 1, by go_num, by omega, HLT.out, by rw [HST.out], HO2.out⟩
          case measure => simp [intOf]; have := HLT.out; omega
        · have e := HKC.out
          simp only [Bool.false_eq_true, if_false, if_true] at e
          subst e
          go_wp2_with fail
          refine (HN.out _).mono ?_
          rintro e w2 ⟨rfl, hO2⟩
          have d2 := HFIN.out w2 hO2
          have HO2 := Lib.hid (HO.out.trans hO2)
          clear hO2
          go_wp2_with fail
          refine (HM.out _).mono ?_
          rintro e w3 ⟨rfl, rfl⟩
          go_wp2_with fail
          go_roundw
          case rel => exact ⟨k + 1, by go_num, by omega, HLT.out, by rw [HST.out], HO2.out⟩
          case measure => simp [intOf]; have := HLT.out; omega
      · have e := HKC.out
        simp only [if_true] at e
        subst e
        go_wp2_with fail
        refine (HN.out _).mono ?_
        rintro e w2 ⟨rfl, hO2⟩
        have d2 := HFIN.out w2 hO2
        have HO2 := Lib.hid (HO.out.trans hO2)
        clear hO2
        go_wp2_with fail
        refine (HM.out _).mono ?_
        rintro e w3 ⟨rfl, rfl⟩
        go_wp2_with fail
        go_roundw
        case rel => exact ⟨k + 1, by go_num, by omega, HLT.out, by rw [HST.out], HO2.out⟩
        case measure => simp [intOf]; have := HLT.out; omega
    · obtain rfl : k = ws.length := by omega
      have j1 : ¬ (ws.length : Int) < ws.length := by omega
      rw [HTE.out]
      go_wp2_with fail
      go_ret
      exact ⟨rfl, HO.out⟩
theorem lit_eq (s : ByteArray) (l : List UInt8) (b : Bool) (h : decide (s = arrB l) = b) : (s.toList == l) = b := by
  rw [← h, Bool.eq_iff_iff, beq_iff_eq, decide_eq_true_eq, ByteArray.toList_eq]
  exact ⟨fun e => ba_ext e, fun e => by rw [e]; rfl⟩
set_option maxRecDepth 100000 in
set_option maxHeartbeats 4000000 in
theorem rkind_any (s : ByteArray) (w : World) :
    Calls Tryz.prog 124 #[.string s] w fun e w' => e = .returned (.int .i64 (kindZ s)) ∧ w = w' := by
  by_cases h6 : s = sTier
  · have HK := Lib.hid (show kindZ s = 1 by unfold kindZ; rw [if_pos (.inl h6)])
    have p6 : (s.toList == [116, 105, 101, 114, 32, 100, 32, 100]) = true := lit_eq _ _ _ (decide_eq_true h6)
    clear h6
    go_enter Tryz.func124, Tryz.ntmps124
    go_wp2_with fail
    go_ret
    rw [HK.out]
    exact ⟨rfl, rfl⟩
  have p6 : (s.toList == [116, 105, 101, 114, 32, 100, 32, 100]) = false := lit_eq _ _ _ (decide_eq_false h6)
  by_cases h7 : s = sRoll
  · have HK := Lib.hid (show kindZ s = 1 by unfold kindZ; rw [if_pos (.inr h7)])
    have p7 : (s.toList == [114, 111, 108, 108]) = true := lit_eq _ _ _ (decide_eq_true h7)
    clear h6 h7
    go_enter Tryz.func124, Tryz.ntmps124
    go_wp2_with fail
    go_ret
    rw [HK.out]
    exact ⟨rfl, rfl⟩
  have p7 : (s.toList == [114, 111, 108, 108]) = false := lit_eq _ _ _ (decide_eq_false h7)
  by_cases h8 : s = sPlace
  · have HK := Lib.hid (show kindZ s = 2 by unfold kindZ; rw [if_neg (by rintro (e | e); exact h6 e; exact h7 e), if_pos h8])
    have p8 : (s.toList == [112, 108, 97, 99, 101, 32, 110, 32, 100]) = true := lit_eq _ _ _ (decide_eq_true h8)
    clear h6 h7 h8
    go_enter Tryz.func124, Tryz.ntmps124
    go_wp2_with fail
    go_ret
    rw [HK.out]
    exact ⟨rfl, rfl⟩
  have p8 : (s.toList == [112, 108, 97, 99, 101, 32, 110, 32, 100]) = false := lit_eq _ _ _ (decide_eq_false h8)
  by_cases h9 : s = sQuota
  · have HK := Lib.hid (show kindZ s = 3 by unfold kindZ; rw [if_neg (by rintro (e | e); exact h6 e; exact h7 e), if_neg h8, if_pos h9])
    have p9 : (s.toList == [113, 117, 111, 116, 97, 32, 110, 32, 100, 32, 100]) = true := lit_eq _ _ _ (decide_eq_true h9)
    clear h6 h7 h8 h9
    go_enter Tryz.func124, Tryz.ntmps124
    go_wp2_with fail
    go_ret
    rw [HK.out]
    exact ⟨rfl, rfl⟩
  have p9 : (s.toList == [113, 117, 111, 116, 97, 32, 110, 32, 100, 32, 100]) = false := lit_eq _ _ _ (decide_eq_false h9)
  by_cases h10 : s = sBar
  · have HK := Lib.hid (show kindZ s = 0 by unfold kindZ; rw [if_neg (by rintro (e | e); exact h6 e; exact h7 e), if_neg h8, if_neg h9, if_pos h10])
    have p10 : (s.toList == [98, 97, 114, 32, 100]) = true := lit_eq _ _ _ (decide_eq_true h10)
    clear h6 h7 h8 h9 h10
    go_enter Tryz.func124, Tryz.ntmps124
    go_wp2_with fail
    go_ret
    rw [HK.out]
    exact ⟨rfl, rfl⟩
  have p10 : (s.toList == [98, 97, 114, 32, 100]) = false := lit_eq _ _ _ (decide_eq_false h10)
  have HK := Lib.hid (show kindZ s = -1 by unfold kindZ; rw [if_neg (by rintro (e | e); exact h6 e; exact h7 e), if_neg h8, if_neg h9, if_neg h10])
  clear h6 h7 h8 h9 h10
  go_enter Tryz.func124, Tryz.ntmps124
  go_wp2_with fail
  go_ret
  rw [HK.out]
  exact ⟨rfl, rfl⟩
end Go.Proofs.YteikkpiginfbkaaGreatDoor

namespace Go.Proofs.YteikkpiginfbkaaGreatDoor
open Go.RowKit

def stCells (t : St) (vt vp vq vb : Value) : Array Value :=
  #[.string t.d.name, .int .i64 t.d.kind, .int .i64 t.d.round, .int .i64 t.d.price, .int .i64 t.d.pool, .int .i64 t.d.pick, vt, .bool t.d.roll, vp, .int .i64 t.d.cls, .int .i64 t.d.size, vq, vb, .int .i64 t.lines, .bool t.rolled, .bool t.barred]
/-- The reference's state in a block of its own, and its lists. -/
structure StAt (base : Nat) (W : World) (B : Nat) (t : St) (vt vp vq vb : Value) : Prop where
  blk : W.heap[B]? = some (.cells (stCells t vt vp vq vb) 130 (0, 0))
  tiers : W.ownsRow base 50 2 vt t.d.tiers.length (trow t.d.tiers)
  places : W.ownsRow base 73 2 vp t.d.places.length (prow t.d.places)
  quotas : W.ownsRow base 75 3 vq t.d.quotas.length (qrow t.d.quotas)
  bars : W.ownsRow base 3 1 vb t.d.barred.length (irow t.d.barred)
theorem StAt.still {base B : Nat} {w w' : World} {t : St} {vt vp vq vb : Value} (h : StAt base w B t vt vp vq vb) (hO : Only (fun _ => False) w w') : StAt base w' B t vt vp vq vb :=
  ⟨row_still hO h.blk, hO.owns h.tiers (fun _ _ h => h), hO.owns h.places (fun _ _ h => h), hO.owns h.quotas (fun _ _ h => h), hO.owns h.bars (fun _ _ h => h)⟩
theorem StAt.lt {base B : Nat} {w : World} {t : St} {vt vp vq vb : Value} (h : StAt base w B t vt vp vq vb) : B < w.heap.size := (Array.getElem?_eq_some_iff.1 h.blk).1
theorem StAt.cell {base B : Nat} {w : World} {t : St} {vt vp vq vb : Value} (h : StAt base w B t vt vp vq vb) (j : Nat) {v : Value} (hv : (stCells t vt vp vq vb)[j]? = some v) : w.cell? ⟨B, j, none⟩ = some v := (cell_of_row _ _ j _ _ _ h.blk).trans hv
theorem StAt.frz {base B : Nat} {w : World} {t : St} {vt vp vq vb : Value} (h : StAt base w B t vt vp vq vb) (j : Nat) : w.frozen? ⟨B, j, none⟩ = false := frozen_of_row _ _ _ _ _ h.blk
theorem StAt.set {base B : Nat} {w : World} {t : St} {vt vp vq vb : Value} (h : StAt base w B t vt vp vq vb) {t' : St} (j : Nat) (v : Value)
    (he : (stCells t vt vp vq vb).setIfInBounds j v = stCells t' vt vp vq vb) (e1 : t'.d.tiers = t.d.tiers) (e2 : t'.d.places = t.d.places) (e3 : t'.d.quotas = t.d.quotas) (e4 : t'.d.barred = t.d.barred) :
    StAt base (w.setCell ⟨B, j, none⟩ v) B t' vt vp vq vb := by
  refine ⟨?_, ?_, ?_, ?_, ?_⟩
  · rw [← he]; exact heap_setCell_same w B j _ _ _ h.blk
  · rw [e1]; exact set_own h.tiers (ownR_blk h.tiers h.blk (by decide))
  · rw [e2]; exact set_own h.places (ownR_blk h.places h.blk (by decide))
  · rw [e3]; exact set_own h.quotas (ownR_blk h.quotas h.blk (by decide))
  · rw [e4]; exact set_own h.bars (ownR_blk h.bars h.blk (by decide))
set_option maxRecDepth 100000 in
set_option maxHeartbeats 8000000 in
theorem rfollows_any (base B : Nat) (t : St) (vt vp vq vb : Value) (s : ByteArray) (w : World) (hR : StAt base w B t vt vp vq vb) :
    Calls Tryz.prog 105 #[.pointer (some ⟨B, 0, none⟩), .string s] w fun e w' => e = .returned (.int .i64 (followsZ t s)) ∧ w = w' := by
  have c1 : w.cell? ⟨B, 1, none⟩ = some (.int .i64 t.d.kind) := hR.cell 1 rfl
  have c13 : w.cell? ⟨B, 13, none⟩ = some (.int .i64 t.lines) := hR.cell 13 rfl
  have c14 : w.cell? ⟨B, 14, none⟩ = some (.bool t.rolled) := hR.cell 14 rfl
  have c15 : w.cell? ⟨B, 15, none⟩ = some (.bool t.barred) := hR.cell 15 rfl
  clear hR
  have HK := Lib.hid (fun w => rkind_any s w)
  obtain ⟨ln, hln⟩ : ∃ z, t.lines = z := ⟨_, rfl⟩
  obtain ⟨ro, hro⟩ : ∃ z, t.rolled = z := ⟨_, rfl⟩
  obtain ⟨ba, hba⟩ : ∃ z, t.barred = z := ⟨_, rfl⟩
  obtain ⟨kd, hkd⟩ : ∃ z, t.d.kind = z := ⟨_, rfl⟩
  rw [hln] at c13
  rw [hro] at c14
  rw [hba] at c15
  rw [hkd] at c1
  unfold followsZ
  rw [hln, hro, hba, hkd]
  obtain ⟨F, hF⟩ : ∃ F, followsP ln kd ro ba s = F := ⟨_, rfl⟩
  rw [hF]
  have hF2 := hF.symm
  unfold followsP at hF2
  have HFF := Lib.hid hF2
  clear hln hro hba hkd hF hF2
  by_cases l0 : ln = 0
  · have HH := HFF.out
    rw [if_pos l0] at HH
    have n0 : (ln == 0) = true := by rw [l0]; rfl
    clear HFF
    by_cases hsDraw : s = sDraw
    · rw [if_pos hsDraw] at HH
      subst HH
      have psDraw : (s.toList == [100, 114, 97, 119, 32, 110]) = true := lit_eq _ _ _ (decide_eq_true hsDraw)
      clear l0 hsDraw
      go_enter Tryz.func105, Tryz.ntmps105
      go_wp2_with fail
      go_ret
      exact ⟨rfl, rfl⟩
    · rw [if_neg (fun e => hsDraw e)] at HH
      subst HH
      have psDraw : (s.toList == [100, 114, 97, 119, 32, 110]) = false := lit_eq _ _ _ (decide_eq_false hsDraw)
      clear l0 hsDraw
      go_enter Tryz.func105, Tryz.ntmps105
      go_wp2_with fail
      go_ret
      exact ⟨rfl, rfl⟩
  by_cases l1 : ln = 1
  · have HH := HFF.out
    rw [if_neg l0] at HH
    rw [if_pos l1] at HH
    have n0 : (ln == 0) = false := beq_eq_false_iff_ne.2 l0
    have n1 : (ln == 1) = true := by rw [l1]; rfl
    clear HFF
    by_cases hsLottery : s = sLottery
    · rw [if_pos (.inl hsLottery)] at HH
      subst HH
      have psLottery : (s.toList == [108, 111, 116, 116, 101, 114, 121, 32, 100, 32, 100]) = true := lit_eq _ _ _ (decide_eq_true hsLottery)
      clear l0 l1 hsLottery
      go_enter Tryz.func105, Tryz.ntmps105
      go_wp2_with fail
      go_ret
      exact ⟨rfl, rfl⟩
    · by_cases hsBallot : s = sBallot
      · rw [if_pos (.inr (.inl hsBallot))] at HH
        subst HH
        have psLottery : (s.toList == [108, 111, 116, 116, 101, 114, 121, 32, 100, 32, 100]) = false := lit_eq _ _ _ (decide_eq_false hsLottery)
        have psBallot : (s.toList == [98, 97, 108, 108, 111, 116, 32, 100]) = true := lit_eq _ _ _ (decide_eq_true hsBallot)
        clear l0 l1 hsLottery hsBallot
        go_enter Tryz.func105, Tryz.ntmps105
        go_wp2_with fail
        go_ret
        exact ⟨rfl, rfl⟩
      · by_cases hsPanel : s = sPanel
        · rw [if_pos (.inr (.inr hsPanel))] at HH
          subst HH
          have psLottery : (s.toList == [108, 111, 116, 116, 101, 114, 121, 32, 100, 32, 100]) = false := lit_eq _ _ _ (decide_eq_false hsLottery)
          have psBallot : (s.toList == [98, 97, 108, 108, 111, 116, 32, 100]) = false := lit_eq _ _ _ (decide_eq_false hsBallot)
          have psPanel : (s.toList == [112, 97, 110, 101, 108, 32, 100]) = true := lit_eq _ _ _ (decide_eq_true hsPanel)
          clear l0 l1 hsLottery hsBallot hsPanel
          go_enter Tryz.func105, Tryz.ntmps105
          go_wp2_with fail
          go_ret
          exact ⟨rfl, rfl⟩
        · rw [if_neg (fun e => e.elim hsLottery (fun e => e.elim hsBallot hsPanel))] at HH
          subst HH
          have psLottery : (s.toList == [108, 111, 116, 116, 101, 114, 121, 32, 100, 32, 100]) = false := lit_eq _ _ _ (decide_eq_false hsLottery)
          have psBallot : (s.toList == [98, 97, 108, 108, 111, 116, 32, 100]) = false := lit_eq _ _ _ (decide_eq_false hsBallot)
          have psPanel : (s.toList == [112, 97, 110, 101, 108, 32, 100]) = false := lit_eq _ _ _ (decide_eq_false hsPanel)
          clear l0 l1 hsLottery hsBallot hsPanel
          go_enter Tryz.func105, Tryz.ntmps105
          go_wp2_with fail
          go_ret
          exact ⟨rfl, rfl⟩
  by_cases l2 : ln = 2
  · have HH := HFF.out
    rw [if_neg l0] at HH
    rw [if_neg l1] at HH
    rw [if_pos l2] at HH
    have n0 : (ln == 0) = false := beq_eq_false_iff_ne.2 l0
    have n1 : (ln == 1) = false := beq_eq_false_iff_ne.2 l1
    have n2 : (ln == 2) = true := by rw [l2]; rfl
    clear HFF
    by_cases hsRound : s = sRound
    · rw [if_pos hsRound] at HH
      subst HH
      have psRound : (s.toList == [114, 111, 117, 110, 100, 32, 100]) = true := lit_eq _ _ _ (decide_eq_true hsRound)
      clear l0 l1 l2 hsRound
      go_enter Tryz.func105, Tryz.ntmps105
      go_wp2_with fail
      go_ret
      exact ⟨rfl, rfl⟩
    · rw [if_neg (fun e => hsRound e)] at HH
      subst HH
      have psRound : (s.toList == [114, 111, 117, 110, 100, 32, 100]) = false := lit_eq _ _ _ (decide_eq_false hsRound)
      clear l0 l1 l2 hsRound
      go_enter Tryz.func105, Tryz.ntmps105
      go_wp2_with fail
      go_ret
      exact ⟨rfl, rfl⟩
  by_cases l3 : ln = 3
  · have HH := HFF.out
    rw [if_neg l0] at HH
    rw [if_neg l1] at HH
    rw [if_neg l2] at HH
    rw [if_pos l3] at HH
    have n0 : (ln == 0) = false := beq_eq_false_iff_ne.2 l0
    have n1 : (ln == 1) = false := beq_eq_false_iff_ne.2 l1
    have n2 : (ln == 2) = false := beq_eq_false_iff_ne.2 l2
    have n3 : (ln == 3) = true := by rw [l3]; rfl
    clear HFF
    by_cases hsPrice : s = sPrice
    · rw [if_pos hsPrice] at HH
      subst HH
      have psPrice : (s.toList == [112, 114, 105, 99, 101, 32, 100]) = true := lit_eq _ _ _ (decide_eq_true hsPrice)
      clear l0 l1 l2 l3 hsPrice
      go_enter Tryz.func105, Tryz.ntmps105
      go_wp2_with fail
      go_ret
      exact ⟨rfl, rfl⟩
    · rw [if_neg (fun e => hsPrice e)] at HH
      subst HH
      have psPrice : (s.toList == [112, 114, 105, 99, 101, 32, 100]) = false := lit_eq _ _ _ (decide_eq_false hsPrice)
      clear l0 l1 l2 l3 hsPrice
      go_enter Tryz.func105, Tryz.ntmps105
      go_wp2_with fail
      go_ret
      exact ⟨rfl, rfl⟩
  have HH := HFF.out
  rw [if_neg l0] at HH
  rw [if_neg l1] at HH
  rw [if_neg l2] at HH
  rw [if_neg l3] at HH
  have n0 : (ln == 0) = false := beq_eq_false_iff_ne.2 l0
  have n1 : (ln == 1) = false := beq_eq_false_iff_ne.2 l1
  have n2 : (ln == 2) = false := beq_eq_false_iff_ne.2 l2
  have n3 : (ln == 3) = false := beq_eq_false_iff_ne.2 l3
  have HHH := Lib.hid HH
  clear HFF HH l0 l1 l2 l3
  generalize kindZ s = k at *
  by_cases k0 : k < 0
  · have HH := HHH.out
    rw [if_pos (.inl k0)] at HH
    subst HH
    go_enter Tryz.func105, Tryz.ntmps105
    go_wp2_with fail
    refine (HK.out _).mono ?_
    rintro e w' ⟨rfl, rfl⟩
    go_wp2_with fail
    go_ret
    exact ⟨rfl, rfl⟩
  · by_cases k1 : 0 < k
    · have m0 : (k == 0) = false := beq_eq_false_iff_ne.2 (by omega)
      cases ba
      · by_cases k2 : k = kd
        · have HH := HHH.out
          rw [if_neg (by rintro (e | e); exact k0 e; cases e.2), if_neg (fun e => e.2 k2)] at HH
          have m1 : (k != kd) = false := by rw [k2]; simp
          cases ro
          · rw [if_pos (.inr rfl)] at HH
            subst HH
            clear k2
            go_enter Tryz.func105, Tryz.ntmps105
            go_wp2_with fail
            refine (HK.out _).mono ?_
            rintro e w' ⟨rfl, rfl⟩
            go_wp2_with fail
            go_ret
            exact ⟨rfl, rfl⟩
          · rw [if_neg (by rintro (e | e); omega; cases e)] at HH
            subst HH
            clear k2
            go_enter Tryz.func105, Tryz.ntmps105
            go_wp2_with fail
            refine (HK.out _).mono ?_
            rintro e w' ⟨rfl, rfl⟩
            go_wp2_with fail
            go_ret
            exact ⟨rfl, rfl⟩
        · have HH := HHH.out
          rw [if_neg (by rintro (e | e); exact k0 e; cases e.2), if_pos ⟨k1, k2⟩] at HH
          have m1 : (k != kd) = true := bne_iff_ne.2 k2
          subst HH
          clear k2
          go_enter Tryz.func105, Tryz.ntmps105
          go_wp2_with fail
          refine (HK.out _).mono ?_
          rintro e w' ⟨rfl, rfl⟩
          go_wp2_with fail
          go_ret
          exact ⟨rfl, rfl⟩
      · have HH := HHH.out
        rw [if_pos (.inr ⟨k1, rfl⟩)] at HH
        subst HH
        go_enter Tryz.func105, Tryz.ntmps105
        go_wp2_with fail
        refine (HK.out _).mono ?_
        rintro e w' ⟨rfl, rfl⟩
        go_wp2_with fail
        go_ret
        exact ⟨rfl, rfl⟩
    · obtain rfl : k = 0 := by omega
      have HH := HHH.out
      rw [if_neg (by rintro (e | e); exact k0 e; exact k1 e.1), if_neg (fun e => k1 e.1), if_pos (.inl rfl)] at HH
      subst HH
      clear k0 k1
      go_enter Tryz.func105, Tryz.ntmps105
      go_wp2_with fail
      refine (HK.out _).mono ?_
      rintro e w' ⟨rfl, rfl⟩
      go_wp2_with fail
      go_ret
      exact ⟨rfl, rfl⟩
end Go.Proofs.YteikkpiginfbkaaGreatDoor

namespace Go.Proofs.YteikkpiginfbkaaGreatDoor
open Go.RowKit

/-- What is taken: the error, the state. -/
def tkAdd (tw : Bool) (n most : Nat) (t' : St) : Int × St := (if tw = true then 13 else if n < most then 0 else 2, t')
def takeK (t : St) (name : ByteArray) (l : List Int) : Nat → Int × St
  | 0 => (0, { t with d := { t.d with name := name } })
  | 1 => (0, { t with d := { t.d with kind := 1, pool := ptAt l 0, pick := ptAt l 1 } })
  | 2 => (0, { t with d := { t.d with kind := 2, cls := ptAt l 0 } })
  | 3 => (0, { t with d := { t.d with kind := 3, size := ptAt l 0 } })
  | 4 => (0, { t with d := { t.d with round := ptAt l 0 } })
  | 5 => (0, { t with d := { t.d with price := ptAt l 0 } })
  | 6 => tkAdd (hasTier t.d.tiers (ptAt l 0)) t.d.tiers.length 12 { t with d := { t.d with tiers := t.d.tiers ++ [(ptAt l 0, ptAt l 1)] } }
  | 7 => (0, { t with d := { t.d with roll := true }, rolled := true })
  | 8 => tkAdd (hasPlace t.d.places name) t.d.places.length 12 { t with d := { t.d with places := t.d.places ++ [(name, ptAt l 0)] } }
  | 9 => tkAdd (hasQuota t.d.quotas name) t.d.quotas.length 12 { t with d := { t.d with quotas := t.d.quotas ++ [(name, ptAt l 0, ptAt l 1)] } }
  | _ => tkAdd (hasBar t.d.barred (ptAt l 0)) t.d.barred.length 40 { t with d := { t.d with barred := t.d.barred ++ [ptAt l 0] }, barred := true }
/-- What take leaves. -/
def TakeR (base B : Nat) (vt vp vq vb : Value) (r : Int × St) (w : World) (e : Ending) (w' : World) : Prop :=
  Only (RdS B vt vp vq vb) w w' ∧ e = .returned (.int .i64 r.1) ∧ ∃ vt' vp' vq' vb', StAt base w' B r.2 vt' vp' vq' vb'
theorem tk_yes {base B : Nat} {vt vp vq vb : Value} {r : Int × St} {t' : St} {e1 : Int} {w w' : World} {e : Ending} (hr : r = (e1, t')) (h1 : e = .returned (.int .i64 e1)) (hO : Only (RdS B vt vp vq vb) w w') {vt' vp' vq' vb' : Value} (hR : StAt base w' B t' vt' vp' vq' vb') : TakeR base B vt vp vq vb r w e w' := by
  subst hr; exact ⟨hO, h1, _, _, _, _, hR⟩
/-- The numbers of a line, apart from the state. -/
structure TkArg (base B : Nat) (t : St) (vt vp vq vb sv : Value) (l : List Int) (w : World) : Prop where
  pts : PtsAt w.heap.size w sv l
  far : ∀ a n c, sv = .slice (some a) n c → ¬ RdS B vt vp vq vb a.block
  base : base ≤ w.heap.size
  small : t.d.tiers.length ≤ 1000 ∧ t.d.places.length ≤ 1000 ∧ t.d.quotas.length ≤ 1000 ∧ t.d.barred.length ≤ 1000
theorem pts_cell0 {w : World} {sv : Value} {l : List Int} {k : Nat} (h : PtsAt w.heap.size w sv l) (hk : k < l.length) : ∃ b off c, sv = .slice (some ⟨b, off, none⟩) l.length c ∧ b < w.heap.size ∧ l.length ≤ c ∧ c ≤ 9223372036854775807 ∧ w.cell? ⟨b, off + k, none⟩ = some (.int .i64 (ptAt l k)) := by
  obtain ⟨a, c, rfl⟩ := h.slice
  obtain ⟨b, off, rfl, h1, _, h2, h3, h4⟩ := h.cellAt hk
  exact ⟨b, off, c, rfl, h1, h2, h3, h4⟩
set_option maxRecDepth 100000 in
set_option maxHeartbeats 8000000 in
theorem rtake0_any (base B : Nat) (t : St) (vt vp vq vb sv : Value) (s name : ByteArray) (l : List Int) (w : World) (hR : StAt base w B t vt vp vq vb) (hs : s = keyW 0) :
    Calls Tryz.prog 109 #[.pointer (some ⟨B, 0, none⟩), .string s, .string name, sv] w fun e w' => TakeR base B vt vp vq vb (takeK t name l 0) w e w' := by
  have p0 : (s.toList == [100, 114, 97, 119]) = true := lit_eq _ _ _ (decide_eq_true (by rw [hs]; decide))
  clear hs
  have HR := Lib.hid hR
  have k0 := hR.cell 0 rfl
  have z0 := hR.frz 0
  have hBw := hR.lt
  have HV := Lib.hid (show takeK t name l 0 = (0, { t with d := { t.d with name := name } }) by rfl)
  clear hR
  go_enter Tryz.func109, Tryz.ntmps109
  go_wp2_with fail
  go_ret
  exact tk_yes HV.out rfl (RdS.set (Only.refl _ _) 0 _) (HR.out.set (t' := { t with d := { t.d with name := name } }) 0 _ rfl rfl rfl rfl rfl)
set_option maxRecDepth 100000 in
set_option maxHeartbeats 8000000 in
theorem rtake1_any (base B : Nat) (t : St) (vt vp vq vb sv : Value) (s name : ByteArray) (l : List Int) (w : World) (hR : StAt base w B t vt vp vq vb) (hg : TkArg base B t vt vp vq vb sv l w) (hlen : l.length = 2) (hs : s = keyW 1) :
    Calls Tryz.prog 109 #[.pointer (some ⟨B, 0, none⟩), .string s, .string name, sv] w fun e w' => TakeR base B vt vp vq vb (takeK t name l 1) w e w' := by
  have p0 : (s.toList == [100, 114, 97, 119]) = false := lit_eq _ _ _ (decide_eq_false (by rw [hs]; decide))
  have p1 : (s.toList == [108, 111, 116, 116, 101, 114, 121]) = true := lit_eq _ _ _ (decide_eq_true (by rw [hs]; decide))
  clear hs
  have HR := Lib.hid hR
  obtain ⟨lb, lo, lc, rfl, hlb, hl1, hl2, l0⟩ := pts_cell0 hg.pts (k := 0) (by omega)
  obtain ⟨lb', lo', lc', e', _, _, _, l1⟩ := pts_cell0 hg.pts (k := 1) (by omega)
  simp only [Value.slice.injEq, Option.some.injEq, Addr.mk.injEq, and_true, true_and] at e'
  obtain ⟨⟨rfl, rfl⟩, rfl⟩ := e'
  have hne : lb ≠ B := fun e => hg.far _ _ _ rfl (.inl e)
  rw [hlen] at hl1 ⊢
  rw [Nat.add_zero] at l0
  have k1 := hR.cell 1 rfl
  have z1 := hR.frz 1
  have k4 := hR.cell 4 rfl
  have z4 := hR.frz 4
  have k5 := hR.cell 5 rfl
  have z5 := hR.frz 5
  have hBw := hR.lt
  obtain ⟨x, hx⟩ : ∃ x, ptAt l 0 = x := ⟨_, rfl⟩
  rw [hx] at l0
  obtain ⟨y, hy⟩ : ∃ x, ptAt l 1 = x := ⟨_, rfl⟩
  rw [hy] at l1
  have HV := Lib.hid (show takeK t name l 1 = (0, { t with d := { t.d with kind := 1, pool := x, pick := y } }) by rw [← hx, ← hy]; rfl)
  clear hR hg hx hy hlen
  go_enter Tryz.func109, Tryz.ntmps109
  go_wp2_with fail
  go_ret
  exact tk_yes HV.out rfl (RdS.set (RdS.set (RdS.set (Only.refl _ _) 1 _) 4 _) 5 _) (((HR.out.set (t' := { t with d := { t.d with kind := 1 } }) 1 _ rfl rfl rfl rfl rfl).set (t' := { t with d := { t.d with kind := 1, pool := x } }) 4 _ rfl rfl rfl rfl rfl).set (t' := { t with d := { t.d with kind := 1, pool := x, pick := y } }) 5 _ rfl rfl rfl rfl rfl)
set_option maxRecDepth 100000 in
set_option maxHeartbeats 8000000 in
theorem rtake2_any (base B : Nat) (t : St) (vt vp vq vb sv : Value) (s name : ByteArray) (l : List Int) (w : World) (hR : StAt base w B t vt vp vq vb) (hg : TkArg base B t vt vp vq vb sv l w) (hlen : l.length = 1) (hs : s = keyW 2) :
    Calls Tryz.prog 109 #[.pointer (some ⟨B, 0, none⟩), .string s, .string name, sv] w fun e w' => TakeR base B vt vp vq vb (takeK t name l 2) w e w' := by
  have p0 : (s.toList == [100, 114, 97, 119]) = false := lit_eq _ _ _ (decide_eq_false (by rw [hs]; decide))
  have p1 : (s.toList == [108, 111, 116, 116, 101, 114, 121]) = false := lit_eq _ _ _ (decide_eq_false (by rw [hs]; decide))
  have p2 : (s.toList == [98, 97, 108, 108, 111, 116]) = true := lit_eq _ _ _ (decide_eq_true (by rw [hs]; decide))
  clear hs
  have HR := Lib.hid hR
  obtain ⟨lb, lo, lc, rfl, hlb, hl1, hl2, l0⟩ := pts_cell0 hg.pts (k := 0) (by omega)
  have hne : lb ≠ B := fun e => hg.far _ _ _ rfl (.inl e)
  rw [hlen] at hl1 ⊢
  rw [Nat.add_zero] at l0
  have k1 := hR.cell 1 rfl
  have z1 := hR.frz 1
  have k9 := hR.cell 9 rfl
  have z9 := hR.frz 9
  have hBw := hR.lt
  obtain ⟨x, hx⟩ : ∃ x, ptAt l 0 = x := ⟨_, rfl⟩
  rw [hx] at l0
  have HV := Lib.hid (show takeK t name l 2 = (0, { t with d := { t.d with kind := 2, cls := x } }) by rw [← hx]; rfl)
  clear hR hg hx hlen
  go_enter Tryz.func109, Tryz.ntmps109
  go_wp2_with fail
  go_ret
  exact tk_yes HV.out rfl (RdS.set (RdS.set (Only.refl _ _) 1 _) 9 _) ((HR.out.set (t' := { t with d := { t.d with kind := 2 } }) 1 _ rfl rfl rfl rfl rfl).set (t' := { t with d := { t.d with kind := 2, cls := x } }) 9 _ rfl rfl rfl rfl rfl)
set_option maxRecDepth 100000 in
set_option maxHeartbeats 8000000 in
theorem rtake3_any (base B : Nat) (t : St) (vt vp vq vb sv : Value) (s name : ByteArray) (l : List Int) (w : World) (hR : StAt base w B t vt vp vq vb) (hg : TkArg base B t vt vp vq vb sv l w) (hlen : l.length = 1) (hs : s = keyW 3) :
    Calls Tryz.prog 109 #[.pointer (some ⟨B, 0, none⟩), .string s, .string name, sv] w fun e w' => TakeR base B vt vp vq vb (takeK t name l 3) w e w' := by
  have p0 : (s.toList == [100, 114, 97, 119]) = false := lit_eq _ _ _ (decide_eq_false (by rw [hs]; decide))
  have p1 : (s.toList == [108, 111, 116, 116, 101, 114, 121]) = false := lit_eq _ _ _ (decide_eq_false (by rw [hs]; decide))
  have p2 : (s.toList == [98, 97, 108, 108, 111, 116]) = false := lit_eq _ _ _ (decide_eq_false (by rw [hs]; decide))
  have p3 : (s.toList == [112, 97, 110, 101, 108]) = true := lit_eq _ _ _ (decide_eq_true (by rw [hs]; decide))
  clear hs
  have HR := Lib.hid hR
  obtain ⟨lb, lo, lc, rfl, hlb, hl1, hl2, l0⟩ := pts_cell0 hg.pts (k := 0) (by omega)
  have hne : lb ≠ B := fun e => hg.far _ _ _ rfl (.inl e)
  rw [hlen] at hl1 ⊢
  rw [Nat.add_zero] at l0
  have k1 := hR.cell 1 rfl
  have z1 := hR.frz 1
  have k10 := hR.cell 10 rfl
  have z10 := hR.frz 10
  have hBw := hR.lt
  obtain ⟨x, hx⟩ : ∃ x, ptAt l 0 = x := ⟨_, rfl⟩
  rw [hx] at l0
  have HV := Lib.hid (show takeK t name l 3 = (0, { t with d := { t.d with kind := 3, size := x } }) by rw [← hx]; rfl)
  clear hR hg hx hlen
  go_enter Tryz.func109, Tryz.ntmps109
  go_wp2_with fail
  go_ret
  exact tk_yes HV.out rfl (RdS.set (RdS.set (Only.refl _ _) 1 _) 10 _) ((HR.out.set (t' := { t with d := { t.d with kind := 3 } }) 1 _ rfl rfl rfl rfl rfl).set (t' := { t with d := { t.d with kind := 3, size := x } }) 10 _ rfl rfl rfl rfl rfl)
set_option maxRecDepth 100000 in
set_option maxHeartbeats 8000000 in
theorem rtake4_any (base B : Nat) (t : St) (vt vp vq vb sv : Value) (s name : ByteArray) (l : List Int) (w : World) (hR : StAt base w B t vt vp vq vb) (hg : TkArg base B t vt vp vq vb sv l w) (hlen : l.length = 1) (hs : s = keyW 4) :
    Calls Tryz.prog 109 #[.pointer (some ⟨B, 0, none⟩), .string s, .string name, sv] w fun e w' => TakeR base B vt vp vq vb (takeK t name l 4) w e w' := by
  have p0 : (s.toList == [100, 114, 97, 119]) = false := lit_eq _ _ _ (decide_eq_false (by rw [hs]; decide))
  have p1 : (s.toList == [108, 111, 116, 116, 101, 114, 121]) = false := lit_eq _ _ _ (decide_eq_false (by rw [hs]; decide))
  have p2 : (s.toList == [98, 97, 108, 108, 111, 116]) = false := lit_eq _ _ _ (decide_eq_false (by rw [hs]; decide))
  have p3 : (s.toList == [112, 97, 110, 101, 108]) = false := lit_eq _ _ _ (decide_eq_false (by rw [hs]; decide))
  have p4 : (s.toList == [114, 111, 117, 110, 100]) = true := lit_eq _ _ _ (decide_eq_true (by rw [hs]; decide))
  clear hs
  have HR := Lib.hid hR
  obtain ⟨lb, lo, lc, rfl, hlb, hl1, hl2, l0⟩ := pts_cell0 hg.pts (k := 0) (by omega)
  have hne : lb ≠ B := fun e => hg.far _ _ _ rfl (.inl e)
  rw [hlen] at hl1 ⊢
  rw [Nat.add_zero] at l0
  have k2 := hR.cell 2 rfl
  have z2 := hR.frz 2
  have hBw := hR.lt
  obtain ⟨x, hx⟩ : ∃ x, ptAt l 0 = x := ⟨_, rfl⟩
  rw [hx] at l0
  have HV := Lib.hid (show takeK t name l 4 = (0, { t with d := { t.d with round := x } }) by rw [← hx]; rfl)
  clear hR hg hx hlen
  go_enter Tryz.func109, Tryz.ntmps109
  go_wp2_with fail
  go_ret
  exact tk_yes HV.out rfl (RdS.set (Only.refl _ _) 2 _) (HR.out.set (t' := { t with d := { t.d with round := x } }) 2 _ rfl rfl rfl rfl rfl)
set_option maxRecDepth 100000 in
set_option maxHeartbeats 8000000 in
theorem rtake5_any (base B : Nat) (t : St) (vt vp vq vb sv : Value) (s name : ByteArray) (l : List Int) (w : World) (hR : StAt base w B t vt vp vq vb) (hg : TkArg base B t vt vp vq vb sv l w) (hlen : l.length = 1) (hs : s = keyW 5) :
    Calls Tryz.prog 109 #[.pointer (some ⟨B, 0, none⟩), .string s, .string name, sv] w fun e w' => TakeR base B vt vp vq vb (takeK t name l 5) w e w' := by
  have p0 : (s.toList == [100, 114, 97, 119]) = false := lit_eq _ _ _ (decide_eq_false (by rw [hs]; decide))
  have p1 : (s.toList == [108, 111, 116, 116, 101, 114, 121]) = false := lit_eq _ _ _ (decide_eq_false (by rw [hs]; decide))
  have p2 : (s.toList == [98, 97, 108, 108, 111, 116]) = false := lit_eq _ _ _ (decide_eq_false (by rw [hs]; decide))
  have p3 : (s.toList == [112, 97, 110, 101, 108]) = false := lit_eq _ _ _ (decide_eq_false (by rw [hs]; decide))
  have p4 : (s.toList == [114, 111, 117, 110, 100]) = false := lit_eq _ _ _ (decide_eq_false (by rw [hs]; decide))
  have p5 : (s.toList == [112, 114, 105, 99, 101]) = true := lit_eq _ _ _ (decide_eq_true (by rw [hs]; decide))
  clear hs
  have HR := Lib.hid hR
  obtain ⟨lb, lo, lc, rfl, hlb, hl1, hl2, l0⟩ := pts_cell0 hg.pts (k := 0) (by omega)
  have hne : lb ≠ B := fun e => hg.far _ _ _ rfl (.inl e)
  rw [hlen] at hl1 ⊢
  rw [Nat.add_zero] at l0
  have k3 := hR.cell 3 rfl
  have z3 := hR.frz 3
  have hBw := hR.lt
  obtain ⟨x, hx⟩ : ∃ x, ptAt l 0 = x := ⟨_, rfl⟩
  rw [hx] at l0
  have HV := Lib.hid (show takeK t name l 5 = (0, { t with d := { t.d with price := x } }) by rw [← hx]; rfl)
  clear hR hg hx hlen
  go_enter Tryz.func109, Tryz.ntmps109
  go_wp2_with fail
  go_ret
  exact tk_yes HV.out rfl (RdS.set (Only.refl _ _) 3 _) (HR.out.set (t' := { t with d := { t.d with price := x } }) 3 _ rfl rfl rfl rfl rfl)
set_option maxRecDepth 100000 in
set_option maxHeartbeats 8000000 in
theorem rtake7_any (base B : Nat) (t : St) (vt vp vq vb sv : Value) (s name : ByteArray) (l : List Int) (w : World) (hR : StAt base w B t vt vp vq vb) (hs : s = keyW 7) :
    Calls Tryz.prog 109 #[.pointer (some ⟨B, 0, none⟩), .string s, .string name, sv] w fun e w' => TakeR base B vt vp vq vb (takeK t name l 7) w e w' := by
  have p0 : (s.toList == [100, 114, 97, 119]) = false := lit_eq _ _ _ (decide_eq_false (by rw [hs]; decide))
  have p1 : (s.toList == [108, 111, 116, 116, 101, 114, 121]) = false := lit_eq _ _ _ (decide_eq_false (by rw [hs]; decide))
  have p2 : (s.toList == [98, 97, 108, 108, 111, 116]) = false := lit_eq _ _ _ (decide_eq_false (by rw [hs]; decide))
  have p3 : (s.toList == [112, 97, 110, 101, 108]) = false := lit_eq _ _ _ (decide_eq_false (by rw [hs]; decide))
  have p4 : (s.toList == [114, 111, 117, 110, 100]) = false := lit_eq _ _ _ (decide_eq_false (by rw [hs]; decide))
  have p5 : (s.toList == [112, 114, 105, 99, 101]) = false := lit_eq _ _ _ (decide_eq_false (by rw [hs]; decide))
  have p7 : (s.toList == [114, 111, 108, 108]) = true := lit_eq _ _ _ (decide_eq_true (by rw [hs]; decide))
  clear hs
  have HR := Lib.hid hR
  have k7 := hR.cell 7 rfl
  have z7 := hR.frz 7
  have k14 := hR.cell 14 rfl
  have z14 := hR.frz 14
  have hBw := hR.lt
  have HV := Lib.hid (show takeK t name l 7 = (0, { t with d := { t.d with roll := true }, rolled := true }) by rfl)
  clear hR
  go_enter Tryz.func109, Tryz.ntmps109
  go_wp2_with fail
  go_ret
  exact tk_yes HV.out rfl (RdS.set (RdS.set (Only.refl _ _) 7 _) 14 _) ((HR.out.set (t' := { t with d := { t.d with roll := true } }) 7 _ rfl rfl rfl rfl rfl).set (t' := { t with d := { t.d with roll := true }, rolled := true }) 14 _ rfl rfl rfl rfl rfl)
theorem StAt.tierBack {base B : Nat} {w w1 : World} {t : St} {vt vp vq vb v : Value} {x : Int × Int} (h : StAt base w B t vt vp vq vb) (hg : w.grownBy w1 vt.ownBlock)
    (ho : w1.ownsRow base 50 2 v (t.d.tiers.length + 1) (trow t.d.tiers ++ [.int .i64 x.1, .int .i64 x.2])) :
    StAt base (w1.setCell ⟨B, 6, none⟩ v) B { t with d := { t.d with tiers := t.d.tiers ++ [x] } } v vp vq vb := by
  have hO := (Only.refl (fun k => vt.ownBlock = some k) w).grown hg (fun k e _ => e)
  have hb : w1.heap[B]? = _ := (hO.block B h.lt (ownR_blk h.tiers h.blk (by decide))).trans h.blk
  have hv : w1.ownsRow base 50 2 v (t.d.tiers ++ [x]).length (trow (t.d.tiers ++ [x])) := by rw [trow_app, List.length_append]; exact ho
  exact ⟨heap_setCell_same w1 B 6 _ _ v hb, set_own hv (ownR_blk hv hb (by decide)),
    set_own (hO.owns h.places (fun g hg e => ownR_ne h.places h.tiers (by decide) g hg e)) (by have := ownR_blk h.places h.blk (by decide); exact this),
    set_own (hO.owns h.quotas (fun g hg e => ownR_ne h.quotas h.tiers (by decide) g hg e)) (by have := ownR_blk h.quotas h.blk (by decide); exact this),
    set_own (hO.owns h.bars (fun g hg e => ownR_ne h.bars h.tiers (by decide) g hg e)) (by have := ownR_blk h.bars h.blk (by decide); exact this)⟩
theorem StAt.placeBack {base B : Nat} {w w1 : World} {t : St} {vt vp vq vb v : Value} {x : ByteArray × Int} (h : StAt base w B t vt vp vq vb) (hg : w.grownBy w1 vp.ownBlock)
    (ho : w1.ownsRow base 73 2 v (t.d.places.length + 1) (prow t.d.places ++ [.string x.1, .int .i64 x.2])) :
    StAt base (w1.setCell ⟨B, 8, none⟩ v) B { t with d := { t.d with places := t.d.places ++ [x] } } vt v vq vb := by
  have hO := (Only.refl (fun k => vp.ownBlock = some k) w).grown hg (fun k e _ => e)
  have hb : w1.heap[B]? = _ := (hO.block B h.lt (ownR_blk h.places h.blk (by decide))).trans h.blk
  have hv : w1.ownsRow base 73 2 v (t.d.places ++ [x]).length (prow (t.d.places ++ [x])) := by rw [prow_app, List.length_append]; exact ho
  exact ⟨heap_setCell_same w1 B 8 _ _ v hb,
    set_own (hO.owns h.tiers (fun g hg e => ownR_ne h.tiers h.places (by decide) g hg e)) (by have := ownR_blk h.tiers h.blk (by decide); exact this), set_own hv (ownR_blk hv hb (by decide)),
    set_own (hO.owns h.quotas (fun g hg e => ownR_ne h.quotas h.places (by decide) g hg e)) (by have := ownR_blk h.quotas h.blk (by decide); exact this),
    set_own (hO.owns h.bars (fun g hg e => ownR_ne h.bars h.places (by decide) g hg e)) (by have := ownR_blk h.bars h.blk (by decide); exact this)⟩
theorem StAt.quotaBack {base B : Nat} {w w1 : World} {t : St} {vt vp vq vb v : Value} {x : ByteArray × Int × Int} (h : StAt base w B t vt vp vq vb) (hg : w.grownBy w1 vq.ownBlock)
    (ho : w1.ownsRow base 75 3 v (t.d.quotas.length + 1) (qrow t.d.quotas ++ [.string x.1, .int .i64 x.2.1, .int .i64 x.2.2])) :
    StAt base (w1.setCell ⟨B, 11, none⟩ v) B { t with d := { t.d with quotas := t.d.quotas ++ [x] } } vt vp v vb := by
  have hO := (Only.refl (fun k => vq.ownBlock = some k) w).grown hg (fun k e _ => e)
  have hb : w1.heap[B]? = _ := (hO.block B h.lt (ownR_blk h.quotas h.blk (by decide))).trans h.blk
  have hv : w1.ownsRow base 75 3 v (t.d.quotas ++ [x]).length (qrow (t.d.quotas ++ [x])) := by rw [qrow_app, List.length_append]; exact ho
  exact ⟨heap_setCell_same w1 B 11 _ _ v hb,
    set_own (hO.owns h.tiers (fun g hg e => ownR_ne h.tiers h.quotas (by decide) g hg e)) (by have := ownR_blk h.tiers h.blk (by decide); exact this),
    set_own (hO.owns h.places (fun g hg e => ownR_ne h.places h.quotas (by decide) g hg e)) (by have := ownR_blk h.places h.blk (by decide); exact this), set_own hv (ownR_blk hv hb (by decide)),
    set_own (hO.owns h.bars (fun g hg e => ownR_ne h.bars h.quotas (by decide) g hg e)) (by have := ownR_blk h.bars h.blk (by decide); exact this)⟩
theorem StAt.barBack {base B : Nat} {w w1 : World} {t : St} {vt vp vq vb v : Value} {x : Int} (h : StAt base w B t vt vp vq vb) (hg : w.grownBy w1 vb.ownBlock)
    (ho : w1.ownsRow base 3 1 v (t.d.barred.length + 1) (irow t.d.barred ++ [.int .i64 x])) :
    StAt base (w1.setCell ⟨B, 12, none⟩ v) B { t with d := { t.d with barred := t.d.barred ++ [x] } } vt vp vq v := by
  have hO := (Only.refl (fun k => vb.ownBlock = some k) w).grown hg (fun k e _ => e)
  have hb : w1.heap[B]? = _ := (hO.block B h.lt (ownR_blk h.bars h.blk (by decide))).trans h.blk
  have hv : w1.ownsRow base 3 1 v (t.d.barred ++ [x]).length (irow (t.d.barred ++ [x])) := by rw [irow_app, List.length_append]; exact ho
  exact ⟨heap_setCell_same w1 B 12 _ _ v hb,
    set_own (hO.owns h.tiers (fun g hg e => ownR_ne h.tiers h.bars (by decide) g hg e)) (by have := ownR_blk h.tiers h.blk (by decide); exact this),
    set_own (hO.owns h.places (fun g hg e => ownR_ne h.places h.bars (by decide) g hg e)) (by have := ownR_blk h.places h.blk (by decide); exact this),
    set_own (hO.owns h.quotas (fun g hg e => ownR_ne h.quotas h.bars (by decide) g hg e)) (by have := ownR_blk h.quotas h.blk (by decide); exact this), set_own hv (ownR_blk hv hb (by decide))⟩
set_option maxRecDepth 100000 in
set_option maxHeartbeats 8000000 in
theorem rtake6_any (base B : Nat) (t : St) (vt vp vq vb sv : Value) (s name : ByteArray) (l : List Int) (w : World) (hR : StAt base w B t vt vp vq vb) (hg : TkArg base B t vt vp vq vb sv l w) (hlen : l.length = 2) (hs : s = keyW 6) :
    Calls Tryz.prog 109 #[.pointer (some ⟨B, 0, none⟩), .string s, .string name, sv] w fun e w' => TakeR base B vt vp vq vb (takeK t name l 6) w e w' := by
  have p0 : (s.toList == [100, 114, 97, 119]) = false := lit_eq _ _ _ (decide_eq_false (by rw [hs]; decide))
  have p1 : (s.toList == [108, 111, 116, 116, 101, 114, 121]) = false := lit_eq _ _ _ (decide_eq_false (by rw [hs]; decide))
  have p2 : (s.toList == [98, 97, 108, 108, 111, 116]) = false := lit_eq _ _ _ (decide_eq_false (by rw [hs]; decide))
  have p3 : (s.toList == [112, 97, 110, 101, 108]) = false := lit_eq _ _ _ (decide_eq_false (by rw [hs]; decide))
  have p4 : (s.toList == [114, 111, 117, 110, 100]) = false := lit_eq _ _ _ (decide_eq_false (by rw [hs]; decide))
  have p5 : (s.toList == [112, 114, 105, 99, 101]) = false := lit_eq _ _ _ (decide_eq_false (by rw [hs]; decide))
  have p7 : (s.toList == [114, 111, 108, 108]) = false := lit_eq _ _ _ (decide_eq_false (by rw [hs]; decide))
  have p6 : (s.toList == [116, 105, 101, 114]) = true := lit_eq _ _ _ (decide_eq_true (by rw [hs]; decide))
  clear hs
  have HR := Lib.hid hR
  have HG := Lib.hid hg
  obtain ⟨lb, lo, lc, rfl, hlb, hl1, hl2, l0⟩ := pts_cell0 hg.pts (k := 0) (by omega)
  obtain ⟨lb', lo', lc', e', _, _, _, l1⟩ := pts_cell0 hg.pts (k := 1) (by omega)
  simp only [Value.slice.injEq, Option.some.injEq, Addr.mk.injEq, and_true, true_and] at e'
  obtain ⟨⟨rfl, rfl⟩, rfl⟩ := e'
  have hne : lb ≠ B := fun e => hg.far _ _ _ rfl (.inl e)
  have hvb0 := ownR_blk hR.tiers hR.blk (by decide)
  have HLB := Lib.hid (show vt.ownBlock ≠ some lb from fun e => hg.far _ _ _ rfl (by unfold RdS; exact .inr (.inl e)))
  have hsm := hg.small
  have hbs := hg.base
  rw [hlen] at hl1 ⊢
  rw [Nat.add_zero] at l0
  obtain ⟨x, hx⟩ : ∃ x, ptAt l 0 = x := ⟨_, rfl⟩
  rw [hx] at l0
  obtain ⟨y, hy⟩ : ∃ x, ptAt l 1 = x := ⟨_, rfl⟩
  rw [hy] at l1
  have HV := Lib.hid (show takeK t name l 6 = tkAdd (hasTier t.d.tiers x) t.d.tiers.length 12 { t with d := { t.d with tiers := t.d.tiers ++ [(x, y)] } } from by rw [← hx, ← hy]; rfl)
  obtain ⟨i0, hi, hz0, hz1, hz2⟩ := info_parts Tryz.infoTi
  have HI := Lib.hid hi
  have HI0 := Lib.hid hz0
  have HI1 := Lib.hid hz1
  have HI2 := Lib.hid hz2
  obtain ⟨a6, c6, rfl⟩ := slice_of_own hR.tiers
  have k6 : w.cell? ⟨B, 6, none⟩ = some (.slice a6 t.d.tiers.length c6) := hR.cell 6 rfl
  have hBw := hR.lt
  clear hR hg hx hy hlen hi hz0 hz1 hz2 hvb0
  go_enter Tryz.func109, Tryz.ntmps109
  go_wp2_with fail
  go_loopw [9, 11] (fun vb9 vi wr => ∃ k : Nat, vi = .int .i64 k ∧ k ≤ t.d.tiers.length ∧ vb9 = .bool ((t.d.tiers.take k).any (fun u => u.1 == x)) ∧ Only (fun _ => False) w wr) (fun _ vi _ => t.d.tiers.length - (intOf vi).toNat)
  case atStart => exact ⟨0, rfl, Nat.zero_le _, rfl, Only.refl _ _⟩
  case round =>
    obtain ⟨k, rfl, hk, rfl, hO⟩ := hrel
    have HO := Lib.hid hO
    have HRW := Lib.hid (HR.out.still hO)
    have k6 : wr.cell? ⟨B, 6, none⟩ = some (.slice a6 t.d.tiers.length c6) := HRW.out.cell 6 rfl
    have l0 := hO.cell l0 (fun h => h)
    have l1 := hO.cell l1 (fun h => h)
    have hBr := HRW.out.lt
    have hszw := hO.size
    have hlbr : lb < wr.heap.size := by omega
    clear hO
    by_cases hlt : k < t.d.tiers.length
    · have j1 : (k : Int) < t.d.tiers.length := by omega
      have j2 : 0 ≤ (k : Int) := by omega
      have HLT := Lib.hid hlt
      have HANY := Lib.hid (show (t.d.tiers.take (k + 1)).any (fun u => u.1 == x) = ((t.d.tiers.take k).any (fun u => u.1 == x) || (t.d.tiers[k].1 == x)) by
        rw [take_snoc hlt, List.any_append, List.any_cons, List.any_nil, Bool.or_false] <;> rfl)
      have h0 := flat_at (fun x : Int × Int => [Value.int .i64 x.1, Value.int .i64 x.2]) 2 (fun _ => rfl) t.d.tiers k 0 hlt (by decide)
      have h1 := flat_at (fun x : Int × Int => [Value.int .i64 x.1, Value.int .i64 x.2]) 2 (fun _ => rfl) t.d.tiers k 1 hlt (by decide)
      obtain ⟨g, cap, hv, hg, hc1, hc2, d0⟩ := own_cell HRW.out.tiers h0
      simp only [Value.slice.injEq, true_and] at hv
      obtain ⟨rfl, rfl⟩ := hv
      rw [Nat.add_zero] at d0
      generalize t.d.tiers[k] = yy at *
      obtain ⟨ya, yr⟩ := yy
      change _ = some (Value.int .i64 ya) at d0
      dsimp only at HANY
      clear h0 h1
      generalize (t.d.tiers.take k).any (fun u => u.1 == x) = tw at *
      cases tw
      · obtain ⟨q, hq⟩ : ∃ q, (ya == x) = q := ⟨_, rfl⟩
        rw [hq] at HANY


        go_wp2_with fail
        go_quiet (fail)
        go_wp2_with fail
        go_roundw
        case rel => exact ⟨k + 1, by go_num, HLT.out, by rw [HANY.out]; rfl, HO.out.drewN _⟩
        case measure => simp [intOf]; have := HLT.out; omega
      · go_wp2_with fail
        go_quiet (fail)
        go_wp2_with fail
        go_roundw
        case rel => exact ⟨k + 1, by go_num, HLT.out, by rw [HANY.out]; rfl, HO.out.drewN _⟩
        case measure => simp [intOf]; have := HLT.out; omega
    · obtain rfl : k = t.d.tiers.length := by omega
      have j1 : ¬ (t.d.tiers.length : Int) < t.d.tiers.length := by omega
      have HTW := Lib.hid (show hasTier t.d.tiers x = (t.d.tiers.take t.d.tiers.length).any (fun u => u.1 == x) by rw [List.take_length]; rfl)
      generalize (t.d.tiers.take t.d.tiers.length).any (fun u => u.1 == x) = tw at *
      rw [HTW.out] at HV
      have z6 := HRW.out.frz 6


      have hbase : base ≤ wr.heap.size := by omega
      have HON := Lib.hid HRW.out.tiers
      have hvb := ownR_blk HRW.out.tiers HRW.out.blk (by decide)
      clear hlt hk
      go_wp2_with fail
      refine wp_region_split2 18 (by kernel_rfl) (by kernel_rfl) (wpAny_of_held (S := fun W => W.cell? ⟨B, 6, none⟩ = some (.slice a6 t.d.tiers.length c6) ∧ W.cell? ⟨lb, lo, none⟩ = some (.int .i64 x) ∧ W.cell? ⟨lb, lo + 1, none⟩ = some (.int .i64 y)) _ _ _ _ ?_)
      simp only [List.take_succ_cons, List.take_zero]
      change wpAnyH _ _ _ _ _ _ _ _ wr.drew
      have hHeld : wr.drew.cell? ⟨B, 6, none⟩ = some (.slice a6 t.d.tiers.length c6) ∧ wr.drew.cell? ⟨lb, lo, none⟩ = some (.int .i64 x) ∧ wr.drew.cell? ⟨lb, lo + 1, none⟩ = some (.int .i64 y) := ⟨k6, l0, l1⟩
      refine' wpAnyH_take (i := 0) (v := _) rfl (by kernel_rfl) (by kernel_rfl) (by kernel_rfl) (fun _ _ _ h => h) (Or.inl ⟨by rfl, ?hy0⟩) hHeld ?r0
      case hy0 => (intro w hSw; obtain ⟨s6, s0, s1⟩ := hSw; go_simp; with_reducible rfl)
      try simp only [Act.put, List.getElem_toArray, List.getElem_cons_zero, List.setIfInBounds_toArray, List.set_cons_zero, List.set_cons_succ]
      refine' wpAnyH_take (i := 1) (v := _) rfl (by kernel_rfl) (by kernel_rfl) (by kernel_rfl) (fun _ _ _ h => h) (Or.inl ⟨by rfl, ?hy1⟩) hHeld ?r1
      case hy1 => (intro w hSw; obtain ⟨s6, s0, s1⟩ := hSw; go_simp; with_reducible rfl)
      try simp only [Act.put, List.getElem_toArray, List.getElem_cons_zero, List.getElem_cons_succ, List.setIfInBounds_toArray, List.set_cons_zero, List.set_cons_succ]
      refine' wpAnyH_take (i := 2) (v := _) rfl (by kernel_rfl) (by kernel_rfl) (by kernel_rfl) (fun _ _ _ h => h) (Or.inl ⟨by rfl, ?hy2⟩) hHeld ?r2
      case hy2 => (intro w hSw; obtain ⟨s6, s0, s1⟩ := hSw; go_simp; with_reducible rfl)
      try simp only [Act.put, List.getElem_toArray, List.getElem_cons_zero, List.getElem_cons_succ, List.setIfInBounds_toArray, List.set_cons_zero, List.set_cons_succ]
      refine' wpAnyH_take (i := 3) (v := _) rfl (by kernel_rfl) (by kernel_rfl) (by kernel_rfl) (fun _ _ _ h => h) (Or.inl ⟨by rfl, ?hy3⟩) hHeld ?r3
      case hy3 => (intro w hSw; obtain ⟨s6, s0, s1⟩ := hSw; go_simp; with_reducible rfl)
      try simp only [Act.put, List.getElem_toArray, List.getElem_cons_zero, List.getElem_cons_succ, List.setIfInBounds_toArray, List.set_cons_zero, List.set_cons_succ]
      refine' wpAnyH_take (i := 4) (v := _) rfl (by kernel_rfl) (by kernel_rfl) (by kernel_rfl) (fun _ _ _ h => h) (Or.inl ⟨by rfl, ?hy4⟩) hHeld ?r4
      case hy4 => (intro w hSw; obtain ⟨s6, s0, s1⟩ := hSw; go_simp; with_reducible rfl)
      try simp only [Act.put, List.getElem_toArray, List.getElem_cons_zero, List.getElem_cons_succ, List.setIfInBounds_toArray, List.set_cons_zero, List.set_cons_succ]
      refine' wpAnyH_take (i := 5) (v := _) rfl (by kernel_rfl) (by kernel_rfl) (by kernel_rfl) (fun _ _ _ h => h) (Or.inl ⟨by rfl, ?hy5⟩) hHeld ?r5
      case hy5 => (intro w hSw; obtain ⟨s6, s0, s1⟩ := hSw; go_simp; with_reducible rfl)
      try simp only [Act.put, List.getElem_toArray, List.getElem_cons_zero, List.getElem_cons_succ, List.setIfInBounds_toArray, List.set_cons_zero, List.set_cons_succ]
      refine' wpAnyH_take (i := 6) (v := _) rfl (by kernel_rfl) (by kernel_rfl) (by kernel_rfl) (fun _ _ _ h => h) (Or.inl ⟨by rfl, ?hy6⟩) hHeld ?r6
      case hy6 => (intro w hSw; obtain ⟨s6, s0, s1⟩ := hSw; go_simp; with_reducible rfl)
      try simp only [Act.put, List.getElem_toArray, List.getElem_cons_zero, List.getElem_cons_succ, List.setIfInBounds_toArray, List.set_cons_zero, List.set_cons_succ]
      refine' wpAnyH_take (i := 7) (v := _) rfl (by kernel_rfl) (by kernel_rfl) (by kernel_rfl) (fun _ _ _ h => h) (Or.inl ⟨by rfl, ?hy7⟩) hHeld ?r7
      case hy7 => (intro w hSw; obtain ⟨s6, s0, s1⟩ := hSw; go_simp; with_reducible rfl)
      try simp only [Act.put, List.getElem_toArray, List.getElem_cons_zero, List.getElem_cons_succ, List.setIfInBounds_toArray, List.set_cons_zero, List.set_cons_succ]
      refine' wpAnyH_take (i := 8) (v := _) rfl (by kernel_rfl) (by kernel_rfl) (by kernel_rfl) (fun _ _ _ h => h) (Or.inl ⟨by rfl, ?hy8⟩) hHeld ?r8
      case hy8 => (intro w hSw; obtain ⟨s6, s0, s1⟩ := hSw; go_simp; with_reducible rfl)
      try simp only [Act.put, List.getElem_toArray, List.getElem_cons_zero, List.getElem_cons_succ, List.setIfInBounds_toArray, List.set_cons_zero, List.set_cons_succ]
      refine' wpAnyH_take (i := 9) (v := _) rfl (by kernel_rfl) (by kernel_rfl) (by kernel_rfl) (fun _ _ _ h => h) (Or.inl ⟨by rfl, ?hy9⟩) hHeld ?r9
      case hy9 => (intro w hSw; obtain ⟨s6, s0, s1⟩ := hSw; go_simp; with_reducible rfl)
      try simp only [Act.put, List.getElem_toArray, List.getElem_cons_zero, List.getElem_cons_succ, List.setIfInBounds_toArray, List.set_cons_zero, List.set_cons_succ]
      refine' wpAnyH_take (i := 10) (v := _) rfl (by kernel_rfl) (by kernel_rfl) (by kernel_rfl) (fun _ _ _ h => h) (Or.inl ⟨by rfl, ?hy10⟩) hHeld ?r10
      case hy10 => (intro w hSw; obtain ⟨s6, s0, s1⟩ := hSw; go_simp; with_reducible rfl)
      try simp only [Act.put, List.getElem_toArray, List.getElem_cons_zero, List.getElem_cons_succ, List.setIfInBounds_toArray, List.set_cons_zero, List.set_cons_succ]
      refine' wpAnyH_take (i := 11) (v := _) rfl (by kernel_rfl) (by kernel_rfl) (by kernel_rfl) (fun _ _ _ h => h) (Or.inl ⟨by rfl, ?hy11⟩) hHeld ?r11
      case hy11 => (intro w hSw; obtain ⟨s6, s0, s1⟩ := hSw; go_simp; with_reducible rfl)
      try simp only [Act.put, List.getElem_toArray, List.getElem_cons_zero, List.getElem_cons_succ, List.setIfInBounds_toArray, List.set_cons_zero, List.set_cons_succ]
      refine' wpAnyH_take (i := 12) (v := _) rfl (by kernel_rfl) (by kernel_rfl) (by kernel_rfl) (fun _ _ _ h => h) (Or.inl ⟨by rfl, ?hy12⟩) hHeld ?r12
      case hy12 => (intro w hSw; obtain ⟨s6, s0, s1⟩ := hSw; go_simp; with_reducible rfl)
      try simp only [Act.put, List.getElem_toArray, List.getElem_cons_zero, List.getElem_cons_succ, List.setIfInBounds_toArray, List.set_cons_zero, List.set_cons_succ]
      refine wpAnyH_ready (rs := [13]) (by kernel_rfl) (by simp) ?_
      refine AllReadyH.cons rfl (fun K hK => ?_) AllReadyH.nil
      go_simp
      have HST := Lib.hid ((Only.refl (fun _ => False) wr.drew).alloc (.cells #[.int .i64 x, .int .i64 y] 50))
      refine hK.out _ _ ⟨HST.out.cell hHeld.1 (fun h => h), HST.out.cell hHeld.2.1 (fun h => h), HST.out.cell hHeld.2.2 (fun h => h)⟩ (fun hHeld => ?_)
      clear hK K
      try simp only [Act.put, List.getElem_toArray, List.getElem_cons_zero, List.getElem_cons_succ, List.setIfInBounds_toArray, List.set_cons_zero, List.set_cons_succ]
      refine wpAnyH_ready (rs := [14]) (by kernel_rfl) (by simp) ?_
      refine AllReadyH.cons rfl (fun K hK => ?_) AllReadyH.nil
      refine step_append_lies _ rfl _ _ 29 rfl base 50 i0 _ 2 16 Tryz.underlying29 HI.out HI0.out HI1.out HI2.out rfl (by decide) _ _ _ (by rfl) ((owns_drew HON.out).alloc _) ⟨wr.heap.size, 0, none⟩ 1 1 [.int .i64 x, .int .i64 y] (by rfl) rfl (by exact newsR' wr.drew _ _) (two_oneR _ _ rfl rfl) (by decide) (by unfold maxLen; omega) (by omega) (by simp; omega) _ rfl ?_
      intro g cap w1 hown1 hgrow hat hlt
      have hOG := (Only.refl (fun i => (Value.slice a6 t.d.tiers.length c6).ownBlock = some i) _).grown hgrow (fun i e _ => e)
      have c1 := hOG.cell hHeld.1 hvb
      have HRA := Lib.hid (HRW.out.still (((Only.refl _ wr).drew).alloc (.cells #[.int .i64 x, .int .i64 y] 50)))
      have f1 : w1.frozen? ⟨B, 6, none⟩ = false := frozen_of_row _ _ _ _ _ ((hOG.block B HRA.out.lt hvb).trans HRA.out.blk)
      refine hK.out _ _ ⟨c1, hOG.cell hHeld.2.1 HLB.out, hOG.cell hHeld.2.2 HLB.out⟩ (fun hHeld => ?_)
      clear hK K
      try simp only [Act.put, List.getElem_toArray, List.getElem_cons_zero, List.getElem_cons_succ, List.setIfInBounds_toArray, List.set_cons_zero, List.set_cons_succ]
      refine' wpAnyH_take (i := 15) (v := _) rfl (by kernel_rfl) (by kernel_rfl) (by kernel_rfl) (fun _ _ _ h => h) (Or.inl ⟨by rfl, ?hy15⟩) hHeld ?r15
      case hy15 => (intro w hSw; obtain ⟨s6, s0, s1⟩ := hSw; go_simp; with_reducible rfl)
      try simp only [Act.put, List.getElem_toArray, List.getElem_cons_zero, List.getElem_cons_succ, List.setIfInBounds_toArray, List.set_cons_zero, List.set_cons_succ]
      refine' wpAnyH_take (i := 16) (v := _) rfl (by kernel_rfl) (by kernel_rfl) (by kernel_rfl) (fun _ _ _ h => h) (Or.inl ⟨by rfl, ?hy16⟩) hHeld ?r16
      case hy16 => (intro w hSw; obtain ⟨s6, s0, s1⟩ := hSw; go_simp; with_reducible rfl)
      try simp only [Act.put, List.getElem_toArray, List.getElem_cons_zero, List.getElem_cons_succ, List.setIfInBounds_toArray, List.set_cons_zero, List.set_cons_succ]
      refine' wpAnyH_take (i := 17) (v := _) rfl (by kernel_rfl) (by kernel_rfl) (by kernel_rfl) (fun _ _ _ h => h) (Or.inl ⟨by rfl, ?hy17⟩) hHeld ?r17
      case hy17 => (intro w hSw; obtain ⟨s6, s0, s1⟩ := hSw; go_simp; with_reducible rfl)
      try simp only [Act.put, List.getElem_toArray, List.getElem_cons_zero, List.getElem_cons_succ, List.setIfInBounds_toArray, List.set_cons_zero, List.set_cons_succ]
      refine wpAnyH_done (by kernel_rfl) ?_ _
      simp only [headPost, List.drop_succ_cons, List.drop_zero]
      have HBK := Lib.hid (HRA.out.tierBack (x := (x, y)) hgrow hown1)
      have HOF := Lib.hid (RdS.set (B := B) (vt := .slice a6 t.d.tiers.length c6) (vp := vp) (vq := vq) (vb := vb) (((((HO.out.drew).alloc (.cells #[.int .i64 x, .int .i64 y] 50)).mono (fun _ _ h => h.elim)).grown hgrow (fun k e _ => .inr (.inl e))) ) 6 (.slice (some ⟨g, 0, none⟩) (t.d.tiers.length + 1) cap))
      clear hHeld hOG k6 z6
      cases tw
      · by_cases hm : t.d.tiers.length < 12
        · have i1 : ¬ (12 : Int) < (t.d.tiers.length : Int) + 1 := by omega
          have HVV := Lib.hid (show takeK t name l 6 = (0, _) by rw [HV.out]; unfold tkAdd; rw [if_neg (by decide), if_pos hm])
          clear hm
          go_wp2_with fail
          go_ret
          exact tk_yes HVV.out rfl HOF.out HBK.out
        · have i1 : (12 : Int) < (t.d.tiers.length : Int) + 1 := by omega
          have HVV := Lib.hid (show takeK t name l 6 = (2, _) by rw [HV.out]; unfold tkAdd; rw [if_neg (by decide), if_neg hm])
          clear hm
          go_wp2_with fail
          go_ret
          exact tk_yes HVV.out rfl HOF.out HBK.out
      · have HVV := Lib.hid (show takeK t name l 6 = (13, _) by rw [HV.out]; unfold tkAdd; rw [if_pos rfl])
        go_wp2_with fail
        go_ret
        exact tk_yes HVV.out rfl HOF.out HBK.out
set_option maxRecDepth 100000 in
set_option maxHeartbeats 8000000 in
theorem rtake8_any (base B : Nat) (t : St) (vt vp vq vb sv : Value) (s name : ByteArray) (l : List Int) (w : World) (hR : StAt base w B t vt vp vq vb) (hg : TkArg base B t vt vp vq vb sv l w) (hlen : l.length = 1) (hs : s = keyW 8) :
    Calls Tryz.prog 109 #[.pointer (some ⟨B, 0, none⟩), .string s, .string name, sv] w fun e w' => TakeR base B vt vp vq vb (takeK t name l 8) w e w' := by
  have p0 : (s.toList == [100, 114, 97, 119]) = false := lit_eq _ _ _ (decide_eq_false (by rw [hs]; decide))
  have p1 : (s.toList == [108, 111, 116, 116, 101, 114, 121]) = false := lit_eq _ _ _ (decide_eq_false (by rw [hs]; decide))
  have p2 : (s.toList == [98, 97, 108, 108, 111, 116]) = false := lit_eq _ _ _ (decide_eq_false (by rw [hs]; decide))
  have p3 : (s.toList == [112, 97, 110, 101, 108]) = false := lit_eq _ _ _ (decide_eq_false (by rw [hs]; decide))
  have p4 : (s.toList == [114, 111, 117, 110, 100]) = false := lit_eq _ _ _ (decide_eq_false (by rw [hs]; decide))
  have p5 : (s.toList == [112, 114, 105, 99, 101]) = false := lit_eq _ _ _ (decide_eq_false (by rw [hs]; decide))
  have p7 : (s.toList == [114, 111, 108, 108]) = false := lit_eq _ _ _ (decide_eq_false (by rw [hs]; decide))
  have p6 : (s.toList == [116, 105, 101, 114]) = false := lit_eq _ _ _ (decide_eq_false (by rw [hs]; decide))
  have p8 : (s.toList == [112, 108, 97, 99, 101]) = true := lit_eq _ _ _ (decide_eq_true (by rw [hs]; decide))
  clear hs
  have HR := Lib.hid hR
  have HG := Lib.hid hg
  obtain ⟨lb, lo, lc, rfl, hlb, hl1, hl2, l0⟩ := pts_cell0 hg.pts (k := 0) (by omega)
  have hne : lb ≠ B := fun e => hg.far _ _ _ rfl (.inl e)
  have hvb0 := ownR_blk hR.places hR.blk (by decide)
  have HLB := Lib.hid (show vp.ownBlock ≠ some lb from fun e => hg.far _ _ _ rfl (by unfold RdS; exact .inr (.inr (.inl e))))
  have hsm := hg.small
  have hbs := hg.base
  rw [hlen] at hl1 ⊢
  rw [Nat.add_zero] at l0
  obtain ⟨x, hx⟩ : ∃ x, ptAt l 0 = x := ⟨_, rfl⟩
  rw [hx] at l0
  have HV := Lib.hid (show takeK t name l 8 = tkAdd (hasPlace t.d.places name) t.d.places.length 12 { t with d := { t.d with places := t.d.places ++ [(name, x)] } } from by rw [← hx]; rfl)
  obtain ⟨i0, hi, hz0, hz1, hz2⟩ := info_parts Tryz.infoPl
  have HI := Lib.hid hi
  have HI0 := Lib.hid hz0
  have HI1 := Lib.hid hz1
  have HI2 := Lib.hid hz2
  obtain ⟨a6, c6, rfl⟩ := slice_of_own hR.places
  have k6 : w.cell? ⟨B, 8, none⟩ = some (.slice a6 t.d.places.length c6) := hR.cell 8 rfl
  have hBw := hR.lt
  clear hR hg hx hlen hi hz0 hz1 hz2 hvb0
  go_enter Tryz.func109, Tryz.ntmps109
  go_wp2_with fail
  go_loopw [9, 12] (fun vb9 vi wr => ∃ k : Nat, vi = .int .i64 k ∧ k ≤ t.d.places.length ∧ vb9 = .bool ((t.d.places.take k).any (fun u => decide (u.1 = name))) ∧ Only (fun _ => False) w wr) (fun _ vi _ => t.d.places.length - (intOf vi).toNat)
  case atStart => exact ⟨0, rfl, Nat.zero_le _, rfl, Only.refl _ _⟩
  case round =>
    obtain ⟨k, rfl, hk, rfl, hO⟩ := hrel
    have HO := Lib.hid hO
    have HRW := Lib.hid (HR.out.still hO)
    have k6 : wr.cell? ⟨B, 8, none⟩ = some (.slice a6 t.d.places.length c6) := HRW.out.cell 8 rfl
    have l0 := hO.cell l0 (fun h => h)

    have hBr := HRW.out.lt
    have hszw := hO.size
    have hlbr : lb < wr.heap.size := by omega
    clear hO
    by_cases hlt : k < t.d.places.length
    · have j1 : (k : Int) < t.d.places.length := by omega
      have j2 : 0 ≤ (k : Int) := by omega
      have HLT := Lib.hid hlt
      have HANY := Lib.hid (show (t.d.places.take (k + 1)).any (fun u => decide (u.1 = name)) = ((t.d.places.take k).any (fun u => decide (u.1 = name)) || (decide (t.d.places[k].1 = name))) by
        rw [take_snoc hlt, List.any_append, List.any_cons, List.any_nil, Bool.or_false] <;> rfl)
      have h0 := flat_at (fun x : ByteArray × Int => [Value.string x.1, Value.int .i64 x.2]) 2 (fun _ => rfl) t.d.places k 0 hlt (by decide)
      have h1 := flat_at (fun x : ByteArray × Int => [Value.string x.1, Value.int .i64 x.2]) 2 (fun _ => rfl) t.d.places k 1 hlt (by decide)
      obtain ⟨g, cap, hv, hg, hc1, hc2, d0⟩ := own_cell HRW.out.places h0
      simp only [Value.slice.injEq, true_and] at hv
      obtain ⟨rfl, rfl⟩ := hv
      rw [Nat.add_zero] at d0
      generalize t.d.places[k] = yy at *
      obtain ⟨ya, yr⟩ := yy
      change _ = some (Value.string ya) at d0
      dsimp only at HANY
      clear h0 h1
      generalize (t.d.places.take k).any (fun u => decide (u.1 = name)) = tw at *
      cases tw
      · obtain ⟨q, hq⟩ : ∃ q, decide (ya = name) = q := ⟨_, rfl⟩
        rw [hq] at HANY
        have hq2 : (ya.toList == name.toList) = q := by rw [← hq, Bool.eq_iff_iff, decide_eq_true_eq, beq_iff_eq, ByteArray.toList_eq, ByteArray.toList_eq]; exact ⟨fun h => ba_ext h, fun h => by rw [h]⟩
        clear hq
        go_wp2_with fail
        skip
        go_wp2_with fail
        go_roundw
        case rel => exact ⟨k + 1, by go_num, HLT.out, by rw [HANY.out]; rfl, HO.out⟩
        case measure => simp [intOf]; have := HLT.out; omega
      · go_wp2_with fail
        skip
        go_wp2_with fail
        go_roundw
        case rel => exact ⟨k + 1, by go_num, HLT.out, by rw [HANY.out]; rfl, HO.out⟩
        case measure => simp [intOf]; have := HLT.out; omega
    · obtain rfl : k = t.d.places.length := by omega
      have j1 : ¬ (t.d.places.length : Int) < t.d.places.length := by omega
      have HTW := Lib.hid (show hasPlace t.d.places name = (t.d.places.take t.d.places.length).any (fun u => decide (u.1 = name)) by rw [List.take_length]; rfl)
      generalize (t.d.places.take t.d.places.length).any (fun u => decide (u.1 = name)) = tw at *
      rw [HTW.out] at HV
      have z6 := HRW.out.frz 8


      have hbase : base ≤ wr.heap.size := by omega
      have HON := Lib.hid HRW.out.places
      have hvb := ownR_blk HRW.out.places HRW.out.blk (by decide)
      clear hlt hk
      go_wp2_with fail
      refine wp_region_split2 16 (by kernel_rfl) (by kernel_rfl) (wpAny_of_held (S := fun W => W.cell? ⟨B, 8, none⟩ = some (.slice a6 t.d.places.length c6) ∧ W.cell? ⟨lb, lo, none⟩ = some (.int .i64 x)) _ _ _ _ ?_)
      simp only [List.take_succ_cons, List.take_zero]
      change wpAnyH _ _ _ _ _ _ _ _ wr.drew
      have hHeld : wr.drew.cell? ⟨B, 8, none⟩ = some (.slice a6 t.d.places.length c6) ∧ wr.drew.cell? ⟨lb, lo, none⟩ = some (.int .i64 x) := ⟨k6, l0⟩
      refine' wpAnyH_take (i := 0) (v := _) rfl (by kernel_rfl) (by kernel_rfl) (by kernel_rfl) (fun _ _ _ h => h) (Or.inl ⟨by rfl, ?hy0⟩) hHeld ?r0
      case hy0 => (intro w hSw; obtain ⟨s6, s0⟩ := hSw; go_simp; with_reducible rfl)
      try simp only [Act.put, List.getElem_toArray, List.getElem_cons_zero, List.setIfInBounds_toArray, List.set_cons_zero, List.set_cons_succ]
      refine' wpAnyH_take (i := 1) (v := _) rfl (by kernel_rfl) (by kernel_rfl) (by kernel_rfl) (fun _ _ _ h => h) (Or.inl ⟨by rfl, ?hy1⟩) hHeld ?r1
      case hy1 => (intro w hSw; obtain ⟨s6, s0⟩ := hSw; go_simp; with_reducible rfl)
      try simp only [Act.put, List.getElem_toArray, List.getElem_cons_zero, List.getElem_cons_succ, List.setIfInBounds_toArray, List.set_cons_zero, List.set_cons_succ]
      refine' wpAnyH_take (i := 2) (v := _) rfl (by kernel_rfl) (by kernel_rfl) (by kernel_rfl) (fun _ _ _ h => h) (Or.inl ⟨by rfl, ?hy2⟩) hHeld ?r2
      case hy2 => (intro w hSw; obtain ⟨s6, s0⟩ := hSw; go_simp; with_reducible rfl)
      try simp only [Act.put, List.getElem_toArray, List.getElem_cons_zero, List.getElem_cons_succ, List.setIfInBounds_toArray, List.set_cons_zero, List.set_cons_succ]
      refine' wpAnyH_take (i := 3) (v := _) rfl (by kernel_rfl) (by kernel_rfl) (by kernel_rfl) (fun _ _ _ h => h) (Or.inl ⟨by rfl, ?hy3⟩) hHeld ?r3
      case hy3 => (intro w hSw; obtain ⟨s6, s0⟩ := hSw; go_simp; with_reducible rfl)
      try simp only [Act.put, List.getElem_toArray, List.getElem_cons_zero, List.getElem_cons_succ, List.setIfInBounds_toArray, List.set_cons_zero, List.set_cons_succ]
      refine' wpAnyH_take (i := 4) (v := _) rfl (by kernel_rfl) (by kernel_rfl) (by kernel_rfl) (fun _ _ _ h => h) (Or.inl ⟨by rfl, ?hy4⟩) hHeld ?r4
      case hy4 => (intro w hSw; obtain ⟨s6, s0⟩ := hSw; go_simp; with_reducible rfl)
      try simp only [Act.put, List.getElem_toArray, List.getElem_cons_zero, List.getElem_cons_succ, List.setIfInBounds_toArray, List.set_cons_zero, List.set_cons_succ]
      refine' wpAnyH_take (i := 5) (v := _) rfl (by kernel_rfl) (by kernel_rfl) (by kernel_rfl) (fun _ _ _ h => h) (Or.inl ⟨by rfl, ?hy5⟩) hHeld ?r5
      case hy5 => (intro w hSw; obtain ⟨s6, s0⟩ := hSw; go_simp; with_reducible rfl)
      try simp only [Act.put, List.getElem_toArray, List.getElem_cons_zero, List.getElem_cons_succ, List.setIfInBounds_toArray, List.set_cons_zero, List.set_cons_succ]
      refine' wpAnyH_take (i := 6) (v := _) rfl (by kernel_rfl) (by kernel_rfl) (by kernel_rfl) (fun _ _ _ h => h) (Or.inl ⟨by rfl, ?hy6⟩) hHeld ?r6
      case hy6 => (intro w hSw; obtain ⟨s6, s0⟩ := hSw; go_simp; with_reducible rfl)
      try simp only [Act.put, List.getElem_toArray, List.getElem_cons_zero, List.getElem_cons_succ, List.setIfInBounds_toArray, List.set_cons_zero, List.set_cons_succ]
      refine' wpAnyH_take (i := 7) (v := _) rfl (by kernel_rfl) (by kernel_rfl) (by kernel_rfl) (fun _ _ _ h => h) (Or.inl ⟨by rfl, ?hy7⟩) hHeld ?r7
      case hy7 => (intro w hSw; obtain ⟨s6, s0⟩ := hSw; go_simp; with_reducible rfl)
      try simp only [Act.put, List.getElem_toArray, List.getElem_cons_zero, List.getElem_cons_succ, List.setIfInBounds_toArray, List.set_cons_zero, List.set_cons_succ]
      refine' wpAnyH_take (i := 8) (v := _) rfl (by kernel_rfl) (by kernel_rfl) (by kernel_rfl) (fun _ _ _ h => h) (Or.inl ⟨by rfl, ?hy8⟩) hHeld ?r8
      case hy8 => (intro w hSw; obtain ⟨s6, s0⟩ := hSw; go_simp; with_reducible rfl)
      try simp only [Act.put, List.getElem_toArray, List.getElem_cons_zero, List.getElem_cons_succ, List.setIfInBounds_toArray, List.set_cons_zero, List.set_cons_succ]
      refine' wpAnyH_take (i := 9) (v := _) rfl (by kernel_rfl) (by kernel_rfl) (by kernel_rfl) (fun _ _ _ h => h) (Or.inl ⟨by rfl, ?hy9⟩) hHeld ?r9
      case hy9 => (intro w hSw; obtain ⟨s6, s0⟩ := hSw; go_simp; with_reducible rfl)
      try simp only [Act.put, List.getElem_toArray, List.getElem_cons_zero, List.getElem_cons_succ, List.setIfInBounds_toArray, List.set_cons_zero, List.set_cons_succ]
      refine' wpAnyH_take (i := 10) (v := _) rfl (by kernel_rfl) (by kernel_rfl) (by kernel_rfl) (fun _ _ _ h => h) (Or.inl ⟨by rfl, ?hy10⟩) hHeld ?r10
      case hy10 => (intro w hSw; obtain ⟨s6, s0⟩ := hSw; go_simp; with_reducible rfl)
      try simp only [Act.put, List.getElem_toArray, List.getElem_cons_zero, List.getElem_cons_succ, List.setIfInBounds_toArray, List.set_cons_zero, List.set_cons_succ]
      refine wpAnyH_ready (rs := [11]) (by kernel_rfl) (by simp) ?_
      refine AllReadyH.cons rfl (fun K hK => ?_) AllReadyH.nil
      go_simp
      have HST := Lib.hid ((Only.refl (fun _ => False) wr.drew).alloc (.cells #[.string name, .int .i64 x] 73))
      refine hK.out _ _ ⟨HST.out.cell hHeld.1 (fun h => h), HST.out.cell hHeld.2 (fun h => h)⟩ (fun hHeld => ?_)
      clear hK K
      try simp only [Act.put, List.getElem_toArray, List.getElem_cons_zero, List.getElem_cons_succ, List.setIfInBounds_toArray, List.set_cons_zero, List.set_cons_succ]
      refine wpAnyH_ready (rs := [12]) (by kernel_rfl) (by simp) ?_
      refine AllReadyH.cons rfl (fun K hK => ?_) AllReadyH.nil
      refine step_append_lies _ rfl _ _ 30 rfl base 73 i0 _ 2 24 Tryz.underlying30 HI.out HI0.out HI1.out HI2.out rfl (by decide) _ _ _ (by rfl) ((owns_drew HON.out).alloc _) ⟨wr.heap.size, 0, none⟩ 1 1 [.string name, .int .i64 x] (by rfl) rfl (by exact newsR' wr.drew _ _) (two_oneR _ _ rfl rfl) (by decide) (by unfold maxLen; omega) (by omega) (by simp; omega) _ rfl ?_
      intro g cap w1 hown1 hgrow hat hlt
      have hOG := (Only.refl (fun i => (Value.slice a6 t.d.places.length c6).ownBlock = some i) _).grown hgrow (fun i e _ => e)
      have c1 := hOG.cell hHeld.1 hvb
      have HRA := Lib.hid (HRW.out.still (((Only.refl _ wr).drew).alloc (.cells #[.string name, .int .i64 x] 73)))
      have f1 : w1.frozen? ⟨B, 8, none⟩ = false := frozen_of_row _ _ _ _ _ ((hOG.block B HRA.out.lt hvb).trans HRA.out.blk)
      refine hK.out _ _ ⟨c1, hOG.cell hHeld.2 HLB.out⟩ (fun hHeld => ?_)
      clear hK K
      try simp only [Act.put, List.getElem_toArray, List.getElem_cons_zero, List.getElem_cons_succ, List.setIfInBounds_toArray, List.set_cons_zero, List.set_cons_succ]
      refine' wpAnyH_take (i := 13) (v := _) rfl (by kernel_rfl) (by kernel_rfl) (by kernel_rfl) (fun _ _ _ h => h) (Or.inl ⟨by rfl, ?hy13⟩) hHeld ?r13
      case hy13 => (intro w hSw; obtain ⟨s6, s0⟩ := hSw; go_simp; with_reducible rfl)
      try simp only [Act.put, List.getElem_toArray, List.getElem_cons_zero, List.getElem_cons_succ, List.setIfInBounds_toArray, List.set_cons_zero, List.set_cons_succ]
      refine' wpAnyH_take (i := 14) (v := _) rfl (by kernel_rfl) (by kernel_rfl) (by kernel_rfl) (fun _ _ _ h => h) (Or.inl ⟨by rfl, ?hy14⟩) hHeld ?r14
      case hy14 => (intro w hSw; obtain ⟨s6, s0⟩ := hSw; go_simp; with_reducible rfl)
      try simp only [Act.put, List.getElem_toArray, List.getElem_cons_zero, List.getElem_cons_succ, List.setIfInBounds_toArray, List.set_cons_zero, List.set_cons_succ]
      refine' wpAnyH_take (i := 15) (v := _) rfl (by kernel_rfl) (by kernel_rfl) (by kernel_rfl) (fun _ _ _ h => h) (Or.inl ⟨by rfl, ?hy15⟩) hHeld ?r15
      case hy15 => (intro w hSw; obtain ⟨s6, s0⟩ := hSw; go_simp; with_reducible rfl)
      try simp only [Act.put, List.getElem_toArray, List.getElem_cons_zero, List.getElem_cons_succ, List.setIfInBounds_toArray, List.set_cons_zero, List.set_cons_succ]
      refine wpAnyH_done (by kernel_rfl) ?_ _
      simp only [headPost, List.drop_succ_cons, List.drop_zero]
      have HBK := Lib.hid (HRA.out.placeBack (x := (name, x)) hgrow hown1)
      have HOF := Lib.hid (RdS.set (B := B) (vt := vt) (vp := .slice a6 t.d.places.length c6) (vq := vq) (vb := vb) (((((HO.out.drew).alloc (.cells #[.string name, .int .i64 x] 73)).mono (fun _ _ h => h.elim)).grown hgrow (fun k e _ => .inr (.inr (.inl e)))) ) 8 (.slice (some ⟨g, 0, none⟩) (t.d.places.length + 1) cap))
      clear hHeld hOG k6 z6
      cases tw
      · by_cases hm : t.d.places.length < 12
        · have i1 : ¬ (12 : Int) < (t.d.places.length : Int) + 1 := by omega
          have HVV := Lib.hid (show takeK t name l 8 = (0, _) by rw [HV.out]; unfold tkAdd; rw [if_neg (by decide), if_pos hm])
          clear hm
          go_wp2_with fail
          go_ret
          exact tk_yes HVV.out rfl HOF.out HBK.out
        · have i1 : (12 : Int) < (t.d.places.length : Int) + 1 := by omega
          have HVV := Lib.hid (show takeK t name l 8 = (2, _) by rw [HV.out]; unfold tkAdd; rw [if_neg (by decide), if_neg hm])
          clear hm
          go_wp2_with fail
          go_ret
          exact tk_yes HVV.out rfl HOF.out HBK.out
      · have HVV := Lib.hid (show takeK t name l 8 = (13, _) by rw [HV.out]; unfold tkAdd; rw [if_pos rfl])
        go_wp2_with fail
        go_ret
        exact tk_yes HVV.out rfl HOF.out HBK.out
set_option maxRecDepth 100000 in
set_option maxHeartbeats 8000000 in
theorem rtake9_any (base B : Nat) (t : St) (vt vp vq vb sv : Value) (s name : ByteArray) (l : List Int) (w : World) (hR : StAt base w B t vt vp vq vb) (hg : TkArg base B t vt vp vq vb sv l w) (hlen : l.length = 2) (hs : s = keyW 9) :
    Calls Tryz.prog 109 #[.pointer (some ⟨B, 0, none⟩), .string s, .string name, sv] w fun e w' => TakeR base B vt vp vq vb (takeK t name l 9) w e w' := by
  have p0 : (s.toList == [100, 114, 97, 119]) = false := lit_eq _ _ _ (decide_eq_false (by rw [hs]; decide))
  have p1 : (s.toList == [108, 111, 116, 116, 101, 114, 121]) = false := lit_eq _ _ _ (decide_eq_false (by rw [hs]; decide))
  have p2 : (s.toList == [98, 97, 108, 108, 111, 116]) = false := lit_eq _ _ _ (decide_eq_false (by rw [hs]; decide))
  have p3 : (s.toList == [112, 97, 110, 101, 108]) = false := lit_eq _ _ _ (decide_eq_false (by rw [hs]; decide))
  have p4 : (s.toList == [114, 111, 117, 110, 100]) = false := lit_eq _ _ _ (decide_eq_false (by rw [hs]; decide))
  have p5 : (s.toList == [112, 114, 105, 99, 101]) = false := lit_eq _ _ _ (decide_eq_false (by rw [hs]; decide))
  have p7 : (s.toList == [114, 111, 108, 108]) = false := lit_eq _ _ _ (decide_eq_false (by rw [hs]; decide))
  have p6 : (s.toList == [116, 105, 101, 114]) = false := lit_eq _ _ _ (decide_eq_false (by rw [hs]; decide))
  have p8 : (s.toList == [112, 108, 97, 99, 101]) = false := lit_eq _ _ _ (decide_eq_false (by rw [hs]; decide))
  have p9 : (s.toList == [113, 117, 111, 116, 97]) = true := lit_eq _ _ _ (decide_eq_true (by rw [hs]; decide))
  clear hs
  have HR := Lib.hid hR
  have HG := Lib.hid hg
  obtain ⟨lb, lo, lc, rfl, hlb, hl1, hl2, l0⟩ := pts_cell0 hg.pts (k := 0) (by omega)
  obtain ⟨lb', lo', lc', e', _, _, _, l1⟩ := pts_cell0 hg.pts (k := 1) (by omega)
  simp only [Value.slice.injEq, Option.some.injEq, Addr.mk.injEq, and_true, true_and] at e'
  obtain ⟨⟨rfl, rfl⟩, rfl⟩ := e'
  have hne : lb ≠ B := fun e => hg.far _ _ _ rfl (.inl e)
  have hvb0 := ownR_blk hR.quotas hR.blk (by decide)
  have HLB := Lib.hid (show vq.ownBlock ≠ some lb from fun e => hg.far _ _ _ rfl (by unfold RdS; exact .inr (.inr (.inr (.inl e)))))
  have hsm := hg.small
  have hbs := hg.base
  rw [hlen] at hl1 ⊢
  rw [Nat.add_zero] at l0
  obtain ⟨x, hx⟩ : ∃ x, ptAt l 0 = x := ⟨_, rfl⟩
  rw [hx] at l0
  obtain ⟨y, hy⟩ : ∃ x, ptAt l 1 = x := ⟨_, rfl⟩
  rw [hy] at l1
  have HV := Lib.hid (show takeK t name l 9 = tkAdd (hasQuota t.d.quotas name) t.d.quotas.length 12 { t with d := { t.d with quotas := t.d.quotas ++ [(name, x, y)] } } from by rw [← hx, ← hy]; rfl)
  obtain ⟨i0, hi, hz0, hz1, hz2⟩ := info_parts Tryz.infoQu
  have HI := Lib.hid hi
  have HI0 := Lib.hid hz0
  have HI1 := Lib.hid hz1
  have HI2 := Lib.hid hz2
  obtain ⟨a6, c6, rfl⟩ := slice_of_own hR.quotas
  have k6 : w.cell? ⟨B, 11, none⟩ = some (.slice a6 t.d.quotas.length c6) := hR.cell 11 rfl
  have hBw := hR.lt
  clear hR hg hx hy hlen hi hz0 hz1 hz2 hvb0
  go_enter Tryz.func109, Tryz.ntmps109
  go_wp2_with fail
  go_loopw [9, 13] (fun vb9 vi wr => ∃ k : Nat, vi = .int .i64 k ∧ k ≤ t.d.quotas.length ∧ vb9 = .bool ((t.d.quotas.take k).any (fun u => decide (u.1 = name))) ∧ Only (fun _ => False) w wr) (fun _ vi _ => t.d.quotas.length - (intOf vi).toNat)
  case atStart => exact ⟨0, rfl, Nat.zero_le _, rfl, Only.refl _ _⟩
  case round =>
    obtain ⟨k, rfl, hk, rfl, hO⟩ := hrel
    have HO := Lib.hid hO
    have HRW := Lib.hid (HR.out.still hO)
    have k6 : wr.cell? ⟨B, 11, none⟩ = some (.slice a6 t.d.quotas.length c6) := HRW.out.cell 11 rfl
    have l0 := hO.cell l0 (fun h => h)
    have l1 := hO.cell l1 (fun h => h)
    have hBr := HRW.out.lt
    have hszw := hO.size
    have hlbr : lb < wr.heap.size := by omega
    clear hO
    by_cases hlt : k < t.d.quotas.length
    · have j1 : (k : Int) < t.d.quotas.length := by omega
      have j2 : 0 ≤ (k : Int) := by omega
      have HLT := Lib.hid hlt
      have HANY := Lib.hid (show (t.d.quotas.take (k + 1)).any (fun u => decide (u.1 = name)) = ((t.d.quotas.take k).any (fun u => decide (u.1 = name)) || (decide (t.d.quotas[k].1 = name))) by
        rw [take_snoc hlt, List.any_append, List.any_cons, List.any_nil, Bool.or_false] <;> rfl)
      have h0 := flat_at (fun x : ByteArray × Int × Int => [Value.string x.1, Value.int .i64 x.2.1, Value.int .i64 x.2.2]) 3 (fun _ => rfl) t.d.quotas k 0 hlt (by decide)
      have h1 := flat_at (fun x : ByteArray × Int × Int => [Value.string x.1, Value.int .i64 x.2.1, Value.int .i64 x.2.2]) 3 (fun _ => rfl) t.d.quotas k 1 hlt (by decide)
      have h2 := flat_at (fun x : ByteArray × Int × Int => [Value.string x.1, Value.int .i64 x.2.1, Value.int .i64 x.2.2]) 3 (fun _ => rfl) t.d.quotas k 2 hlt (by decide)
      obtain ⟨g, cap, hv, hg, hc1, hc2, d0⟩ := own_cell HRW.out.quotas h0
      simp only [Value.slice.injEq, true_and] at hv
      obtain ⟨rfl, rfl⟩ := hv
      rw [Nat.add_zero] at d0
      generalize t.d.quotas[k] = yy at *
      obtain ⟨ya, yr⟩ := yy
      change _ = some (Value.string ya) at d0
      dsimp only at HANY
      clear h0 h1 h2
      generalize (t.d.quotas.take k).any (fun u => decide (u.1 = name)) = tw at *
      cases tw
      · obtain ⟨q, hq⟩ : ∃ q, decide (ya = name) = q := ⟨_, rfl⟩
        rw [hq] at HANY
        have hq2 : (ya.toList == name.toList) = q := by rw [← hq, Bool.eq_iff_iff, decide_eq_true_eq, beq_iff_eq, ByteArray.toList_eq, ByteArray.toList_eq]; exact ⟨fun h => ba_ext h, fun h => by rw [h]⟩
        clear hq
        go_wp2_with fail
        skip
        go_wp2_with fail
        go_roundw
        case rel => exact ⟨k + 1, by go_num, HLT.out, by rw [HANY.out]; rfl, HO.out⟩
        case measure => simp [intOf]; have := HLT.out; omega
      · go_wp2_with fail
        skip
        go_wp2_with fail
        go_roundw
        case rel => exact ⟨k + 1, by go_num, HLT.out, by rw [HANY.out]; rfl, HO.out⟩
        case measure => simp [intOf]; have := HLT.out; omega
    · obtain rfl : k = t.d.quotas.length := by omega
      have j1 : ¬ (t.d.quotas.length : Int) < t.d.quotas.length := by omega
      have HTW := Lib.hid (show hasQuota t.d.quotas name = (t.d.quotas.take t.d.quotas.length).any (fun u => decide (u.1 = name)) by rw [List.take_length]; rfl)
      generalize (t.d.quotas.take t.d.quotas.length).any (fun u => decide (u.1 = name)) = tw at *
      rw [HTW.out] at HV
      have z6 := HRW.out.frz 11


      have hbase : base ≤ wr.heap.size := by omega
      have HON := Lib.hid HRW.out.quotas
      have hvb := ownR_blk HRW.out.quotas HRW.out.blk (by decide)
      clear hlt hk
      go_wp2_with fail
      refine wp_region_split2 19 (by kernel_rfl) (by kernel_rfl) (wpAny_of_held (S := fun W => W.cell? ⟨B, 11, none⟩ = some (.slice a6 t.d.quotas.length c6) ∧ W.cell? ⟨lb, lo, none⟩ = some (.int .i64 x) ∧ W.cell? ⟨lb, lo + 1, none⟩ = some (.int .i64 y)) _ _ _ _ ?_)
      simp only [List.take_succ_cons, List.take_zero]
      change wpAnyH _ _ _ _ _ _ _ _ wr.drew
      have hHeld : wr.drew.cell? ⟨B, 11, none⟩ = some (.slice a6 t.d.quotas.length c6) ∧ wr.drew.cell? ⟨lb, lo, none⟩ = some (.int .i64 x) ∧ wr.drew.cell? ⟨lb, lo + 1, none⟩ = some (.int .i64 y) := ⟨k6, l0, l1⟩
      refine' wpAnyH_take (i := 0) (v := _) rfl (by kernel_rfl) (by kernel_rfl) (by kernel_rfl) (fun _ _ _ h => h) (Or.inl ⟨by rfl, ?hy0⟩) hHeld ?r0
      case hy0 => (intro w hSw; obtain ⟨s6, s0, s1⟩ := hSw; go_simp; with_reducible rfl)
      try simp only [Act.put, List.getElem_toArray, List.getElem_cons_zero, List.setIfInBounds_toArray, List.set_cons_zero, List.set_cons_succ]
      refine' wpAnyH_take (i := 1) (v := _) rfl (by kernel_rfl) (by kernel_rfl) (by kernel_rfl) (fun _ _ _ h => h) (Or.inl ⟨by rfl, ?hy1⟩) hHeld ?r1
      case hy1 => (intro w hSw; obtain ⟨s6, s0, s1⟩ := hSw; go_simp; with_reducible rfl)
      try simp only [Act.put, List.getElem_toArray, List.getElem_cons_zero, List.getElem_cons_succ, List.setIfInBounds_toArray, List.set_cons_zero, List.set_cons_succ]
      refine' wpAnyH_take (i := 2) (v := _) rfl (by kernel_rfl) (by kernel_rfl) (by kernel_rfl) (fun _ _ _ h => h) (Or.inl ⟨by rfl, ?hy2⟩) hHeld ?r2
      case hy2 => (intro w hSw; obtain ⟨s6, s0, s1⟩ := hSw; go_simp; with_reducible rfl)
      try simp only [Act.put, List.getElem_toArray, List.getElem_cons_zero, List.getElem_cons_succ, List.setIfInBounds_toArray, List.set_cons_zero, List.set_cons_succ]
      refine' wpAnyH_take (i := 3) (v := _) rfl (by kernel_rfl) (by kernel_rfl) (by kernel_rfl) (fun _ _ _ h => h) (Or.inl ⟨by rfl, ?hy3⟩) hHeld ?r3
      case hy3 => (intro w hSw; obtain ⟨s6, s0, s1⟩ := hSw; go_simp; with_reducible rfl)
      try simp only [Act.put, List.getElem_toArray, List.getElem_cons_zero, List.getElem_cons_succ, List.setIfInBounds_toArray, List.set_cons_zero, List.set_cons_succ]
      refine' wpAnyH_take (i := 4) (v := _) rfl (by kernel_rfl) (by kernel_rfl) (by kernel_rfl) (fun _ _ _ h => h) (Or.inl ⟨by rfl, ?hy4⟩) hHeld ?r4
      case hy4 => (intro w hSw; obtain ⟨s6, s0, s1⟩ := hSw; go_simp; with_reducible rfl)
      try simp only [Act.put, List.getElem_toArray, List.getElem_cons_zero, List.getElem_cons_succ, List.setIfInBounds_toArray, List.set_cons_zero, List.set_cons_succ]
      refine' wpAnyH_take (i := 5) (v := _) rfl (by kernel_rfl) (by kernel_rfl) (by kernel_rfl) (fun _ _ _ h => h) (Or.inl ⟨by rfl, ?hy5⟩) hHeld ?r5
      case hy5 => (intro w hSw; obtain ⟨s6, s0, s1⟩ := hSw; go_simp; with_reducible rfl)
      try simp only [Act.put, List.getElem_toArray, List.getElem_cons_zero, List.getElem_cons_succ, List.setIfInBounds_toArray, List.set_cons_zero, List.set_cons_succ]
      refine' wpAnyH_take (i := 6) (v := _) rfl (by kernel_rfl) (by kernel_rfl) (by kernel_rfl) (fun _ _ _ h => h) (Or.inl ⟨by rfl, ?hy6⟩) hHeld ?r6
      case hy6 => (intro w hSw; obtain ⟨s6, s0, s1⟩ := hSw; go_simp; with_reducible rfl)
      try simp only [Act.put, List.getElem_toArray, List.getElem_cons_zero, List.getElem_cons_succ, List.setIfInBounds_toArray, List.set_cons_zero, List.set_cons_succ]
      refine' wpAnyH_take (i := 7) (v := _) rfl (by kernel_rfl) (by kernel_rfl) (by kernel_rfl) (fun _ _ _ h => h) (Or.inl ⟨by rfl, ?hy7⟩) hHeld ?r7
      case hy7 => (intro w hSw; obtain ⟨s6, s0, s1⟩ := hSw; go_simp; with_reducible rfl)
      try simp only [Act.put, List.getElem_toArray, List.getElem_cons_zero, List.getElem_cons_succ, List.setIfInBounds_toArray, List.set_cons_zero, List.set_cons_succ]
      refine' wpAnyH_take (i := 8) (v := _) rfl (by kernel_rfl) (by kernel_rfl) (by kernel_rfl) (fun _ _ _ h => h) (Or.inl ⟨by rfl, ?hy8⟩) hHeld ?r8
      case hy8 => (intro w hSw; obtain ⟨s6, s0, s1⟩ := hSw; go_simp; with_reducible rfl)
      try simp only [Act.put, List.getElem_toArray, List.getElem_cons_zero, List.getElem_cons_succ, List.setIfInBounds_toArray, List.set_cons_zero, List.set_cons_succ]
      refine' wpAnyH_take (i := 9) (v := _) rfl (by kernel_rfl) (by kernel_rfl) (by kernel_rfl) (fun _ _ _ h => h) (Or.inl ⟨by rfl, ?hy9⟩) hHeld ?r9
      case hy9 => (intro w hSw; obtain ⟨s6, s0, s1⟩ := hSw; go_simp; with_reducible rfl)
      try simp only [Act.put, List.getElem_toArray, List.getElem_cons_zero, List.getElem_cons_succ, List.setIfInBounds_toArray, List.set_cons_zero, List.set_cons_succ]
      refine' wpAnyH_take (i := 10) (v := _) rfl (by kernel_rfl) (by kernel_rfl) (by kernel_rfl) (fun _ _ _ h => h) (Or.inl ⟨by rfl, ?hy10⟩) hHeld ?r10
      case hy10 => (intro w hSw; obtain ⟨s6, s0, s1⟩ := hSw; go_simp; with_reducible rfl)
      try simp only [Act.put, List.getElem_toArray, List.getElem_cons_zero, List.getElem_cons_succ, List.setIfInBounds_toArray, List.set_cons_zero, List.set_cons_succ]
      refine' wpAnyH_take (i := 11) (v := _) rfl (by kernel_rfl) (by kernel_rfl) (by kernel_rfl) (fun _ _ _ h => h) (Or.inl ⟨by rfl, ?hy11⟩) hHeld ?r11
      case hy11 => (intro w hSw; obtain ⟨s6, s0, s1⟩ := hSw; go_simp; with_reducible rfl)
      try simp only [Act.put, List.getElem_toArray, List.getElem_cons_zero, List.getElem_cons_succ, List.setIfInBounds_toArray, List.set_cons_zero, List.set_cons_succ]
      refine' wpAnyH_take (i := 12) (v := _) rfl (by kernel_rfl) (by kernel_rfl) (by kernel_rfl) (fun _ _ _ h => h) (Or.inl ⟨by rfl, ?hy12⟩) hHeld ?r12
      case hy12 => (intro w hSw; obtain ⟨s6, s0, s1⟩ := hSw; go_simp; with_reducible rfl)
      try simp only [Act.put, List.getElem_toArray, List.getElem_cons_zero, List.getElem_cons_succ, List.setIfInBounds_toArray, List.set_cons_zero, List.set_cons_succ]
      refine' wpAnyH_take (i := 13) (v := _) rfl (by kernel_rfl) (by kernel_rfl) (by kernel_rfl) (fun _ _ _ h => h) (Or.inl ⟨by rfl, ?hy13⟩) hHeld ?r13
      case hy13 => (intro w hSw; obtain ⟨s6, s0, s1⟩ := hSw; go_simp; with_reducible rfl)
      try simp only [Act.put, List.getElem_toArray, List.getElem_cons_zero, List.getElem_cons_succ, List.setIfInBounds_toArray, List.set_cons_zero, List.set_cons_succ]
      refine wpAnyH_ready (rs := [14]) (by kernel_rfl) (by simp) ?_
      refine AllReadyH.cons rfl (fun K hK => ?_) AllReadyH.nil
      go_simp
      have HST := Lib.hid ((Only.refl (fun _ => False) wr.drew).alloc (.cells #[.string name, .int .i64 x, .int .i64 y] 75))
      refine hK.out _ _ ⟨HST.out.cell hHeld.1 (fun h => h), HST.out.cell hHeld.2.1 (fun h => h), HST.out.cell hHeld.2.2 (fun h => h)⟩ (fun hHeld => ?_)
      clear hK K
      try simp only [Act.put, List.getElem_toArray, List.getElem_cons_zero, List.getElem_cons_succ, List.setIfInBounds_toArray, List.set_cons_zero, List.set_cons_succ]
      refine wpAnyH_ready (rs := [15]) (by kernel_rfl) (by simp) ?_
      refine AllReadyH.cons rfl (fun K hK => ?_) AllReadyH.nil
      refine step_append_lies _ rfl _ _ 31 rfl base 75 i0 _ 3 32 Tryz.underlying31 HI.out HI0.out HI1.out HI2.out rfl (by decide) _ _ _ (by rfl) ((owns_drew HON.out).alloc _) ⟨wr.heap.size, 0, none⟩ 1 1 [.string name, .int .i64 x, .int .i64 y] (by rfl) rfl (by exact newsR' wr.drew _ _) (three_oneR _ _ _ rfl rfl rfl) (by decide) (by unfold maxLen; omega) (by omega) (by simp; omega) _ rfl ?_
      intro g cap w1 hown1 hgrow hat hlt
      have hOG := (Only.refl (fun i => (Value.slice a6 t.d.quotas.length c6).ownBlock = some i) _).grown hgrow (fun i e _ => e)
      have c1 := hOG.cell hHeld.1 hvb
      have HRA := Lib.hid (HRW.out.still (((Only.refl _ wr).drew).alloc (.cells #[.string name, .int .i64 x, .int .i64 y] 75)))
      have f1 : w1.frozen? ⟨B, 11, none⟩ = false := frozen_of_row _ _ _ _ _ ((hOG.block B HRA.out.lt hvb).trans HRA.out.blk)
      refine hK.out _ _ ⟨c1, hOG.cell hHeld.2.1 HLB.out, hOG.cell hHeld.2.2 HLB.out⟩ (fun hHeld => ?_)
      clear hK K
      try simp only [Act.put, List.getElem_toArray, List.getElem_cons_zero, List.getElem_cons_succ, List.setIfInBounds_toArray, List.set_cons_zero, List.set_cons_succ]
      refine' wpAnyH_take (i := 16) (v := _) rfl (by kernel_rfl) (by kernel_rfl) (by kernel_rfl) (fun _ _ _ h => h) (Or.inl ⟨by rfl, ?hy16⟩) hHeld ?r16
      case hy16 => (intro w hSw; obtain ⟨s6, s0, s1⟩ := hSw; go_simp; with_reducible rfl)
      try simp only [Act.put, List.getElem_toArray, List.getElem_cons_zero, List.getElem_cons_succ, List.setIfInBounds_toArray, List.set_cons_zero, List.set_cons_succ]
      refine' wpAnyH_take (i := 17) (v := _) rfl (by kernel_rfl) (by kernel_rfl) (by kernel_rfl) (fun _ _ _ h => h) (Or.inl ⟨by rfl, ?hy17⟩) hHeld ?r17
      case hy17 => (intro w hSw; obtain ⟨s6, s0, s1⟩ := hSw; go_simp; with_reducible rfl)
      try simp only [Act.put, List.getElem_toArray, List.getElem_cons_zero, List.getElem_cons_succ, List.setIfInBounds_toArray, List.set_cons_zero, List.set_cons_succ]
      refine' wpAnyH_take (i := 18) (v := _) rfl (by kernel_rfl) (by kernel_rfl) (by kernel_rfl) (fun _ _ _ h => h) (Or.inl ⟨by rfl, ?hy18⟩) hHeld ?r18
      case hy18 => (intro w hSw; obtain ⟨s6, s0, s1⟩ := hSw; go_simp; with_reducible rfl)
      try simp only [Act.put, List.getElem_toArray, List.getElem_cons_zero, List.getElem_cons_succ, List.setIfInBounds_toArray, List.set_cons_zero, List.set_cons_succ]
      refine wpAnyH_done (by kernel_rfl) ?_ _
      simp only [headPost, List.drop_succ_cons, List.drop_zero]
      have HBK := Lib.hid (HRA.out.quotaBack (x := (name, x, y)) hgrow hown1)
      have HOF := Lib.hid (RdS.set (B := B) (vt := vt) (vp := vp) (vq := .slice a6 t.d.quotas.length c6) (vb := vb) (((((HO.out.drew).alloc (.cells #[.string name, .int .i64 x, .int .i64 y] 75)).mono (fun _ _ h => h.elim)).grown hgrow (fun k e _ => .inr (.inr (.inr (.inl e))))) ) 11 (.slice (some ⟨g, 0, none⟩) (t.d.quotas.length + 1) cap))
      clear hHeld hOG k6 z6
      cases tw
      · by_cases hm : t.d.quotas.length < 12
        · have i1 : ¬ (12 : Int) < (t.d.quotas.length : Int) + 1 := by omega
          have HVV := Lib.hid (show takeK t name l 9 = (0, _) by rw [HV.out]; unfold tkAdd; rw [if_neg (by decide), if_pos hm])
          clear hm
          go_wp2_with fail
          go_ret
          exact tk_yes HVV.out rfl HOF.out HBK.out
        · have i1 : (12 : Int) < (t.d.quotas.length : Int) + 1 := by omega
          have HVV := Lib.hid (show takeK t name l 9 = (2, _) by rw [HV.out]; unfold tkAdd; rw [if_neg (by decide), if_neg hm])
          clear hm
          go_wp2_with fail
          go_ret
          exact tk_yes HVV.out rfl HOF.out HBK.out
      · have HVV := Lib.hid (show takeK t name l 9 = (13, _) by rw [HV.out]; unfold tkAdd; rw [if_pos rfl])
        go_wp2_with fail
        go_ret
        exact tk_yes HVV.out rfl HOF.out HBK.out
set_option maxRecDepth 100000 in
set_option maxHeartbeats 8000000 in
theorem rtake10_any (base B : Nat) (t : St) (vt vp vq vb sv : Value) (s name : ByteArray) (l : List Int) (w : World) (hR : StAt base w B t vt vp vq vb) (hg : TkArg base B t vt vp vq vb sv l w) (hlen : l.length = 1) (hs : s = keyW 10) :
    Calls Tryz.prog 109 #[.pointer (some ⟨B, 0, none⟩), .string s, .string name, sv] w fun e w' => TakeR base B vt vp vq vb (takeK t name l 10) w e w' := by
  have p0 : (s.toList == [100, 114, 97, 119]) = false := lit_eq _ _ _ (decide_eq_false (by rw [hs]; decide))
  have p1 : (s.toList == [108, 111, 116, 116, 101, 114, 121]) = false := lit_eq _ _ _ (decide_eq_false (by rw [hs]; decide))
  have p2 : (s.toList == [98, 97, 108, 108, 111, 116]) = false := lit_eq _ _ _ (decide_eq_false (by rw [hs]; decide))
  have p3 : (s.toList == [112, 97, 110, 101, 108]) = false := lit_eq _ _ _ (decide_eq_false (by rw [hs]; decide))
  have p4 : (s.toList == [114, 111, 117, 110, 100]) = false := lit_eq _ _ _ (decide_eq_false (by rw [hs]; decide))
  have p5 : (s.toList == [112, 114, 105, 99, 101]) = false := lit_eq _ _ _ (decide_eq_false (by rw [hs]; decide))
  have p7 : (s.toList == [114, 111, 108, 108]) = false := lit_eq _ _ _ (decide_eq_false (by rw [hs]; decide))
  have p6 : (s.toList == [116, 105, 101, 114]) = false := lit_eq _ _ _ (decide_eq_false (by rw [hs]; decide))
  have p8 : (s.toList == [112, 108, 97, 99, 101]) = false := lit_eq _ _ _ (decide_eq_false (by rw [hs]; decide))
  have p9 : (s.toList == [113, 117, 111, 116, 97]) = false := lit_eq _ _ _ (decide_eq_false (by rw [hs]; decide))
  have p10 : (s.toList == [98, 97, 114]) = true := lit_eq _ _ _ (decide_eq_true (by rw [hs]; decide))
  clear hs
  have HR := Lib.hid hR
  have HG := Lib.hid hg
  obtain ⟨lb, lo, lc, rfl, hlb, hl1, hl2, l0⟩ := pts_cell0 hg.pts (k := 0) (by omega)
  have hne : lb ≠ B := fun e => hg.far _ _ _ rfl (.inl e)
  have hvb0 := ownR_blk hR.bars hR.blk (by decide)
  have HLB := Lib.hid (show vb.ownBlock ≠ some lb from fun e => hg.far _ _ _ rfl (by unfold RdS; exact .inr (.inr (.inr (.inr e)))))
  have hsm := hg.small
  have hbs := hg.base
  rw [hlen] at hl1 ⊢
  rw [Nat.add_zero] at l0
  obtain ⟨x, hx⟩ : ∃ x, ptAt l 0 = x := ⟨_, rfl⟩
  rw [hx] at l0
  have HV := Lib.hid (show takeK t name l 10 = tkAdd (hasBar t.d.barred x) t.d.barred.length 40 { t with d := { t.d with barred := t.d.barred ++ [x] }, barred := true } from by rw [← hx]; rfl)
  obtain ⟨i0, hi, hz0, hz1, hz2⟩ := info_parts Tryz.infoI
  have HI := Lib.hid hi
  have HI0 := Lib.hid hz0
  have HI1 := Lib.hid hz1
  have HI2 := Lib.hid hz2
  obtain ⟨a6, c6, rfl⟩ := slice_of_own hR.bars
  have k6 : w.cell? ⟨B, 12, none⟩ = some (.slice a6 t.d.barred.length c6) := hR.cell 12 rfl
  have hBw := hR.lt
  clear hR hg hx hlen hi hz0 hz1 hz2 hvb0
  go_enter Tryz.func109, Tryz.ntmps109
  go_wp2_with fail
  go_loopw [9, 14] (fun vb9 vi wr => ∃ k : Nat, vi = .int .i64 k ∧ k ≤ t.d.barred.length ∧ vb9 = .bool ((t.d.barred.take k).any (fun u => u == x)) ∧ Only (fun _ => False) w wr) (fun _ vi _ => t.d.barred.length - (intOf vi).toNat)
  case atStart => exact ⟨0, rfl, Nat.zero_le _, rfl, Only.refl _ _⟩
  case round =>
    obtain ⟨k, rfl, hk, rfl, hO⟩ := hrel
    have HO := Lib.hid hO
    have HRW := Lib.hid (HR.out.still hO)
    have k6 : wr.cell? ⟨B, 12, none⟩ = some (.slice a6 t.d.barred.length c6) := HRW.out.cell 12 rfl
    have l0 := hO.cell l0 (fun h => h)

    have hBr := HRW.out.lt
    have hszw := hO.size
    have hlbr : lb < wr.heap.size := by omega
    clear hO
    by_cases hlt : k < t.d.barred.length
    · have j1 : (k : Int) < t.d.barred.length := by omega
      have j2 : 0 ≤ (k : Int) := by omega
      have HLT := Lib.hid hlt
      have HANY := Lib.hid (show (t.d.barred.take (k + 1)).any (fun u => u == x) = ((t.d.barred.take k).any (fun u => u == x) || (t.d.barred[k] == x)) by
        rw [take_snoc hlt, List.any_append, List.any_cons, List.any_nil, Bool.or_false] <;> rfl)
      have h0 : (irow t.d.barred)[k]? = some (.int .i64 t.d.barred[k]) := by unfold irow; rw [List.getElem?_map, List.getElem?_eq_getElem hlt]; rfl
      obtain ⟨g, cap, hv, hg, hc1, hc2, d0⟩ := own_cell HRW.out.bars h0
      simp only [Value.slice.injEq, true_and] at hv
      obtain ⟨rfl, rfl⟩ := hv
      generalize t.d.barred[k] = ya at *
      generalize (t.d.barred.take k).any (fun u => u == x) = tw at *
      cases tw
      · obtain ⟨q, hq⟩ : ∃ q, (ya == x) = q := ⟨_, rfl⟩
        rw [hq] at HANY


        go_wp2_with fail
        go_quiet (fail)
        go_wp2_with fail
        go_roundw
        case rel => exact ⟨k + 1, by go_num, HLT.out, by rw [HANY.out]; rfl, HO.out.drewN _⟩
        case measure => simp [intOf]; have := HLT.out; omega
      · go_wp2_with fail
        go_quiet (fail)
        go_wp2_with fail
        go_roundw
        case rel => exact ⟨k + 1, by go_num, HLT.out, by rw [HANY.out]; rfl, HO.out.drewN _⟩
        case measure => simp [intOf]; have := HLT.out; omega
    · obtain rfl : k = t.d.barred.length := by omega
      have j1 : ¬ (t.d.barred.length : Int) < t.d.barred.length := by omega
      have HTW := Lib.hid (show hasBar t.d.barred x = (t.d.barred.take t.d.barred.length).any (fun u => u == x) by rw [List.take_length]; rfl)
      generalize (t.d.barred.take t.d.barred.length).any (fun u => u == x) = tw at *
      rw [HTW.out] at HV
      have z6 := HRW.out.frz 12
      have z15 := HRW.out.frz 15
      have k15 := HRW.out.cell 15 rfl
      have hbase : base ≤ wr.heap.size := by omega
      have HON := Lib.hid HRW.out.bars
      have hvb := ownR_blk HRW.out.bars HRW.out.blk (by decide)
      clear hlt hk
      go_wp2_with fail
      refine wp_region_split2 14 (by kernel_rfl) (by kernel_rfl) (wpAny_of_held (S := fun W => W.cell? ⟨B, 12, none⟩ = some (.slice a6 t.d.barred.length c6) ∧ W.cell? ⟨lb, lo, none⟩ = some (.int .i64 x)) _ _ _ _ ?_)
      simp only [List.take_succ_cons, List.take_zero]
      change wpAnyH _ _ _ _ _ _ _ _ wr.drew
      have hHeld : wr.drew.cell? ⟨B, 12, none⟩ = some (.slice a6 t.d.barred.length c6) ∧ wr.drew.cell? ⟨lb, lo, none⟩ = some (.int .i64 x) := ⟨k6, l0⟩
      refine' wpAnyH_take (i := 0) (v := _) rfl (by kernel_rfl) (by kernel_rfl) (by kernel_rfl) (fun _ _ _ h => h) (Or.inl ⟨by rfl, ?hy0⟩) hHeld ?r0
      case hy0 => (intro w hSw; obtain ⟨s6, s0⟩ := hSw; go_simp; with_reducible rfl)
      try simp only [Act.put, List.getElem_toArray, List.getElem_cons_zero, List.setIfInBounds_toArray, List.set_cons_zero, List.set_cons_succ]
      refine' wpAnyH_take (i := 1) (v := _) rfl (by kernel_rfl) (by kernel_rfl) (by kernel_rfl) (fun _ _ _ h => h) (Or.inl ⟨by rfl, ?hy1⟩) hHeld ?r1
      case hy1 => (intro w hSw; obtain ⟨s6, s0⟩ := hSw; go_simp; with_reducible rfl)
      try simp only [Act.put, List.getElem_toArray, List.getElem_cons_zero, List.getElem_cons_succ, List.setIfInBounds_toArray, List.set_cons_zero, List.set_cons_succ]
      refine' wpAnyH_take (i := 2) (v := _) rfl (by kernel_rfl) (by kernel_rfl) (by kernel_rfl) (fun _ _ _ h => h) (Or.inl ⟨by rfl, ?hy2⟩) hHeld ?r2
      case hy2 => (intro w hSw; obtain ⟨s6, s0⟩ := hSw; go_simp; with_reducible rfl)
      try simp only [Act.put, List.getElem_toArray, List.getElem_cons_zero, List.getElem_cons_succ, List.setIfInBounds_toArray, List.set_cons_zero, List.set_cons_succ]
      refine' wpAnyH_take (i := 3) (v := _) rfl (by kernel_rfl) (by kernel_rfl) (by kernel_rfl) (fun _ _ _ h => h) (Or.inl ⟨by rfl, ?hy3⟩) hHeld ?r3
      case hy3 => (intro w hSw; obtain ⟨s6, s0⟩ := hSw; go_simp; with_reducible rfl)
      try simp only [Act.put, List.getElem_toArray, List.getElem_cons_zero, List.getElem_cons_succ, List.setIfInBounds_toArray, List.set_cons_zero, List.set_cons_succ]
      refine' wpAnyH_take (i := 4) (v := _) rfl (by kernel_rfl) (by kernel_rfl) (by kernel_rfl) (fun _ _ _ h => h) (Or.inl ⟨by rfl, ?hy4⟩) hHeld ?r4
      case hy4 => (intro w hSw; obtain ⟨s6, s0⟩ := hSw; go_simp; with_reducible rfl)
      try simp only [Act.put, List.getElem_toArray, List.getElem_cons_zero, List.getElem_cons_succ, List.setIfInBounds_toArray, List.set_cons_zero, List.set_cons_succ]
      refine' wpAnyH_take (i := 5) (v := _) rfl (by kernel_rfl) (by kernel_rfl) (by kernel_rfl) (fun _ _ _ h => h) (Or.inl ⟨by rfl, ?hy5⟩) hHeld ?r5
      case hy5 => (intro w hSw; obtain ⟨s6, s0⟩ := hSw; go_simp; with_reducible rfl)
      try simp only [Act.put, List.getElem_toArray, List.getElem_cons_zero, List.getElem_cons_succ, List.setIfInBounds_toArray, List.set_cons_zero, List.set_cons_succ]
      refine' wpAnyH_take (i := 6) (v := _) rfl (by kernel_rfl) (by kernel_rfl) (by kernel_rfl) (fun _ _ _ h => h) (Or.inl ⟨by rfl, ?hy6⟩) hHeld ?r6
      case hy6 => (intro w hSw; obtain ⟨s6, s0⟩ := hSw; go_simp; with_reducible rfl)
      try simp only [Act.put, List.getElem_toArray, List.getElem_cons_zero, List.getElem_cons_succ, List.setIfInBounds_toArray, List.set_cons_zero, List.set_cons_succ]
      refine' wpAnyH_take (i := 7) (v := _) rfl (by kernel_rfl) (by kernel_rfl) (by kernel_rfl) (fun _ _ _ h => h) (Or.inl ⟨by rfl, ?hy7⟩) hHeld ?r7
      case hy7 => (intro w hSw; obtain ⟨s6, s0⟩ := hSw; go_simp; with_reducible rfl)
      try simp only [Act.put, List.getElem_toArray, List.getElem_cons_zero, List.getElem_cons_succ, List.setIfInBounds_toArray, List.set_cons_zero, List.set_cons_succ]
      refine' wpAnyH_take (i := 8) (v := _) rfl (by kernel_rfl) (by kernel_rfl) (by kernel_rfl) (fun _ _ _ h => h) (Or.inl ⟨by rfl, ?hy8⟩) hHeld ?r8
      case hy8 => (intro w hSw; obtain ⟨s6, s0⟩ := hSw; go_simp; with_reducible rfl)
      try simp only [Act.put, List.getElem_toArray, List.getElem_cons_zero, List.getElem_cons_succ, List.setIfInBounds_toArray, List.set_cons_zero, List.set_cons_succ]
      refine wpAnyH_ready (rs := [9]) (by kernel_rfl) (by simp) ?_
      refine AllReadyH.cons rfl (fun K hK => ?_) AllReadyH.nil
      go_simp
      have HST := Lib.hid ((Only.refl (fun _ => False) wr.drew).alloc (.cells #[.int .i64 x] 3))
      refine hK.out _ _ ⟨HST.out.cell hHeld.1 (fun h => h), HST.out.cell hHeld.2 (fun h => h)⟩ (fun hHeld => ?_)
      clear hK K
      try simp only [Act.put, List.getElem_toArray, List.getElem_cons_zero, List.getElem_cons_succ, List.setIfInBounds_toArray, List.set_cons_zero, List.set_cons_succ]
      refine wpAnyH_ready (rs := [10]) (by kernel_rfl) (by simp) ?_
      refine AllReadyH.cons rfl (fun K hK => ?_) AllReadyH.nil
      refine step_append_lies _ rfl _ _ 24 rfl base 3 i0 _ 1 8 Tryz.underlying24 HI.out HI0.out HI1.out HI2.out rfl (by decide) _ _ _ (by rfl) ((owns_drew HON.out).alloc _) ⟨wr.heap.size, 0, none⟩ 1 1 [.int .i64 x] (by rfl) rfl (by exact newsR' wr.drew _ _) (one_oneR _ rfl) (by decide) (by unfold maxLen; omega) (by omega) (by simp; omega) _ rfl ?_
      intro g cap w1 hown1 hgrow hat hlt
      have hOG := (Only.refl (fun i => (Value.slice a6 t.d.barred.length c6).ownBlock = some i) _).grown hgrow (fun i e _ => e)
      have c1 := hOG.cell hHeld.1 hvb
      have HRA := Lib.hid (HRW.out.still (((Only.refl _ wr).drew).alloc (.cells #[.int .i64 x] 3)))
      have f1 : w1.frozen? ⟨B, 12, none⟩ = false := frozen_of_row _ _ _ _ _ ((hOG.block B HRA.out.lt hvb).trans HRA.out.blk)
      refine hK.out _ _ ⟨c1, hOG.cell hHeld.2 HLB.out⟩ (fun hHeld => ?_)
      clear hK K
      try simp only [Act.put, List.getElem_toArray, List.getElem_cons_zero, List.getElem_cons_succ, List.setIfInBounds_toArray, List.set_cons_zero, List.set_cons_succ]
      refine' wpAnyH_take (i := 11) (v := _) rfl (by kernel_rfl) (by kernel_rfl) (by kernel_rfl) (fun _ _ _ h => h) (Or.inl ⟨by rfl, ?hy11⟩) hHeld ?r11
      case hy11 => (intro w hSw; obtain ⟨s6, s0⟩ := hSw; go_simp; with_reducible rfl)
      try simp only [Act.put, List.getElem_toArray, List.getElem_cons_zero, List.getElem_cons_succ, List.setIfInBounds_toArray, List.set_cons_zero, List.set_cons_succ]
      refine' wpAnyH_take (i := 12) (v := _) rfl (by kernel_rfl) (by kernel_rfl) (by kernel_rfl) (fun _ _ _ h => h) (Or.inl ⟨by rfl, ?hy12⟩) hHeld ?r12
      case hy12 => (intro w hSw; obtain ⟨s6, s0⟩ := hSw; go_simp; with_reducible rfl)
      try simp only [Act.put, List.getElem_toArray, List.getElem_cons_zero, List.getElem_cons_succ, List.setIfInBounds_toArray, List.set_cons_zero, List.set_cons_succ]
      refine' wpAnyH_take (i := 13) (v := _) rfl (by kernel_rfl) (by kernel_rfl) (by kernel_rfl) (fun _ _ _ h => h) (Or.inl ⟨by rfl, ?hy13⟩) hHeld ?r13
      case hy13 => (intro w hSw; obtain ⟨s6, s0⟩ := hSw; go_simp; with_reducible rfl)
      try simp only [Act.put, List.getElem_toArray, List.getElem_cons_zero, List.getElem_cons_succ, List.setIfInBounds_toArray, List.set_cons_zero, List.set_cons_succ]
      refine wpAnyH_done (by kernel_rfl) ?_ _
      simp only [headPost, List.drop_succ_cons, List.drop_zero]
      have HBK := Lib.hid (HRA.out.barBack (x := x) hgrow hown1)
      have HOF := Lib.hid (RdS.set (B := B) (vt := vt) (vp := vp) (vq := vq) (vb := .slice a6 t.d.barred.length c6) (((((HO.out.drew).alloc (.cells #[.int .i64 x] 3)).mono (fun _ _ h => h.elim)).grown hgrow (fun k e _ => .inr (.inr (.inr (.inr e))))) ) 12 (.slice (some ⟨g, 0, none⟩) (t.d.barred.length + 1) cap))
      have c15 : w1.cell? ⟨B, 15, none⟩ = some (.bool t.barred) := cell_of_row _ _ 15 _ _ _ ((hOG.block B HRA.out.lt hvb).trans HRA.out.blk)
      have f15 : w1.frozen? ⟨B, 15, none⟩ = false := frozen_of_row _ _ _ _ _ ((hOG.block B HRA.out.lt hvb).trans HRA.out.blk)
      have HBK := Lib.hid (HBK.out.set (t' := { t with d := { t.d with barred := t.d.barred ++ [x] }, barred := true }) 15 (.bool true) rfl rfl rfl rfl rfl)
      have HOF := Lib.hid (RdS.set HOF.out 15 (.bool true))
      clear hHeld hOG k6 z6 z15 k15
      cases tw
      · by_cases hm : t.d.barred.length < 40
        · have i1 : ¬ (12 : Int) < (t.d.barred.length : Int) + 1 - 28 := by omega
          have HVV := Lib.hid (show takeK t name l 10 = (0, _) by rw [HV.out]; unfold tkAdd; rw [if_neg (by decide), if_pos hm])
          clear hm
          go_wp2_with fail
          go_ret
          exact tk_yes HVV.out rfl HOF.out HBK.out
        · have i1 : (12 : Int) < (t.d.barred.length : Int) + 1 - 28 := by omega
          have HVV := Lib.hid (show takeK t name l 10 = (2, _) by rw [HV.out]; unfold tkAdd; rw [if_neg (by decide), if_neg hm])
          clear hm
          go_wp2_with fail
          go_ret
          exact tk_yes HVV.out rfl HOF.out HBK.out
      · have HVV := Lib.hid (show takeK t name l 10 = (13, _) by rw [HV.out]; unfold tkAdd; rw [if_pos rfl])
        go_wp2_with fail
        go_ret
        exact tk_yes HVV.out rfl HOF.out HBK.out
end Go.Proofs.YteikkpiginfbkaaGreatDoor

namespace Go.Proofs.YteikkpiginfbkaaGreatDoor
open Go.RowKit

def nameTo (n : ByteArray) : List ByteArray → ByteArray
  | [] => n
  | w :: ws => nameTo (if numB w = true then n else w) ws
def numsT : List ByteArray → List Int
  | [] => []
  | w :: ws => if numB w = true then amtV w :: numsT ws else numsT ws
def smallT (ws : List ByteArray) : Bool := smallB (ws.drop 1)
def nameT (ws : List ByteArray) : ByteArray := nameTo ⟨#[]⟩ (ws.drop 1)
/-- The check of a line by its key. -/
def chkZ (t : St) (ws : List ByteArray) : Nat → Int
  | 0 => headZ t 0 [true, true] ws
  | 1 => headZ t 1 [true, false, false] ws
  | 2 => headZ t 1 [true, false] ws
  | 3 => headZ t 1 [true, false] ws
  | 4 => headZ t 2 [true, false] ws
  | 5 => headZ t 3 [true, false] ws
  | 6 => specZ t 1 [true, false, false] ws
  | 7 => specZ t 1 [true] ws
  | 8 => specZ t 2 [true, true, false] ws
  | 9 => specZ t 3 [true, true, false, false] ws
  | 10 => barZ t ws
  | _ => 12
theorem addTo_e2 {e : Int} {tw : Bool} {n most : Nat} {t t' : St} (h : e ≠ 0) : (addTo e tw n most t t').1 = e := by unfold addTo; rw [if_neg h]
theorem headTo_e2 {e : Int} {t t' : St} (h : e ≠ 0) : (headTo e t t').1 = e := by unfold headTo; rw [if_neg h]
theorem chk_err {t : St} {ws : List ByteArray} {k : Nat} (hk : keyOf (wAt ws 0) = k) (h : chkZ t ws k ≠ 0) : (lineZ t ws).1 = chkZ t ws k := by
  have h1 : (lnOf t ws (keyOf (wAt ws 0))).1 = chkZ t ws k := by
    rw [hk]
    match k, h with
    | 0, h => exact headTo_e2 h
    | 1, h => exact headTo_e2 h
    | 2, h => exact headTo_e2 h
    | 3, h => exact headTo_e2 h
    | 4, h => exact headTo_e2 h
    | 5, h => exact headTo_e2 h
    | 6, h => exact addTo_e2 h
    | 7, h => exact headTo_e2 h
    | 8, h => exact addTo_e2 h
    | 9, h => exact addTo_e2 h
    | 10, h => exact addTo_e2 h
    | k + 11, h => rfl
  exact line_err h1 h
theorem head_fit {t : St} {line : Int} {f : List Bool} {ws : List ByteArray} (h : fitB f ws = true) : headZ t line f ws = if t.lines = line then (if smallB ws = true then 0 else 3) else 12 := by
  unfold headZ
  by_cases h2 : t.lines = line
  · rw [if_pos ⟨h2, h⟩, if_pos h2]
  · rw [if_neg (fun e => h2 e.1), if_neg h2]
theorem head_nofit {t : St} {line : Int} {f : List Bool} {ws : List ByteArray} (h : fitB f ws = false) : headZ t line f ws = 12 := by
  unfold headZ
  rw [if_neg (fun e => by rw [h] at e; cases e.2)]
theorem spec_nofit {t : St} {kind : Int} {f : List Bool} {ws : List ByteArray} (h : fitB f ws = false) : specZ t kind f ws = 12 := by
  unfold specZ
  rw [if_neg (fun e => by rw [h] at e; cases e.2.1)]
theorem bar_nofit {t : St} {ws : List ByteArray} (h : fitB [true, false] ws = false) : barZ t ws = 12 := by
  unfold barZ
  rw [if_neg (fun e => by rw [h] at e; cases e.2)]
theorem chk_nofit {t : St} {ws : List ByteArray} {k : Nat} (h : fitB (true :: formK k) ws = false) : chkZ t ws k = 12 := by
  match k, h with
  | 0, h => exact head_nofit h
  | 1, h => exact head_nofit h
  | 2, h => exact head_nofit h
  | 3, h => exact head_nofit h
  | 4, h => exact head_nofit h
  | 5, h => exact head_nofit h
  | 6, h => exact spec_nofit h
  | 7, h => exact spec_nofit h
  | 8, h => exact spec_nofit h
  | 9, h => exact spec_nofit h
  | 10, h => exact bar_nofit h
  | k + 11, h => rfl
theorem follows_no {ln kd : Int} {ro ba : Bool} {s : ByteArray} (h : ∀ j, j < 11 → s ≠ shapeK j) : followsP ln kd ro ba s = 12 := by
  unfold followsP
  have hk := kind_none (s := s) (fun j _ hj => h j hj)
  by_cases h0 : ln = 0
  · rw [if_pos h0, if_neg (show ¬ s = sDraw from h 0 (by decide))]
  rw [if_neg h0]
  by_cases h1 : ln = 1
  · rw [if_pos h1, if_neg (by rintro (e | e | e); exact h 1 (by decide) e; exact h 2 (by decide) e; exact h 3 (by decide) e)]
  rw [if_neg h1]
  by_cases h2 : ln = 2
  · rw [if_pos h2, if_neg (show ¬ s = sRound from h 4 (by decide))]
  rw [if_neg h2]
  by_cases h3 : ln = 3
  · rw [if_pos h3, if_neg (show ¬ s = sPrice from h 5 (by decide))]
  rw [if_neg h3, hk, if_pos (.inl (by decide))]
theorem shape_tab : ∀ k, k < 6 → (shapeK k = sDraw ↔ k = 0) ∧ ((shapeK k = sLottery ∨ shapeK k = sBallot ∨ shapeK k = sPanel) ↔ (k = 1 ∨ k = 2 ∨ k = 3)) ∧ (shapeK k = sRound ↔ k = 4) ∧ (shapeK k = sPrice ↔ k = 5) ∧ kindZ (shapeK k) = -1 := by decide
theorem follows_head {ln kd : Int} {ro ba : Bool} {k : Nat} {j : Int} (hk : k < 6) (hj : (k = 0 ∧ j = 0) ∨ ((k = 1 ∨ k = 2 ∨ k = 3) ∧ j = 1) ∨ (k = 4 ∧ j = 2) ∨ (k = 5 ∧ j = 3)) : followsP ln kd ro ba (shapeK k) = if ln = j then 0 else 12 := by
  obtain ⟨a0, a1, a2, a3, hz⟩ := shape_tab k hk
  unfold followsP
  rw [hz]
  by_cases h0 : ln = 0
  · rw [if_pos h0]
    by_cases e : k = 0
    · rw [if_pos (a0.2 e), if_pos (by omega)]
    · rw [if_neg (fun h => e (a0.1 h)), if_neg (by omega)]
  rw [if_neg h0]
  by_cases h1 : ln = 1
  · rw [if_pos h1]
    by_cases e : k = 1 ∨ k = 2 ∨ k = 3
    · rw [if_pos (a1.2 e), if_pos (by omega)]
    · rw [if_neg (fun h => e (a1.1 h)), if_neg (by omega)]
  rw [if_neg h1]
  by_cases h2 : ln = 2
  · rw [if_pos h2]
    by_cases e : k = 4
    · rw [if_pos (a2.2 e), if_pos (by omega)]
    · rw [if_neg (fun h => e (a2.1 h)), if_neg (by omega)]
  rw [if_neg h2]
  by_cases h3 : ln = 3
  · rw [if_pos h3]
    by_cases e : k = 5
    · rw [if_pos (a3.2 e), if_pos (by omega)]
    · rw [if_neg (fun h => e (a3.1 h)), if_neg (by omega)]
  rw [if_neg h3, if_pos (.inl (by decide)), if_neg (by omega)]
theorem follows_spec {ln kd : Int} {ro ba : Bool} {s : ByteArray} {kz : Int} (h0 : 0 ≤ ln) (hz : kindZ s = kz) (hs : s ≠ sDraw ∧ s ≠ sLottery ∧ s ≠ sBallot ∧ s ≠ sPanel ∧ s ≠ sRound ∧ s ≠ sPrice) (hk : 0 ≤ kz) :
    followsP ln kd ro ba s = if 4 ≤ ln then (if 0 < kz ∧ ba = true then 12 else if 0 < kz ∧ kz ≠ kd then 14 else if kz = 0 ∨ ro = false then 0 else 12) else 12 := by
  unfold followsP
  rw [hz]
  obtain ⟨s0, s1, s2, s3, s4, s5⟩ := hs
  by_cases h4 : 4 ≤ ln
  · rw [if_neg (by omega), if_neg (by omega), if_neg (by omega), if_neg (by omega), if_pos h4]
    by_cases hb : 0 < kz ∧ ba = true
    · rw [if_pos (.inr hb), if_pos hb]
    · rw [if_neg (by rintro (e | e); omega; exact hb e), if_neg hb]
  · rw [if_neg h4]
    by_cases e0 : ln = 0
    · rw [if_pos e0, if_neg s0]
    rw [if_neg e0]
    by_cases e1 : ln = 1
    · rw [if_pos e1, if_neg (by rintro (e | e | e); exact s1 e; exact s2 e; exact s3 e)]
    rw [if_neg e1]
    by_cases e2 : ln = 2
    · rw [if_pos e2, if_neg s4]
    rw [if_neg e2, if_pos (by omega), if_neg s5]
theorem spec_fit {t : St} {kind : Int} {f : List Bool} {ws : List ByteArray} (h : fitB f ws = true) (hk : 0 < kind) : specZ t kind f ws = if 4 ≤ t.lines then (if 0 < kind ∧ t.barred = true then 12 else if 0 < kind ∧ kind ≠ t.d.kind then 14 else if kind = 0 ∨ t.rolled = false then (if smallB ws = true then 0 else 3) else 12) else 12 := by
  unfold specZ
  by_cases h4 : 4 ≤ t.lines
  · rw [if_pos h4]
    cases hb : t.barred with
    | true => rw [if_neg (fun e => by cases e.2.2), if_pos ⟨hk, rfl⟩]
    | false =>
      rw [if_pos ⟨h4, h, rfl⟩, if_neg (show ¬ (0 < kind ∧ (false : Bool) = true) from fun e => by cases e.2)]
      by_cases hkk : t.d.kind = kind
      · rw [if_pos hkk, if_neg (show ¬ (0 < kind ∧ kind ≠ t.d.kind) from fun e => e.2 hkk.symm)]
        cases hr : t.rolled with
        | true => rw [if_neg (by decide), if_neg (show ¬ (kind = 0 ∨ (true : Bool) = false) from by rintro (e | e); omega; cases e)]
        | false => rw [if_pos rfl, if_pos (show kind = 0 ∨ (false : Bool) = false from .inr rfl)]
      · rw [if_neg hkk, if_pos (show 0 < kind ∧ kind ≠ t.d.kind from ⟨hk, fun e => hkk e.symm⟩)]
  · rw [if_neg (fun e => h4 e.1), if_neg h4]
theorem bar_fit {t : St} {ws : List ByteArray} (h : fitB [true, false] ws = true) : barZ t ws = if 4 ≤ t.lines then (if smallB ws = true then 0 else 3) else 12 := by
  unfold barZ
  by_cases h4 : 4 ≤ t.lines
  · rw [if_pos ⟨h4, h⟩, if_pos h4]
  · rw [if_neg (fun e => h4 e.1), if_neg h4]
/-- The check is what follows says, then the size of the numbers. -/
theorem chk_follows {t : St} {ws : List ByteArray} (h : noSp (wAt ws 0).data.toList) (h0 : ws ≠ []) (hl : 0 ≤ t.lines) :
    chkZ t ws (keyOf (wAt ws 0)) = if followsZ t (shapeB ws) = 0 then (if smallB ws = true then 0 else 3) else followsZ t (shapeB ws) := by
  have hgs := fun k hk => good_shape h h0 k hk
  obtain ⟨k, hk⟩ : ∃ k, keyOf (wAt ws 0) = k := ⟨_, rfl⟩
  rw [hk]
  by_cases hk11 : k < 11
  · cases hf : fitB (true :: formK k) ws with
    | false =>
      have hn : followsZ t (shapeB ws) = 12 := follows_no (fun j hj e => by
        obtain ⟨e1, e2⟩ := (hgs j hj).1 e
        rw [hk] at e1
        subst e1
        rw [hf] at e2
        cases e2)
      rw [hn, chk_nofit hf, if_neg (by decide)]
    | true =>
      have hs : shapeB ws = shapeK k := (hgs k hk11).2 ⟨hk, hf⟩
      rw [hs]
      unfold followsZ
      have hd : ∀ (ln j : Int) (b : Bool), (if ln = j then (if b = true then 0 else 3) else 12 : Int) = if (if ln = j then 0 else 12 : Int) = 0 then (if b = true then 0 else 3) else (if ln = j then 0 else 12) := by
        intro ln j b
        by_cases e : ln = j
        · rw [if_pos e, if_pos e, if_pos rfl]
        · rw [if_neg e, if_neg e, if_neg (by decide)]
      have hsp : ∀ (ln kz kd : Int) (ro ba b : Bool), (if 4 ≤ ln then (if 0 < kz ∧ ba = true then 12 else if 0 < kz ∧ kz ≠ kd then 14 else if kz = 0 ∨ ro = false then (if b = true then 0 else 3) else 12) else 12 : Int) =
          if (if 4 ≤ ln then (if 0 < kz ∧ ba = true then 12 else if 0 < kz ∧ kz ≠ kd then 14 else if kz = 0 ∨ ro = false then 0 else 12) else 12 : Int) = 0 then (if b = true then 0 else 3) else (if 4 ≤ ln then (if 0 < kz ∧ ba = true then 12 else if 0 < kz ∧ kz ≠ kd then 14 else if kz = 0 ∨ ro = false then 0 else 12) else 12 : Int) := by
        intro ln kz kd ro ba b
        by_cases e1 : 4 ≤ ln
        · by_cases e2 : 0 < kz ∧ ba = true
          · simp only [if_pos e1, if_pos e2]; rfl
          · by_cases e3 : 0 < kz ∧ kz ≠ kd
            · simp only [if_pos e1, if_neg e2, if_pos e3]; rfl
            · by_cases e4 : kz = 0 ∨ ro = false
              · simp only [if_pos e1, if_neg e2, if_neg e3, if_pos e4]; rfl
              · simp only [if_pos e1, if_neg e2, if_neg e3, if_neg e4]; rfl
        · simp only [if_neg e1]; rfl
      match k, hk11, hf with
      | 0, _, hf => rw [follows_head (j := 0) (by decide) (by decide), ← hd]; exact head_fit hf
      | 1, _, hf => rw [follows_head (j := 1) (by decide) (by decide), ← hd]; exact head_fit hf
      | 2, _, hf => rw [follows_head (j := 1) (by decide) (by decide), ← hd]; exact head_fit hf
      | 3, _, hf => rw [follows_head (j := 1) (by decide) (by decide), ← hd]; exact head_fit hf
      | 4, _, hf => rw [follows_head (j := 2) (by decide) (by decide), ← hd]; exact head_fit hf
      | 5, _, hf => rw [follows_head (j := 3) (by decide) (by decide), ← hd]; exact head_fit hf
      | 6, _, hf => rw [follows_spec (kz := 1) hl kind_6 (by decide) (by decide), ← hsp]; exact spec_fit hf (by decide)
      | 7, _, hf => rw [follows_spec (kz := 1) hl kind_7 (by decide) (by decide), ← hsp]; exact spec_fit hf (by decide)
      | 8, _, hf => rw [follows_spec (kz := 2) hl kind_8 (by decide) (by decide), ← hsp]; exact spec_fit hf (by decide)
      | 9, _, hf => rw [follows_spec (kz := 3) hl kind_9 (by decide) (by decide), ← hsp]; exact spec_fit hf (by decide)
      | 10, _, hf =>
        rw [follows_spec (kz := 0) hl kind_10 (by decide) (by decide), ← hsp]
        rw [show chkZ t ws 10 = barZ t ws from rfl, bar_fit hf]
        by_cases e1 : 4 ≤ t.lines
        · rw [if_pos e1, if_pos e1, if_neg (show ¬ ((0 : Int) < 0 ∧ t.barred = true) from fun e => absurd e.1 (by decide)), if_neg (show ¬ ((0 : Int) < 0 ∧ (0 : Int) ≠ t.d.kind) from fun e => absurd e.1 (by decide)), if_pos (show (0 : Int) = 0 ∨ t.rolled = false from .inl rfl)]
        · rw [if_neg e1, if_neg e1]
      | k + 11, hk, _ => omega
  · have hn : followsZ t (shapeB ws) = 12 := follows_no (fun j hj e => by
      obtain ⟨e1, _⟩ := (hgs j hj).1 e
      omega)
    rw [hn, if_neg (by decide)]
    match k, hk11 with
    | k + 11, _ => rfl
/-- What a line of the reference gives. -/
def refLine (t : St) (ws : List ByteArray) : Int × St :=
  if followsZ t (shapeB ws) ≠ 0 then (followsZ t (shapeB ws), t)
  else if smallT ws = false then (3, t) else takeK { t with lines := t.lines + 1 } (nameT ws) (numsT (ws.drop 1)) (keyOf (wAt ws 0))
theorem small_cons {w : ByteArray} {ws : List ByteArray} (h : numB w = false) : smallB (w :: ws) = smallB ws := by
  unfold smallB; rw [List.all_cons, h]; rfl
theorem small_head {ws : List ByteArray} {k : Nat} (hk : k < 11) (h : keyOf (wAt ws 0) = k) (h0 : ws ≠ []) : smallT ws = smallB ws := by
  cases ws with
  | nil => exact absurd rfl h0
  | cons w ws =>
    have e3 := key_is (w := wAt (w :: ws) 0) (by omega)
    rw [h] at e3
    have e : w = keyW k := e3
    show smallB ws = smallB (w :: ws)
    rw [small_cons (by rw [e]; exact name_not_num (key_nameB k hk))]
theorem nums_1 {a : ByteArray} (ha : numB a = true) : numsT [a] = [amtV a] := by simp [numsT, ha]
theorem nums_2 {a b : ByteArray} (ha : numB a = true) (hb : numB b = true) : numsT [a, b] = [amtV a, amtV b] := by simp [numsT, ha, hb]
theorem nums_n1 {n a : ByteArray} (hn : nameB n = true) (ha : numB a = true) : numsT [n, a] = [amtV a] := by simp [numsT, ha, name_not_num hn]
theorem nums_n2 {n a b : ByteArray} (hn : nameB n = true) (ha : numB a = true) (hb : numB b = true) : numsT [n, a, b] = [amtV a, amtV b] := by simp [numsT, ha, hb, name_not_num hn]
theorem nums_n {n : ByteArray} (hn : nameB n = true) : numsT [n] = [] := by simp [numsT, name_not_num hn]
theorem name_n {m n : ByteArray} (hn : nameB n = true) : nameTo m [n] = n := by simp [nameTo, name_not_num hn]
theorem name_n1 {m n a : ByteArray} (hn : nameB n = true) (ha : numB a = true) : nameTo m [n, a] = n := by simp [nameTo, name_not_num hn, ha]
theorem name_n2 {m n a b : ByteArray} (hn : nameB n = true) (ha : numB a = true) (hb : numB b = true) : nameTo m [n, a, b] = n := by simp [nameTo, name_not_num hn, ha, hb]
/-- How many numbers a line of a key has. -/
def numsK : Nat → Nat
  | 0 => 0
  | 1 => 2
  | 2 => 1
  | 3 => 1
  | 4 => 1
  | 5 => 1
  | 6 => 2
  | 7 => 0
  | 8 => 1
  | 9 => 2
  | _ => 1
theorem nums_len {ws : List ByteArray} {k : Nat} (hk : k < 11) (hf : fitB (true :: formK k) ws = true) : (numsT (ws.drop 1)).length = numsK k := by
  match k, hk, hf with
  | 0, _, hf => obtain ⟨a, b, rfl, ha, hb⟩ := fit_2n hf; show (numsT [b]).length = 0; rw [nums_n hb]; rfl
  | 1, _, hf => obtain ⟨a, b, c, rfl, ha, hb, hc⟩ := fit_3 hf; show (numsT [b, c]).length = 2; rw [nums_2 hb hc]; rfl
  | 2, _, hf => obtain ⟨a, b, rfl, ha, hb⟩ := fit_2 hf; show (numsT [b]).length = 1; rw [nums_1 hb]; rfl
  | 3, _, hf => obtain ⟨a, b, rfl, ha, hb⟩ := fit_2 hf; show (numsT [b]).length = 1; rw [nums_1 hb]; rfl
  | 4, _, hf => obtain ⟨a, b, rfl, ha, hb⟩ := fit_2 hf; show (numsT [b]).length = 1; rw [nums_1 hb]; rfl
  | 5, _, hf => obtain ⟨a, b, rfl, ha, hb⟩ := fit_2 hf; show (numsT [b]).length = 1; rw [nums_1 hb]; rfl
  | 6, _, hf => obtain ⟨a, b, c, rfl, ha, hb, hc⟩ := fit_3 hf; show (numsT [b, c]).length = 2; rw [nums_2 hb hc]; rfl
  | 7, _, hf => obtain ⟨a, rfl, ha⟩ := fit_1 hf; rfl
  | 8, _, hf => obtain ⟨a, b, c, rfl, ha, hb, hc⟩ := fit_3n hf; show (numsT [b, c]).length = 1; rw [nums_n1 hb hc]; rfl
  | 9, _, hf => obtain ⟨a, b, c, e, rfl, ha, hb, hc, he⟩ := fit_4 hf; show (numsT [b, c, e]).length = 2; rw [nums_n2 hb hc he]; rfl
  | 10, _, hf => obtain ⟨a, b, rfl, ha, hb⟩ := fit_2 hf; show (numsT [b]).length = 1; rw [nums_1 hb]; rfl
  | k + 11, h, _ => omega
theorem follows_good {t : St} {ws : List ByteArray} (h : noSp (wAt ws 0).data.toList) (h0 : ws ≠ []) (hf : followsZ t (shapeB ws) = 0) : ∃ k, k < 11 ∧ goodL ws k := by
  by_cases hx : ∃ k, k < 11 ∧ shapeB ws = shapeK k
  · obtain ⟨k, hk, e⟩ := hx
    exact ⟨k, hk, (good_shape h h0 k hk).1 e⟩
  · have : followsZ t (shapeB ws) = 12 := follows_no (fun j hj e => hx ⟨j, hj, e⟩)
    rw [this] at hf
    cases hf
theorem tk_add {t t' : St} {e : Int} {tw : Bool} {n most : Nat} (he : e = 0) :
    ((tkAdd tw n most { t' with lines := t.lines + 1 }).1 = 0 → addTo e tw n most t t' = (0, t') ∧ (tkAdd tw n most { t' with lines := t.lines + 1 }).2 = { t' with lines := t.lines + 1 }) ∧
    ((tkAdd tw n most { t' with lines := t.lines + 1 }).1 ≠ 0 → (addTo e tw n most t t').1 = (tkAdd tw n most { t' with lines := t.lines + 1 }).1) := by
  subst he
  unfold tkAdd addTo
  cases tw with
  | true => exact ⟨(fun h => (by cases h)), fun _ => rfl⟩
  | false =>
    by_cases hn : n < most
    · simp [hn]
    · simp [hn]
/-- What is taken, and what the program does with the line. -/
theorem take_line {t : St} {ws : List ByteArray} {k : Nat} (hk : k < 11) (hg : goodL ws k) (hc : chkZ t ws k = 0) :
    ((takeK { t with lines := t.lines + 1 } (nameT ws) (numsT (ws.drop 1)) k).1 = 0 → lineZ t ws = (0, (takeK { t with lines := t.lines + 1 } (nameT ws) (numsT (ws.drop 1)) k).2)) ∧
    ((takeK { t with lines := t.lines + 1 } (nameT ws) (numsT (ws.drop 1)) k).1 ≠ 0 → (lineZ t ws).1 = (takeK { t with lines := t.lines + 1 } (nameT ws) (numsT (ws.drop 1)) k).1) := by
  obtain ⟨hkey, hf⟩ := hg
  have yes : ∀ t', lnOf t ws k = (0, t') → lineZ t ws = (0, { t' with lines := t.lines + 1 }) := fun t' h => line_of hkey h
  have no : ∀ e, (lnOf t ws k).1 = e → e ≠ 0 → (lineZ t ws).1 = e := fun e h he => line_err (by rw [hkey]; exact h) he
  have add : ∀ (e : Int) (tw : Bool) (n most : Nat) (t' : St) (r : Int × St), e = 0 → r = tkAdd tw n most { t' with lines := t.lines + 1 } → lnOf t ws k = addTo e tw n most t t' → (r.1 = 0 → lineZ t ws = (0, r.2)) ∧ (r.1 ≠ 0 → (lineZ t ws).1 = r.1) := by
    intro e tw n most t' r he hr hl
    obtain ⟨h1, h2⟩ := tk_add (t := t) (t' := t') (tw := tw) (n := n) (most := most) he
    subst hr
    refine ⟨fun h => ?_, fun h => no _ (by rw [hl]; exact h2 h) h⟩
    obtain ⟨a, b⟩ := h1 h
    rw [b]
    exact yes t' (by rw [hl]; exact a)
  have simp0 : ∀ (t' : St) (r : Int × St), r = (0, { t' with lines := t.lines + 1 }) → lnOf t ws k = (0, t') → (r.1 = 0 → lineZ t ws = (0, r.2)) ∧ (r.1 ≠ 0 → (lineZ t ws).1 = r.1) := by
    intro t' r hr hl
    subst hr
    exact ⟨fun _ => yes t' hl, fun h => absurd rfl h⟩
  match k, hk, hf, hc with
  | 0, _, hf, hc =>
    obtain ⟨a, b, rfl, ha, hb⟩ := fit_2n hf
    refine simp0 { t with d := { t.d with name := b } } _ ?_ (headTo_z hc)
    show (0, _) = _
    rw [show nameT [a, b] = b from name_n hb]
  | 1, _, hf, hc =>
    obtain ⟨a, b, c, rfl, ha, hb, hcc⟩ := fit_3 hf
    refine simp0 { t with d := { t.d with kind := 1, pool := amtV b, pick := amtV c } } _ ?_ (headTo_z hc)
    show takeK _ _ (numsT [b, c]) 1 = _
    rw [nums_2 hb hcc]; rfl
  | 2, _, hf, hc =>
    obtain ⟨a, b, rfl, ha, hb⟩ := fit_2 hf
    refine simp0 { t with d := { t.d with kind := 2, cls := amtV b } } _ ?_ (headTo_z hc)
    show takeK _ _ (numsT [b]) 2 = _
    rw [nums_1 hb]; rfl
  | 3, _, hf, hc =>
    obtain ⟨a, b, rfl, ha, hb⟩ := fit_2 hf
    refine simp0 { t with d := { t.d with kind := 3, size := amtV b } } _ ?_ (headTo_z hc)
    show takeK _ _ (numsT [b]) 3 = _
    rw [nums_1 hb]; rfl
  | 4, _, hf, hc =>
    obtain ⟨a, b, rfl, ha, hb⟩ := fit_2 hf
    refine simp0 { t with d := { t.d with round := amtV b } } _ ?_ (headTo_z hc)
    show takeK _ _ (numsT [b]) 4 = _
    rw [nums_1 hb]; rfl
  | 5, _, hf, hc =>
    obtain ⟨a, b, rfl, ha, hb⟩ := fit_2 hf
    refine simp0 { t with d := { t.d with price := amtV b } } _ ?_ (headTo_z hc)
    show takeK _ _ (numsT [b]) 5 = _
    rw [nums_1 hb]; rfl
  | 6, _, hf, hc =>
    obtain ⟨a, b, c, rfl, ha, hb, hcc⟩ := fit_3 hf
    refine add (chkZ t [a, b, c] 6) (hasTier t.d.tiers (amtV b)) t.d.tiers.length 12 { t with d := { t.d with tiers := t.d.tiers ++ [(amtV b, amtV c)] } } _ hc ?_ rfl
    show takeK _ _ (numsT [b, c]) 6 = _
    rw [nums_2 hb hcc]; rfl
  | 7, _, hf, hc =>
    obtain ⟨a, rfl, ha⟩ := fit_1 hf
    exact simp0 { t with d := { t.d with roll := true }, rolled := true } _ rfl (headTo_z hc)
  | 8, _, hf, hc =>
    obtain ⟨a, b, c, rfl, ha, hb, hcc⟩ := fit_3n hf
    refine add (chkZ t [a, b, c] 8) (hasPlace t.d.places b) t.d.places.length 12 { t with d := { t.d with places := t.d.places ++ [(b, amtV c)] } } _ hc ?_ rfl
    show takeK _ (nameTo ⟨#[]⟩ [b, c]) (numsT [b, c]) 8 = _
    rw [nums_n1 hb hcc, name_n1 hb hcc]; rfl
  | 9, _, hf, hc =>
    obtain ⟨a, b, c, e, rfl, ha, hb, hcc, hee⟩ := fit_4 hf
    refine add (chkZ t [a, b, c, e] 9) (hasQuota t.d.quotas b) t.d.quotas.length 12 { t with d := { t.d with quotas := t.d.quotas ++ [(b, amtV c, amtV e)] } } _ hc ?_ rfl
    show takeK _ (nameTo ⟨#[]⟩ [b, c, e]) (numsT [b, c, e]) 9 = _
    rw [nums_n2 hb hcc hee, name_n2 hb hcc hee]; rfl
  | 10, _, hf, hc =>
    obtain ⟨a, b, rfl, ha, hb⟩ := fit_2 hf
    refine add (chkZ t [a, b] 10) (hasBar t.d.barred (amtV b)) t.d.barred.length 40 { t with d := { t.d with barred := t.d.barred ++ [amtV b] }, barred := true } _ hc ?_ rfl
    show takeK _ _ (numsT [b]) 10 = _
    rw [nums_1 hb]; rfl
  | k + 11, h, _, _ => omega
/-- The reference's line and the program's. -/
theorem ref_line {t : St} {ws : List ByteArray} (h : noSp (wAt ws 0).data.toList) (h0 : ws ≠ []) (hl : 0 ≤ t.lines) :
    ((refLine t ws).1 = 0 → lineZ t ws = (0, (refLine t ws).2)) ∧ ((refLine t ws).1 ≠ 0 → (lineZ t ws).1 = (refLine t ws).1) := by
  have hc := chk_follows (t := t) h h0 hl
  unfold refLine
  by_cases hF : followsZ t (shapeB ws) = 0
  · rw [if_pos hF] at hc
    rw [if_neg (fun e => e hF)]
    obtain ⟨k, hk, hg⟩ := follows_good h h0 hF
    have hkey := hg.1
    rw [hkey] at hc ⊢
    have hsm := small_head hk hkey h0
    cases hs : smallB ws with
    | false =>
      rw [hs] at hc hsm
      rw [if_pos hsm]
      refine ⟨fun e => absurd e (by show (3 : Int) ≠ 0; decide), fun _ => ?_⟩
      rw [chk_err hkey (by rw [hc]; decide), hc]; rfl
    | true =>
      rw [hs] at hc hsm
      rw [if_neg (by rw [hsm]; decide)]
      exact take_line hk hg hc
  · rw [if_neg hF] at hc
    rw [if_pos hF]
    refine ⟨fun e => absurd e hF, fun _ => ?_⟩
    rw [chk_err rfl (by rw [hc]; exact hF), hc]
end Go.Proofs.YteikkpiginfbkaaGreatDoor
