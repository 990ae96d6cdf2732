/-
  Rules: the listed variables; the program's text and right.
-/
import Derived.Test.YteikkpiginfbkaaGreatDoorPg18
import Derived.Lib.ItoaLen
namespace Go.Proofs.YteikkpiginfbkaaGreatDoor
open Go.RowKit

theorem Tryz.namedPow : Tryz.prog.globalNamed "internal/strconv.uint64pow10" = some 1 := by kernel_rfl
theorem tabIsU_only {P : Program} {A B : World} {name : String} {k : IntKind} {zs : List Int} {g : Nat} (h : Lib.TabIs P A name k zs) (hg : P.globalNamed name = some g) (hO : Only (fun _ => False) A B) : Lib.TabIs P B name k zs := by
  have hb : ∃ t fr, A.heap[g]? = some (.cells (zs.map fun z => Value.int k z).toArray t fr) := by
    unfold Lib.TabIs World.var? at h
    rw [hg, Option.bind_some] at h
    split at h
    · rename_i c t fr hb
      cases h
      exact ⟨t, fr, hb⟩
    · cases h
  obtain ⟨t, fr, hb⟩ := hb
  unfold Lib.TabIs World.var?
  rw [hg, Option.bind_some, hO.block g (Array.getElem?_eq_some_iff.1 hb).1 (fun h => h), hb]
/-- The listed variables that the program's texts read. -/
structure GlobU (w : World) : Prop where
  pow : Lib.TabIs Tryz.prog w "internal/strconv.uint64pow10" .u64 Lib.pow10Tab
  len : LenR w
theorem GlobU.only {a b : World} (h : GlobU a) (hO : Only (fun _ => False) a b) : GlobU b := ⟨tabIsU_only h.pow Tryz.namedPow hO, h.len.only hO (fun h => h)⟩
theorem only_growU (w : World) (k : Nat) (os : Array Obj) : Only (fun _ => False) w (Go.Sort.grow (w.drewN k) os) :=
  ⟨rfl, rfl, rfl, by simp [Go.Sort.grow], fun b hb _ => by simp only [Go.Sort.grow]; rw [Array.getElem?_append_left (by exact hb)]; rfl⟩
theorem itoaU_any (n : Int) (w : World) (h : R64 n) (hG : GlobU w) :
    Calls Tryz.prog 64 #[.int .i64 n] w fun e w' => e = .returned (.string ⟨(Lib.itoa n).toArray⟩) ∧ Only (fun _ => False) w w' :=
  (Tryz.strconv_Itoa n h.1 h.2 w hG.pow).mono fun e w' h => by
    obtain ⟨he, k, os, hw⟩ := h
    exact ⟨he, hw ▸ only_growU w k os⟩
def numU (n : Int) : ByteArray := ⟨#[32]⟩ ++ ⟨(Lib.itoa n).toArray⟩
/-- A word and numbers, with blanks between them. -/
def textU (word : ByteArray) (ns : List Int) : ByteArray := ns.foldl (fun s n => s ++ numU n) word
theorem numU_size {n : Int} (h : R64 n) : (numU n).size ≤ 22 := by
  have : (⟨(Lib.itoa n).toArray⟩ : ByteArray).size ≤ 21 := Lib.itoa_length_le n h.1 h.2
  unfold numU
  rw [ByteArray.size_append]
  have : (⟨#[32]⟩ : ByteArray).size = 1 := rfl
  omega
theorem textU_snoc (word : ByteArray) (l : List Int) (n : Int) : textU word (l ++ [n]) = textU word l ++ numU n := by unfold textU; rw [List.foldl_append]; rfl
theorem textU_take {word : ByteArray} {ns : List Int} {k : Nat} (hk : k < ns.length) : textU word (ns.take (k + 1)) = textU word (ns.take k) ++ numU (ptAt ns k) := by
  rw [take_snoc hk, textU_snoc]
  congr 2
  unfold ptAt; simp [List.getD, hk]
theorem textU_size {word : ByteArray} : ∀ {ns : List Int}, (∀ n ∈ ns, R64 n) → (textU word ns).size ≤ word.size + 22 * ns.length
  | [], _ => Nat.le_refl _
  | n :: ns, h => by
    have h1 := numU_size (h n List.mem_cons_self)
    have h2 := textU_size (word := word ++ numU n) (fun m hm => h m (List.mem_cons_of_mem _ hm))
    rw [ByteArray.size_append] at h2
    show (textU (word ++ numU n) ns).size ≤ _
    rw [List.length_cons]
    omega
set_option maxRecDepth 100000 in
set_option maxHeartbeats 2000000 in
theorem text_any (word : ByteArray) (a : Option Addr) (c : Nat) (ns : List Int) (w : World) (hI : PtsAt w.heap.size w (.slice a ns.length c) ns) (hl : ns.length ≤ 1000) (hw : word.size ≤ 1000000) (hR : ∀ n ∈ ns, R64 n) (hG : GlobU w) :
    Calls Tryz.prog 29 #[.string word, .slice a ns.length c] w fun e w' => e = .returned (.string (textU word ns)) ∧ Only (fun _ => False) w w' := by
  have HI := Lib.hid hI
  have HG := Lib.hid hG
  have HR := Lib.hid hR
  clear hI hG hR
  go_enter Tryz.func29, Tryz.ntmps29
  go_wp2_with fail
  go_loopw [0, 9] (fun s i wr => ∃ k : Nat, i = .int .i64 k ∧ k ≤ ns.length ∧ s = .string (textU word (ns.take k)) ∧ Only (fun _ => False) w wr) (fun _ i _ => ns.length - (intOf i).toNat)
  case atStart => exact ⟨0, rfl, Nat.zero_le _, rfl, Only.refl _ _⟩
  case round =>
    obtain ⟨k, rfl, hk, rfl, hO⟩ := hrel
    have HO := Lib.hid hO
    have HI2 := Lib.hid (show PtsAt wr.heap.size wr (.slice a ns.length c) ns from PtsAt.only hO HI.out)
    clear hO
    by_cases hlt : k < ns.length
    · have j1 : (k : Int) < ns.length := by omega
      have j2 : 0 ≤ (k : Int) := by omega
      obtain ⟨b, off, rfl, hbl, hl0, hcp1, hcp2, hcell⟩ := HI2.out.cellAt hlt
      have HS := Lib.hid (textU_size (word := word) (ns := ns.take k) (fun n hn => HR.out n (List.mem_of_mem_take hn)))
      have HN := Lib.hid (textU_take (word := word) hlt)
      have hz : R64 (ptAt ns k) := HR.out _ (by unfold ptAt; simp [List.getD, hlt])
      have HZ := Lib.hid (numU_size hz)
      have HIT := Lib.hid (itoaU_any (ptAt ns k) wr hz (HG.out.only HO.out))
      have HU := Lib.hid (show numU (ptAt ns k) = ⟨#[32]⟩ ++ ⟨(Lib.itoa (ptAt ns k)).toArray⟩ from rfl)
      have hsz := HS.out
      have hsz2 := HZ.out
      rw [HU.out, ByteArray.size_append, show (⟨#[32]⟩ : ByteArray).size = 1 from rfl] at hsz2
      rw [List.length_take, Nat.min_eq_left hk] at hsz
      rw [HU.out] at HN
      generalize (⟨(Lib.itoa (ptAt ns k)).toArray⟩ : ByteArray) = u at *
      generalize ptAt ns k = z at *
      generalize textU word (ns.take k) = s at *
      clear hz hl0
      go_wp2_with fail
      refine HIT.out.mono ?_
      rintro e w2 ⟨rfl, hO2⟩
      have HO2 := Lib.hid (HO.out.trans hO2)
      clear hO2
      have i1 : ¬ (9223372036854775807 < s.size + (1 + u.size)) := by omega
      have i2 : ¬ (9223372036854775807 < 1 + u.size) := by omega
      go_wp2_with fail
      go_roundw
      case rel => exact ⟨k + 1, by go_num, hlt, by rw [HN.out], HO2.out⟩
      case measure => simp [intOf]; omega
    · obtain rfl : k = ns.length := by omega
      have j1 : ¬ (ns.length : Int) < ns.length := by omega
      have HE := Lib.hid (show textU word (ns.take ns.length) = textU word ns by rw [List.take_length])
      go_wp2_with fail
      go_ret
      rw [← HE.out]
      exact ⟨rfl, HO.out⟩
theorem pts_six (w : World) (a b c d e f : Int) : PtsAt (w.alloc (.cells #[.int .i64 a, .int .i64 b, .int .i64 c, .int .i64 d, .int .i64 e, .int .i64 f] 3)).heap.size (w.alloc (.cells #[.int .i64 a, .int .i64 b, .int .i64 c, .int .i64 d, .int .i64 e, .int .i64 f] 3)) (.slice (some ⟨w.heap.size, 0, none⟩) [a, b, c, d, e, f].length 6) [a, b, c, d, e, f] :=
  pts_new w [a, b, c, d, e, f] (by simp) (by simp)
theorem right_parts (d : Dr) : rightZ d = (ownsZ d && nameB d.name && [d.round, d.price, d.pool, d.pick, d.cls, d.size].all rgB && listsZ d) := rfl
set_option maxRecDepth 100000 in
set_option maxHeartbeats 4000000 in
theorem right_any (d : Dr) (vt vp vq vb : Value) (bb : Bool) (base : Nat) (w : World) (hd : DrOwn base w d vt vp vq vb) (hb : rightZ d = bb) (hbig : d.tiers.length ≤ 1000000 ∧ d.places.length ≤ 1000000 ∧ d.quotas.length ≤ 1000000 ∧ d.barred.length ≤ 1000000) :
    Calls Tryz.prog 28 #[.agg (drCells d vt vp vq vb)] w fun e w' => e = .returned (.bool bb) ∧ Only (fun _ => False) w w' := by
  obtain ⟨b1, h1⟩ : ∃ b, ownsZ d = b := ⟨_, rfl⟩
  obtain ⟨b2, h2⟩ : ∃ b, nameB d.name = b := ⟨_, rfl⟩
  obtain ⟨b3, h3⟩ : ∃ b, [d.round, d.price, d.pool, d.pick, d.cls, d.size].all rgB = b := ⟨_, rfl⟩
  obtain ⟨b4, h4⟩ : ∃ b, listsZ d = b := ⟨_, rfl⟩
  rw [right_parts, h1, h2, h3, h4] at hb
  have HB := Lib.hid hb
  have HD := Lib.hid hd
  have HC1 := Lib.hid (fun (w : World) (hd : DrOwn base w d vt vp vq vb) => owns_any d vt vp vq vb b1 base w hd h1)
  have HC2 := Lib.hid (fun (w : World) => isname_any d.name b2 w h2)
  have HC4 := Lib.hid (fun (w : World) (hd : DrOwn base w d vt vp vq vb) => lists_any d vt vp vq vb b4 base w hd h4 hbig)
  have HB3 := Lib.hid h3
  have HZ := Lib.hid (heap_alloc_last w (.cells (drCells d vt vp vq vb) 33))
  have HO := Lib.hid ((Only.refl (fun _ => False) w).alloc (.cells (drCells d vt vp vq vb) 33))
  clear hb hd h1 h2 h3 h4 hbig
  go_enter Tryz.func28, Tryz.ntmps28
  go_upto_region 1 with (fail)
  generalize World.alloc w _ = w1 at *
  have HD1 := Lib.hid (HD.out.only HO.out (fun _ _ h => h))
  have c0 : w1.cell? ⟨w.heap.size, 0, none⟩ = some (Value.string d.name) := cell_of_row _ _ 0 _ _ _ HZ.out
  have c1 : w1.cell? ⟨w.heap.size, 1, none⟩ = some (Value.int .i64 d.kind) := cell_of_row _ _ 1 _ _ _ HZ.out
  have c2 : w1.cell? ⟨w.heap.size, 2, none⟩ = some (Value.int .i64 d.round) := cell_of_row _ _ 2 _ _ _ HZ.out
  have c3 : w1.cell? ⟨w.heap.size, 3, none⟩ = some (Value.int .i64 d.price) := cell_of_row _ _ 3 _ _ _ HZ.out
  have c4 : w1.cell? ⟨w.heap.size, 4, none⟩ = some (Value.int .i64 d.pool) := cell_of_row _ _ 4 _ _ _ HZ.out
  have c5 : w1.cell? ⟨w.heap.size, 5, none⟩ = some (Value.int .i64 d.pick) := cell_of_row _ _ 5 _ _ _ HZ.out
  have c6 : w1.cell? ⟨w.heap.size, 6, none⟩ = some (vt) := cell_of_row _ _ 6 _ _ _ HZ.out
  have c7 : w1.cell? ⟨w.heap.size, 7, none⟩ = some (Value.bool d.roll) := cell_of_row _ _ 7 _ _ _ HZ.out
  have c8 : w1.cell? ⟨w.heap.size, 8, none⟩ = some (vp) := cell_of_row _ _ 8 _ _ _ HZ.out
  have c9 : w1.cell? ⟨w.heap.size, 9, none⟩ = some (Value.int .i64 d.cls) := cell_of_row _ _ 9 _ _ _ HZ.out
  have c10 : w1.cell? ⟨w.heap.size, 10, none⟩ = some (Value.int .i64 d.size) := cell_of_row _ _ 10 _ _ _ HZ.out
  have c11 : w1.cell? ⟨w.heap.size, 11, none⟩ = some (vq) := cell_of_row _ _ 11 _ _ _ HZ.out
  have c12 : w1.cell? ⟨w.heap.size, 12, none⟩ = some (vb) := cell_of_row _ _ 12 _ _ _ HZ.out
  cases b1
  · obtain rfl : false = bb := HB.out
    go_wp2_with fail
    refine (HC1.out _ HD1.out).mono ?_
    rintro e w2 ⟨rfl, hO2⟩
    go_wp2_with fail
    go_ret
    exact ⟨rfl, HO.out.trans hO2⟩
  go_wp2_with fail
  refine (HC1.out _ HD1.out).mono ?_
  rintro e w2 ⟨rfl, hO2⟩
  have HO2 := Lib.hid (HO.out.trans hO2)
  have HZ2 := Lib.hid (row_still hO2 HZ.out)
  have HD2 := Lib.hid (HD1.out.only hO2 (fun _ _ h => h))
  clear hO2 c0 c1 c2 c3 c4 c5 c6 c7 c8 c9 c10 c11 c12
  have d0 : w2.cell? ⟨w.heap.size, 0, none⟩ = some (Value.string d.name) := cell_of_row _ _ 0 _ _ _ HZ2.out
  have d1 : w2.cell? ⟨w.heap.size, 1, none⟩ = some (Value.int .i64 d.kind) := cell_of_row _ _ 1 _ _ _ HZ2.out
  have d2 : w2.cell? ⟨w.heap.size, 2, none⟩ = some (Value.int .i64 d.round) := cell_of_row _ _ 2 _ _ _ HZ2.out
  have d3 : w2.cell? ⟨w.heap.size, 3, none⟩ = some (Value.int .i64 d.price) := cell_of_row _ _ 3 _ _ _ HZ2.out
  have d4 : w2.cell? ⟨w.heap.size, 4, none⟩ = some (Value.int .i64 d.pool) := cell_of_row _ _ 4 _ _ _ HZ2.out
  have d5 : w2.cell? ⟨w.heap.size, 5, none⟩ = some (Value.int .i64 d.pick) := cell_of_row _ _ 5 _ _ _ HZ2.out
  have d6 : w2.cell? ⟨w.heap.size, 6, none⟩ = some (vt) := cell_of_row _ _ 6 _ _ _ HZ2.out
  have d7 : w2.cell? ⟨w.heap.size, 7, none⟩ = some (Value.bool d.roll) := cell_of_row _ _ 7 _ _ _ HZ2.out
  have d8 : w2.cell? ⟨w.heap.size, 8, none⟩ = some (vp) := cell_of_row _ _ 8 _ _ _ HZ2.out
  have d9 : w2.cell? ⟨w.heap.size, 9, none⟩ = some (Value.int .i64 d.cls) := cell_of_row _ _ 9 _ _ _ HZ2.out
  have d10 : w2.cell? ⟨w.heap.size, 10, none⟩ = some (Value.int .i64 d.size) := cell_of_row _ _ 10 _ _ _ HZ2.out
  have d11 : w2.cell? ⟨w.heap.size, 11, none⟩ = some (vq) := cell_of_row _ _ 11 _ _ _ HZ2.out
  have d12 : w2.cell? ⟨w.heap.size, 12, none⟩ = some (vb) := cell_of_row _ _ 12 _ _ _ HZ2.out
  cases b2
  · obtain rfl : false = bb := HB.out
    go_wp2_with fail
    refine (HC2.out _).mono ?_
    rintro e w3 ⟨rfl, rfl⟩
    go_wp2_with fail
    go_ret
    exact ⟨rfl, HO2.out⟩
  go_wp2_with fail
  refine (HC2.out _).mono ?_
  rintro e w3 ⟨rfl, rfl⟩
  go_wp2_with fail
  have HP := Lib.hid (pts_six w2 d.round d.price d.pool d.pick d.cls d.size)
  have HO3 := Lib.hid (HO2.out.alloc (.cells #[.int .i64 d.round, .int .i64 d.price, .int .i64 d.pool, .int .i64 d.pick, .int .i64 d.cls, .int .i64 d.size] 3))
  have HZ3 := Lib.hid (row_still ((Only.refl (fun _ => False) w2).alloc (.cells #[.int .i64 d.round, .int .i64 d.price, .int .i64 d.pool, .int .i64 d.pick, .int .i64 d.cls, .int .i64 d.size] 3)) HZ2.out)
  have HD3 := Lib.hid (HD2.out.only ((Only.refl (fun _ => False) w2).alloc (.cells #[.int .i64 d.round, .int .i64 d.price, .int .i64 d.pool, .int .i64 d.pick, .int .i64 d.cls, .int .i64 d.size] 3)) (fun _ _ h => h))
  cases b3
  · obtain rfl : false = bb := HB.out
    refine (range_any _ _ _ false _ HP.out HB3.out (by simp)).mono ?_
    rintro e w3 ⟨rfl, rfl⟩
    go_wp2_with fail
    go_ret
    exact ⟨rfl, HO3.out⟩
  refine (range_any _ _ _ true _ HP.out HB3.out (by simp)).mono ?_
  rintro e w3 ⟨rfl, rfl⟩
  generalize World.alloc w2 _ = w3 at *
  clear d0 d1 d2 d3 d4 d5 d6 d7 d8 d9 d10 d11 d12
  have f0 : w3.cell? ⟨w.heap.size, 0, none⟩ = some (Value.string d.name) := cell_of_row _ _ 0 _ _ _ HZ3.out
  have f1 : w3.cell? ⟨w.heap.size, 1, none⟩ = some (Value.int .i64 d.kind) := cell_of_row _ _ 1 _ _ _ HZ3.out
  have f2 : w3.cell? ⟨w.heap.size, 2, none⟩ = some (Value.int .i64 d.round) := cell_of_row _ _ 2 _ _ _ HZ3.out
  have f3 : w3.cell? ⟨w.heap.size, 3, none⟩ = some (Value.int .i64 d.price) := cell_of_row _ _ 3 _ _ _ HZ3.out
  have f4 : w3.cell? ⟨w.heap.size, 4, none⟩ = some (Value.int .i64 d.pool) := cell_of_row _ _ 4 _ _ _ HZ3.out
  have f5 : w3.cell? ⟨w.heap.size, 5, none⟩ = some (Value.int .i64 d.pick) := cell_of_row _ _ 5 _ _ _ HZ3.out
  have f6 : w3.cell? ⟨w.heap.size, 6, none⟩ = some (vt) := cell_of_row _ _ 6 _ _ _ HZ3.out
  have f7 : w3.cell? ⟨w.heap.size, 7, none⟩ = some (Value.bool d.roll) := cell_of_row _ _ 7 _ _ _ HZ3.out
  have f8 : w3.cell? ⟨w.heap.size, 8, none⟩ = some (vp) := cell_of_row _ _ 8 _ _ _ HZ3.out
  have f9 : w3.cell? ⟨w.heap.size, 9, none⟩ = some (Value.int .i64 d.cls) := cell_of_row _ _ 9 _ _ _ HZ3.out
  have f10 : w3.cell? ⟨w.heap.size, 10, none⟩ = some (Value.int .i64 d.size) := cell_of_row _ _ 10 _ _ _ HZ3.out
  have f11 : w3.cell? ⟨w.heap.size, 11, none⟩ = some (vq) := cell_of_row _ _ 11 _ _ _ HZ3.out
  have f12 : w3.cell? ⟨w.heap.size, 12, none⟩ = some (vb) := cell_of_row _ _ 12 _ _ _ HZ3.out
  obtain rfl : b4 = bb := by have := HB.out; simpa using this
  go_wp2_with fail
  refine (HC4.out _ HD3.out).mono ?_
  rintro e w4 ⟨rfl, hO4⟩
  go_wp2_with fail
  go_ret
  exact ⟨rfl, HO3.out.trans hO4⟩
end Go.Proofs.YteikkpiginfbkaaGreatDoor
