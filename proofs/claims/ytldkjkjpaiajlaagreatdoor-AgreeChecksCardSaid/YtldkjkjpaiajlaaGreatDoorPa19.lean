/-
  Package digest: length, Sum.
  Package digest: Sum.
  The program's numbers of hashes: number, Scalar.
-/
import Derived.Test.YtldkjkjpaiajlaaGreatDoorPa09
import Derived.Test.YtldkjkjpaiajlaaGreatDoorPa12
import Derived.Laws.BitsAllLaws
namespace Go.Proofs.YtldkjkjpaiajlaaGreatDoor
open Go.RowKit

/-- What the program's package variables hold. -/
structure Glob (w : World) : Prop where
  first : Lib.TabIs Tryz.prog w "sortes/digest.first" .u32 first8
  cons : Lib.TabIs Tryz.prog w "sortes/digest.constants" .u32 kAt
  pow : Lib.TabIs Tryz.prog w "internal/strconv.uint64pow10" .u64 Lib.pow10Tab
def lenL (n : Int) : List Int := (List.range 8).map (fun j => n / 2 ^ (56 - 8 * j) % 256)
structure LnAt (w wr : World) (n : Int) (k : Nat) : Prop where
  row : wr.rowIs w.heap.size 257 8 (fun j => .int .u8 (if j < k then n / 2 ^ (56 - 8 * j) % 256 else 0))
  only : Only (fun _ => False) w wr
theorem LnAt.next {w wr : World} {n : Int} {k : Nat} (h : LnAt w wr n k) : LnAt w (wr.setCell ⟨w.heap.size, k, none⟩ (.int .u8 (n / 2 ^ (56 - 8 * k) % 256))) n (k + 1) := by
  refine ⟨(h.row.set k _).congr (fun j _ => ?_), h.only.setCell (.inr (Nat.le_refl _)) _⟩
  by_cases e : j = k
  · subst e; rw [if_pos rfl, if_pos (by omega)]
  · rw [if_neg e]
    by_cases e2 : j < k
    · rw [if_pos e2, if_pos (by omega)]
    · rw [if_neg e2, if_neg (by omega)]
set_option maxHeartbeats 1000000 in
theorem length_any (n : Int) (w : World) (_h0 : 0 ≤ n) (_h1 : n ≤ 18446744073709551615) :
    Calls Tryz.prog 232 #[.int .u64 n] w fun e w' => e = .returned (.string (strOfNums (lenL n))) ∧ Only (fun _ => False) w w' := by
  go_enter Tryz.func232, Tryz.ntmps232
  go_wp2_with fail
  generalize hW : World.alloc _ _ = W
  have HS := Lib.hid (show LnAt w W n 0 by
    rw [← hW]
    have := World.rowIs_alloc w (Array.replicate 8 (.int .u8 0)) 257 (fun _ => .int .u8 0) (fun i hi => by simp at hi; simp [hi])
    rw [Array.size_replicate] at this
    exact ⟨this.congr (fun j _ => by simp), (Only.refl _ w).alloc _⟩)
  clear hW
  go_loopw [5] (fun vi wr => ∃ k : Nat, k ≤ 8 ∧ vi = .int .i64 k ∧ LnAt w wr n k) (fun vi _ => 8 - (intOf vi).toNat)
  case atStart => exact ⟨0, by omega, rfl, HS.out⟩
  case round =>
    clear HS
    obtain ⟨k, hk, rfl, hL⟩ := hrel
    by_cases hlt : k < 8
    · have hc := hL.row.cell (i := k) (by omega)
      have hf := hL.row.frozen k
      have hl := hL.row.lt
      have HL := Lib.hid hL.next
      have i1 : (k : Int) < 8 := by omega
      have i2 : 0 ≤ (k : Int) := by omega
      have i3 : (56 - 8 * (k : Int)).toNat = 56 - 8 * k := by omega
      have i4 : 0 ≤ 56 - 8 * (k : Int) := by omega
      clear hL hk
      go_wp2
      go_roundw
      case rel => exact ⟨k + 1, by omega, by go_num, HL.out⟩
      case measure => simp [intOf]; omega
    · obtain rfl : k = 8 := by omega
      have hcv := run_convert_bytes_arg (P := Tryz.prog) wr 22 5 Tryz.underlying22 Tryz.underlying5 w.heap.size 0 8 8 (lenL n) rfl (fun i hi => by
        rw [Nat.zero_add, hL.row.cell hi, if_pos hi]
        unfold lenL
        simp [List.getD, hi]) 9 Tryz.underlying9
      have hl := hL.row.lt
      have HO := Lib.hid hL.only
      clear hL hlt hk
      go_wp2
      go_ret
      exact ⟨rfl, HO.out⟩

/-! The padded message, in two parts. -/
def bl (b : ByteArray) : List UInt8 := b.data.toList
theorem bl_inj {a b : ByteArray} (h : bl a = bl b) : a = b := by
  cases a; cases b
  simp only [bl] at h
  congr 1
  exact Array.ext' h
theorem bl_append (a b : ByteArray) : bl (a ++ b) = bl a ++ bl b := by unfold bl; rw [ByteArray.data_append, Array.toList_append]
theorem bl_extract (b : ByteArray) (i j : Nat) : bl (b.extract i j) = ((bl b).drop i).take (j - i) := by
  unfold bl
  rw [ByteArray.data_extract, Array.toList_extract]
theorem bl_len (b : ByteArray) : (bl b).length = b.size := rfl
def stOn (S : List Int) (t : ByteArray) : Nat → List Int
  | 0 => S
  | k + 1 => blockZ (stOn S t k) (t.extract (64 * k) (64 * k + 64))
theorem stOn_st {S : List Int} (h : St8 S) (t : ByteArray) : ∀ k, St8 (stOn S t k)
  | 0 => h
  | _ + 1 => addL_st _ _
/-- What stands behind the whole blocks of a string. -/
def tailZ (s : ByteArray) : ByteArray := s.extract (64 * (s.size / 64)) s.size ++ ⟨#[128]⟩ ++ ((⟨(Lib.repeatL [0] (padN s)).toArray⟩ : ByteArray) ++ strOfNums (lenL ((s.size : Int) * 8)))
theorem zpad_bl (s : ByteArray) : ∀ j, bl (zpad s j) = bl s ++ [128] ++ Lib.repeatL [0] j
  | 0 => by rw [zpad, bl_append]; simp [bl, Lib.repeatL]
  | j + 1 => by
    rw [zpad, bl_append, zpad_bl s j, Lib.repeatL_add [0] j 1, Lib.repeatL_one]
    simp [bl]
theorem lpad_bl (s : ByteArray) : bl (lpad s 8) = bl s ++ [128] ++ Lib.repeatL [0] (padN s) ++ bl (strOfNums (lenL ((s.size : Int) * 8))) := by
  have h : ∀ k, k ≤ 8 → bl (lpad s k) = bl s ++ [128] ++ Lib.repeatL [0] (padN s) ++ ((List.range k).map (fun j => UInt8.ofNat ((s.size : Int) * 8 / 2 ^ (56 - 8 * j) % 256).toNat)) := by
    intro k
    induction k with
    | zero => intro _; rw [lpad, zpad_bl]; simp
    | succ k ih =>
      intro hk
      rw [lpad, bl_append, ih (by omega), List.range_succ, List.map_append, ← List.append_assoc, show 8 * (7 - k) = 56 - 8 * k by omega]
      rfl
  rw [h 8 (Nat.le_refl _)]
  rfl
theorem lpad_tail (s : ByteArray) : bl (lpad s 8) = (bl s).take (64 * (s.size / 64)) ++ bl (tailZ s) := by
  have e : ((bl s).drop (64 * (s.size / 64))).take (s.size - 64 * (s.size / 64)) = (bl s).drop (64 * (s.size / 64)) := List.take_of_length_le (by rw [List.length_drop, bl_len]; exact Nat.le_refl _)
  have h := List.take_append_drop (64 * (s.size / 64)) (bl s)
  unfold tailZ
  rw [bl_append, bl_append, bl_append, bl_extract, lpad_bl, e, ← List.append_assoc, ← List.append_assoc, ← List.append_assoc, h]
  rfl
theorem take_len (s : ByteArray) : ((bl s).take (64 * (s.size / 64))).length = 64 * (s.size / 64) := by rw [List.length_take, bl_len]; omega
theorem blk_head (s : ByteArray) (k : Nat) (h : k < s.size / 64) : (lpad s 8).extract (64 * k) (64 * k + 64) = s.extract (64 * k) (64 * k + 64) := by
  apply bl_inj
  rw [bl_extract, bl_extract, lpad_tail, List.drop_append_of_le_length (by rw [take_len]; omega), List.take_append_of_le_length (by rw [List.length_drop, take_len]; omega), List.drop_take, List.take_take]
  congr 1
  omega
theorem blk_tail (s : ByteArray) (j : Nat) : (tailZ s).extract (64 * j) (64 * j + 64) = (lpad s 8).extract (64 * (s.size / 64 + j)) (64 * (s.size / 64 + j) + 64) := by
  have e1 : ((bl s).take (64 * (s.size / 64)) ++ bl (tailZ s)).drop (64 * (s.size / 64 + j)) = (bl (tailZ s)).drop (64 * j) := by
    rw [List.drop_append, take_len, List.drop_eq_nil_of_le (show ((bl s).take (64 * (s.size / 64))).length ≤ 64 * (s.size / 64 + j) by rw [take_len]; omega), List.nil_append]
    congr 1
    omega
  apply bl_inj
  rw [bl_extract, bl_extract, lpad_tail, e1]
  congr 1
  omega
theorem tail_size (s : ByteArray) : (tailZ s).size + 64 * (s.size / 64) = (lpad s 8).size := by
  have h := congrArg List.length (lpad_tail s)
  rw [List.length_append, take_len, bl_len, bl_len] at h
  omega
theorem sum_head (s : ByteArray) : ∀ k, k ≤ s.size / 64 → stOn first8 s k = stTo (lpad s 8) k
  | 0, _ => rfl
  | k + 1, h => by rw [stOn, stTo, sum_head s k (by omega), blk_head s k (by omega)]
theorem sum_tail (s : ByteArray) : ∀ j, stOn (stOn first8 s (s.size / 64)) (tailZ s) j = stTo (lpad s 8) (s.size / 64 + j)
  | 0 => sum_head s _ (Nat.le_refl _)
  | j + 1 => by rw [stOn, sum_tail s j, blk_tail s j]; rfl
theorem sum_all (s : ByteArray) : hashOf (stOn (stOn first8 s (s.size / 64)) (tailZ s) ((tailZ s).size / 64)) = shaL s := by
  unfold shaL
  rw [sum_tail]
  have := tail_size s
  congr 2
  omega
end Go.Proofs.YtldkjkjpaiajlaaGreatDoor

namespace Go.Proofs.YtldkjkjpaiajlaaGreatDoor
open Go.RowKit

theorem Tryz.named1 : Tryz.prog.globalNamed "sortes/digest.first" = some 6 := by kernel_rfl
theorem Tryz.named2 : Tryz.prog.globalNamed "sortes/digest.constants" = some 7 := by kernel_rfl
theorem Tryz.named3 : Tryz.prog.globalNamed "internal/strconv.uint64pow10" = some 5 := by kernel_rfl
theorem tabIs_block {P : Program} {w : World} {name : String} {k : IntKind} {zs : List Int} {g : Nat} (h : Lib.TabIs P w name k zs) (hg : P.globalNamed name = some g) :
    ∃ t fr, w.heap[g]? = some (.cells (zs.map fun z => Value.int k z).toArray t fr) := by
  unfold Lib.TabIs World.var? at h
  rw [hg, Option.bind_some] at h
  split at h
  · rename_i c t fr hb
    cases h
    exact ⟨t, fr, hb⟩
  · cases h
theorem tabIs_only {P : Program} {A B : World} {name : String} {k : IntKind} {zs : List Int} {g : Nat} (h : Lib.TabIs P A name k zs) (hg : P.globalNamed name = some g) (hO : Only (fun _ => False) A B) : Lib.TabIs P B name k zs := by
  obtain ⟨t, fr, hb⟩ := tabIs_block h hg
  unfold Lib.TabIs World.var?
  rw [hg, Option.bind_some, hO.block g (Array.getElem?_eq_some_iff.1 hb).1 (fun h => h), hb]
theorem Glob.only {A B : World} (h : Glob A) (hO : Only (fun _ => False) A B) : Glob B :=
  ⟨tabIs_only h.first Tryz.named1 hO, tabIs_only h.cons Tryz.named2 hO, tabIs_only h.pow Tryz.named3 hO⟩
theorem Glob.row {w : World} (h : Glob w) : ∃ t fr, w.heap[6]? = some (.cells (stRow first8) t fr) := tabIs_block h.first Tryz.named1
theorem Glob.lt {w : World} (h : Glob w) : 7 < w.heap.size := by
  obtain ⟨t, fr, hb⟩ := tabIs_block h.cons Tryz.named2
  exact (Array.getElem?_eq_some_iff.1 hb).1
theorem Glob.cell {w : World} (h : Glob w) (k : Nat) (hk : k < 64) : w.cell? ⟨7, k, none⟩ = some (.int .u32 (ptAt kAt k)) :=
  h.cons.cell Tryz.named2 k hk
theorem Glob.grown {w : World} (h : Glob w) (d : Nat) (os : Array Obj) : Glob (Go.Sort.grow (Go.redrawn w d) os) := h.only (Only.ofBelow (below_regrown w d os) _)
/-- 'strings.Repeat("\x00", c)'. -/
theorem zeros_any (c : Nat) (w : World) (hc : c ≤ 100) :
    Calls Tryz.prog 231 #[.string ⟨#[0]⟩, .int .i64 c] w fun e w' => e = .returned (.string ⟨(Lib.repeatL [0] c).toArray⟩) ∧ Only (fun _ => False) w w' := by
  match c, hc with
  | 0, _ => exact (Tryz.strings_Repeat_zero _ w).mono fun _ _ h => ⟨h.1, by rw [h.2]; exact Only.refl _ _⟩
  | 1, _ => exact (Tryz.strings_Repeat_one _ w).mono fun _ _ h => ⟨h.1, by rw [h.2]; exact Only.refl _ _⟩
  | c + 2, hc => exact (Tryz.strings_Repeat_main ⟨#[0]⟩ (c + 2) w (by omega) (by omega) (by show 1 * _ ≤ _; omega) (by decide)).mono fun _ _ h => ⟨h.1, Only.ofBelow h.2 _⟩
theorem sum_startL (w : World) (z f : Array Value) (L : List Int) (hL : L.length = 8) (hz : z = Array.replicate 32 (.int .u8 0)) (hf : f = stRow L) : SumAt w ((w.alloc (.cells z 226)).alloc (.cells f 254)) (w.heap.size + 1) L := by
  subst hz hf
  have h1 := World.rowIs_alloc (w.alloc (.cells (Array.replicate 32 (.int .u8 0)) 226)) (stRow L) 254 (fun i => .int .u32 (ptAt L i)) (fun i hi => by
      rw [stRow_size] at hi
      simp [stRow, ptAt, List.getD, hi])
  rw [stRow_size, World.size_alloc, hL] at h1
  refine ⟨h1, ⟨Array.replicate 32 (.int .u8 0), ?_, by simp⟩, by omega, ((Only.refl _ w).alloc _).alloc _⟩
  rw [Below.heap_alloc _ _ _ (by simp)]; exact heap_alloc_new w _
theorem tail_shape (s : ByteArray) : tailZ s = s.extract (64 * (s.size / 64)) s.size ++ ⟨#[128]⟩ ++ ((⟨(Lib.repeatL [0] (padN s)).toArray⟩ : ByteArray) ++ strOfNums (lenL ((s.size : Int) * 8))) := rfl
set_option maxRecDepth 100000 in
set_option maxHeartbeats 1000000 in
theorem psum_any (s : ByteArray) (w : World) (hs : s.size ≤ 150000000000000) (hG : Glob w) :
    Calls Tryz.prog 222 #[.string s] w fun e w' => e = .returned (.agg (byRow (shaL s))) ∧ Only (fun _ => False) w w' := by
  obtain ⟨tg, fr, hrow⟩ := hG.row
  have hgl := hG.lt
  have HG := Lib.hid hG
  have hrow2 := (Below.heap_alloc w (.cells (Array.replicate 32 (.int .u8 0)) 226) 6 (by omega)).trans hrow
  have HSTF := Lib.hid (show (Tryz.prog.info? 254).map (·.size) = some (stRow first8).size by exact Tryz.info8)
  have HA0 := Lib.hid (heap_alloc_new (w.alloc (.cells (Array.replicate 32 (.int .u8 0)) 226)) (.cells (stRow [0, 0, 0, 0, 0, 0, 0, 0]) 254))
  rw [World.size_alloc] at HA0
  have HSZ0 := Lib.hid (show (stRow [0, 0, 0, 0, 0, 0, 0, 0]).size = (stRow first8).size by rw [stRow_size, stRow_size]; rfl)
  have HON0 := Lib.hid (stRow_one first8)
  have HS0 := Lib.hid ((sum_startL w _ (stRow [0, 0, 0, 0, 0, 0, 0, 0]) _ rfl rfl rfl).put (s' := first8) rfl)
  have HSH := Lib.hid (sum_all s)
  have HTL := Lib.hid (tail_size s)
  have HM := Lib.hid (show ∃ m, s.size / 64 = m from ⟨_, rfl⟩)
  go_enter Tryz.func222, Tryz.ntmps222
  clear hG
  go_wp2_with (first | (refine wpList_load_row rfl 254 _ rfl 6 rfl _ (stRow first8) _ _ hrow2 Tryz.underlying254 rfl HSTF.out ?_) | (refine wpList_store_row rfl 254 _ _ rfl (w.heap.size + 1) (stRow first8) rfl rfl 254 _ HA0.out HSTF.out HSZ0.out HON0.out ?_))
  generalize hW : World.setRow _ _ _ = W
  change World.setRow ((w.alloc (.cells (Array.replicate 32 (.int .u8 0)) 226)).alloc (.cells (stRow [0, 0, 0, 0, 0, 0, 0, 0]) 254)) (w.heap.size + 1) (stRow first8) = W at hW
  rw [hW] at HS0
  obtain ⟨m, hm⟩ := HM.out
  clear hW HM hrow hrow2 HSTF HA0 HSZ0 HON0
  go_loopw [5] (fun vi wr => ∃ k : Nat, k ≤ m ∧ vi = .int .i64 (64 * (k : Int)) ∧ SumAt w wr (w.heap.size + 1) (stOn first8 s k)) (fun vi _ => s.size + 64 - (intOf vi).toNat)
  case atStart => exact ⟨0, Nat.zero_le _, rfl, HS0.out⟩
  case round =>
    clear HS0
    obtain ⟨k, hk, rfl, hS⟩ := hrel
    by_cases hlt : k < m
    · have HST := Lib.hid (stOn_st first8_st s k)
      obtain ⟨a0, a1, a2, a3, a4, a5, a6, a7, he⟩ := eight_of HST.out.len
      have HSE := Lib.hid he
      rw [he] at hS
      have HC := Lib.hid (fun (i : Nat) (hi : i < 8) (d : Nat) (os : Array Obj) => cell_regrown (hS.st.cell hi) d os)
      have c0 := HC.out 0 (by decide)
      have c1 := HC.out 1 (by decide)
      have c2 := HC.out 2 (by decide)
      have c3 := HC.out 3 (by decide)
      have c4 := HC.out 4 (by decide)
      have c5 := HC.out 5 (by decide)
      have c6 := HC.out 6 (by decide)
      have c7 := HC.out 7 (by decide)
      simp only [ptAt, List.getD, List.getElem?_cons_zero, List.getElem?_cons_succ, Option.getD_some] at c0 c1 c2 c3 c4 c5 c6 c7
      have HS := Lib.hid hS
      have HST8 := Lib.hid (show St8 [a0, a1, a2, a3, a4, a5, a6, a7] by rw [← he]; exact HST.out)
      have HEX := Lib.hid (show (s.extract (64 * k) (64 * k + 64)).size = 64 by rw [ByteArray.size_extract]; omega)
      have i1 : (64 * (k : Int)) < s.size / 64 * 64 := by omega
      have i2 : (64 * (k : Int)) + 64 ≤ s.size := by omega
      have i3 : 0 ≤ (64 * (k : Int)) := by omega
      have HGW := Lib.hid (HG.out.only hS.only)
      clear hS he hk
      go_wp2_with fail
      refine wp_region_below_split 7 (by kernel_rfl) (by kernel_rfl) (by kernel_rfl) ?_
      simp only [List.take_succ_cons, List.take_zero, List.drop_succ_cons, List.drop_zero]
      repeat (go_big_quiet_step ((go_at_call 230; exact Calls.regrown_of ((mix_any [a0, a1, a2, a3, a4, a5, a6, a7] (s.extract (64 * k) (64 * k + 64)) _ HST8.out HEX.out (Glob.grown HGW.out _ _).lt (Glob.grown HGW.out _ _).cell).mono fun _ _ h => ⟨h.1, h.2.below (Nat.le_refl _) (fun _ _ h => h)⟩))))
      refine wpQuiet_nil ?_
      intro _ hw'
      obtain ⟨pq, hw''⟩ := hw'
      have HS2 := Lib.hid (HS.out.frame (Only.ofBelow (below_regrown wr pq.d pq.os) (fun _ => False)))
      rw [← hw''] at HS2
      clear hw'' HS HC c0 c1 c2 c3 c4 c5 c6 c7
      rename_i wq
      have HB2 := Lib.hid (row_block HS2.out.st rfl)
      have HIZ := Lib.hid (show (Tryz.prog.info? 254).map (·.size) = some (stRow (blockZ [a0, a1, a2, a3, a4, a5, a6, a7] (s.extract (64 * k) (64 * k + 64)))).size by rw [stRow_size, show (blockZ _ _).length = 8 from addL_len _ _]; exact Tryz.info8)
      have HSZ2 := Lib.hid (show (stRow [a0, a1, a2, a3, a4, a5, a6, a7]).size = (stRow (blockZ [a0, a1, a2, a3, a4, a5, a6, a7] (s.extract (64 * k) (64 * k + 64)))).size by rw [stRow_size, stRow_size, show (blockZ _ _).length = 8 from addL_len _ _]; rfl)
      have HON2 := Lib.hid (stRow_one (blockZ [a0, a1, a2, a3, a4, a5, a6, a7] (s.extract (64 * k) (64 * k + 64))))
      have HNX := Lib.hid (show stOn first8 s (k + 1) = blockZ (stOn first8 s k) (s.extract (64 * k) (64 * k + 64)) from rfl)
      rw [HSE.out] at HNX
      have HS3 := Lib.hid (HS2.out.put (s' := blockZ [a0, a1, a2, a3, a4, a5, a6, a7] (s.extract (64 * k) (64 * k + 64))) (addL_len _ _))
      generalize blockZ [a0, a1, a2, a3, a4, a5, a6, a7] (s.extract (64 * k) (64 * k + 64)) = B at *
      go_wp2_with (first | (refine wpList_store_row rfl 254 _ _ rfl (w.heap.size + 1) (stRow B) rfl rfl 254 _ HB2.out HIZ.out HSZ2.out HON2.out ?_))
      refine ⟨?rel, ?measure⟩
      case rel => exact ⟨k + 1, by omega, by go_num, by rw [HNX.out]; exact HS3.out⟩
      case measure => simp [intOf]; omega
    · obtain rfl : k = m := by omega
      have HS := Lib.hid hS
      have HGW := Lib.hid (HG.out.only hS.only)
      clear hS hk hlt
      have i1 : ¬ (64 * (k : Int)) < s.size / 64 * 64 := by omega
      go_wp2_with fail
      have HPD := Lib.hid (show (120 - (((s.size - k * 64 : Nat) : Int) + 1)) % 64 = ((padN s : Nat) : Int) by unfold padN; omega)
      rw [HPD.out]
      refine (zeros_any (padN s) wr (by have := padN_lt s; omega)).mono ?_
      rintro e w1 ⟨rfl, hO1⟩
      have HS1 := Lib.hid (HS.out.frame hO1)
      clear hO1 HS HGW
      go_wp2_with fail
      refine (length_any _ w1 (by omega) (by omega)).mono ?_
      rintro e w2 ⟨rfl, hO2⟩
      have HS2 := Lib.hid (HS1.out.frame hO2)
      clear hO2 HS1 HPD
      have HTS := Lib.hid (show s.extract (k * 64) s.size ++ ⟨#[128]⟩ ++ ((⟨(Lib.repeatL [0] (padN s)).toArray⟩ : ByteArray) ++ strOfNums (lenL ((s.size : Int) * 8))) = tailZ s by rw [tail_shape, hm, Nat.mul_comm 64 k])
      have hZ : (⟨(Lib.repeatL [0] (padN s)).toArray⟩ : ByteArray).size ≤ 100 := by
        have := padN_lt s
        show (Lib.repeatL [0] (padN s)).toArray.size ≤ 100
        rw [List.size_toArray, Lib.repeatL_length]
        simp
        omega
      have hL : (strOfNums (lenL ((s.size : Int) * 8))).size ≤ 100 := by rw [strOfNums_size]; simp [lenL]
      generalize (⟨(Lib.repeatL [0] (padN s)).toArray⟩ : ByteArray) = Z at *
      generalize strOfNums (lenL ((s.size : Int) * 8)) = L at *
      go_wp2_with fail
      rw [HTS.out]
      have HSP := Lib.hid (stOn_st first8_st s k)
      rw [hm] at HSH HTL
      generalize stOn first8 s k = S at *
      have HTZ := Lib.hid (show (tailZ s).size = 64 * ((tailZ s).size / 64) ∧ (tailZ s).size ≤ 150000000000200 by
        have h1 := HTL.out
        rw [lpad_size s 8] at h1
        have := padN_lt s
        unfold padN at *
        omega)
      clear HTS HTL
      generalize tailZ s = T at *
      obtain ⟨q, hqq⟩ : ∃ q, T.size / 64 = q := ⟨_, rfl⟩
      rw [hqq] at HSH HTZ
      obtain ⟨hz1, hz2⟩ := HTZ.out
      clear HTZ hqq
      go_loopw [7] (fun vi wr => ∃ k : Nat, k ≤ q ∧ vi = .int .i64 (64 * (k : Int)) ∧ SumAt w wr (w.heap.size + 1) (stOn S T k)) (fun vi _ => T.size + 64 - (intOf vi).toNat)
      case atStart => exact ⟨0, Nat.zero_le _, rfl, HS2.out⟩
      case round =>
        clear HS2
        obtain ⟨k', hk, rfl, hS⟩ := hrel
        clear hm i1
        by_cases hlt : k' < q
        · have HST := Lib.hid (stOn_st HSP.out T k')
          obtain ⟨a0, a1, a2, a3, a4, a5, a6, a7, he⟩ := eight_of HST.out.len
          have HSE := Lib.hid he
          rw [he] at hS
          have HC := Lib.hid (fun (i : Nat) (hi : i < 8) (d : Nat) (os : Array Obj) => cell_regrown (hS.st.cell hi) d os)
          have c0 := HC.out 0 (by decide)
          have c1 := HC.out 1 (by decide)
          have c2 := HC.out 2 (by decide)
          have c3 := HC.out 3 (by decide)
          have c4 := HC.out 4 (by decide)
          have c5 := HC.out 5 (by decide)
          have c6 := HC.out 6 (by decide)
          have c7 := HC.out 7 (by decide)
          simp only [ptAt, List.getD, List.getElem?_cons_zero, List.getElem?_cons_succ, Option.getD_some] at c0 c1 c2 c3 c4 c5 c6 c7
          have HS := Lib.hid hS
          have HST8 := Lib.hid (show St8 [a0, a1, a2, a3, a4, a5, a6, a7] by rw [← he]; exact HST.out)
          have HEX := Lib.hid (show (T.extract (64 * k') (64 * k' + 64)).size = 64 by rw [ByteArray.size_extract]; omega)
          have i1 : (64 * (k' : Int)) < T.size := by omega
          have i2 : (64 * (k' : Int)) + 64 ≤ T.size := by omega
          have i3 : 0 ≤ (64 * (k' : Int)) := by omega
          have HGW := Lib.hid (HG.out.only hS.only)
          clear hS he hk
          go_wp2_with fail
          refine wp_region_below_split 7 (by kernel_rfl) (by kernel_rfl) (by kernel_rfl) ?_
          simp only [List.take_succ_cons, List.take_zero, List.drop_succ_cons, List.drop_zero]
          repeat (go_big_quiet_step ((go_at_call 230; exact Calls.regrown_of ((mix_any [a0, a1, a2, a3, a4, a5, a6, a7] (T.extract (64 * k') (64 * k' + 64)) _ HST8.out HEX.out (Glob.grown HGW.out _ _).lt (Glob.grown HGW.out _ _).cell).mono fun _ _ h => ⟨h.1, h.2.below (Nat.le_refl _) (fun _ _ h => h)⟩))))
          refine wpQuiet_nil ?_
          intro _ hw'
          obtain ⟨pq, hw''⟩ := hw'
          have HS2 := Lib.hid (HS.out.frame (Only.ofBelow (below_regrown wr pq.d pq.os) (fun _ => False)))
          rw [← hw''] at HS2
          clear hw'' HS HC c0 c1 c2 c3 c4 c5 c6 c7
          rename_i wq
          have HB2 := Lib.hid (row_block HS2.out.st rfl)
          have HIZ := Lib.hid (show (Tryz.prog.info? 254).map (·.size) = some (stRow (blockZ [a0, a1, a2, a3, a4, a5, a6, a7] (T.extract (64 * k') (64 * k' + 64)))).size by rw [stRow_size, show (blockZ _ _).length = 8 from addL_len _ _]; exact Tryz.info8)
          have HSZ2 := Lib.hid (show (stRow [a0, a1, a2, a3, a4, a5, a6, a7]).size = (stRow (blockZ [a0, a1, a2, a3, a4, a5, a6, a7] (T.extract (64 * k') (64 * k' + 64)))).size by rw [stRow_size, stRow_size, show (blockZ _ _).length = 8 from addL_len _ _]; rfl)
          have HON2 := Lib.hid (stRow_one (blockZ [a0, a1, a2, a3, a4, a5, a6, a7] (T.extract (64 * k') (64 * k' + 64))))
          have HNX := Lib.hid (show stOn S T (k' + 1) = blockZ (stOn S T k') (T.extract (64 * k') (64 * k' + 64)) from rfl)
          rw [HSE.out] at HNX
          have HS3 := Lib.hid (HS2.out.put (s' := blockZ [a0, a1, a2, a3, a4, a5, a6, a7] (T.extract (64 * k') (64 * k' + 64))) (addL_len _ _))
          generalize blockZ [a0, a1, a2, a3, a4, a5, a6, a7] (T.extract (64 * k') (64 * k' + 64)) = B at *
          go_wp2_with (first | (refine wpList_store_row rfl 254 _ _ rfl (w.heap.size + 1) (stRow B) rfl rfl 254 _ HB2.out HIZ.out HSZ2.out HON2.out ?_))
          refine ⟨?rel, ?measure⟩
          case rel => exact ⟨k' + 1, by omega, by go_num, by rw [HNX.out]; exact HS3.out⟩
          case measure => simp [intOf]; omega
        · obtain rfl : k' = q := by omega
          have i1 : ¬ (64 * (k' : Int)) < T.size := by omega
          have HST := Lib.hid (stOn_st HSP.out T k')
          have hlt := hz1
          obtain ⟨R0, hSS⟩ : ∃ R0, stOn S T k' = R0 := ⟨_, rfl⟩
          rw [hSS] at hS HST HSH
          have HS := Lib.hid hS
          have hn1 := hS.st.lt
          have hbd := HST.out.bd
          have HBD := Lib.hid hbd
          clear hS hSS hk hbd
          go_wp2_with fail
          have HE0 := Lib.hid (HS.out.opened (Array.replicate 32 (.int .u8 0)) rfl)
          have hnew : wr.heap.size < (wr.alloc (Obj.cells (Array.replicate 32 (.int .u8 0)) 226)).heap.size := by simp
          generalize hW : wr.alloc (Obj.cells _ 226) = W
          change wr.alloc (Obj.cells (Array.replicate 32 (.int .u8 0)) 226) = W at hW
          rw [hW] at HE0 hnew
          clear hW HS i1
          generalize wr.heap.size = nh at *
          go_loopw [57] (fun vi wr => ∃ k : Nat, k ≤ 32 ∧ vi = .int .i64 k ∧ HashAt w wr (w.heap.size + 1) nh R0 k) (fun vi _ => 32 - (intOf vi).toNat)
          case atStart => exact ⟨0, by omega, rfl, HE0.out⟩
          case round =>
            clear HE0 hnew
            obtain ⟨k, hk, rfl, hH⟩ := hrel
            have HH := Lib.hid hH
            have l1 := hH.st.lt
            have l2 := hH.hh.lt
            by_cases hlt : k < 32
            · have c1 := hH.st.cell (i := k / 4) (by omega)
              have c2 := hH.hh.cell (i := k) (by omega)
              have fz := hH.hh.frozen k
              obtain ⟨b0, b1⟩ := HBD.out (k / 4) (by omega)
              have i1 : (k : Int) < 32 := by omega
              have i2 : (k : Int) / 4 < 8 := by omega
              have i3 : 0 ≤ (k : Int) / 4 := by omega
              have i4 : 0 ≤ (k : Int) % 4 := by omega
              have i5 : (k : Int) % 4 < 4 := by omega
              have HBY := Lib.hid (show byteOf R0 k = ptAt R0 (k / 4) / 2 ^ (8 * (3 - k % 4)) % 256 from rfl)
              generalize ptAt R0 (k / 4) = x at *
              clear hH hk
              go_wp2
              go_roundw
              case rel => exact ⟨k + 1, by omega, by go_num, by
                  have h1 := HH.out.next
                  rw [HBY.out, show 8 * (3 - k % 4) = 24 - k % 4 * 8 by omega] at h1; exact h1⟩
              case measure => simp [intOf]; omega
            · obtain rfl : k = 32 := by omega
              have HHB := Lib.hid hH.ends
              obtain ⟨z, hz, hz2⟩ := hH.rs
              have HZ := Lib.hid hz
              have HZ2 := Lib.hid (show z.size = (byRow (hashOf R0)).size by rw [hz2, byRow_size, hashOf_len])
              have HIZ := Lib.hid (show (Tryz.prog.info? 226).map (·.size) = some (byRow (hashOf R0)).size by rw [byRow_size, hashOf_len]; exact Tryz.infoH)
              have HON := Lib.hid (byRow_one (hashOf R0))
              have HOE := Lib.hid hH.only
              rw [HSH.out] at HHB HZ2 HIZ HON
              clear hH hz hz2 hlt hk HH
              obtain ⟨R, hR⟩ : ∃ R, byRow (shaL s) = R := ⟨_, rfl⟩
              rw [hR] at HHB HZ2 HIZ HON
              have HR := Lib.hid hR
              clear hR
              go_wp2_with (first | (refine wpList_load_row rfl 226 _ rfl nh rfl 226 R (0, 0) _ HHB.out Tryz.underlying226 rfl HIZ.out ?_) | (refine wpList_store_row rfl 226 _ _ rfl w.heap.size R rfl rfl 226 z HZ.out HIZ.out HZ2.out HON.out ?_))
              exact bodyPost_ret (v := .agg R) (results_cell_row rfl _ _ w.heap.size 226 R (0, 0) _ rfl (setRow_heap _ _ _ _ _ _ HZ.out) Tryz.underlying226 rfl HIZ.out) rfl ⟨by rw [HR.out], HOE.out.setRow (Nat.le_refl _) _⟩
end Go.Proofs.YtldkjkjpaiajlaaGreatDoor

namespace Go.Proofs.YtldkjkjpaiajlaaGreatDoor
open Go.RowKit

def numR (h : List Int) : Nat → Int
  | 0 => 0
  | k + 1 => numR h k * 256 + ptAt h k
theorem numR_bd {h : List Int} (hb : Bytes32 h) : ∀ k, 0 ≤ numR h k ∧ numR h k < 256 ^ k
  | 0 => by rw [numR]; omega
  | k + 1 => by
    rw [numR, Int.pow_succ]
    have := numR_bd hb k
    have := hb.bd k
    omega
theorem numR_num {h : List Int} (hb : Bytes32 h) : numR h 8 % 9223372036854775808 = numZ h := by
  have b0 := hb.bd 0
  have b1 := hb.bd 1
  have b2 := hb.bd 2
  have b3 := hb.bd 3
  have b4 := hb.bd 4
  have b5 := hb.bd 5
  have b6 := hb.bd 6
  have b7 := hb.bd 7
  simp only [numR, numZ, numTo, Nat.zero_add, Nat.reduceAdd]
  omega
theorem or64_low (n x : Int) (h0 : 0 ≤ n) (h1 : n ≤ 72057594037927935) (h2 : 0 ≤ x) (h3 : x ≤ 255) : bits BinOp.or IntKind.u64 (n * 256) x = n * 256 + x := by
  obtain ⟨a, rfl⟩ := Int.eq_ofNat_of_zero_le h0
  obtain ⟨b, rfl⟩ := Int.eq_ofNat_of_zero_le h2
  have e := u64_or_nat (a * 256) b (by omega) (by omega)
  rw [Int.natCast_mul] at e
  have e2 : a * 256 ||| b = a * 256 + b := by
    rw [Nat.mul_comm a, show 256 = 2 ^ 8 from rfl, Nat.two_pow_add_eq_or_of_lt (by omega)]
  rw [show ((a : Int) * 256) = (a : Int) * ((256 : Nat) : Int) from rfl, e, e2]
  omega
theorem clear63 (n : Int) (h0 : 0 ≤ n) (h1 : n ≤ 18446744073709551615) : bits BinOp.andNot IntKind.u64 n 9223372036854775808 = n % 9223372036854775808 := by
  obtain ⟨a, rfl⟩ := Int.eq_ofNat_of_zero_le h0
  rw [show (9223372036854775808 : Int) = ((9223372036854775808 : Nat) : Int) from rfl, u64_andNot_nat a 9223372036854775808 (by omega) (by omega)]
  rw [show 18446744073709551615 - 9223372036854775808 = 2 ^ 63 - 1 by decide, Nat.and_two_pow_sub_one_eq_mod]
  omega
set_option maxRecDepth 100000 in
set_option maxHeartbeats 1000000 in
theorem pnumber_any (s : ByteArray) (w : World) (hs : s.size ≤ 150000000000000) (hG : Glob w) :
    Calls Tryz.prog 208 #[.string s] w fun e w' => e = .returned (.int .i64 (numZ (shaL s))) ∧ Only (fun _ => False) w w' := by
  have hb := shaL_bytes s
  have HB := Lib.hid hb
  go_enter Tryz.func208, Tryz.ntmps208
  go_wp2_with fail
  refine (psum_any s _ hs hG).mono ?_
  rintro e w1 ⟨rfl, hO⟩
  have HA0 := Lib.hid (heap_alloc_new w1 (.cells (Array.replicate 32 (.int .u8 0)) 226))
  have HIZ := Lib.hid (show (Tryz.prog.info? 226).map (·.size) = some (byRow (shaL s)).size by rw [byRow_size, show (shaL s).length = 32 from hb.len]; exact Tryz.infoH)
  have HSZ := Lib.hid (show (Array.replicate 32 (Value.int .u8 0)).size = (byRow (shaL s)).size by rw [byRow_size, show (shaL s).length = 32 from hb.len]; rfl)
  have HON := Lib.hid (byRow_one (shaL s))
  have hO2 : Only (fun _ => False) w ((w1.alloc (.cells (Array.replicate 32 (.int .u8 0)) 226)).setRow w1.heap.size (byRow (shaL s))) := (hO.alloc _).setRow hO.size _
  have hc : ∀ i, i < 32 → ((w1.alloc (.cells (Array.replicate 32 (.int .u8 0)) 226)).setRow w1.heap.size (byRow (shaL s))).cell? ⟨w1.heap.size, i, none⟩ = some (.int .u8 (ptAt (shaL s) i)) := fun i hi => by
    have h1 := setRow_heap _ _ _ (byRow (shaL s)) _ _ HA0.out
    unfold World.cell?
    simp only [h1]
    exact byRow_at _ i (by rw [hb.len]; exact hi)
  have HC := Lib.hid hc
  have HO := Lib.hid hO2
  have hl : w1.heap.size < ((w1.alloc (.cells (Array.replicate 32 (.int .u8 0)) 226)).setRow w1.heap.size (byRow (shaL s))).heap.size := by simp [World.setRow]
  clear hO hO2 hc hb
  go_wp2_with (first | (refine wpList_store_row rfl 226 _ _ rfl w1.heap.size (byRow (shaL s)) rfl rfl 226 _ HA0.out HIZ.out HSZ.out HON.out ?_))
  generalize hW : World.setRow _ _ _ = W
  change World.setRow (w1.alloc (.cells (Array.replicate 32 (.int .u8 0)) 226)) w1.heap.size (byRow (shaL s)) = W at hW
  rw [hW] at HC HO hl
  clear hW HA0 HIZ HSZ HON
  generalize w1.heap.size = nh at *
  go_loop [8, 4] (fun vi vn => ∃ j : Nat, j ≤ 8 ∧ vi = .int .i64 (j : Int) ∧ vn = .int .u64 (numR (shaL s) j)) (fun vi _ => 8 - (intOf vi).toNat)
  case atStart => exact ⟨0, by omega, rfl, rfl⟩
  case round =>
    obtain ⟨j, hj, rfl, rfl⟩ := hrel
    by_cases hlt : j < 8
    · have c := HC.out j (by omega)
      obtain ⟨b2, b3⟩ := HB.out.bd j
      have hn := numR_bd HB.out j
      have hp : (256 : Int) ^ j ≤ 256 ^ 7 := by
        have : (256 : Nat) ^ j ≤ 256 ^ 7 := Nat.pow_le_pow_right (by decide) (by omega)
        have h2 : ((256 ^ j : Nat) : Int) ≤ ((256 ^ 7 : Nat) : Int) := Int.ofNat_le.2 this
        simpa using h2
      have n0 := hn.1
      have n1 : numR (shaL s) j ≤ 72057594037927935 := by omega
      have HNX := Lib.hid (show numR (shaL s) (j + 1) = numR (shaL s) j * 256 + ptAt (shaL s) j from rfl)
      have i1 : (j : Int) < 8 := by omega
      have i2 : (j : Int) < 32 := by omega
      have i3 : j < 32 := by omega
      clear hn hp hj
      generalize ptAt (shaL s) j = x at *
      generalize numR (shaL s) j = n at *
      have HOR := Lib.hid (or64_low n x n0 n1 b2 b3)
      go_wp2
      refine ⟨?rel, ?measure⟩
      case rel => exact ⟨j + 1, by omega, by go_num, by rw [HOR.out, HNX.out]⟩
      case measure => simp [intOf]; omega
    · obtain rfl : j = 8 := by omega
      have HN := Lib.hid (numR_num HB.out)
      have hn := numR_bd HB.out 8
      have n0 := hn.1
      have n1 : numR (shaL s) 8 ≤ 18446744073709551615 := by omega
      generalize numR (shaL s) 8 = n at *
      clear hn
      have HCL := Lib.hid (clear63 n n0 n1)
      obtain ⟨z0, z1⟩ := numZ_bd HB.out
      go_wp2
      go_ret
      exact ⟨by rw [HCL.out, HN.out, show wrap64 (numZ (shaL s)) = numZ (shaL s) by unfold wrap64; omega]; rfl, HO.out⟩
set_option maxHeartbeats 1000000 in
theorem pscalar_any (s : ByteArray) (w : World) (hs : s.size ≤ 149000000000000) (hG : Glob w) :
    Calls Tryz.prog 188 #[.string s] w fun e w' => e = .returned (.int .i64 (scalarZ s)) ∧ Only (fun _ => False) w w' := by
  have HS := Lib.hid (pnumber_any (strS ++ s) w (by rw [ByteArray.size_append]; show 2 + _ ≤ _; omega) hG)
  obtain ⟨z0, z1⟩ := numZ_bd (shaL_bytes (strS ++ s))
  have HZ := Lib.hid (show scalarZ s = numZ (shaL (strS ++ s)) % 1152921504606845789 from rfl)
  go_enter Tryz.func188, Tryz.ntmps188
  go_wp2_with fail
  refine HS.out.mono ?_
  rintro e w1 ⟨rfl, hO⟩
  have HO := Lib.hid hO
  clear hO HS
  generalize numZ (shaL (strS ++ s)) = z at *
  go_wp2_with fail
  refine (residue_any _ _ _ (by decide) (by decide)).mono ?_
  rintro e w3 ⟨rfl, rfl⟩
  go_wp2
  go_ret
  exact ⟨by rw [HZ.out]; rfl, HO.out⟩
end Go.Proofs.YtldkjkjpaiajlaaGreatDoor
