/-
  The reference's hash function: rot, rounds; the words of a block. The reference's hash function: a block. The reference's hash function: padded, Sum. The reference's hash function: Sum.
  Numbers of hashes: the reference's number, Scalar, Element, Key.
  Plain: what the program's hash function computes is what the reference's does: words of a block, rotations, the padded message.
  Package digest: rotate, mix.
  Signatures, plain: a signature that was made is one.
-/
import Derived.Test.YtldkjkjpaiajlaaGreatDoorPa08
import Derived.Test.YtldkjkjpaiajlaaGreatDoorPa04
import Derived.Deep.OwnRows
import Derived.StillTailTactics
import Derived.Deep.WholeRow
import Derived.Test.YtldkjkjpaiajlaaGreatDoorPa02
import Derived.Laws.BytesArg
namespace Go.Proofs.YtldkjkjpaiajlaaGreatDoor
open Go.RowKit

def rotZ (x : Int) (k : Nat) : Int := bits BinOp.or IntKind.u32 (x / 2 ^ k) (x * 2 ^ (32 - k) % 4294967296)
theorem wrap_u32_bd (z : Int) : 0 ≤ IntKind.u32.wrap z ∧ IntKind.u32.wrap z ≤ 4294967295 := by
  have : IntKind.u32.wrap z = z % 4294967296 := by rfl
  rw [this]; omega
theorem rrot_any (x : Int) (n : Nat) (w : World) (_hx : 0 ≤ x) (_hx2 : x ≤ 4294967295) (hn : 1 ≤ n) (hn2 : n ≤ 31) :
    Calls Tryz.prog 207 #[.int .u32 x, .int .i64 n] w fun e w' => e = .returned (.int .u32 (rotZ x n)) ∧ ∃ n, w' = w.drewN n := by
  have HR := Lib.hid (show rotZ x n = bits BinOp.or IntKind.u32 (x / 2 ^ n) (x * 2 ^ (32 - n) % 4294967296) from rfl)
  go_enter Tryz.func207, Tryz.ntmps207
  go_wp2_with fail
  go_quiet (fail)
  go_wp2
  go_ret
  exact ⟨ret_int (by rw [HR.out]), nq, rfl⟩

def rotI (x n : Int) : Int := rotZ x n.toNat
theorem rrotI_any (x n : Int) (w : World) (hx : 0 ≤ x) (hx2 : x ≤ 4294967295) (hn : 1 ≤ n) (hn2 : n ≤ 31) :
    Calls Tryz.prog 207 #[.int .u32 x, .int .i64 n] w fun e w' => e = .returned (.int .u32 (rotI x n)) ∧ ∃ n, w' = w.drewN n := by
  obtain ⟨k, rfl⟩ := Int.eq_ofNat_of_zero_le (show 0 ≤ n by omega)
  exact rrot_any x k w hx hx2 (by omega) (by omega)

def kAt : List Int := [0x428a2f98, 0x71374491, 0xb5c0fbcf, 0xe9b5dba5, 0x3956c25b, 0x59f111f1, 0x923f82a4, 0xab1c5ed5,
    0xd807aa98, 0x12835b01, 0x243185be, 0x550c7dc3, 0x72be5d74, 0x80deb1fe, 0x9bdc06a7, 0xc19bf174,
    0xe49b69c1, 0xefbe4786, 0x0fc19dc6, 0x240ca1cc, 0x2de92c6f, 0x4a7484aa, 0x5cb0a9dc, 0x76f988da,
    0x983e5152, 0xa831c66d, 0xb00327c8, 0xbf597fc7, 0xc6e00bf3, 0xd5a79147, 0x06ca6351, 0x14292967,
    0x27b70a85, 0x2e1b2138, 0x4d2c6dfc, 0x53380d13, 0x650a7354, 0x766a0abb, 0x81c2c92e, 0x92722c85,
    0xa2bfe8a1, 0xa81a664b, 0xc24b8b70, 0xc76c51a3, 0xd192e819, 0xd6990624, 0xf40e3585, 0x106aa070,
    0x19a4c116, 0x1e376c08, 0x2748774c, 0x34b0bcb5, 0x391c0cb3, 0x4ed8aa4a, 0x5b9cca4f, 0x682e6ff3,
    0x748f82ee, 0x78a5636f, 0x84c87814, 0x8cc70208, 0x90befffa, 0xa4506ceb, 0xbef9a3f7, 0xc67178f2]
def kRow : Array Value := (kAt.map (Value.int .u32)).toArray
theorem kRow_size : kRow.size = 64 := rfl
theorem kRow_one : kRow.all (·.oneCell') = true := by decide +kernel

section
variable {P : Program}
theorem wpList_build_to {ops : Array Oper} {rest : List Oper} {o : Oper} {a : Act} {w : World} {Q : Exit → Act → World → Prop} (hg : o.guard = none) (t : TypeId) (parts : Array (Nat × Operand)) (ho : o.op = .build t parts) (cs : Array Value)
    (hf : P.built t (parts.map fun (i, x) => (i, a.eval x)).toList = some cs)
    (h : wpList P ops Q rest (a.put o.dst (.agg cs)) w) : wpList P ops Q (o :: rest) a w :=
  wpList_build hg t parts ho (by rw [hf]; rfl) (by rw [hf]; exact h)
end
theorem Tryz.infoK : (Tryz.prog.info? 272).map (·.size) = some 64 := by kernel_rfl
theorem Tryz.info8 : (Tryz.prog.info? 254).map (·.size) = some 8 := by kernel_rfl

set_option maxRecDepth 100000 in
set_option maxHeartbeats 1000000 in
theorem rrounds_any (w : World) : Calls Tryz.prog 206 #[] w fun e w' => e = .returned (.agg kRow) ∧ w' = w.alloc (.cells kRow 272) := by
  go_enter Tryz.func206, Tryz.ntmps206
  go_wp2_with (first | (with_reducible refine wpList_build_to rfl _ _ rfl kRow (by kernel_rfl) ?_) | (refine wpList_store_row rfl 272 _ _ rfl w.heap.size kRow rfl rfl 272 _ (heap_alloc_last w _) Tryz.infoK rfl kRow_one ?_; rw [World.setRow_alloc_new]))
  exact bodyPost_ret (v := .agg kRow) (results_cell_row rfl _ _ w.heap.size 272 kRow (0, 0) _ rfl (heap_alloc_last w _) Tryz.underlying272 rfl Tryz.infoK) rfl ⟨rfl, rfl⟩
end Go.Proofs.YtldkjkjpaiajlaaGreatDoor

namespace Go.Proofs.YtldkjkjpaiajlaaGreatDoor
open Go.RowKit

/-- The eight words of a state. -/
def stRow (s : List Int) : Array Value := (s.map (Value.int .u32)).toArray
structure St8 (s : List Int) : Prop where
  len : s.length = 8
  bd : ∀ j, j < 8 → 0 ≤ ptAt s j ∧ ptAt s j ≤ 4294967295
def byteZ (b : ByteArray) (i : Nat) : Int := (b.data.toList.getD i 0).toNat
theorem byteZ_eq (b : ByteArray) (i : Nat) (h : i < b.size) : (b[i].toNat : Int) = byteZ b i := by
  unfold byteZ
  have : b.data.toList.getD i 0 = b[i] := by
    have h2 : i < b.data.size := h
    simp only [List.getD, Array.getElem?_toList, Array.getElem?_eq_getElem h2, Option.getD_some]
    rfl
  rw [this]
def orZ (x y : Int) : Int := bits BinOp.or IntKind.u32 x y
def xorZ (x y : Int) : Int := bits BinOp.xor IntKind.u32 x y
theorem orZ_bd (x y : Int) : 0 ≤ orZ x y ∧ orZ x y ≤ 4294967295 := by unfold orZ bits; exact wrap_u32_bd _
def wordZ (b : ByteArray) (i : Nat) : Int :=
  orZ (orZ (orZ (byteZ b (4 * i) % 4294967296 * 16777216 % 4294967296) (byteZ b (4 * i + 1) % 4294967296 * 65536 % 4294967296)) (byteZ b (4 * i + 2) % 4294967296 * 256 % 4294967296)) (byteZ b (4 * i + 3) % 4294967296)
def mixW (y0 y1 y2 y3 : Int) : Int :=
  (y0 + xorZ (xorZ (rotI y1 7) (rotI y1 18)) (y1 / 8) + y2 + xorZ (xorZ (rotI y3 17) (rotI y3 19)) (y3 / 1024)) % 4294967296
def schN (b : ByteArray) (l : List Int) (k : Nat) : Int := if k < 16 then wordZ b k else mixW (ptAt l (k - 16)) (ptAt l (k - 15)) (ptAt l (k - 7)) (ptAt l (k - 2))
def schTo (b : ByteArray) : Nat → List Int
  | 0 => []
  | k + 1 => schTo b k ++ [schN b (schTo b k) k]
theorem schTo_len (b : ByteArray) : ∀ k, (schTo b k).length = k
  | 0 => rfl
  | k + 1 => by rw [schTo, List.length_append, schTo_len b k]; rfl
theorem ptAt_snoc (l : List Int) (x : Int) (j : Nat) : ptAt (l ++ [x]) j = if j = l.length then x else ptAt l j := by
  unfold ptAt
  simp only [List.getD]
  by_cases h : j < l.length
  · rw [List.getElem?_append_left h, if_neg (by omega)]
  · by_cases e : j = l.length
    · subst e; simp
    · rw [if_neg e, List.getElem?_eq_none (by simp; omega), List.getElem?_eq_none (by omega)]
theorem schN_bd (b : ByteArray) (l : List Int) (k : Nat) : 0 ≤ schN b l k ∧ schN b l k ≤ 4294967295 := by
  unfold schN
  split
  · exact orZ_bd _ _
  · unfold mixW; omega
theorem schTo_bd (b : ByteArray) : ∀ k j, 0 ≤ ptAt (schTo b k) j ∧ ptAt (schTo b k) j ≤ 4294967295
  | 0, j => by simp [schTo, ptAt]
  | k + 1, j => by
    rw [schTo, ptAt_snoc]
    split
    · exact schN_bd _ _ _
    · exact schTo_bd b k j

def andZ (x y : Int) : Int := bits BinOp.and IntKind.u32 x y
def notZ (x : Int) : Int := bits BinOp.xor IntKind.u32 IntKind.u32.max x
def tZ (v : List Int) (k w : Int) : Int :=
  ptAt v 7 + xorZ (xorZ (rotI (ptAt v 4) 6) (rotI (ptAt v 4) 11)) (rotI (ptAt v 4) 25) + xorZ (andZ (ptAt v 4) (ptAt v 5)) (andZ (notZ (ptAt v 4)) (ptAt v 6)) + k + w
def uZ (v : List Int) : Int :=
  xorZ (xorZ (rotI (ptAt v 0) 2) (rotI (ptAt v 0) 13)) (rotI (ptAt v 0) 22) + xorZ (xorZ (andZ (ptAt v 0) (ptAt v 1)) (andZ (ptAt v 0) (ptAt v 2))) (andZ (ptAt v 1) (ptAt v 2))
/-- One step. -/
def rnd (v : List Int) (k w : Int) : List Int :=
  [(tZ v k w + uZ v) % 4294967296, ptAt v 0, ptAt v 1, ptAt v 2, (ptAt v 3 + tZ v k w) % 4294967296, ptAt v 4, ptAt v 5, ptAt v 6]
def rndTo (f s : List Int) : Nat → List Int
  | 0 => s
  | k + 1 => rnd (rndTo f s k) (ptAt kAt k) (ptAt f k)
theorem rndTo_bd (f : List Int) {s : List Int} (hs : St8 s) : ∀ k, St8 (rndTo f s k)
  | 0 => hs
  | k + 1 => by
    have h := rndTo_bd f hs k
    refine ⟨rfl, fun j hj => ?_⟩
    rw [rndTo, rnd]
    match j, hj with
    | 0, _ => exact ⟨Int.emod_nonneg _ (by decide), by have := Int.emod_lt_of_pos (tZ (rndTo f s k) (ptAt kAt k) (ptAt f k) + uZ (rndTo f s k)) (show (0 : Int) < 4294967296 by decide); show _ % _ ≤ _; omega⟩
    | 1, _ => exact h.bd 0 (by omega)
    | 2, _ => exact h.bd 1 (by omega)
    | 3, _ => exact h.bd 2 (by omega)
    | 4, _ => exact ⟨Int.emod_nonneg _ (by decide), by have := Int.emod_lt_of_pos (ptAt (rndTo f s k) 3 + tZ (rndTo f s k) (ptAt kAt k) (ptAt f k)) (show (0 : Int) < 4294967296 by decide); show _ % _ ≤ _; omega⟩
    | 5, _ => exact h.bd 4 (by omega)
    | 6, _ => exact h.bd 5 (by omega)
    | 7, _ => exact h.bd 6 (by omega)
    | j + 8, hj => omega
theorem rnd_eq (f s : List Int) (k : Nat) : rndTo f s (k + 1) =
    [(ptAt (rndTo f s k) 7 + bits BinOp.xor IntKind.u32 (bits BinOp.xor IntKind.u32 (rotI (ptAt (rndTo f s k) 4) 6) (rotI (ptAt (rndTo f s k) 4) 11)) (rotI (ptAt (rndTo f s k) 4) 25) + bits BinOp.xor IntKind.u32 (bits BinOp.and IntKind.u32 (ptAt (rndTo f s k) 4) (ptAt (rndTo f s k) 5)) (bits BinOp.and IntKind.u32 (bits BinOp.xor IntKind.u32 IntKind.u32.max (ptAt (rndTo f s k) 4)) (ptAt (rndTo f s k) 6)) + ptAt kAt k + ptAt f k +
      (bits BinOp.xor IntKind.u32 (bits BinOp.xor IntKind.u32 (rotI (ptAt (rndTo f s k) 0) 2) (rotI (ptAt (rndTo f s k) 0) 13)) (rotI (ptAt (rndTo f s k) 0) 22) + bits BinOp.xor IntKind.u32 (bits BinOp.xor IntKind.u32 (bits BinOp.and IntKind.u32 (ptAt (rndTo f s k) 0) (ptAt (rndTo f s k) 1)) (bits BinOp.and IntKind.u32 (ptAt (rndTo f s k) 0) (ptAt (rndTo f s k) 2))) (bits BinOp.and IntKind.u32 (ptAt (rndTo f s k) 1) (ptAt (rndTo f s k) 2)))) % 4294967296,
     ptAt (rndTo f s k) 0, ptAt (rndTo f s k) 1, ptAt (rndTo f s k) 2,
     (ptAt (rndTo f s k) 3 + (ptAt (rndTo f s k) 7 + bits BinOp.xor IntKind.u32 (bits BinOp.xor IntKind.u32 (rotI (ptAt (rndTo f s k) 4) 6) (rotI (ptAt (rndTo f s k) 4) 11)) (rotI (ptAt (rndTo f s k) 4) 25) + bits BinOp.xor IntKind.u32 (bits BinOp.and IntKind.u32 (ptAt (rndTo f s k) 4) (ptAt (rndTo f s k) 5)) (bits BinOp.and IntKind.u32 (bits BinOp.xor IntKind.u32 IntKind.u32.max (ptAt (rndTo f s k) 4)) (ptAt (rndTo f s k) 6)) + ptAt kAt k + ptAt f k)) % 4294967296,
     ptAt (rndTo f s k) 4, ptAt (rndTo f s k) 5, ptAt (rndTo f s k) 6] := rfl
theorem stRow_size (s : List Int) : (stRow s).size = s.length := by simp [stRow]
theorem stRow_one (s : List Int) : (stRow s).all (·.oneCell') = true := by
  unfold stRow
  rw [Array.all_eq_true_iff_forall_mem]
  intro x hx
  simp at hx
  obtain ⟨z, _, rfl⟩ := hx
  rfl
theorem row_block {w : World} {g n : Nat} {t : TypeId} {s : List Int} (h : w.rowIs g t n (fun i => .int .u32 (ptAt s i))) (hl : s.length = n) : w.heap[g]? = some (.cells (stRow s) t (0, 0)) := by
  obtain ⟨c, hc, hn, hi⟩ := h
  have : c = stRow s := by
    apply Array.ext_getElem?
    intro i
    by_cases h : i < n
    · rw [hi i h]
      simp [stRow, ptAt, List.getD, show i < s.length by omega]
    · rw [Array.getElem?_eq_none (by omega), Array.getElem?_eq_none (by rw [stRow_size]; omega)]
  rw [hc, this]
/-- The blocks of a call of block. -/
structure Sha (w wr : World) (n1 : Nat) (s f : List Int) : Prop where
  st : wr.rowIs w.heap.size 254 8 (fun i => .int .u32 (ptAt s i))
  rs : wr.rowIs (w.heap.size + 1) 254 8 (fun _ => .int .u32 0)
  kk : wr.rowIs n1 272 64 (fun i => .int .u32 (ptAt kAt i))
  ww : wr.rowIs (n1 + 1) 272 64 (fun i => .int .u32 (ptAt f i))
  n : w.heap.size + 3 = n1
  only : Only (fun _ => False) w wr
structure ShaV (w wr : World) (n1 nv : Nat) (s f v : List Int) : Prop extends Sha w wr n1 s f where
  vv : wr.rowIs nv 254 8 (fun i => .int .u32 (ptAt v i))
  nn : n1 + 1 < nv
theorem ShaV.drewN {w wr : World} {n1 nv : Nat} {s f v : List Int} (h : ShaV w wr n1 nv s f v) (q : Nat) : ShaV w (wr.drewN q) n1 nv s f v :=
  ⟨⟨h.st, h.rs, h.kk, h.ww, h.n, h.only.drewN q⟩, h.vv, h.nn⟩
theorem Sha.opened {w wr : World} {n1 : Nat} {s f : List Int} (h : Sha w wr n1 s f) (hs : s.length = 8) : ShaV w (wr.alloc (Obj.cells (stRow s) 254)) n1 wr.heap.size s f s := by
  refine ⟨⟨h.st.alloc _, h.rs.alloc _, h.kk.alloc _, h.ww.alloc _, h.n, h.only.alloc _⟩, ?_, h.ww.lt⟩
  have := World.rowIs_alloc wr (stRow s) 254 (fun i => .int .u32 (ptAt s i)) (fun i hi => by
    rw [stRow_size] at hi
    simp [stRow, ptAt, List.getD, hi])
  rw [stRow_size, hs] at this
  exact this
theorem ShaV.put {w wr : World} {n1 nv : Nat} {s f v : List Int} (h : ShaV w wr n1 nv s f v) (q : Nat) (x0 x1 x2 x3 x4 x5 x6 x7 : Int) :
    ShaV w (((((((((wr.drewN q).setCell ⟨nv, 0, none⟩ (.int .u32 x0)).setCell ⟨nv, 1, none⟩ (.int .u32 x1)).setCell ⟨nv, 2, none⟩ (.int .u32 x2)).setCell ⟨nv, 3, none⟩ (.int .u32 x3)).setCell ⟨nv, 4, none⟩ (.int .u32 x4)).setCell ⟨nv, 5, none⟩ (.int .u32 x5)).setCell ⟨nv, 6, none⟩ (.int .u32 x6)).setCell ⟨nv, 7, none⟩ (.int .u32 x7)) n1 nv s f [x0, x1, x2, x3, x4, x5, x6, x7] := by
  have hn := h.n
  have hnn := h.nn
  have step : ∀ (wz : World) (g : Nat) (t : TypeId) (m : Nat) (F : Nat → Value) (i : Nat) (x : Int), g ≠ nv → wz.rowIs g t m F → (wz.setCell ⟨nv, i, none⟩ (.int .u32 x)).rowIs g t m F := fun wz g t m F i x hg hr => hr.setOther hg _
  have all : ∀ (g : Nat) (t : TypeId) (m : Nat) (F : Nat → Value), g ≠ nv → (wr.drewN q).rowIs g t m F → (((((((((wr.drewN q).setCell ⟨nv, 0, none⟩ (.int .u32 x0)).setCell ⟨nv, 1, none⟩ (.int .u32 x1)).setCell ⟨nv, 2, none⟩ (.int .u32 x2)).setCell ⟨nv, 3, none⟩ (.int .u32 x3)).setCell ⟨nv, 4, none⟩ (.int .u32 x4)).setCell ⟨nv, 5, none⟩ (.int .u32 x5)).setCell ⟨nv, 6, none⟩ (.int .u32 x6)).setCell ⟨nv, 7, none⟩ (.int .u32 x7)).rowIs g t m F := fun g t m F hg hr => step _ _ _ _ _ _ _ hg (step _ _ _ _ _ _ _ hg (step _ _ _ _ _ _ _ hg (step _ _ _ _ _ _ _ hg (step _ _ _ _ _ _ _ hg (step _ _ _ _ _ _ _ hg (step _ _ _ _ _ _ _ hg (step _ _ _ _ _ _ _ hg hr)))))))
  have hlo : ∀ i : Nat, w.heap.size ≤ (⟨nv, i, none⟩ : Addr).block := fun i => by show w.heap.size ≤ nv; omega
  refine ⟨⟨all _ _ _ _ (by omega) h.st, all _ _ _ _ (by omega) h.rs, all _ _ _ _ (by omega) h.kk, all _ _ _ _ (by omega) h.ww, hn, ?_⟩, ?_, hnn⟩
  · exact ((((((((h.only.drewN q).setCell (.inr (hlo 0)) _).setCell (.inr (hlo 1)) _).setCell (.inr (hlo 2)) _).setCell (.inr (hlo 3)) _).setCell (.inr (hlo 4)) _).setCell (.inr (hlo 5)) _).setCell (.inr (hlo 6)) _).setCell (.inr (hlo 7)) _
  · have hv : (wr.drewN q).rowIs nv 254 8 (fun i => .int .u32 (ptAt v i)) := h.vv
    refine ((((((((hv.set 0 (.int .u32 x0)).set 1 (.int .u32 x1)).set 2 (.int .u32 x2)).set 3 (.int .u32 x3)).set 4 (.int .u32 x4)).set 5 (.int .u32 x5)).set 6 (.int .u32 x6)).set 7 (.int .u32 x7)).congr (fun i hi => ?_)
    match i, hi with
    | 0, _ => rfl
    | 1, _ => rfl
    | 2, _ => rfl
    | 3, _ => rfl
    | 4, _ => rfl
    | 5, _ => rfl
    | 6, _ => rfl
    | 7, _ => rfl
    | i + 8, hi => omega
/-- The last loop: the sums. -/
structure ShaE (w wr : World) (n1 nv : Nat) (s v : List Int) (k : Nat) : Prop where
  st : wr.rowIs w.heap.size 254 8 (fun i => .int .u32 (if i < k then (ptAt s i + ptAt v i) % 4294967296 else ptAt s i))
  rs : wr.rowIs (w.heap.size + 1) 254 8 (fun _ => .int .u32 0)
  vv : wr.rowIs nv 254 8 (fun i => .int .u32 (ptAt v i))
  n : w.heap.size + 3 = n1
  nn : n1 + 1 < nv
  only : Only (fun _ => False) w wr
theorem ShaE.start {w wr : World} {n1 nv : Nat} {s f v : List Int} (h : ShaV w wr n1 nv s f v) : ShaE w wr n1 nv s v 0 :=
  ⟨h.st.congr (fun i _ => by simp), h.rs, h.vv, h.n, h.nn, h.only⟩
theorem ShaE.next {w wr : World} {n1 nv : Nat} {s v : List Int} {k : Nat} (h : ShaE w wr n1 nv s v k) (q : Nat) : ShaE w ((wr.drewN q).setCell ⟨w.heap.size, k, none⟩ (.int .u32 ((ptAt s k + ptAt v k) % 4294967296))) n1 nv s v (k + 1) := by
  have hn := h.n
  have hnn := h.nn
  refine ⟨(World.rowIs.set (show (wr.drewN q).rowIs _ _ _ _ from h.st) k _).congr (fun i _ => ?_), World.rowIs.setOther (show (wr.drewN q).rowIs _ _ _ _ from h.rs) (by show w.heap.size + 1 ≠ w.heap.size; omega) _, World.rowIs.setOther (show (wr.drewN q).rowIs _ _ _ _ from h.vv) (by show nv ≠ w.heap.size; omega) _, hn, hnn, (h.only.drewN q).setCell (.inr (Nat.le_refl _)) _⟩
  by_cases e : i = k
  · subst e; rw [if_pos rfl, if_pos (by omega)]
  · rw [if_neg e]
    by_cases e2 : i < k
    · rw [if_pos e2, if_pos (by omega)]
    · rw [if_neg e2, if_neg (by omega)]
def addL (s v : List Int) : List Int := (List.range 8).map (fun j => (ptAt s j + ptAt v j) % 4294967296)
theorem addL_len (s v : List Int) : (addL s v).length = 8 := by simp [addL]
theorem addL_at (s v : List Int) {j : Nat} (h : j < 8) : ptAt (addL s v) j = (ptAt s j + ptAt v j) % 4294967296 := by
  simp only [ptAt, addL, List.getD, List.getElem?_map, List.getElem?_range h]; rfl
theorem addL_st (s v : List Int) : St8 (addL s v) := ⟨addL_len s v, fun j hj => by rw [addL_at s v hj]; omega⟩
theorem ShaE.ends {w wr : World} {n1 nv : Nat} {s v : List Int} (h : ShaE w wr n1 nv s v 8) : wr.heap[w.heap.size]? = some (.cells (stRow (addL s v)) 254 (0, 0)) :=
  row_block (h.st.congr (fun i hi => by rw [if_pos hi, addL_at s v hi])) (addL_len s v)
def zeros8 : Array Value := stRow [0, 0, 0, 0, 0, 0, 0, 0]
theorem row8 {w : World} {g : Nat} (h : w.rowIs g 254 8 (fun _ => .int .u32 0)) : w.heap[g]? = some (.cells zeros8 254 (0, 0)) :=
  row_block (s := [0, 0, 0, 0, 0, 0, 0, 0]) (h.congr (fun i hi => by
    match i, hi with
    | 0, _ => rfl
    | 1, _ => rfl
    | 2, _ => rfl
    | 3, _ => rfl
    | 4, _ => rfl
    | 5, _ => rfl
    | 6, _ => rfl
    | 7, _ => rfl
    | i + 8, hi => omega)) rfl
def blockZ (s : List Int) (b : ByteArray) : List Int := addL s (rndTo (schTo b 64) s 64)
theorem Only.setRow {S : Nat → Prop} {a w : World} (h : Only S a w) {g : Nat} (hg : a.heap.size ≤ g) (cs : Array Value) : Only S a (w.setRow g cs) :=
  h.trans' (T := fun k => k = g) ⟨rfl, rfl, rfl, by simp, fun k _ hk => by simp only [World.setRow, Array.getElem?_modify]; rw [if_neg (fun e => hk e.symm)]⟩ (fun i hi e => by omega)
theorem sha_start (w w1 : World) (s : List Int) (z8 z64 : Array Value) (hs : s.length = 8) (hw1 : w1 = ((w.alloc (.cells (stRow s) 254)).alloc (.cells z8 254)).alloc (.cells kRow 272)) (hz8 : z8 = Array.replicate 8 (.int .u32 0)) (hz64 : z64 = Array.replicate 64 (.int .u32 0)) :
    Sha w ((w1.alloc (.cells kRow 272)).alloc (.cells z64 272)) w1.heap.size s [] := by
  have hn : w1.heap.size = w.heap.size + 3 := by rw [hw1]; simp
  have hO : Only (fun _ => False) w w1 := by rw [hw1]; exact (((Only.refl _ w).alloc _).alloc _).alloc _
  have h0 : w1.rowIs w.heap.size 254 8 (fun i => .int .u32 (ptAt s i)) := by
    rw [hw1]
    have := World.rowIs_alloc w (stRow s) 254 (fun i => .int .u32 (ptAt s i)) (fun i hi => by
      rw [stRow_size] at hi
      simp [stRow, ptAt, List.getD, hi])
    rw [stRow_size, hs] at this
    exact (this.alloc _).alloc _
  have h1 : w1.rowIs (w.heap.size + 1) 254 8 (fun _ => .int .u32 0) := by
    rw [hw1, hz8]
    have := World.rowIs_alloc (w.alloc (.cells (stRow s) 254)) (Array.replicate 8 (.int .u32 0)) 254 (fun _ => .int .u32 0) (fun i hi => by simp at hi; simp [hi])
    rw [World.size_alloc, Array.size_replicate] at this
    exact this.alloc _
  have h2 : (w1.alloc (.cells kRow 272)).rowIs w1.heap.size 272 64 (fun i => .int .u32 (ptAt kAt i)) := by
    have := World.rowIs_alloc w1 kRow 272 (fun i => .int .u32 (ptAt kAt i)) (fun i hi => by
      have h : i < kAt.length := by simpa [kRow] using hi
      simp [kRow, ptAt, List.getD, h])
    rw [kRow_size] at this; exact this
  have h3 : ((w1.alloc (.cells kRow 272)).alloc (.cells z64 272)).rowIs (w1.heap.size + 1) 272 64 (fun i => .int .u32 (ptAt [] i)) := by
    rw [hz64]
    have := World.rowIs_alloc (w1.alloc (.cells kRow 272)) (Array.replicate 64 (.int .u32 0)) 272 (fun i => .int .u32 (ptAt [] i)) (fun i hi => by simp at hi; simp [hi, ptAt])
    rw [World.size_alloc, Array.size_replicate] at this
    exact this
  exact ⟨(h0.alloc _).alloc _, (h1.alloc _).alloc _, h2.alloc _, h3, hn.symm, (hO.alloc _).alloc _⟩
theorem Sha.word {w wr : World} {n1 : Nat} {s f : List Int} (h : Sha w wr n1 s f) (q : Nat) {k : Nat} (hk : f.length = k) (x : Int) : Sha w ((wr.drewN q).setCell ⟨n1 + 1, k, none⟩ (.int .u32 x)) n1 s (f ++ [x]) := by
  have hn := h.n
  have hw : (wr.drewN q).rowIs (n1 + 1) 272 64 (fun i => .int .u32 (ptAt f i)) := h.ww
  refine ⟨World.rowIs.setOther (show (wr.drewN q).rowIs _ _ _ _ from h.st) (by show w.heap.size ≠ n1 + 1; omega) _, World.rowIs.setOther (show (wr.drewN q).rowIs _ _ _ _ from h.rs) (by show w.heap.size + 1 ≠ n1 + 1; omega) _, World.rowIs.setOther (show (wr.drewN q).rowIs _ _ _ _ from h.kk) (by show n1 ≠ n1 + 1; omega) _, (hw.set k _).congr (fun i _ => ?_), hn, (h.only.drewN q).setCell (.inr (by show w.heap.size ≤ n1 + 1; omega)) _⟩
  rw [ptAt_snoc, hk]
  split <;> rfl

set_option maxRecDepth 100000 in
set_option maxHeartbeats 2000000 in
theorem rblock_any (s : List Int) (b : ByteArray) (w : World) (hs : St8 s) (hb : b.size = 64) :
    Calls Tryz.prog 187 #[.agg (stRow s), .string b] w fun e w' => e = .returned (.agg (stRow (blockZ s b))) ∧ Only (fun _ => False) w w' := by
  have HB := Lib.hid hb
  have HI8 := Lib.hid (show (Tryz.prog.info? 254).map (·.size) = some (stRow s).size by rw [stRow_size, hs.len]; exact Tryz.info8)
  have HSZ := Lib.hid (show 8 = (stRow s).size by rw [stRow_size, hs.len])
  have HON := Lib.hid (stRow_one s)
  have hb1 : 64 ≤ b.size := by omega
  clear hb
  go_enter Tryz.func187, Tryz.ntmps187
  go_wp2_with fail
  refine (rrounds_any _).mono ?_
  rintro e w1 ⟨rfl, hw1⟩
  have HW1 := Lib.hid hw1
  clear hw1
  go_wp2_with (first | (refine wpList_store_row rfl 272 _ _ rfl w1.heap.size kRow rfl rfl 272 _ (heap_alloc_last w1 _) Tryz.infoK rfl kRow_one ?_; rw [World.setRow_alloc_new]))
  generalize hW : (w1.alloc (Obj.cells kRow 272)).alloc _ = W
  have HS := Lib.hid (show Sha w W w1.heap.size s [] by rw [← hW]; exact sha_start w w1 s _ _ hs.len HW1.out rfl rfl)
  clear hW HW1
  generalize w1.heap.size = n1 at *
  go_loopw [7] (fun vi wr => ∃ k : Nat, k ≤ 64 ∧ vi = .int .i64 k ∧ Sha w wr n1 s (schTo b k)) (fun vi _ => 64 - (intOf vi).toNat)
  case atStart => exact ⟨0, by omega, rfl, HS.out⟩
  case round =>
    clear HS
    obtain ⟨k, hk, rfl, hS⟩ := hrel
    by_cases hlt : k < 64
    · by_cases h16 : k < 16
      · have hc := hS.ww.cell (i := k) (by omega)
        have hfz := hS.ww.frozen k
        have hn1 := hS.ww.lt
        have HS := Lib.hid hS
        clear hS
        have HSC := Lib.hid (show schTo b (k + 1) = schTo b k ++ [schN b (schTo b k) k] from rfl)
        have HSN := Lib.hid (show schN b (schTo b k) k = wordZ b k from if_pos h16)
        have HWD := Lib.hid (show wordZ b k = bits BinOp.or IntKind.u32 (bits BinOp.or IntKind.u32 (bits BinOp.or IntKind.u32 (byteZ b (4 * k) % 4294967296 * 16777216 % 4294967296) (byteZ b (4 * k + 1) % 4294967296 * 65536 % 4294967296)) (byteZ b (4 * k + 2) % 4294967296 * 256 % 4294967296)) (byteZ b (4 * k + 3) % 4294967296) from rfl)
        have i0 : 4 * (k : Int) < b.size := by omega
        have i1 : 4 * (k : Int) + 1 < b.size := by omega
        have i2 : 4 * (k : Int) + 2 < b.size := by omega
        have i3 : 4 * (k : Int) + 3 < b.size := by omega
        have j0 : 0 ≤ 4 * (k : Int) := by omega
        have j1 : 0 ≤ 4 * (k : Int) + 1 := by omega
        have j2 : 0 ≤ 4 * (k : Int) + 2 := by omega
        have j3 : 0 ≤ 4 * (k : Int) + 3 := by omega
        go_wp2_with fail
        refine wp_region_quiet_split 31 (by kernel_rfl) (by kernel_rfl) (by kernel_rfl) ?_
        simp only [List.take_succ_cons, List.take_zero, List.drop_succ_cons, List.drop_zero]
        repeat (go_big_quiet_step (fail))
        refine wpQuiet_nil ?_
        intro _ hw'
        obtain ⟨nq, hw''⟩ := hw'
        subst hw''
        go_wp2
        go_roundw
        case rel => exact ⟨k + 1, by omega, by go_num, by
            have h1 := HS.out.word nq (schTo_len b k) (schN b (schTo b k) k)
            rw [HSN.out, HWD.out] at h1
            rw [HSC.out, HSN.out, HWD.out]
            simp only [byteZ_eq]
            exact h1⟩
        case measure => simp [intOf]; omega
      · have c1 := hS.ww.cell (i := k - 15) (by omega)
        have c2 := hS.ww.cell (i := k - 2) (by omega)
        have c3 := hS.ww.cell (i := k - 16) (by omega)
        have c4 := hS.ww.cell (i := k - 7) (by omega)
        have hc := hS.ww.cell (i := k) (by omega)
        have hfz := hS.ww.frozen k
        have hn1 := hS.ww.lt
        have HS := Lib.hid hS
        have b1 := schTo_bd b k (k - 15)
        have b2 := schTo_bd b k (k - 2)
        have b3 := schTo_bd b k (k - 16)
        have b4 := schTo_bd b k (k - 7)
        have HSC := Lib.hid (show schTo b (k + 1) = schTo b k ++ [schN b (schTo b k) k] from rfl)
        have HSN := Lib.hid (show schN b (schTo b k) k = mixW (ptAt (schTo b k) (k - 16)) (ptAt (schTo b k) (k - 15)) (ptAt (schTo b k) (k - 7)) (ptAt (schTo b k) (k - 2)) from if_neg h16)
        obtain ⟨b10, b11⟩ := b1
        obtain ⟨b20, b21⟩ := b2
        obtain ⟨b30, b31⟩ := b3
        obtain ⟨b40, b41⟩ := b4
        generalize ptAt (schTo b k) (k - 16) = y0 at *
        generalize ptAt (schTo b k) (k - 15) = y1 at *
        generalize ptAt (schTo b k) (k - 7) = y2 at *
        generalize ptAt (schTo b k) (k - 2) = y3 at *
        clear hS
        go_wp2_with fail
        refine wp_region_quiet_split 29 (by kernel_rfl) (by kernel_rfl) (by kernel_rfl) ?_
        simp only [List.take_succ_cons, List.take_zero, List.drop_succ_cons, List.drop_zero]
        repeat (go_big_quiet_step ((go_at_call 207; exact Calls.quiet_of (rrotI_any _ _ _ (by assumption) (by assumption) (by decide) (by decide)))))
        refine wpQuiet_nil ?_
        intro _ hw'
        obtain ⟨nq, hw''⟩ := hw'
        subst hw''
        go_wp2
        go_roundw
        case rel => exact ⟨k + 1, by omega, by go_num, by
            have h1 := HS.out.word nq (schTo_len b k) (schN b (schTo b k) k)
            rw [HSN.out] at h1
            rw [HSC.out, HSN.out]
            exact h1⟩
        case measure => simp [intOf]; omega
    · obtain rfl : k = 64 := by omega
      obtain ⟨F, hF⟩ : ∃ F, schTo b 64 = F := ⟨_, rfl⟩
      rw [hF] at hS
      have HF := Lib.hid hF
      clear hF
      have hst := row_block hS.st hs.len
      have HS := Lib.hid hS
      have HST := Lib.hid hst
      have hsz := hS.ww.lt
      clear hS hst
      go_wp2_with (first | (refine wpList_load_row rfl 254 _ rfl w.heap.size rfl 254 (stRow s) (0, 0) _ HST.out Tryz.underlying254 rfl HI8.out ?_) | (refine wpList_store_row rfl 254 _ _ rfl wr.heap.size (stRow s) rfl rfl 254 _ (heap_alloc_last wr _) HI8.out HSZ.out HON.out ?_; rw [World.setRow_alloc_new]))
      have HV := Lib.hid (HS.out.opened hs.len)
      clear HS HST HI8 HSZ HON hsz
      generalize wr.alloc (Obj.cells (stRow s) 254) = W2 at *
      generalize wr.heap.size = nv at *
      go_loopw [11] (fun vi wr => ∃ k : Nat, k ≤ 64 ∧ vi = .int .i64 k ∧ ShaV w wr n1 nv s F (rndTo F s k)) (fun vi _ => 64 - (intOf vi).toNat)
      case atStart => exact ⟨0, by omega, rfl, HV.out⟩
      case round =>
        clear HV
        obtain ⟨k, hk, rfl, hV⟩ := hrel
        have HV := Lib.hid hV
        by_cases hlt : k < 64
        · have v0 := hV.vv.cell (i := 0) (by omega)
          have v1 := hV.vv.cell (i := 1) (by omega)
          have v2 := hV.vv.cell (i := 2) (by omega)
          have v3 := hV.vv.cell (i := 3) (by omega)
          have v4 := hV.vv.cell (i := 4) (by omega)
          have v5 := hV.vv.cell (i := 5) (by omega)
          have v6 := hV.vv.cell (i := 6) (by omega)
          have v7 := hV.vv.cell (i := 7) (by omega)
          have ck := hV.kk.cell (i := k) (by omega)
          have cw := hV.ww.cell (i := k) (by omega)
          have l1 := hV.kk.lt
          have l2 := hV.ww.lt
          have l3 := hV.vv.lt
          have hbv := rndTo_bd F hs k
          have HRN := Lib.hid (rnd_eq F s k)
          have HVB := Lib.hid (row_block hV.vv hbv.len)
          have HSZ := Lib.hid (show 8 = (stRow (rndTo F s k)).size by rw [stRow_size, hbv.len])
          obtain ⟨a0, a1⟩ := hbv.bd 0 (by omega)
          obtain ⟨e0, e1⟩ := hbv.bd 4 (by omega)
          clear hV
          generalize ptAt (rndTo F s k) 0 = va at *
          generalize ptAt (rndTo F s k) 1 = vb at *
          generalize ptAt (rndTo F s k) 2 = vc at *
          generalize ptAt (rndTo F s k) 3 = vd at *
          generalize ptAt (rndTo F s k) 4 = ve at *
          generalize ptAt (rndTo F s k) 5 = vf at *
          generalize ptAt (rndTo F s k) 6 = vg at *
          generalize ptAt (rndTo F s k) 7 = vh at *
          generalize ptAt kAt k = vk at *
          generalize ptAt F k = vw at *
          have hlt2 : (k : Int) < 64 := by omega
          have hsg : IntKind.u32.signed = false := rfl
          clear hk
          go_wp2_with fail
          go_quiet ((go_at_call 207; exact Calls.quiet_of (rrotI_any _ _ _ (by assumption) (by assumption) (by decide) (by decide))))
          go_wp2_with fail
          have v0' : (wr.drewN nq).cell? ⟨nv, 0, none⟩ = some (.int .u32 va) := v0
          have v1' : (wr.drewN nq).cell? ⟨nv, 1, none⟩ = some (.int .u32 vb) := v1
          have v2' : (wr.drewN nq).cell? ⟨nv, 2, none⟩ = some (.int .u32 vc) := v2
          have v3' : (wr.drewN nq).cell? ⟨nv, 3, none⟩ = some (.int .u32 vd) := v3
          have v4' : (wr.drewN nq).cell? ⟨nv, 4, none⟩ = some (.int .u32 ve) := v4
          have v5' : (wr.drewN nq).cell? ⟨nv, 5, none⟩ = some (.int .u32 vf) := v5
          have v6' : (wr.drewN nq).cell? ⟨nv, 6, none⟩ = some (.int .u32 vg) := v6
          have v7' : (wr.drewN nq).cell? ⟨nv, 7, none⟩ = some (.int .u32 vh) := v7
          have HVB' := Lib.hid (show (wr.drewN nq).heap[nv]? = some (.cells (stRow (rndTo F s k)) 254 (0, 0)) from HVB.out)
          have HV' := Lib.hid (HV.out.drewN nq)
          have l3' : nv < (wr.drewN nq).heap.size := l3
          clear v0 v1 v2 v3 v4 v5 v6 v7 HVB HV l3 ck cw l1 l2
          have f0 := HV'.out.vv.frozen 0
          have f1 := HV'.out.vv.frozen 1
          have f2 := HV'.out.vv.frozen 2
          have f3 := HV'.out.vv.frozen 3
          have f4 := HV'.out.vv.frozen 4
          have f5 := HV'.out.vv.frozen 5
          have f6 := HV'.out.vv.frozen 6
          have f7 := HV'.out.vv.frozen 7
          generalize wr.drewN nq = wq at *
          go_quiet ((go_at_call 207; exact Calls.quiet_of (rrotI_any _ _ _ (by assumption) (by assumption) (by decide) (by decide))))
          go_wp2
          go_roundw
          case rel => exact ⟨k + 1, by omega, by go_num, by rw [HRN.out]; exact HV'.out.put nq _ _ _ _ _ _ _ _⟩
          case measure => simp [intOf]; omega
        · have HK := Lib.hid (show k = 64 by omega)
          obtain ⟨V, hV64⟩ : ∃ V, rndTo F s k = V := ⟨_, rfl⟩
          rw [hV64] at hV
          have HV64 := Lib.hid hV64
          have HE := Lib.hid (ShaE.start hV)
          clear hV hV64 HV
          have hk2 : (k : Int) = 64 := by omega
          rw [hk2]
          clear hk2 hlt hk
          go_wp2_with fail
          go_loopw [16] (fun vi wr => ∃ k : Nat, k ≤ 8 ∧ vi = .int .i64 k ∧ ShaE w wr n1 nv s V k) (fun vi _ => 8 - (intOf vi).toNat)
          case atStart => exact ⟨0, by omega, rfl, HE.out⟩
          case round =>
            clear HE
            obtain ⟨k, hk, rfl, hE⟩ := hrel
            have HE := Lib.hid hE
            by_cases hlt : k < 8
            · have c1 := hE.st.cell (i := k) (by omega)
              have c2 := hE.vv.cell (i := k) (by omega)
              have fz := hE.st.frozen k
              have l1 := hE.st.lt
              have l2 := hE.vv.lt
              rw [show (if k < k then (ptAt s k + ptAt V k) % 4294967296 else ptAt s k) = ptAt s k from if_neg (by omega)] at c1
              obtain ⟨x, hx⟩ : ∃ x, ptAt s k = x := ⟨_, rfl⟩
              obtain ⟨y, hy⟩ : ∃ y, ptAt V k = y := ⟨_, rfl⟩
              rw [hx] at c1
              rw [hy] at c2
              have HX := Lib.hid hx
              have HY := Lib.hid hy
              clear hx hy
              have hlt2 : (k : Int) < 8 := by omega
              clear hE hk
              go_wp2_with fail
              refine wp_region_quiet_split 9 (by kernel_rfl) (by kernel_rfl) (by kernel_rfl) ?_
              simp only [List.take_succ_cons, List.take_zero, List.drop_succ_cons, List.drop_zero]
              repeat (go_big_quiet_step (fail))
              refine wpQuiet_nil ?_
              intro _ hw'
              obtain ⟨nq, hw''⟩ := hw'
              subst hw''
              go_wp2
              go_roundw
              case rel => exact ⟨k + 1, by omega, by go_num, by
                  have h1 := HE.out.next nq
                  rw [HX.out, HY.out] at h1; exact h1⟩
              case measure => simp [intOf]; omega
            · obtain rfl : k = 8 := by omega
              obtain ⟨R, hR⟩ : ∃ R, addL s V = R := ⟨_, rfl⟩
              have hst := hE.ends
              rw [hR] at hst
              have HR := Lib.hid hR
              have HST := Lib.hid hst
              have HRS := Lib.hid (row8 hE.rs)
              have HZR := Lib.hid (show (Tryz.prog.info? 254).map (·.size) = some (stRow R).size by rw [stRow_size, ← hR, addL_len]; exact Tryz.info8)
              have HSR := Lib.hid (show zeros8.size = (stRow R).size by rw [stRow_size, ← hR, addL_len]; rfl)
              have HOR := Lib.hid (stRow_one R)
              have HOE := Lib.hid hE.only
              clear hE hst hR hlt hk
              go_wp2_with (first | (refine wpList_load_row rfl 254 _ rfl w.heap.size rfl 254 (stRow R) (0, 0) _ HST.out Tryz.underlying254 rfl HZR.out ?_) | (refine wpList_store_row rfl 254 _ _ rfl (w.heap.size + 1) (stRow R) rfl rfl 254 zeros8 HRS.out HZR.out HSR.out HOR.out ?_))
              refine bodyPost_ret (v := .agg (stRow R)) (results_cell_row rfl _ _ (w.heap.size + 1) 254 (stRow R) (0, 0) _ rfl (setRow_heap _ _ _ _ _ _ HRS.out) Tryz.underlying254 rfl HZR.out) rfl ⟨?_, HOE.out.setRow (by omega) _⟩
              rw [← HR.out, ← HV64.out, ← HF.out, HK.out]
              rfl
end Go.Proofs.YtldkjkjpaiajlaaGreatDoor

namespace Go.Proofs.YtldkjkjpaiajlaaGreatDoor
open Go.RowKit

def zpad (s : ByteArray) : Nat → ByteArray
  | 0 => s ++ ⟨#[128]⟩
  | j + 1 => zpad s j ++ ⟨#[0]⟩
theorem zpad_size (s : ByteArray) : ∀ j, (zpad s j).size = s.size + 1 + j
  | 0 => by rw [zpad, ByteArray.size_append]; rfl
  | j + 1 => by rw [zpad, ByteArray.size_append, zpad_size s j]; rfl
def padN (s : ByteArray) : Nat := (119 - s.size % 64) % 64

/-- 'string([]byte{x})'. -/
theorem conv_one (w : World) (x : Int) : (convert 22 9 (.slice (some ⟨w.heap.size, 0, none⟩) 1 1)).run Tryz.prog (w.alloc (.cells #[.int .u8 x] 5)) = .ok (.string (strOfNums [x])) (w.alloc (.cells #[.int .u8 x] 5)) :=
  run_convert_bytes_arg (P := Tryz.prog) _ 22 5 Tryz.underlying22 Tryz.underlying5 w.heap.size 0 1 1 [x] rfl (fun i hi => by
    obtain rfl : i = 0 := by omega
    rw [World.cell?_alloc_new]; rfl) 9 Tryz.underlying9
theorem strOf_size1 (x : Int) : (strOfNums [x]).size = 1 := strOfNums_size [x]
theorem padN_lt (s : ByteArray) : padN s < 64 := Nat.mod_lt _ (by decide)
def lpad (s : ByteArray) : Nat → ByteArray
  | 0 => zpad s (padN s)
  | k + 1 => lpad s k ++ strOfNums [(s.size : Int) * 8 / 2 ^ (8 * (7 - k)) % 256]
theorem lpad_size (s : ByteArray) : ∀ k, (lpad s k).size = s.size + 1 + padN s + k
  | 0 => by rw [lpad, zpad_size]; rfl
  | k + 1 => by rw [lpad, ByteArray.size_append, lpad_size s k, strOf_size1]; omega
set_option maxRecDepth 100000 in
set_option maxHeartbeats 1000000 in
theorem rpadded_any (s : ByteArray) (w : World) (hs : s.size ≤ 150000000000000) :
    Calls Tryz.prog 186 #[.string s] w fun e w' => e = .returned (.string (lpad s 8)) ∧ Only (fun _ => False) w w' := by
  go_enter Tryz.func186, Tryz.ntmps186
  go_wp2_with fail
  go_loop [3] (fun t => ∃ j : Nat, j ≤ padN s ∧ t = .string (zpad s j)) (fun t => match t with | .string t => s.size + 100 - t.size | _ => 0)
  case atStart => exact ⟨0, Nat.zero_le _, rfl⟩
  case round =>
    obtain ⟨j, hj, rfl⟩ := hrel
    have hz := zpad_size s j
    have hp : padN s < 64 := Nat.mod_lt _ (by decide)
    by_cases hlt : j < padN s
    · have hq : (((zpad s j).size : Int) % 64 != 56) = true := by
        rw [hz]; unfold padN at hlt; simp; omega
      have HZ := Lib.hid hz
      have hsz : (zpad s j).size ≤ 150000000000100 := by omega
      clear hz
      go_wp2
      go_round
      case rel => exact ⟨j + 1, by omega, rfl⟩
      case measure => have := HZ.out; show s.size + 100 - (zpad s j ++ ⟨#[0]⟩).size < s.size + 100 - (zpad s j).size; rw [ByteArray.size_append, HZ.out]; show _ - (_ + 1) < _; omega
    · have hq : (((zpad s j).size : Int) % 64 != 56) = false := by
        rw [hz]; unfold padN at hlt hj; simp; omega
      have HZ := Lib.hid hz
      have HJ := Lib.hid (show j = padN s by omega)
      have hsz : (zpad s j).size ≤ 150000000000100 := by omega
      clear hz
      go_wp2_with fail
      have HZ0 := Lib.hid (show lpad s 0 = zpad s j by rw [HJ.out]; rfl)
      go_loopw [3, 5] (fun t vi wr => ∃ k : Nat, k ≤ 8 ∧ vi = .int .i64 (7 - (k : Int)) ∧ t = .string (lpad s k) ∧ Only (fun _ => False) w wr) (fun _ vi _ => (intOf vi + 1).toNat)
      case atStart => exact ⟨0, by omega, rfl, by rw [HZ0.out], Only.refl _ _⟩
      case round =>
        clear HZ0 HJ hlt hj hp hq HZ hsz
        obtain ⟨k, hk, rfl, rfl, hO⟩ := hrel
        have HO := Lib.hid hO
        have hsz : (lpad s k).size ≤ 150000000000200 := by have := lpad_size s k; have := padN_lt s; omega
        clear hO
        by_cases hlt : k < 8
        · have i1 : 0 ≤ 7 - (k : Int) := by omega
          have i2 : 7 - (k : Int) ≤ 7 := by omega
          have hcv := conv_one wr
          have hso := strOf_size1
          have HLP := Lib.hid (show lpad s (k + 1) = lpad s k ++ strOfNums [(s.size : Int) * 8 / 2 ^ (8 * (7 - k)) % 256] from rfl)
          go_wp2
          go_roundw
          case rel => exact ⟨k + 1, by omega, by congr 1; omega, by rw [HLP.out], HO.out.alloc _⟩
          case measure => simp [intOf]; omega
        · have i1 : (7 - (k : Int)) < 0 := by omega
          obtain rfl : k = 8 := by omega
          go_wp2
          go_ret
          exact ⟨rfl, HO.out⟩
end Go.Proofs.YtldkjkjpaiajlaaGreatDoor

namespace Go.Proofs.YtldkjkjpaiajlaaGreatDoor
open Go.RowKit

def first8 : List Int := [0x6a09e667, 0xbb67ae85, 0x3c6ef372, 0xa54ff53a, 0x510e527f, 0x9b05688c, 0x1f83d9ab, 0x5be0cd19]
def stTo (t : ByteArray) : Nat → List Int
  | 0 => first8
  | k + 1 => blockZ (stTo t k) (t.extract (64 * k) (64 * k + 64))
theorem first8_st : St8 first8 := ⟨rfl, fun j hj => by
  match j, hj with
  | 0, _ => decide
  | 1, _ => decide
  | 2, _ => decide
  | 3, _ => decide
  | 4, _ => decide
  | 5, _ => decide
  | 6, _ => decide
  | 7, _ => decide
  | j + 8, hj => omega⟩
theorem stTo_st (t : ByteArray) : ∀ k, St8 (stTo t k)
  | 0 => first8_st
  | _ + 1 => addL_st _ _
def byteOf (s : List Int) (i : Nat) : Int := ptAt s (i / 4) / 2 ^ (8 * (3 - i % 4)) % 256
def hashOf (s : List Int) : List Int := (List.range 32).map (byteOf s)
def byRow (l : List Int) : Array Value := (l.map (Value.int .u8)).toArray
/-- The hash of a string. -/
def shaL (s : ByteArray) : List Int := hashOf (stTo (lpad s 8) ((lpad s 8).size / 64))
theorem eight_of {s : List Int} (h : s.length = 8) : ∃ a b c d e f g i, s = [a, b, c, d, e, f, g, i] := by
  match s, h with
  | [a, b, c, d, e, f, g, i], _ => exact ⟨a, b, c, d, e, f, g, i, rfl⟩
structure SumAt (w wr : World) (n : Nat) (s : List Int) : Prop where
  st : wr.rowIs n 254 8 (fun i => .int .u32 (ptAt s i))
  rs : ∃ z, wr.heap[w.heap.size]? = some (.cells z 226 (0, 0)) ∧ z.size = 32
  lo : w.heap.size < n
  only : Only (fun _ => False) w wr

theorem SumAt.frame {w wr w' : World} {n : Nat} {s : List Int} (h : SumAt w wr n s) (hO : Only (fun _ => False) wr w') : SumAt w w' n s := by
  obtain ⟨z, hz, hz2⟩ := h.rs
  exact ⟨h.st.of_block (hO.block n h.st.lt (fun h => h)), ⟨z, (hO.block _ (Array.getElem?_eq_some_iff.1 hz).1 (fun h => h)).trans hz, hz2⟩, h.lo, h.only.trans hO⟩
theorem heap_setRow_other (w : World) (g k : Nat) (cs : Array Value) (h : k ≠ g) : (w.setRow g cs).heap[k]? = w.heap[k]? := by
  simp only [World.setRow, Array.getElem?_modify]; rw [if_neg (fun e => h e.symm)]
theorem SumAt.put {w wr : World} {n : Nat} {s s' : List Int} (h : SumAt w wr n s) (hs' : s'.length = 8) : SumAt w (wr.setRow n (stRow s')) n s' := by
  obtain ⟨z, hz, hz2⟩ := h.rs
  obtain ⟨c, hc, _, _⟩ := h.st
  have hn := h.lo
  refine ⟨⟨stRow s', setRow_heap _ _ _ _ _ _ hc, by rw [stRow_size, hs'], fun i hi => by simp [stRow, ptAt, List.getD, show i < s'.length by omega]⟩, ⟨z, (heap_setRow_other _ _ _ _ (by omega)).trans hz, hz2⟩, hn, h.only.setRow (by omega) _⟩

structure HashAt (w wr : World) (n nh : Nat) (s : List Int) (k : Nat) : Prop extends SumAt w wr n s where
  hh : wr.rowIs nh 226 32 (fun i => .int .u8 (if i < k then byteOf s i else 0))
  nn : n < nh
theorem SumAt.opened {w wr : World} {n : Nat} {s : List Int} (h : SumAt w wr n s) (z : Array Value) (hz : z = Array.replicate 32 (.int .u8 0)) : HashAt w (wr.alloc (.cells z 226)) n wr.heap.size s 0 := by
  refine ⟨h.frame ((Only.refl _ wr).alloc _), ?_, h.st.lt⟩
  rw [hz]
  have := World.rowIs_alloc wr (Array.replicate 32 (.int .u8 0)) 226 (fun _ => .int .u8 0) (fun i hi => by simp at hi; simp [hi])
  rw [Array.size_replicate] at this
  exact this.congr (fun i _ => by simp)
theorem HashAt.next {w wr : World} {n nh : Nat} {s : List Int} {k : Nat} (h : HashAt w wr n nh s k) : HashAt w (wr.setCell ⟨nh, k, none⟩ (.int .u8 (byteOf s k))) n nh s (k + 1) := by
  obtain ⟨z, hz, hz2⟩ := h.rs
  have hn := h.lo
  have hnn := h.nn
  refine ⟨⟨h.st.setOther (by show n ≠ nh; omega) _, ⟨z, (heap_setCell_other _ _ _ _ (by show w.heap.size ≠ nh; omega)).trans hz, hz2⟩, hn, h.only.setCell (.inr (by show w.heap.size ≤ nh; omega)) _⟩, (h.hh.set k _).congr (fun i _ => ?_), hnn⟩
  by_cases e : i = k
  · subst e; rw [if_pos rfl, if_pos (by omega)]
  · rw [if_neg e]
    by_cases e2 : i < k
    · rw [if_pos e2, if_pos (by omega)]
    · rw [if_neg e2, if_neg (by omega)]

theorem byRow_size (l : List Int) : (byRow l).size = l.length := by simp [byRow]
theorem hashOf_len (s : List Int) : (hashOf s).length = 32 := by simp [hashOf]
theorem byRow_one (s : List Int) : (byRow s).all (·.oneCell') = true := by
  unfold byRow
  rw [Array.all_eq_true_iff_forall_mem]
  intro x hx
  simp at hx
  obtain ⟨z, _, rfl⟩ := hx
  rfl
theorem Tryz.infoH : (Tryz.prog.info? 226).map (·.size) = some 32 := by kernel_rfl
theorem HashAt.ends {w wr : World} {n nh : Nat} {s : List Int} (h : HashAt w wr n nh s 32) : wr.heap[nh]? = some (.cells (byRow (hashOf s)) 226 (0, 0)) := by
  obtain ⟨c, hc, hn, hi⟩ := h.hh
  have : c = byRow (hashOf s) := by
    apply Array.ext_getElem?
    intro i
    by_cases h : i < 32
    · rw [hi i h]
      simp [byRow, hashOf, h]
    · rw [Array.getElem?_eq_none (by omega), Array.getElem?_eq_none (by rw [byRow_size, hashOf_len]; omega)]
  rw [hc, this]
theorem sum_start (w : World) (z f : Array Value) (hz : z = Array.replicate 32 (.int .u8 0)) (hf : f = stRow first8) : SumAt w ((w.alloc (.cells z 226)).alloc (.cells f 254)) (w.heap.size + 1) first8 := by
  subst hz hf
  have h1 := World.rowIs_alloc (w.alloc (.cells (Array.replicate 32 (.int .u8 0)) 226)) (stRow first8) 254 (fun i => .int .u32 (ptAt first8 i)) (fun i hi => by
      rw [stRow_size] at hi
      simp [stRow, ptAt, List.getD, hi])
  rw [stRow_size, World.size_alloc] at h1
  refine ⟨h1, ⟨Array.replicate 32 (.int .u8 0), ?_, by simp⟩, by omega, ((Only.refl _ w).alloc _).alloc _⟩
  rw [Below.heap_alloc _ _ _ (by simp)]; exact heap_alloc_new w _

set_option maxRecDepth 100000 in
set_option maxHeartbeats 1000000 in
theorem rsum_any (s : ByteArray) (w : World) (hs : s.size ≤ 150000000000000) :
    Calls Tryz.prog 148 #[.string s] w fun e w' => e = .returned (.agg (byRow (shaL s))) ∧ Only (fun _ => False) w w' := by
  have hl := lpad_size s 8
  have hp := padN_lt s
  obtain ⟨m, hm⟩ : ∃ m, (lpad s 8).size = 64 * m := ⟨(lpad s 8).size / 64, by rw [hl]; unfold padN; omega⟩
  have hm2 : (lpad s 8).size ≤ 150000000000200 := by omega
  have HSH := Lib.hid (show shaL s = hashOf (stTo (lpad s 8) m) by unfold shaL; rw [hm, Nat.mul_div_cancel_left _ (by decide)])
  have HM := Lib.hid hm
  clear hl hp hm
  go_enter Tryz.func148, Tryz.ntmps148
  go_wp2_with fail
  refine (rpadded_any s _ hs).mono ?_
  rintro e w1 ⟨rfl, hO⟩
  go_wp2_with fail
  generalize hT : lpad s 8 = T at *
  have HS0 := Lib.hid ((sum_start w _ _ rfl rfl).frame hO)
  clear hO hT
  go_loopw [5] (fun vi wr => ∃ k : Nat, k ≤ m ∧ vi = .int .i64 (64 * (k : Int)) ∧ SumAt w wr (w.heap.size + 1) (stTo T k)) (fun vi _ => T.size + 64 - (intOf vi).toNat)
  case atStart => exact ⟨0, Nat.zero_le _, rfl, HS0.out⟩
  case round =>
    clear HS0
    obtain ⟨k, hk, rfl, hS⟩ := hrel
    have hsz : T.size = 64 * m := HM.out
    by_cases hlt : k < m
    · have HST := Lib.hid (stTo_st T k)
      obtain ⟨a0, a1, a2, a3, a4, a5, a6, a7, he⟩ := eight_of (stTo_st T k).len
      have HSE := Lib.hid he
      rw [he] at hS
      have HC := Lib.hid (fun (i : Nat) (hi : i < 8) (d : Nat) (os : Array Obj) => cell_regrown (hS.st.cell hi) d os)
      have c0 := HC.out 0 (by decide)
      have c1 := HC.out 1 (by decide)
      have c2 := HC.out 2 (by decide)
      have c3 := HC.out 3 (by decide)
      have c4 := HC.out 4 (by decide)
      have c5 := HC.out 5 (by decide)
      have c6 := HC.out 6 (by decide)
      have c7 := HC.out 7 (by decide)
      simp only [ptAt, List.getD, List.getElem?_cons_zero, List.getElem?_cons_succ, Option.getD_some] at c0 c1 c2 c3 c4 c5 c6 c7
      have HS := Lib.hid hS
      have HST8 := Lib.hid (show St8 [a0, a1, a2, a3, a4, a5, a6, a7] by rw [← he]; exact stTo_st T k)
      have HEX := Lib.hid (show (T.extract (64 * k) (64 * k + 64)).size = 64 by rw [ByteArray.size_extract]; omega)
      have i1 : (64 * (k : Int)) < T.size := by omega
      have i2 : (64 * (k : Int)) + 64 ≤ T.size := by omega
      have i3 : 0 ≤ (64 * (k : Int)) := by omega
      clear hS he hsz hk
      go_wp2_with fail
      refine wp_region_below_split 7 (by kernel_rfl) (by kernel_rfl) (by kernel_rfl) ?_
      simp only [List.take_succ_cons, List.take_zero, List.drop_succ_cons, List.drop_zero]
      repeat (go_big_quiet_step ((go_at_call 187; exact Calls.regrown_of ((rblock_any [a0, a1, a2, a3, a4, a5, a6, a7] (T.extract (64 * k) (64 * k + 64)) _ HST8.out HEX.out).mono fun _ _ h => ⟨h.1, h.2.below (Nat.le_refl _) (fun _ _ h => h)⟩))))
      refine wpQuiet_nil ?_
      intro _ hw'
      obtain ⟨pq, hw''⟩ := hw'
      have HS2 := Lib.hid (HS.out.frame (Only.ofBelow (below_regrown wr pq.d pq.os) (fun _ => False)))
      rw [← hw''] at HS2
      clear hw'' HS HC c0 c1 c2 c3 c4 c5 c6 c7
      rename_i wq
      have HB2 := Lib.hid (row_block HS2.out.st rfl)
      have HIZ := Lib.hid (show (Tryz.prog.info? 254).map (·.size) = some (stRow (blockZ [a0, a1, a2, a3, a4, a5, a6, a7] (T.extract (64 * k) (64 * k + 64)))).size by rw [stRow_size, show (blockZ _ _).length = 8 from addL_len _ _]; exact Tryz.info8)
      have HSZ2 := Lib.hid (show (stRow [a0, a1, a2, a3, a4, a5, a6, a7]).size = (stRow (blockZ [a0, a1, a2, a3, a4, a5, a6, a7] (T.extract (64 * k) (64 * k + 64)))).size by rw [stRow_size, stRow_size, show (blockZ _ _).length = 8 from addL_len _ _]; rfl)
      have HON2 := Lib.hid (stRow_one (blockZ [a0, a1, a2, a3, a4, a5, a6, a7] (T.extract (64 * k) (64 * k + 64))))
      have HNX := Lib.hid (show stTo T (k + 1) = blockZ (stTo T k) (T.extract (64 * k) (64 * k + 64)) from rfl)
      rw [HSE.out] at HNX
      have HS3 := Lib.hid (HS2.out.put (s' := blockZ [a0, a1, a2, a3, a4, a5, a6, a7] (T.extract (64 * k) (64 * k + 64))) (addL_len _ _))
      generalize blockZ [a0, a1, a2, a3, a4, a5, a6, a7] (T.extract (64 * k) (64 * k + 64)) = B at *
      go_wp2_with (first | (refine wpList_store_row rfl 254 _ _ rfl (w.heap.size + 1) (stRow B) rfl rfl 254 _ HB2.out HIZ.out HSZ2.out HON2.out ?_))
      go_roundw
      case rel => exact ⟨k + 1, by omega, by congr 1, by rw [HNX.out]; exact HS3.out⟩
      case measure => simp [intOf]; omega
    · obtain rfl : k = m := by omega
      have i1 : ¬ (64 * (k : Int)) < T.size := by omega
      have HST := Lib.hid (stTo_st T k)
      obtain ⟨S, hSS⟩ : ∃ S, stTo T k = S := ⟨_, rfl⟩
      rw [hSS] at hS HST HSH
      have HS := Lib.hid hS
      have hn1 := hS.st.lt
      have hbd := HST.out.bd
      have HBD := Lib.hid hbd
      clear hS hSS hlt hk hbd hsz
      go_wp2_with fail
      have HE0 := Lib.hid (HS.out.opened (Array.replicate 32 (.int .u8 0)) rfl)
      have hnew : wr.heap.size < (wr.alloc (Obj.cells (Array.replicate 32 (.int .u8 0)) 226)).heap.size := by simp
      generalize hW : wr.alloc (Obj.cells _ 226) = W
      change wr.alloc (Obj.cells (Array.replicate 32 (.int .u8 0)) 226) = W at hW
      rw [hW] at HE0 hnew
      clear hW HS i1
      generalize wr.heap.size = nh at *
      go_loopw [7] (fun vi wr => ∃ k : Nat, k ≤ 32 ∧ vi = .int .i64 k ∧ HashAt w wr (w.heap.size + 1) nh S k) (fun vi _ => 32 - (intOf vi).toNat)
      case atStart => exact ⟨0, by omega, rfl, HE0.out⟩
      case round =>
        clear HE0 hnew
        obtain ⟨k, hk, rfl, hH⟩ := hrel
        have HH := Lib.hid hH
        have l1 := hH.st.lt
        have l2 := hH.hh.lt
        by_cases hlt : k < 32
        · have c1 := hH.st.cell (i := k / 4) (by omega)
          have c2 := hH.hh.cell (i := k) (by omega)
          have fz := hH.hh.frozen k
          obtain ⟨b0, b1⟩ := HBD.out (k / 4) (by omega)
          have i1 : (k : Int) < 32 := by omega
          have i2 : (k : Int) / 4 < 8 := by omega
          have i3 : 0 ≤ (k : Int) / 4 := by omega
          have i4 : 0 ≤ (k : Int) % 4 := by omega
          have i5 : (k : Int) % 4 < 4 := by omega
          have HBY := Lib.hid (show byteOf S k = ptAt S (k / 4) / 2 ^ (8 * (3 - k % 4)) % 256 from rfl)
          generalize ptAt S (k / 4) = x at *
          clear hH hk
          go_wp2
          go_roundw
          case rel => exact ⟨k + 1, by omega, by go_num, by
              have h1 := HH.out.next
              rw [HBY.out] at h1; exact h1⟩
          case measure => simp [intOf]; omega
        · obtain rfl : k = 32 := by omega
          have HHB := Lib.hid hH.ends
          obtain ⟨z, hz, hz2⟩ := hH.rs
          have HZ := Lib.hid hz
          have HZ2 := Lib.hid (show z.size = (byRow (hashOf S)).size by rw [hz2, byRow_size, hashOf_len])
          have HIZ := Lib.hid (show (Tryz.prog.info? 226).map (·.size) = some (byRow (hashOf S)).size by rw [byRow_size, hashOf_len]; exact Tryz.infoH)
          have HON := Lib.hid (byRow_one (hashOf S))
          have HOE := Lib.hid hH.only
          rw [← HSH.out] at HHB HZ2 HIZ HON
          clear hH hz hz2 hlt hk HH
          obtain ⟨R, hR⟩ : ∃ R, byRow (shaL s) = R := ⟨_, rfl⟩
          rw [hR] at HHB HZ2 HIZ HON
          have HR := Lib.hid hR
          clear hR
          go_wp2_with (first | (refine wpList_load_row rfl 226 _ rfl nh rfl 226 R (0, 0) _ HHB.out Tryz.underlying226 rfl HIZ.out ?_) | (refine wpList_store_row rfl 226 _ _ rfl w.heap.size R rfl rfl 226 z HZ.out HIZ.out HZ2.out HON.out ?_))
          exact bodyPost_ret (v := .agg R) (results_cell_row rfl _ _ w.heap.size 226 R (0, 0) _ rfl (setRow_heap _ _ _ _ _ _ HZ.out) Tryz.underlying226 rfl HIZ.out) rfl ⟨by rw [HR.out], HOE.out.setRow (Nat.le_refl _) _⟩
end Go.Proofs.YtldkjkjpaiajlaaGreatDoor

namespace Go.Proofs.YtldkjkjpaiajlaaGreatDoor
open Go.RowKit

structure Bytes32 (h : List Int) : Prop where
  len : h.length = 32
  bd : ∀ j, 0 ≤ ptAt h j ∧ ptAt h j ≤ 255
theorem shaL_bytes (s : ByteArray) : Bytes32 (shaL s) := by
  refine ⟨hashOf_len _, fun j => ?_⟩
  unfold shaL hashOf ptAt
  by_cases h : j < 32
  · simp only [List.getD, List.getElem?_map, List.getElem?_range h]
    show 0 ≤ byteOf _ j ∧ byteOf _ j ≤ 255
    unfold byteOf
    omega
  · simp only [List.getD, List.getElem?_map]
    rw [List.getElem?_eq_none (by simp; omega)]
    show (0 : Int) ≤ 0 ∧ (0 : Int) ≤ 255
    decide
def numTo (h : List Int) : Nat → Int
  | 0 => ptAt h 0 % 128
  | k + 1 => numTo h k * 256 + ptAt h (k + 1)
theorem numTo_bd {h : List Int} (hb : Bytes32 h) : ∀ k, 0 ≤ numTo h k ∧ numTo h k < 128 * 256 ^ k
  | 0 => by rw [numTo]; omega
  | k + 1 => by
    rw [numTo, Int.pow_succ]
    have := numTo_bd hb k
    have := hb.bd (k + 1)
    omega
/-- The number of a hash. -/
def numZ (h : List Int) : Int := numTo h 7
theorem numZ_bd {h : List Int} (hb : Bytes32 h) : 0 ≤ numZ h ∧ numZ h ≤ 9223372036854775807 := by
  have := numTo_bd hb 7
  unfold numZ
  omega
theorem byRow_at (h : List Int) (i : Nat) (hi : i < h.length) : (byRow h)[i]? = some (.int .u8 (ptAt h i)) := by
  simp [byRow, ptAt, List.getD, hi]

set_option maxRecDepth 100000 in
set_option maxHeartbeats 1000000 in
theorem rnumber_any (h : List Int) (w : World) (hb : Bytes32 h) :
    Calls Tryz.prog 147 #[.agg (byRow h)] w fun e w' => e = .returned (.int .i64 (numZ h)) ∧ Only (fun _ => False) w w' := by
  have hc : ∀ i, i < 32 → (w.alloc (.cells (byRow h) 226)).cell? ⟨w.heap.size, i, none⟩ = some (.int .u8 (ptAt h i)) := fun i hi => by
    rw [World.cell?_alloc_new]; exact byRow_at h i (by rw [hb.len]; exact hi)
  have HC := Lib.hid hc
  have c0 := hc 0 (by decide)
  have b0 := hb.bd 0
  have HB := Lib.hid hb
  have HN0 := Lib.hid (show numTo h 0 = ptAt h 0 % 128 from rfl)
  obtain ⟨b00, b01⟩ := b0
  clear hc hb
  generalize hx : ptAt h 0 = x0 at *
  have HO := Lib.hid ((Only.refl (fun _ => False) w).alloc (.cells (byRow h) 226))
  have hl : w.heap.size < (w.alloc (.cells (byRow h) 226)).heap.size := by simp
  clear hx
  go_enter Tryz.func147, Tryz.ntmps147
  go_wp2_with fail
  generalize w.alloc (.cells (byRow h) 226) = w1 at *
  go_loop [3, 4] (fun vn vi => ∃ j : Nat, j ≤ 7 ∧ vi = .int .i64 (1 + (j : Int)) ∧ vn = .int .i64 (numTo h j)) (fun _ vi => 8 - (intOf vi).toNat)
  case atStart => exact ⟨0, by omega, rfl, by rw [HN0.out]⟩
  case round =>
    clear HN0 c0
    obtain ⟨j, hj, rfl, rfl⟩ := hrel
    by_cases hlt : j < 7
    · have c := HC.out (1 + j) (by omega)
      obtain ⟨b2, b3⟩ := HB.out.bd (1 + j)
      have hn := numTo_bd HB.out j
      have hp : (256 : Int) ^ j ≤ 256 ^ 6 := by
        have : (256 : Nat) ^ j ≤ 256 ^ 6 := Nat.pow_le_pow_right (by decide) (by omega)
        have h2 : ((256 ^ j : Nat) : Int) ≤ ((256 ^ 6 : Nat) : Int) := Int.ofNat_le.2 this
        simpa using h2
      have n0 := hn.1
      have n1 : numTo h j ≤ 36028797018963967 := by omega
      have HNX := Lib.hid (show numTo h (j + 1) = numTo h j * 256 + ptAt h (1 + j) by rw [numTo, Nat.add_comm])
      have i1 : (1 + (j : Int)) < 8 := by omega
      clear hn hp hj
      generalize ptAt h (1 + j) = x at *
      generalize numTo h j = n at *
      go_wp2
      go_round
      case rel => exact ⟨j + 1, by omega, by congr 1, by rw [HNX.out]⟩
      case measure => simp [intOf]; omega
    · obtain rfl : j = 7 := by omega
      go_wp2
      go_ret
      exact ⟨rfl, HO.out⟩

def strS : ByteArray := ⟨#[115, 47]⟩
def strK : ByteArray := ⟨#[107]⟩
def scalarZ (s : ByteArray) : Int := numZ (shaL (strS ++ s)) % 1152921504606845789
theorem scalarZ_bd (s : ByteArray) : 0 ≤ scalarZ s ∧ scalarZ s < 1152921504606845789 := emod_self_lt _ _ (by decide)

set_option maxHeartbeats 1000000 in
theorem rscalar_any (s : ByteArray) (w : World) (hs : s.size ≤ 149000000000000) :
    Calls Tryz.prog 103 #[.string s] w fun e w' => e = .returned (.int .i64 (scalarZ s)) ∧ Only (fun _ => False) w w' := by
  have HS := Lib.hid (rsum_any (strS ++ s) w (by rw [ByteArray.size_append]; show 2 + _ ≤ _; omega))
  have HB := Lib.hid (shaL_bytes (strS ++ s))
  obtain ⟨z0, z1⟩ := numZ_bd (shaL_bytes (strS ++ s))
  have HZ := Lib.hid (show scalarZ s = numZ (shaL (strS ++ s)) % 1152921504606845789 from rfl)
  go_enter Tryz.func103, Tryz.ntmps103
  go_wp2_with fail
  refine HS.out.mono ?_
  rintro e w1 ⟨rfl, hO⟩
  have HO := Lib.hid hO
  clear hO HS
  go_wp2_with fail
  refine (rnumber_any _ _ HB.out).mono ?_
  rintro e w2 ⟨rfl, hO2⟩
  have HO2 := Lib.hid (HO.out.trans hO2)
  clear hO2 HO
  generalize numZ (shaL (strS ++ s)) = z at *
  go_wp2
  go_ret
  exact ⟨by rw [HZ.out]; rfl, HO2.out⟩
def keyS (s : ByteArray) : Int := max (scalarZ (strK ++ s)) 1
def keyP (s : ByteArray) : Int := powM 4 (keyS s) 2305843009213691579
theorem keyS_bd (s : ByteArray) : 1 ≤ keyS s ∧ keyS s < 1152921504606845789 := by have := scalarZ_bd (strK ++ s); unfold keyS; omega
theorem rpositive_any (s : ByteArray) (w : World) (hs : s.size ≤ 149000000000000) :
    Calls Tryz.prog 64 #[.string s] w fun e w' => e = .returned (.int .i64 (max (scalarZ s) 1)) ∧ Only (fun _ => False) w w' := by
  obtain ⟨z0, z1⟩ := scalarZ_bd s
  have HC := Lib.hid (rscalar_any s w hs)
  generalize scalarZ s = z at *
  go_enter Tryz.func64, Tryz.ntmps64
  go_wp2_with fail
  refine HC.out.mono ?_
  rintro e w1 ⟨rfl, hO⟩
  have HO := Lib.hid hO
  clear hO HC
  go_wp2
  go_ret
  exact ⟨rfl, HO.out⟩
theorem rexponent_any (n : Int) (w : World) : Calls Tryz.prog 69 #[.int .i64 n] w fun e w' => e = .returned (.int .i64 (n % 1152921504606845789)) ∧ w = w' := by
  have HF := Lib.hid (tmod_fix n 1152921504606845789 (by decide))
  have h1 := Int.lt_tmod_of_pos n (show (0 : Int) < 1152921504606845789 by decide)
  have h2 := Int.tmod_lt_of_pos n (show (0 : Int) < 1152921504606845789 by decide)
  by_cases h0 : n.tmod 1152921504606845789 < 0
  · go_enter Tryz.func69, Tryz.ntmps69
    go_wp2
    go_ret
    exact ⟨ret_int (by rw [← HF.out, if_pos h0]), rfl⟩
  · go_enter Tryz.func69, Tryz.ntmps69
    go_wp2
    go_ret
    exact ⟨ret_int (by rw [← HF.out, if_neg (by omega)]), rfl⟩
theorem rpublic5_any (n : Int) (w : World) : Calls Tryz.prog 65 #[.int .i64 n] w fun e w' => e = .returned (.int .i64 (powM 4 (n % 1152921504606845789) 2305843009213691579)) ∧ w = w' := by
  obtain ⟨z0, z1⟩ := emod_self_lt n 1152921504606845789 (by decide)
  have HC := Lib.hid (rexponent_any n w)
  generalize n % 1152921504606845789 = z at *
  go_enter Tryz.func65, Tryz.ntmps65
  go_wp2_with fail
  refine HC.out.mono ?_
  rintro e w1 ⟨rfl, rfl⟩
  go_wp2_with fail
  refine (rpow_any 4 z 2305843009213691579 _ (by decide) (by decide) z0 (by omega)).mono ?_
  rintro e w1 ⟨rfl, rfl⟩
  go_wp2
  go_ret
  exact ⟨rfl, rfl⟩
theorem rkey_any (s : ByteArray) (w : World) (hs : s.size ≤ 800000) :
    Calls Tryz.prog 27 #[.string s] w fun e w' => e = .returned (.tuple #[.int .i64 (keyS s), .int .i64 (keyP s)]) ∧ Only (fun _ => False) w w' := by
  have hz := keyS_bd s
  have HP := Lib.hid (rpositive_any (strK ++ s) w (by rw [ByteArray.size_append]; show 1 + _ ≤ _; omega))
  have HQ := Lib.hid (rpublic5_any (keyS s))
  have HE := Lib.hid (show powM 4 (keyS s % 1152921504606845789) 2305843009213691579 = keyP s by rw [Int.emod_eq_of_lt (by omega) hz.2]; rfl)
  go_enter Tryz.func27, Tryz.ntmps27
  go_wp2_with fail
  refine HP.out.mono ?_
  rintro e w1 ⟨rfl, hO⟩
  have HO := Lib.hid hO
  clear hO HP
  change Hid (∀ w, Calls Tryz.prog 65 #[.int .i64 (max (scalarZ (strK ++ s)) 1)] w _) at HQ
  go_wp2_with fail
  refine (HQ.out _).mono ?_
  rintro e w2 ⟨rfl, rfl⟩
  go_wp2
  go_ret2
  exact ⟨by rw [HE.out]; rfl, HO.out⟩
end Go.Proofs.YtldkjkjpaiajlaaGreatDoor

namespace Go.Proofs.YtldkjkjpaiajlaaGreatDoor
open Go.RowKit

theorem or_nat (x y : Nat) (hx : x < 4294967296) (hy : y < 4294967296) : orZ (x : Int) (y : Int) = ((x ||| y : Nat) : Int) := by
  have e : (BitVec.ofInt 32 (x : Int) ||| BitVec.ofInt 32 (y : Int)).toNat = x ||| y := by
    rw [BitVec.toNat_or, BitVec.toNat_ofInt, BitVec.toNat_ofInt]
    have h1 : ((x : Int) % (2 ^ 32 : Nat)).toNat = x := by omega
    have h2 : ((y : Int) % (2 ^ 32 : Nat)).toNat = y := by omega
    rw [h1, h2]
  have hl : x ||| y < 2 ^ 32 := Nat.or_lt_two_pow (by omega) (by omega)
  show IntKind.u32.wrap ((BitVec.ofInt 32 (x : Int) ||| BitVec.ofInt 32 (y : Int)).toNat : Int) = _
  rw [e]
  show ((x ||| y : Nat) : Int) % 4294967296 = _
  omega
theorem or_comm32 (x y : Int) : bits BinOp.or IntKind.u32 x y = bits BinOp.or IntKind.u32 y x := by
  show IntKind.u32.wrap ((BitVec.ofInt 32 x ||| BitVec.ofInt 32 y).toNat : Int) = IntKind.u32.wrap ((BitVec.ofInt 32 y ||| BitVec.ofInt 32 x).toNat : Int)
  rw [BitVec.or_comm]
theorem or_low (x y k m : Nat) (hm : 2 ^ k = m) (hy : y < m) (h : x * m + y < 4294967296) : orZ ((x * m : Nat) : Int) (y : Int) = ((x * m + y : Nat) : Int) := by
  have h1 : x * m < 4294967296 := Nat.lt_of_le_of_lt (Nat.le_add_right _ _) h
  have h2 : y < 4294967296 := Nat.lt_of_le_of_lt (Nat.le_add_left _ _) h
  rw [or_nat _ _ h1 h2]
  subst hm
  rw [Nat.mul_comm x, Nat.two_pow_add_eq_or_of_lt hy]
theorem byteZ_nat (b : ByteArray) (i : Nat) : ∃ n : Nat, n < 256 ∧ byteZ b i = n := ⟨_, (b.data.toList.getD i 0).toNat_lt, rfl⟩
/-- A word, as the program packs it, behind t bytes. -/
def pwT (b : ByteArray) (k : Nat) : Nat → Int
  | 0 => 0
  | t + 1 => orZ (pwT b k t * 256 % 4294967296) (byteZ b (4 * k + t) % 4294967296)
theorem pw_word (b : ByteArray) (k : Nat) : pwT b k 4 = wordZ b k := by
  obtain ⟨b0, h0, e0⟩ := byteZ_nat b (4 * k)
  obtain ⟨b1, h1, e1⟩ := byteZ_nat b (4 * k + 1)
  obtain ⟨b2, h2, e2⟩ := byteZ_nat b (4 * k + 2)
  obtain ⟨b3, h3, e3⟩ := byteZ_nat b (4 * k + 3)
  have hw : wordZ b k = ((b0 * 16777216 + b1 * 65536 + b2 * 256 + b3 : Nat) : Int) := by
    unfold wordZ
    rw [e0, e1, e2, e3]
    have a0 : ((b0 : Int) % 4294967296 * 16777216 % 4294967296) = ((b0 * 16777216 : Nat) : Int) := by omega
    have a1 : ((b1 : Int) % 4294967296 * 65536 % 4294967296) = ((b1 * 65536 : Nat) : Int) := by omega
    have a2 : ((b2 : Int) % 4294967296 * 256 % 4294967296) = ((b2 * 256 : Nat) : Int) := by omega
    have a3 : ((b3 : Int) % 4294967296) = ((b3 : Nat) : Int) := by omega
    rw [a0, a1, a2, a3, or_low b0 (b1 * 65536) 24 16777216 rfl (by omega) (by omega),
      show b0 * 16777216 + b1 * 65536 = (b0 * 256 + b1) * 65536 by omega, or_low (b0 * 256 + b1) (b2 * 256) 16 65536 rfl (by omega) (by omega),
      show (b0 * 256 + b1) * 65536 + b2 * 256 = (b0 * 65536 + b1 * 256 + b2) * 256 by omega, or_low (b0 * 65536 + b1 * 256 + b2) b3 8 256 rfl (by omega) (by omega)]
    all_goals omega
  have p1 : pwT b k 1 = (b0 : Nat) := by
    rw [pwT, pwT, show 4 * k + 0 = 4 * k from rfl, e0]
    have a0 : ((0 : Int) * 256 % 4294967296) = ((0 * 256 : Nat) : Int) := by omega
    have a1 : ((b0 : Int) % 4294967296) = ((b0 : Nat) : Int) := by omega
    rw [a0, a1, or_low 0 b0 8 256 rfl (by omega) (by omega)]; all_goals omega
  have p2 : pwT b k 2 = ((b0 * 256 + b1 : Nat) : Int) := by
    rw [pwT, p1, e1]
    have a0 : ((b0 : Int) * 256 % 4294967296) = ((b0 * 256 : Nat) : Int) := by omega
    have a1 : ((b1 : Int) % 4294967296) = ((b1 : Nat) : Int) := by omega
    rw [a0, a1, or_low b0 b1 8 256 rfl (by omega) (by omega)]
  have p3 : pwT b k 3 = (((b0 * 256 + b1) * 256 + b2 : Nat) : Int) := by
    rw [pwT, p2, e2]
    have a0 : (((b0 * 256 + b1 : Nat) : Int) * 256 % 4294967296) = (((b0 * 256 + b1) * 256 : Nat) : Int) := by omega
    have a1 : ((b2 : Int) % 4294967296) = ((b2 : Nat) : Int) := by omega
    rw [a0, a1, or_low (b0 * 256 + b1) b2 8 256 rfl (by omega) (by omega)]
  rw [pwT, p3, e3, hw]
  have a0 : ((((b0 * 256 + b1) * 256 + b2 : Nat) : Int) * 256 % 4294967296) = ((((b0 * 256 + b1) * 256 + b2) * 256 : Nat) : Int) := by omega
  have a1 : ((b3 : Int) % 4294967296) = ((b3 : Nat) : Int) := by omega
  rw [a0, a1, or_low ((b0 * 256 + b1) * 256 + b2) b3 8 256 rfl (by omega) (by omega)]
  all_goals omega
theorem rot_left (x : Int) (n : Nat) : bits BinOp.or IntKind.u32 (x * 2 ^ (32 - n) % 4294967296) (x / 2 ^ n) = rotZ x n := by unfold rotZ; rw [or_comm32]
/-- Words of a block that was read up to byte i. -/
def wdAt (b : ByteArray) (i k : Nat) : Int := pwT b k (min 4 (i - 4 * k))
theorem wdAt_zero (b : ByteArray) (k : Nat) : wdAt b 0 k = 0 := by unfold wdAt; rw [show min 4 (0 - 4 * k) = 0 by omega]; rfl
theorem wdAt_next (b : ByteArray) (i k : Nat) : wdAt b (i + 1) k = if k = i / 4 then orZ (wdAt b i k * 256 % 4294967296) (byteZ b i % 4294967296) else wdAt b i k := by
  by_cases e : k = i / 4
  · rw [if_pos e]
    unfold wdAt
    rw [show min 4 (i + 1 - 4 * k) = i - 4 * k + 1 by omega, show min 4 (i - 4 * k) = i - 4 * k by omega, pwT, show 4 * k + (i - 4 * k) = i by omega]
  · rw [if_neg e]
    unfold wdAt
    rw [show min 4 (i + 1 - 4 * k) = min 4 (i - 4 * k) by omega]
theorem ptAt_sch (b : ByteArray) : ∀ n k, k < n → ptAt (schTo b n) k = schN b (schTo b k) k
  | n + 1, k, h => by
    rw [schTo, ptAt_snoc, schTo_len]
    by_cases e : k = n
    · rw [if_pos e, e]
    · rw [if_neg e]; exact ptAt_sch b n k (by omega)
theorem ptAt_past (l : List Int) (k : Nat) (h : l.length ≤ k) : ptAt l k = 0 := by unfold ptAt; rw [List.getD_eq_getElem?_getD, List.getElem?_eq_none h]; rfl
/-- Behind 64 bytes the words are the first 16 of the schedule. -/
theorem wdAt_all (b : ByteArray) (k : Nat) : wdAt b 64 k = ptAt (schTo b 16) k := by
  by_cases h : k < 16
  · rw [ptAt_sch b 16 k h]
    unfold wdAt schN
    rw [if_pos h, show min 4 (64 - 4 * k) = 4 by omega, pw_word]
  · rw [ptAt_past _ _ (by rw [schTo_len]; omega)]
    unfold wdAt
    rw [show min 4 (64 - 4 * k) = 0 by omega]; rfl
theorem sch_later (b : ByteArray) (i : Nat) (h : 16 ≤ i) : schTo b (i + 1) = schTo b i ++ [mixW (ptAt (schTo b i) (i - 16)) (ptAt (schTo b i) (i - 15)) (ptAt (schTo b i) (i - 7)) (ptAt (schTo b i) (i - 2))] := by
  rw [schTo]
  unfold schN
  rw [if_neg (by omega)]
end Go.Proofs.YtldkjkjpaiajlaaGreatDoor

namespace Go.Proofs.YtldkjkjpaiajlaaGreatDoor
open Go.RowKit

theorem and31 : ∀ n : Fin 32, 1 ≤ n.1 → bits BinOp.and IntKind.u64 (18446744073709551616 - (n.1 : Int)) 31 = 32 - (n.1 : Int) := by decide +kernel
theorem rotl_any (x : Int) (n : Nat) (w : World) (_hx : 0 ≤ x) (_hx2 : x ≤ 4294967295) (hn : 1 ≤ n) (hn2 : n ≤ 31) :
    Calls Tryz.prog 240 #[.int .u32 x, .int .i64 (-(n : Int))] w fun e w' => e = .returned (.int .u32 (rotI x n)) ∧ w = w' := by
  have HR := Lib.hid (show rotI x n = bits BinOp.or IntKind.u32 (x * 2 ^ (32 - n) % 4294967296) (x / 2 ^ n) by rw [rot_left]; rfl)
  have h1 : bits BinOp.and IntKind.u64 (IntKind.u64.wrap (-(n : Int))) 31 = 32 - (n : Int) := by
    have h := and31 ⟨n, by omega⟩ hn
    rw [show IntKind.u64.wrap (-(n : Int)) = 18446744073709551616 - (n : Int) by show (-(n : Int)) % 18446744073709551616 = _; omega]
    exact h
  have h3 : (32 - (n : Int)).toNat = 32 - n := by omega
  have h4 : (32 : Int) - (32 - (n : Int)) = n := by omega
  go_enter Tryz.func240, Tryz.ntmps240
  go_wp2
  go_ret
  exact ⟨ret_int (by rw [HR.out]), rfl⟩
theorem rotp_any (x : Int) (n : Nat) (w : World) (hx : 0 ≤ x) (hx2 : x ≤ 4294967295) (hn : 1 ≤ n) (hn2 : n ≤ 31) :
    Calls Tryz.prog 236 #[.int .u32 x, .int .i64 n] w fun e w' => e = .returned (.int .u32 (rotI x n)) ∧ w = w' := by
  have HR := Lib.hid (rotl_any x n w hx hx2 hn hn2)
  go_enter Tryz.func236, Tryz.ntmps236
  go_wp2_with fail
  refine HR.out.mono ?_
  rintro e w' ⟨rfl, rfl⟩
  go_wp2
  go_ret
  exact ⟨rfl, rfl⟩
theorem rotpI_any (x n : Int) (w : World) (hx : 0 ≤ x) (hx2 : x ≤ 4294967295) (hn : 1 ≤ n) (hn2 : n ≤ 31) :
    Calls Tryz.prog 236 #[.int .u32 x, .int .i64 n] w fun e w' => e = .returned (.int .u32 (rotI x n)) ∧ w = w' := by
  obtain ⟨k, rfl⟩ := Int.eq_ofNat_of_zero_le (show 0 ≤ n by omega)
  exact rotp_any x k w hx hx2 (by omega) (by omega)
/-- The state of mix: the box of the state, the result's cell, the words. -/
structure PMix (w wr : World) (s : List Int) (f : Nat → Int) : Prop where
  st : wr.rowIs w.heap.size 254 8 (fun i => .int .u32 (ptAt s i))
  rs : wr.rowIs (w.heap.size + 1) 254 8 (fun _ => .int .u32 0)
  ww : wr.rowIs (w.heap.size + 2) 272 64 (fun i => .int .u32 (f i))
  only : Only (fun _ => False) w wr
theorem PMix.drewN {w wr : World} {s : List Int} {f : Nat → Int} (h : PMix w wr s f) (q : Nat) : PMix w (wr.drewN q) s f := ⟨h.st, h.rs, h.ww, h.only.drewN q⟩
theorem PMix.congr {w wr : World} {s : List Int} {f g : Nat → Int} (h : PMix w wr s f) (e : ∀ i, i < 64 → f i = g i) : PMix w wr s g := ⟨h.st, h.rs, h.ww.congr (fun i hi => by rw [e i hi]), h.only⟩
theorem PMix.put {w wr : World} {s : List Int} {f : Nat → Int} (h : PMix w wr s f) (q k : Nat) (x : Int) : PMix w ((wr.drewN q).setCell ⟨w.heap.size + 2, k, none⟩ (.int .u32 x)) s (fun j => if j = k then x else f j) := by
  have hw : (wr.drewN q).rowIs (w.heap.size + 2) 272 64 (fun i => .int .u32 (f i)) := h.ww
  refine ⟨World.rowIs.setOther (show (wr.drewN q).rowIs _ _ _ _ from h.st) (by show w.heap.size ≠ w.heap.size + 2; omega) _, World.rowIs.setOther (show (wr.drewN q).rowIs _ _ _ _ from h.rs) (by show w.heap.size + 1 ≠ w.heap.size + 2; omega) _, (hw.set k _).congr (fun i _ => ?_), (h.only.drewN q).setCell (.inr (by show w.heap.size ≤ w.heap.size + 2; omega)) _⟩
  split <;> rfl
theorem pmix_start (w : World) (s : List Int) (z8 z64 : Array Value) (hs : s.length = 8) (hz8 : z8 = Array.replicate 8 (.int .u32 0)) (hz64 : z64 = Array.replicate 64 (.int .u32 0)) :
    PMix w (((w.alloc (.cells (stRow s) 254)).alloc (.cells z8 254)).alloc (.cells z64 272)) s (fun _ => 0) := by
  have h0 := World.rowIs_alloc w (stRow s) 254 (fun i => .int .u32 (ptAt s i)) (fun i hi => by
    rw [stRow_size] at hi
    simp [stRow, ptAt, List.getD, hi])
  rw [stRow_size, hs] at h0
  have h1 := World.rowIs_alloc (w.alloc (.cells (stRow s) 254)) (Array.replicate 8 (.int .u32 0)) 254 (fun _ => .int .u32 0) (fun i hi => by simp at hi; simp [hi])
  rw [World.size_alloc, Array.size_replicate] at h1
  have h2 := World.rowIs_alloc ((w.alloc (.cells (stRow s) 254)).alloc (.cells z8 254)) (Array.replicate 64 (.int .u32 0)) 272 (fun _ => .int .u32 0) (fun i hi => by simp at hi; simp [hi])
  rw [World.size_alloc, World.size_alloc, Array.size_replicate] at h2
  subst hz8 hz64
  exact ⟨(h0.alloc _).alloc _, h1.alloc _, h2, (((Only.refl _ w).alloc _).alloc _).alloc _⟩

set_option maxRecDepth 100000 in
set_option maxHeartbeats 4000000 in
theorem mix_any (s : List Int) (b : ByteArray) (w : World) (hs : St8 s) (hb : b.size = 64) (hg : 7 < w.heap.size) (hk : ∀ k, k < 64 → w.cell? ⟨7, k, none⟩ = some (.int .u32 (ptAt kAt k))) :
    Calls Tryz.prog 230 #[.agg (stRow s), .string b] w fun e w' => e = .returned (.agg (stRow (blockZ s b))) ∧ Only (fun _ => False) w w' := by
  have HB := Lib.hid hb
  have HK := Lib.hid hk
  have hb1 : 64 ≤ b.size := by omega
  clear hb hk
  go_enter Tryz.func230, Tryz.ntmps230
  go_wp2_with fail
  generalize hW : World.alloc _ _ = W
  have HS := Lib.hid (show PMix w W s (wdAt b 0) by rw [← hW]; exact (pmix_start w s _ _ hs.len rfl rfl).congr (fun i _ => (wdAt_zero b i).symm))
  clear hW
  go_loopw [23] (fun vi wr => ∃ i : Nat, i ≤ 64 ∧ vi = .int .i64 i ∧ PMix w wr s (wdAt b i)) (fun vi _ => 64 - (intOf vi).toNat)
  case atStart => exact ⟨0, by omega, rfl, HS.out⟩
  case round =>
    clear HS
    obtain ⟨i, hi, rfl, hS⟩ := hrel
    by_cases hlt : i < 64
    · have hc := hS.ww.cell (i := i / 4) (by omega)
      have hfz := hS.ww.frozen (i / 4)
      have hn1 := hS.ww.lt
      have HS := Lib.hid hS
      have HWN := Lib.hid (wdAt_next b i)
      obtain ⟨wd, hwd⟩ : ∃ wd, wdAt b i (i / 4) = wd := ⟨_, rfl⟩
      rw [hwd] at hc
      have HWD := Lib.hid hwd
      clear hwd
      have i1 : (i : Int) < 64 := by omega
      have i2 : (i : Int) / 4 < 64 := by omega
      have i3 : 0 ≤ (i : Int) / 4 := by omega
      have i4 : (i : Int) < b.size := by omega
      have i5 : 0 ≤ (i : Int) := by omega
      have i6 : i < b.size := by omega
      clear hS hi
      go_wp2_with fail
      refine wp_region_quiet_split 13 (by kernel_rfl) (by kernel_rfl) (by kernel_rfl) ?_
      simp only [List.take_succ_cons, List.take_zero, List.drop_succ_cons, List.drop_zero]
      repeat (go_big_quiet_step (fail))
      refine wpQuiet_nil ?_
      intro _ hw'
      obtain ⟨nq, hw''⟩ := hw'
      subst hw''
      go_wp2
      go_roundw
      case rel => exact ⟨i + 1, by omega, by go_num, by
          have h1 := HS.out.put nq (i / 4) (orZ (wd * 256 % 4294967296) (byteZ b i % 4294967296))
          have h2 := h1.congr (g := wdAt b (i + 1)) (fun j _ => by
            rw [HWN.out j]
            by_cases e : j = i / 4
            · rw [if_pos e, if_pos e, e, HWD.out]
            · rw [if_neg e, if_neg e])
          simp only [byteZ_eq]
          exact h2⟩
      case measure => simp [intOf]; omega
    · obtain rfl : i = 64 := by omega
      have HS := Lib.hid (show PMix w wr s (ptAt (schTo b 16)) from hS.congr (fun k _ => wdAt_all b k))
      clear hS hlt hi
      go_wp2_with fail
      go_loopw [7] (fun vi wr => ∃ k : Nat, 16 ≤ k ∧ k ≤ 64 ∧ vi = .int .i64 k ∧ PMix w wr s (ptAt (schTo b k))) (fun vi _ => 64 - (intOf vi).toNat)
      case atStart => exact ⟨16, by omega, by omega, rfl, HS.out⟩
      case round =>
        clear HS
        obtain ⟨k, hk16, hk, rfl, hS⟩ := hrel
        by_cases hlt : k < 64
        · have c1 := hS.ww.cell (i := k - 15) (by omega)
          have c2 := hS.ww.cell (i := k - 2) (by omega)
          have c3 := hS.ww.cell (i := k - 16) (by omega)
          have c4 := hS.ww.cell (i := k - 7) (by omega)
          have hc := hS.ww.cell (i := k) (by omega)
          have hfz := hS.ww.frozen k
          have hn1 := hS.ww.lt
          have HS := Lib.hid hS
          obtain ⟨b10, b11⟩ := schTo_bd b k (k - 15)
          obtain ⟨b20, b21⟩ := schTo_bd b k (k - 2)
          obtain ⟨b30, b31⟩ := schTo_bd b k (k - 16)
          obtain ⟨b40, b41⟩ := schTo_bd b k (k - 7)
          have HSC := Lib.hid (sch_later b k hk16)
          have HLN := Lib.hid (schTo_len b k)
          generalize ptAt (schTo b k) (k - 16) = y0 at *
          generalize ptAt (schTo b k) (k - 15) = y1 at *
          generalize ptAt (schTo b k) (k - 7) = y2 at *
          generalize ptAt (schTo b k) (k - 2) = y3 at *
          have i1 : (k : Int) < 64 := by omega
          have i2 : (16 : Int) ≤ k := by omega
          have HR1 := Lib.hid (fun w => rotp_any y1 7 w b10 b11 (by decide) (by decide))
          have HR2 := Lib.hid (fun w => rotp_any y1 18 w b10 b11 (by decide) (by decide))
          have HR3 := Lib.hid (fun w => rotp_any y3 17 w b20 b21 (by decide) (by decide))
          have HR4 := Lib.hid (fun w => rotp_any y3 19 w b20 b21 (by decide) (by decide))
          have HMW := Lib.hid (show mixW y0 y1 y2 y3 = (y0 + bits BinOp.xor IntKind.u32 (bits BinOp.xor IntKind.u32 (rotI y1 7) (rotI y1 18)) (y1 / 8) + y2 + bits BinOp.xor IntKind.u32 (bits BinOp.xor IntKind.u32 (rotI y3 17) (rotI y3 19)) (y3 / 1024)) % 4294967296 from rfl)
          generalize rotI y1 7 = r1 at *
          generalize rotI y1 18 = r2 at *
          generalize rotI y3 17 = r3 at *
          generalize rotI y3 19 = r4 at *
          clear hS hk
          go_wp2_with fail
          go_quiet (fail)
          have d3 : (wr.drewN nq).cell? ⟨w.heap.size + 2, k - 16, none⟩ = some (.int .u32 y0) := c3
          have d4 : (wr.drewN nq).cell? ⟨w.heap.size + 2, k - 7, none⟩ = some (.int .u32 y2) := c4
          have dc : (wr.drewN nq).cell? ⟨w.heap.size + 2, k, none⟩ = some (.int .u32 (ptAt (schTo b k) k)) := hc
          have df : (wr.drewN nq).frozen? ⟨w.heap.size + 2, k, none⟩ = false := hfz
          have dn : w.heap.size + 2 < (wr.drewN nq).heap.size := hn1
          have HSQ := Lib.hid (HS.out.drewN nq)
          clear c1 c2 c3 c4 hc hfz hn1 HS
          generalize wr.drewN nq = wq at *
          go_wp2_with fail
          refine (HR1.out _).mono ?_
          rintro e w' ⟨rfl, rfl⟩
          go_wp2_with fail
          refine (HR2.out _).mono ?_
          rintro e w' ⟨rfl, rfl⟩
          go_wp2_with fail
          refine (HR3.out _).mono ?_
          rintro e w' ⟨rfl, rfl⟩
          go_wp2_with fail
          refine (HR4.out _).mono ?_
          rintro e w' ⟨rfl, rfl⟩
          go_wp2_with fail
          refine wp_region_quiet_split 15 (by kernel_rfl) (by kernel_rfl) (by kernel_rfl) ?_
          simp only [List.take_succ_cons, List.take_zero, List.drop_succ_cons, List.drop_zero]
          repeat (go_big_quiet_step (fail))
          refine wpQuiet_nil ?_
          intro _ hw'
          obtain ⟨nr, hw''⟩ := hw'
          subst hw''
          go_wp2
          refine ⟨?_, ?measure⟩
          iterate 48 (apply Exists.intro)
          refine ⟨?rel, rfl⟩
          case rel => exact ⟨k + 1, by omega, by omega, by go_num, by
              have h1 := HSQ.out.put nr k (mixW y0 y1 y2 y3)
              rw [HMW.out] at h1
              have h2 := h1.congr (g := ptAt (schTo b (k + 1))) (fun j _ => by rw [HSC.out, HMW.out, ptAt_snoc, HLN.out])
              exact h2⟩
          case measure => simp [intOf]; omega
        · obtain rfl : k = 64 := by omega
          obtain ⟨F, hF⟩ : ∃ F, schTo b 64 = F := ⟨_, rfl⟩
          rw [hF] at hS
          have HF := Lib.hid hF
          have HS := Lib.hid hS
          have s0 := hS.st.cell (i := 0) (by omega)
          have s1 := hS.st.cell (i := 1) (by omega)
          have s2 := hS.st.cell (i := 2) (by omega)
          have s3 := hS.st.cell (i := 3) (by omega)
          have s4 := hS.st.cell (i := 4) (by omega)
          have s5 := hS.st.cell (i := 5) (by omega)
          have s6 := hS.st.cell (i := 6) (by omega)
          have s7 := hS.st.cell (i := 7) (by omega)
          have sl := hS.st.lt
          clear hF hS hlt hk hk16
          go_wp2_with fail
          go_quiet (fail)
          have e4 : (wr.drewN nq).cell? ⟨w.heap.size, 4, none⟩ = some (.int .u32 (ptAt s 4)) := s4
          have e5 : (wr.drewN nq).cell? ⟨w.heap.size, 5, none⟩ = some (.int .u32 (ptAt s 5)) := s5
          have e6 : (wr.drewN nq).cell? ⟨w.heap.size, 6, none⟩ = some (.int .u32 (ptAt s 6)) := s6
          have e7 : (wr.drewN nq).cell? ⟨w.heap.size, 7, none⟩ = some (.int .u32 (ptAt s 7)) := s7
          have el : w.heap.size < (wr.drewN nq).heap.size := sl
          have HSQ := Lib.hid (HS.out.drewN nq)
          clear s0 s1 s2 s3 s4 s5 s6 s7 sl HS
          generalize wr.drewN nq = wq at *
          go_wp2_with fail
          go_quiet (fail)
          have HV := Lib.hid (HSQ.out.drewN nq)
          clear e4 e5 e6 e7 el HSQ
          generalize wq.drewN nq = wp at *
          go_wp2_with fail
          go_loopw [12, 13, 14, 15, 16, 17, 18, 19, 99] (fun va vb vc vd ve vf vg vh vi wr => ∃ k : Nat, k ≤ 64 ∧ vi = .int .i64 k ∧ va = .int .u32 (ptAt (rndTo F s k) 0) ∧ vb = .int .u32 (ptAt (rndTo F s k) 1) ∧ vc = .int .u32 (ptAt (rndTo F s k) 2) ∧ vd = .int .u32 (ptAt (rndTo F s k) 3) ∧ ve = .int .u32 (ptAt (rndTo F s k) 4) ∧ vf = .int .u32 (ptAt (rndTo F s k) 5) ∧ vg = .int .u32 (ptAt (rndTo F s k) 6) ∧ vh = .int .u32 (ptAt (rndTo F s k) 7) ∧ PMix w wr s (ptAt F)) (fun _ _ _ _ _ _ _ _ vi _ => 64 - (intOf vi).toNat)
          case atStart => exact ⟨0, by omega, rfl, rfl, rfl, rfl, rfl, rfl, rfl, rfl, rfl, HV.out⟩
          case round =>
            clear HV
            obtain ⟨k, hk, rfl, rfl, rfl, rfl, rfl, rfl, rfl, rfl, rfl, hV⟩ := hrel
            by_cases hlt : k < 64
            · have ck := hV.only.cell (HK.out k hlt) id
              have cw := hV.ww.cell (i := k) (by omega)
              have l1 := Nat.lt_of_lt_of_le hg hV.only.size
              have l2 := hV.ww.lt
              have hbv := rndTo_bd F hs k
              have HRN := Lib.hid (rnd_eq F s k)
              obtain ⟨a0, a1⟩ := hbv.bd 0 (by omega)
              obtain ⟨e0, e1⟩ := hbv.bd 4 (by omega)
              have HV := Lib.hid hV
              clear hV hbv
              generalize ptAt (rndTo F s k) 0 = xa at *
              generalize ptAt (rndTo F s k) 1 = xb at *
              generalize ptAt (rndTo F s k) 2 = xc at *
              generalize ptAt (rndTo F s k) 3 = xd at *
              generalize ptAt (rndTo F s k) 4 = xe at *
              generalize ptAt (rndTo F s k) 5 = xf at *
              generalize ptAt (rndTo F s k) 6 = xg at *
              generalize ptAt (rndTo F s k) 7 = xh at *
              generalize ptAt kAt k = vk at *
              generalize ptAt F k = vw at *
              have hlt2 : (k : Int) < 64 := by omega
              have hsg : IntKind.u32.signed = false := rfl
              clear hk
              go_wp2_with fail
              go_quiet ((go_at_call 236; exact quiet_left (rotpI_any _ _ _ (by assumption) (by assumption) (by decide) (by decide))))
              have HVQ := Lib.hid (HV.out.drewN nq)
              clear ck cw l1 l2 HV
              generalize wr.drewN nq = wq at *
              go_wp2_with (first | (go_at_call 236; refine (rotpI_any _ _ _ (by assumption) (by assumption) (by decide) (by decide)).mono ?_; rintro e w' ⟨rfl, rfl⟩))
              refine ⟨?_, ?measure⟩
              iterate 74 (apply Exists.intro)
              refine ⟨?rel, rfl⟩
              case rel => exact ⟨k + 1, by omega, by go_num, by rw [HRN.out]; (first | rfl | (simp only [ptAt, List.getD_cons_zero, Int.emod_add_emod, Int.add_emod_emod])), by rw [HRN.out]; rfl, by rw [HRN.out]; rfl, by rw [HRN.out]; rfl, by rw [HRN.out]; (first | rfl | (simp only [ptAt, List.getD_cons_zero, List.getD_cons_succ, Int.add_emod_emod])), by rw [HRN.out]; rfl, by rw [HRN.out]; rfl, by rw [HRN.out]; rfl, HVQ.out⟩
              case measure => simp [intOf]; omega
            · have HKK := Lib.hid (show k = 64 by omega)
              obtain ⟨V, hV64⟩ : ∃ V, rndTo F s k = V := ⟨_, rfl⟩
              have HV64 := Lib.hid hV64
              rw [hV64]
              have s0 := hV.st.cell (i := 0) (by omega)
              have s1 := hV.st.cell (i := 1) (by omega)
              have s2 := hV.st.cell (i := 2) (by omega)
              have s3 := hV.st.cell (i := 3) (by omega)
              have s4 := hV.st.cell (i := 4) (by omega)
              have s5 := hV.st.cell (i := 5) (by omega)
              have s6 := hV.st.cell (i := 6) (by omega)
              have s7 := hV.st.cell (i := 7) (by omega)
              have sl := hV.st.lt
              have hk2 : (k : Int) = 64 := by omega
              rw [hk2]
              have HRS := Lib.hid (row8 hV.rs)
              have HOE := Lib.hid hV.only
              have HRV := Lib.hid (show stRow (addL s V) = #[.int .u32 ((ptAt s 0 + ptAt V 0) % 4294967296), .int .u32 ((ptAt s 1 + ptAt V 1) % 4294967296), .int .u32 ((ptAt s 2 + ptAt V 2) % 4294967296), .int .u32 ((ptAt s 3 + ptAt V 3) % 4294967296), .int .u32 ((ptAt s 4 + ptAt V 4) % 4294967296), .int .u32 ((ptAt s 5 + ptAt V 5) % 4294967296), .int .u32 ((ptAt s 6 + ptAt V 6) % 4294967296), .int .u32 ((ptAt s 7 + ptAt V 7) % 4294967296)] from rfl)
              clear hk2 hlt hk hV64 hV
              go_wp2_with (first | (refine wpList_store_row rfl 254 _ _ rfl (w.heap.size + 1) #[.int .u32 ((ptAt s 0 + ptAt V 0) % 4294967296), .int .u32 ((ptAt s 1 + ptAt V 1) % 4294967296), .int .u32 ((ptAt s 2 + ptAt V 2) % 4294967296), .int .u32 ((ptAt s 3 + ptAt V 3) % 4294967296), .int .u32 ((ptAt s 4 + ptAt V 4) % 4294967296), .int .u32 ((ptAt s 5 + ptAt V 5) % 4294967296), .int .u32 ((ptAt s 6 + ptAt V 6) % 4294967296), .int .u32 ((ptAt s 7 + ptAt V 7) % 4294967296)] rfl rfl 254 zeros8 HRS.out Tryz.info8 rfl (by simp [Value.oneCell']) ?_))
              refine bodyPost_ret (v := .agg #[.int .u32 ((ptAt s 0 + ptAt V 0) % 4294967296), .int .u32 ((ptAt s 1 + ptAt V 1) % 4294967296), .int .u32 ((ptAt s 2 + ptAt V 2) % 4294967296), .int .u32 ((ptAt s 3 + ptAt V 3) % 4294967296), .int .u32 ((ptAt s 4 + ptAt V 4) % 4294967296), .int .u32 ((ptAt s 5 + ptAt V 5) % 4294967296), .int .u32 ((ptAt s 6 + ptAt V 6) % 4294967296), .int .u32 ((ptAt s 7 + ptAt V 7) % 4294967296)]) (results_cell_row rfl _ _ (w.heap.size + 1) 254 #[.int .u32 ((ptAt s 0 + ptAt V 0) % 4294967296), .int .u32 ((ptAt s 1 + ptAt V 1) % 4294967296), .int .u32 ((ptAt s 2 + ptAt V 2) % 4294967296), .int .u32 ((ptAt s 3 + ptAt V 3) % 4294967296), .int .u32 ((ptAt s 4 + ptAt V 4) % 4294967296), .int .u32 ((ptAt s 5 + ptAt V 5) % 4294967296), .int .u32 ((ptAt s 6 + ptAt V 6) % 4294967296), .int .u32 ((ptAt s 7 + ptAt V 7) % 4294967296)] (0, 0) _ rfl (setRow_heap _ _ _ _ _ _ HRS.out) Tryz.underlying254 rfl Tryz.info8) rfl ⟨?_, HOE.out.setRow (by omega) _⟩
              rw [← HRV.out, ← HV64.out, ← HF.out, HKK.out]
              rfl
end Go.Proofs.YtldkjkjpaiajlaaGreatDoor

namespace Go.Proofs.YtldkjkjpaiajlaaGreatDoor
open Go.RowKit

theorem sgAddQ {a x y : Int} (h : memB a = true) (hx : 0 ≤ x) (hx2 : x < 1152921504606845789) (hy : 0 ≤ y) (hy2 : y < 1152921504606845789) : powM a x 2305843009213691579 * powM a y 2305843009213691579 % 2305843009213691579 = powM a ((x + y) % 1152921504606845789) 2305843009213691579 := by
  have hin := ((memB_iff a).1 h).2.2
  have hz := emod_self_lt (x + y) 1152921504606845789 (by decide)
  have h1 := powM_cong a x 2305843009213691579 hx (by omega)
  have h2 := powM_cong a y 2305843009213691579 hy (by omega)
  have h3 := powM_cong a ((x + y) % 1152921504606845789) 2305843009213691579 hz.1 (by omega)
  have h4 := hin.exp (x.toNat + y.toNat)
  have e : (x.toNat + y.toNat) % 1152921504606845789 = ((x + y) % 1152921504606845789).toNat := by omega
  rw [e, Int.pow_add] at h4
  have hc : Cong 2305843009213691579 (powM a x 2305843009213691579 * powM a y 2305843009213691579) (powM a ((x + y) % 1152921504606845789) 2305843009213691579) := (h1.mul h2).trans (Cong.trans (show Cong 2305843009213691579 _ _ from h4) h3.symm)
  rw [hc.emod]
  have hb := powM_bd a ((x + y) % 1152921504606845789) 2305843009213691579 (by decide)
  exact Int.emod_eq_of_lt hb.1 hb.2
theorem sgPowQ {a x y : Int} (h : memB a = true) (hx : 0 ≤ x) (hx2 : x < 1152921504606845789) (hy : 0 ≤ y) (hy2 : y < 1152921504606845789) : powM (powM a x 2305843009213691579) y 2305843009213691579 = powM a (x * y % 1152921504606845789) 2305843009213691579 := by
  have hin := ((memB_iff a).1 h).2.2
  have hz := emod_self_lt (x * y) 1152921504606845789 (by decide)
  have h1 := powM_cong (powM a x 2305843009213691579) y 2305843009213691579 hy (by omega)
  have h2 := cong_pow (powM_cong a x 2305843009213691579 hx (by omega)) y.toNat
  have h3 := powM_cong a (x * y % 1152921504606845789) 2305843009213691579 hz.1 (by omega)
  have h4 := hin.exp (x.toNat * y.toNat)
  have e : (x.toNat * y.toNat) % 1152921504606845789 = (x * y % 1152921504606845789).toNat := by
    obtain ⟨b, rfl⟩ := Int.eq_ofNat_of_zero_le hx
    obtain ⟨c, rfl⟩ := Int.eq_ofNat_of_zero_le hy
    simp only [Int.toNat_natCast]
    rw [← Int.natCast_mul, show (1152921504606845789 : Int) = ((1152921504606845789 : Nat) : Int) from rfl, ← Int.natCast_emod, Int.toNat_natCast]
  rw [e, Int.pow_mul] at h4
  have hc : Cong 2305843009213691579 (powM (powM a x 2305843009213691579) y 2305843009213691579) (powM a (x * y % 1152921504606845789) 2305843009213691579) := (h1.trans h2).trans (Cong.trans (show Cong 2305843009213691579 _ _ from h4) h3.symm)
  have hb := powM_bd a (x * y % 1152921504606845789) 2305843009213691579 (by decide)
  have hb1 := powM_bd (powM a x 2305843009213691579) y 2305843009213691579 (by decide)
  exact hc.eq hb1.1 hb1.2 hb.1 hb.2
/-- The 8 bytes of a number, the most significant one first. -/
def byte8 (n : Int) (k : Nat) : UInt8 := UInt8.ofNat (n.toNat / 256 ^ (7 - k) % 256)
def bytes8 (n : Int) : ByteArray := ⟨((List.range 8).map (byte8 n)).toArray⟩
def sgC : ByteArray := ⟨#[99]⟩
def sgW : ByteArray := ⟨#[110]⟩
/-- The challenge of a number, a key and a text. -/
def schalZ (r pb : Int) (t : ByteArray) : Int := scalarZ (sgC ++ bytes8 r ++ bytes8 pb ++ t)
def expZ (secret : Int) : Int := secret % 1152921504606845789
def pubZ (secret : Int) : Int := powM 4 (expZ secret) 2305843009213691579
def sgN (x : Int) (t : ByteArray) : Int := max (scalarZ (sgW ++ bytes8 x ++ t)) 1
def sgR (secret : Int) (t : ByteArray) : Int := powM 4 (sgN (expZ secret) t) 2305843009213691579
def sgS (secret : Int) (t : ByteArray) : Int := (sgN (expZ secret) t + expZ secret * schalZ (sgR secret t) (pubZ secret) t % 1152921504606845789) % 1152921504606845789
/-- Is (R, S) a signature of a text for a key? -/
def sverB (pb : Int) (t : ByteArray) (R S : Int) : Bool :=
  memB pb && memB R && decide (0 ≤ S) && decide (S < 1152921504606845789) && (powM 4 S 2305843009213691579 == R * powM pb (schalZ R pb t) 2305843009213691579 % 2305843009213691579)
theorem schalZ_bd (r pb : Int) (t : ByteArray) : 0 ≤ schalZ r pb t ∧ schalZ r pb t < 1152921504606845789 := scalarZ_bd _
theorem expZ_bd (secret : Int) : 0 ≤ expZ secret ∧ expZ secret < 1152921504606845789 := emod_self_lt _ _ (by decide)
theorem sgN_bd (x : Int) (t : ByteArray) : 1 ≤ sgN x t ∧ sgN x t < 1152921504606845789 := by
  have := scalarZ_bd (sgW ++ bytes8 x ++ t)
  unfold sgN; omega
theorem sgS_bd (secret : Int) (t : ByteArray) : 0 ≤ sgS secret t ∧ sgS secret t < 1152921504606845789 := emod_self_lt _ _ (by decide)
theorem pub_mem (secret : Int) : memB (pubZ secret) = true := mem_pow mem_four (expZ_bd secret).1 (by have := expZ_bd secret; omega)
theorem sgR_mem (secret : Int) (t : ByteArray) : memB (sgR secret t) = true := mem_pow mem_four (by have := sgN_bd (expZ secret) t; omega) (by have := sgN_bd (expZ secret) t; omega)
theorem sver_made (secret : Int) (t : ByteArray) : sverB (pubZ secret) t (sgR secret t) (sgS secret t) = true := by
  have hx := expZ_bd secret
  have hn := sgN_bd (expZ secret) t
  have hc := schalZ_bd (sgR secret t) (pubZ secret) t
  have hs := sgS_bd secret t
  obtain ⟨m0, m1⟩ := emod_self_lt (expZ secret * schalZ (sgR secret t) (pubZ secret) t) 1152921504606845789 (by decide)
  have e1 : powM (pubZ secret) (schalZ (sgR secret t) (pubZ secret) t) 2305843009213691579 = powM 4 (expZ secret * schalZ (sgR secret t) (pubZ secret) t % 1152921504606845789) 2305843009213691579 :=
    sgPowQ mem_four hx.1 hx.2 hc.1 hc.2
  have e2 : sgR secret t * powM 4 (expZ secret * schalZ (sgR secret t) (pubZ secret) t % 1152921504606845789) 2305843009213691579 % 2305843009213691579 = powM 4 (sgS secret t) 2305843009213691579 :=
    sgAddQ mem_four (by omega) hn.2 m0 m1
  unfold sverB
  rw [pub_mem, sgR_mem, e1, e2, decide_eq_true hs.1, decide_eq_true hs.2]
  simp
end Go.Proofs.YtldkjkjpaiajlaaGreatDoor
