/-
  The reference's hash function: rot, rounds; the words of a block. The reference's hash function: a block. The reference's hash function: padded, Sum. The reference's hash function: Sum.
  Plain: what the program's hash function computes is what the reference's does: words of a block, rotations, the padded message.
  Package digest: rotate, mix.
  Numbers of hashes: the reference's number, Scalar, Element, Key.
-/
import Derived.Test.YtkpfachmakfncaaGreatDoorPk06
import Derived.Test.YtkpfachmakfncaaGreatDoorOnly
import Derived.Deep.OwnRows
import Derived.StillTailTactics
import Derived.Deep.WholeRow
import Derived.Test.YtkpfachmakfncaaGreatDoorPk02
import Derived.Laws.BytesArg
namespace Go.Proofs.YtkpfachmakfncaaGreatDoor
open Go.RowKit

def rotZ (x : Int) (k : Nat) : Int := bits BinOp.or IntKind.u32 (x / 2 ^ k) (x * 2 ^ (32 - k) % 4294967296)
theorem wrap_u32_bd (z : Int) : 0 ≤ IntKind.u32.wrap z ∧ IntKind.u32.wrap z ≤ 4294967295 := by
  have : IntKind.u32.wrap z = z % 4294967296 := by rfl
  rw [this]; omega
theorem rotZ_bd (x : Int) (k : Nat) : 0 ≤ rotZ x k ∧ rotZ x k ≤ 4294967295 := by
  unfold rotZ bits; exact wrap_u32_bd _
theorem quiet_more {P : Program} {f : FuncId} {args : Array Value} {w : World} {a n : Nat} {v : Value}
    (h : ∀ k, Calls P f args (w.drewN k) fun e w' => e = .returned v ∧ ∃ m, w' = (w.drewN k).drewN m) :
    Calls P f args (w.drewN (a + n)) fun e w'' => e = .returned v ∧ ∃ m, w'' = w.drewN (a + m) :=
  (h (a + n)).mono fun _ _ ⟨he, m, hm⟩ => ⟨he, n + m, by rw [hm, World.drewN_drewN, Nat.add_assoc]⟩
def rotI (x n : Int) : Int := rotZ x n.toNat
theorem rotI_bd (x n : Int) : 0 ≤ rotI x n ∧ rotI x n ≤ 4294967295 := rotZ_bd _ _
def kAt : List Int := [0x428a2f98, 0x71374491, 0xb5c0fbcf, 0xe9b5dba5, 0x3956c25b, 0x59f111f1, 0x923f82a4, 0xab1c5ed5,
    0xd807aa98, 0x12835b01, 0x243185be, 0x550c7dc3, 0x72be5d74, 0x80deb1fe, 0x9bdc06a7, 0xc19bf174,
    0xe49b69c1, 0xefbe4786, 0x0fc19dc6, 0x240ca1cc, 0x2de92c6f, 0x4a7484aa, 0x5cb0a9dc, 0x76f988da,
    0x983e5152, 0xa831c66d, 0xb00327c8, 0xbf597fc7, 0xc6e00bf3, 0xd5a79147, 0x06ca6351, 0x14292967,
    0x27b70a85, 0x2e1b2138, 0x4d2c6dfc, 0x53380d13, 0x650a7354, 0x766a0abb, 0x81c2c92e, 0x92722c85,
    0xa2bfe8a1, 0xa81a664b, 0xc24b8b70, 0xc76c51a3, 0xd192e819, 0xd6990624, 0xf40e3585, 0x106aa070,
    0x19a4c116, 0x1e376c08, 0x2748774c, 0x34b0bcb5, 0x391c0cb3, 0x4ed8aa4a, 0x5b9cca4f, 0x682e6ff3,
    0x748f82ee, 0x78a5636f, 0x84c87814, 0x8cc70208, 0x90befffa, 0xa4506ceb, 0xbef9a3f7, 0xc67178f2]
def kRow : Array Value := (kAt.map (Value.int .u32)).toArray
theorem kRow_size : kRow.size = 64 := rfl
theorem kRow_one : kRow.all (·.oneCell') = true := by decide +kernel

section
variable {P : Program}
theorem wpList_build_to {ops : Array Oper} {rest : List Oper} {o : Oper} {a : Act} {w : World} {Q : Exit → Act → World → Prop} (hg : o.guard = none) (t : TypeId) (parts : Array (Nat × Operand)) (ho : o.op = .build t parts) (cs : Array Value)
    (hf : P.built t (parts.map fun (i, x) => (i, a.eval x)).toList = some cs)
    (h : wpList P ops Q rest (a.put o.dst (.agg cs)) w) : wpList P ops Q (o :: rest) a w :=
  wpList_build hg t parts ho (by rw [hf]; rfl) (by rw [hf]; exact h)
end
theorem Tryz.infoK : (Tryz.prog.info? 155).map (·.size) = some 64 := by kernel_rfl
theorem Tryz.info8 : (Tryz.prog.info? 142).map (·.size) = some 8 := by kernel_rfl

end Go.Proofs.YtkpfachmakfncaaGreatDoor

namespace Go.Proofs.YtkpfachmakfncaaGreatDoor
open Go.RowKit

/-- The eight words of a state. -/
def stRow (s : List Int) : Array Value := (s.map (Value.int .u32)).toArray
structure St8 (s : List Int) : Prop where
  len : s.length = 8
  bd : ∀ j, j < 8 → 0 ≤ ptAt s j ∧ ptAt s j ≤ 4294967295
def byteZ (b : ByteArray) (i : Nat) : Int := (b.data.toList.getD i 0).toNat
theorem byteZ_eq (b : ByteArray) (i : Nat) (h : i < b.size) : (b[i].toNat : Int) = byteZ b i := by
  unfold byteZ
  have : b.data.toList.getD i 0 = b[i] := by
    have h2 : i < b.data.size := h
    simp only [List.getD, Array.getElem?_toList, Array.getElem?_eq_getElem h2, Option.getD_some]
    rfl
  rw [this]
def orZ (x y : Int) : Int := bits BinOp.or IntKind.u32 x y
def xorZ (x y : Int) : Int := bits BinOp.xor IntKind.u32 x y
theorem orZ_bd (x y : Int) : 0 ≤ orZ x y ∧ orZ x y ≤ 4294967295 := by unfold orZ bits; exact wrap_u32_bd _
theorem xorZ_bd (x y : Int) : 0 ≤ xorZ x y ∧ xorZ x y ≤ 4294967295 := by unfold xorZ bits; exact wrap_u32_bd _
def wordZ (b : ByteArray) (i : Nat) : Int :=
  orZ (orZ (orZ (byteZ b (4 * i) % 4294967296 * 16777216 % 4294967296) (byteZ b (4 * i + 1) % 4294967296 * 65536 % 4294967296)) (byteZ b (4 * i + 2) % 4294967296 * 256 % 4294967296)) (byteZ b (4 * i + 3) % 4294967296)
def mixW (y0 y1 y2 y3 : Int) : Int :=
  (y0 + xorZ (xorZ (rotI y1 7) (rotI y1 18)) (y1 / 8) + y2 + xorZ (xorZ (rotI y3 17) (rotI y3 19)) (y3 / 1024)) % 4294967296
def schN (b : ByteArray) (l : List Int) (k : Nat) : Int := if k < 16 then wordZ b k else mixW (ptAt l (k - 16)) (ptAt l (k - 15)) (ptAt l (k - 7)) (ptAt l (k - 2))
def schTo (b : ByteArray) : Nat → List Int
  | 0 => []
  | k + 1 => schTo b k ++ [schN b (schTo b k) k]
theorem schTo_len (b : ByteArray) : ∀ k, (schTo b k).length = k
  | 0 => rfl
  | k + 1 => by rw [schTo, List.length_append, schTo_len b k]; rfl
theorem ptAt_snoc (l : List Int) (x : Int) (j : Nat) : ptAt (l ++ [x]) j = if j = l.length then x else ptAt l j := by
  unfold ptAt
  simp only [List.getD]
  by_cases h : j < l.length
  · rw [List.getElem?_append_left h, if_neg (by omega)]
  · by_cases e : j = l.length
    · subst e; simp
    · rw [if_neg e, List.getElem?_eq_none (by simp; omega), List.getElem?_eq_none (by omega)]
theorem schN_bd (b : ByteArray) (l : List Int) (k : Nat) : 0 ≤ schN b l k ∧ schN b l k ≤ 4294967295 := by
  unfold schN
  split
  · exact orZ_bd _ _
  · unfold mixW; omega
theorem schTo_bd (b : ByteArray) : ∀ k j, 0 ≤ ptAt (schTo b k) j ∧ ptAt (schTo b k) j ≤ 4294967295
  | 0, j => by simp [schTo, ptAt]
  | k + 1, j => by
    rw [schTo, ptAt_snoc]
    split
    · exact schN_bd _ _ _
    · exact schTo_bd b k j

def andZ (x y : Int) : Int := bits BinOp.and IntKind.u32 x y
def notZ (x : Int) : Int := bits BinOp.xor IntKind.u32 IntKind.u32.max x
def tZ (v : List Int) (k w : Int) : Int :=
  ptAt v 7 + xorZ (xorZ (rotI (ptAt v 4) 6) (rotI (ptAt v 4) 11)) (rotI (ptAt v 4) 25) + xorZ (andZ (ptAt v 4) (ptAt v 5)) (andZ (notZ (ptAt v 4)) (ptAt v 6)) + k + w
def uZ (v : List Int) : Int :=
  xorZ (xorZ (rotI (ptAt v 0) 2) (rotI (ptAt v 0) 13)) (rotI (ptAt v 0) 22) + xorZ (xorZ (andZ (ptAt v 0) (ptAt v 1)) (andZ (ptAt v 0) (ptAt v 2))) (andZ (ptAt v 1) (ptAt v 2))
/-- One step. -/
def rnd (v : List Int) (k w : Int) : List Int :=
  [(tZ v k w + uZ v) % 4294967296, ptAt v 0, ptAt v 1, ptAt v 2, (ptAt v 3 + tZ v k w) % 4294967296, ptAt v 4, ptAt v 5, ptAt v 6]
def rndTo (f s : List Int) : Nat → List Int
  | 0 => s
  | k + 1 => rnd (rndTo f s k) (ptAt kAt k) (ptAt f k)
theorem rndTo_bd (f : List Int) {s : List Int} (hs : St8 s) : ∀ k, St8 (rndTo f s k)
  | 0 => hs
  | k + 1 => by
    have h := rndTo_bd f hs k
    refine ⟨rfl, fun j hj => ?_⟩
    rw [rndTo, rnd]
    match j, hj with
    | 0, _ => exact ⟨Int.emod_nonneg _ (by decide), by have := Int.emod_lt_of_pos (tZ (rndTo f s k) (ptAt kAt k) (ptAt f k) + uZ (rndTo f s k)) (show (0 : Int) < 4294967296 by decide); show _ % _ ≤ _; omega⟩
    | 1, _ => exact h.bd 0 (by omega)
    | 2, _ => exact h.bd 1 (by omega)
    | 3, _ => exact h.bd 2 (by omega)
    | 4, _ => exact ⟨Int.emod_nonneg _ (by decide), by have := Int.emod_lt_of_pos (ptAt (rndTo f s k) 3 + tZ (rndTo f s k) (ptAt kAt k) (ptAt f k)) (show (0 : Int) < 4294967296 by decide); show _ % _ ≤ _; omega⟩
    | 5, _ => exact h.bd 4 (by omega)
    | 6, _ => exact h.bd 5 (by omega)
    | 7, _ => exact h.bd 6 (by omega)
    | j + 8, hj => omega
theorem rnd_eq (f s : List Int) (k : Nat) : rndTo f s (k + 1) =
    [(ptAt (rndTo f s k) 7 + bits BinOp.xor IntKind.u32 (bits BinOp.xor IntKind.u32 (rotI (ptAt (rndTo f s k) 4) 6) (rotI (ptAt (rndTo f s k) 4) 11)) (rotI (ptAt (rndTo f s k) 4) 25) + bits BinOp.xor IntKind.u32 (bits BinOp.and IntKind.u32 (ptAt (rndTo f s k) 4) (ptAt (rndTo f s k) 5)) (bits BinOp.and IntKind.u32 (bits BinOp.xor IntKind.u32 IntKind.u32.max (ptAt (rndTo f s k) 4)) (ptAt (rndTo f s k) 6)) + ptAt kAt k + ptAt f k +
      (bits BinOp.xor IntKind.u32 (bits BinOp.xor IntKind.u32 (rotI (ptAt (rndTo f s k) 0) 2) (rotI (ptAt (rndTo f s k) 0) 13)) (rotI (ptAt (rndTo f s k) 0) 22) + bits BinOp.xor IntKind.u32 (bits BinOp.xor IntKind.u32 (bits BinOp.and IntKind.u32 (ptAt (rndTo f s k) 0) (ptAt (rndTo f s k) 1)) (bits BinOp.and IntKind.u32 (ptAt (rndTo f s k) 0) (ptAt (rndTo f s k) 2))) (bits BinOp.and IntKind.u32 (ptAt (rndTo f s k) 1) (ptAt (rndTo f s k) 2)))) % 4294967296,
     ptAt (rndTo f s k) 0, ptAt (rndTo f s k) 1, ptAt (rndTo f s k) 2,
     (ptAt (rndTo f s k) 3 + (ptAt (rndTo f s k) 7 + bits BinOp.xor IntKind.u32 (bits BinOp.xor IntKind.u32 (rotI (ptAt (rndTo f s k) 4) 6) (rotI (ptAt (rndTo f s k) 4) 11)) (rotI (ptAt (rndTo f s k) 4) 25) + bits BinOp.xor IntKind.u32 (bits BinOp.and IntKind.u32 (ptAt (rndTo f s k) 4) (ptAt (rndTo f s k) 5)) (bits BinOp.and IntKind.u32 (bits BinOp.xor IntKind.u32 IntKind.u32.max (ptAt (rndTo f s k) 4)) (ptAt (rndTo f s k) 6)) + ptAt kAt k + ptAt f k)) % 4294967296,
     ptAt (rndTo f s k) 4, ptAt (rndTo f s k) 5, ptAt (rndTo f s k) 6] := rfl
theorem stRow_size (s : List Int) : (stRow s).size = s.length := by simp [stRow]
theorem stRow_one (s : List Int) : (stRow s).all (·.oneCell') = true := by
  unfold stRow
  rw [Array.all_eq_true_iff_forall_mem]
  intro x hx
  simp at hx
  obtain ⟨z, _, rfl⟩ := hx
  rfl
theorem row_block {w : World} {g n : Nat} {t : TypeId} {s : List Int} (h : w.rowIs g t n (fun i => .int .u32 (ptAt s i))) (hl : s.length = n) : w.heap[g]? = some (.cells (stRow s) t (0, 0)) := by
  obtain ⟨c, hc, hn, hi⟩ := h
  have : c = stRow s := by
    apply Array.ext_getElem?
    intro i
    by_cases h : i < n
    · rw [hi i h]
      simp [stRow, ptAt, List.getD, show i < s.length by omega]
    · rw [Array.getElem?_eq_none (by omega), Array.getElem?_eq_none (by rw [stRow_size]; omega)]
  rw [hc, this]
/-- The blocks of a call of block. -/
structure Sha (w wr : World) (n1 : Nat) (s f : List Int) : Prop where
  st : wr.rowIs w.heap.size 142 8 (fun i => .int .u32 (ptAt s i))
  rs : wr.rowIs (w.heap.size + 1) 142 8 (fun _ => .int .u32 0)
  kk : wr.rowIs n1 155 64 (fun i => .int .u32 (ptAt kAt i))
  ww : wr.rowIs (n1 + 1) 155 64 (fun i => .int .u32 (ptAt f i))
  n : w.heap.size + 3 = n1
  only : Only (fun _ => False) w wr
structure ShaV (w wr : World) (n1 nv : Nat) (s f v : List Int) : Prop extends Sha w wr n1 s f where
  vv : wr.rowIs nv 142 8 (fun i => .int .u32 (ptAt v i))
  nn : n1 + 1 < nv
theorem ShaV.drewN {w wr : World} {n1 nv : Nat} {s f v : List Int} (h : ShaV w wr n1 nv s f v) (q : Nat) : ShaV w (wr.drewN q) n1 nv s f v :=
  ⟨⟨h.st, h.rs, h.kk, h.ww, h.n, h.only.drewN q⟩, h.vv, h.nn⟩
theorem Sha.opened {w wr : World} {n1 : Nat} {s f : List Int} (h : Sha w wr n1 s f) (hs : s.length = 8) : ShaV w (wr.alloc (Obj.cells (stRow s) 142)) n1 wr.heap.size s f s := by
  refine ⟨⟨h.st.alloc _, h.rs.alloc _, h.kk.alloc _, h.ww.alloc _, h.n, h.only.alloc _⟩, ?_, h.ww.lt⟩
  have := World.rowIs_alloc wr (stRow s) 142 (fun i => .int .u32 (ptAt s i)) (fun i hi => by
    rw [stRow_size] at hi
    simp [stRow, ptAt, List.getD, hi])
  rw [stRow_size, hs] at this
  exact this
theorem ShaV.put {w wr : World} {n1 nv : Nat} {s f v : List Int} (h : ShaV w wr n1 nv s f v) (q : Nat) (x0 x1 x2 x3 x4 x5 x6 x7 : Int) :
    ShaV w (((((((((wr.drewN q).setCell ⟨nv, 0, none⟩ (.int .u32 x0)).setCell ⟨nv, 1, none⟩ (.int .u32 x1)).setCell ⟨nv, 2, none⟩ (.int .u32 x2)).setCell ⟨nv, 3, none⟩ (.int .u32 x3)).setCell ⟨nv, 4, none⟩ (.int .u32 x4)).setCell ⟨nv, 5, none⟩ (.int .u32 x5)).setCell ⟨nv, 6, none⟩ (.int .u32 x6)).setCell ⟨nv, 7, none⟩ (.int .u32 x7)) n1 nv s f [x0, x1, x2, x3, x4, x5, x6, x7] := by
  have hn := h.n
  have hnn := h.nn
  have step : ∀ (wz : World) (g : Nat) (t : TypeId) (m : Nat) (F : Nat → Value) (i : Nat) (x : Int), g ≠ nv → wz.rowIs g t m F → (wz.setCell ⟨nv, i, none⟩ (.int .u32 x)).rowIs g t m F := fun wz g t m F i x hg hr => hr.setOther hg _
  have all : ∀ (g : Nat) (t : TypeId) (m : Nat) (F : Nat → Value), g ≠ nv → (wr.drewN q).rowIs g t m F → (((((((((wr.drewN q).setCell ⟨nv, 0, none⟩ (.int .u32 x0)).setCell ⟨nv, 1, none⟩ (.int .u32 x1)).setCell ⟨nv, 2, none⟩ (.int .u32 x2)).setCell ⟨nv, 3, none⟩ (.int .u32 x3)).setCell ⟨nv, 4, none⟩ (.int .u32 x4)).setCell ⟨nv, 5, none⟩ (.int .u32 x5)).setCell ⟨nv, 6, none⟩ (.int .u32 x6)).setCell ⟨nv, 7, none⟩ (.int .u32 x7)).rowIs g t m F := fun g t m F hg hr => step _ _ _ _ _ _ _ hg (step _ _ _ _ _ _ _ hg (step _ _ _ _ _ _ _ hg (step _ _ _ _ _ _ _ hg (step _ _ _ _ _ _ _ hg (step _ _ _ _ _ _ _ hg (step _ _ _ _ _ _ _ hg (step _ _ _ _ _ _ _ hg hr)))))))
  have hlo : ∀ i : Nat, w.heap.size ≤ (⟨nv, i, none⟩ : Addr).block := fun i => by show w.heap.size ≤ nv; omega
  refine ⟨⟨all _ _ _ _ (by omega) h.st, all _ _ _ _ (by omega) h.rs, all _ _ _ _ (by omega) h.kk, all _ _ _ _ (by omega) h.ww, hn, ?_⟩, ?_, hnn⟩
  · exact ((((((((h.only.drewN q).setCell (.inr (hlo 0)) _).setCell (.inr (hlo 1)) _).setCell (.inr (hlo 2)) _).setCell (.inr (hlo 3)) _).setCell (.inr (hlo 4)) _).setCell (.inr (hlo 5)) _).setCell (.inr (hlo 6)) _).setCell (.inr (hlo 7)) _
  · have hv : (wr.drewN q).rowIs nv 142 8 (fun i => .int .u32 (ptAt v i)) := h.vv
    refine ((((((((hv.set 0 (.int .u32 x0)).set 1 (.int .u32 x1)).set 2 (.int .u32 x2)).set 3 (.int .u32 x3)).set 4 (.int .u32 x4)).set 5 (.int .u32 x5)).set 6 (.int .u32 x6)).set 7 (.int .u32 x7)).congr (fun i hi => ?_)
    match i, hi with
    | 0, _ => rfl
    | 1, _ => rfl
    | 2, _ => rfl
    | 3, _ => rfl
    | 4, _ => rfl
    | 5, _ => rfl
    | 6, _ => rfl
    | 7, _ => rfl
    | i + 8, hi => omega
/-- The last loop: the sums. -/
structure ShaE (w wr : World) (n1 nv : Nat) (s v : List Int) (k : Nat) : Prop where
  st : wr.rowIs w.heap.size 142 8 (fun i => .int .u32 (if i < k then (ptAt s i + ptAt v i) % 4294967296 else ptAt s i))
  rs : wr.rowIs (w.heap.size + 1) 142 8 (fun _ => .int .u32 0)
  vv : wr.rowIs nv 142 8 (fun i => .int .u32 (ptAt v i))
  n : w.heap.size + 3 = n1
  nn : n1 + 1 < nv
  only : Only (fun _ => False) w wr
theorem ShaE.start {w wr : World} {n1 nv : Nat} {s f v : List Int} (h : ShaV w wr n1 nv s f v) : ShaE w wr n1 nv s v 0 :=
  ⟨h.st.congr (fun i _ => by simp), h.rs, h.vv, h.n, h.nn, h.only⟩
theorem ShaE.next {w wr : World} {n1 nv : Nat} {s v : List Int} {k : Nat} (h : ShaE w wr n1 nv s v k) (q : Nat) : ShaE w ((wr.drewN q).setCell ⟨w.heap.size, k, none⟩ (.int .u32 ((ptAt s k + ptAt v k) % 4294967296))) n1 nv s v (k + 1) := by
  have hn := h.n
  have hnn := h.nn
  refine ⟨(World.rowIs.set (show (wr.drewN q).rowIs _ _ _ _ from h.st) k _).congr (fun i _ => ?_), World.rowIs.setOther (show (wr.drewN q).rowIs _ _ _ _ from h.rs) (by show w.heap.size + 1 ≠ w.heap.size; omega) _, World.rowIs.setOther (show (wr.drewN q).rowIs _ _ _ _ from h.vv) (by show nv ≠ w.heap.size; omega) _, hn, hnn, (h.only.drewN q).setCell (.inr (Nat.le_refl _)) _⟩
  by_cases e : i = k
  · subst e; rw [if_pos rfl, if_pos (by omega)]
  · rw [if_neg e]
    by_cases e2 : i < k
    · rw [if_pos e2, if_pos (by omega)]
    · rw [if_neg e2, if_neg (by omega)]
def addL (s v : List Int) : List Int := (List.range 8).map (fun j => (ptAt s j + ptAt v j) % 4294967296)
theorem addL_len (s v : List Int) : (addL s v).length = 8 := by simp [addL]
theorem addL_at (s v : List Int) {j : Nat} (h : j < 8) : ptAt (addL s v) j = (ptAt s j + ptAt v j) % 4294967296 := by
  simp only [ptAt, addL, List.getD, List.getElem?_map, List.getElem?_range h]; rfl
theorem addL_st (s v : List Int) : St8 (addL s v) := ⟨addL_len s v, fun j hj => by rw [addL_at s v hj]; omega⟩
theorem ShaE.ends {w wr : World} {n1 nv : Nat} {s v : List Int} (h : ShaE w wr n1 nv s v 8) : wr.heap[w.heap.size]? = some (.cells (stRow (addL s v)) 142 (0, 0)) :=
  row_block (h.st.congr (fun i hi => by rw [if_pos hi, addL_at s v hi])) (addL_len s v)
def zeros8 : Array Value := stRow [0, 0, 0, 0, 0, 0, 0, 0]
theorem row8 {w : World} {g : Nat} (h : w.rowIs g 142 8 (fun _ => .int .u32 0)) : w.heap[g]? = some (.cells zeros8 142 (0, 0)) :=
  row_block (s := [0, 0, 0, 0, 0, 0, 0, 0]) (h.congr (fun i hi => by
    match i, hi with
    | 0, _ => rfl
    | 1, _ => rfl
    | 2, _ => rfl
    | 3, _ => rfl
    | 4, _ => rfl
    | 5, _ => rfl
    | 6, _ => rfl
    | 7, _ => rfl
    | i + 8, hi => omega)) rfl
def blockZ (s : List Int) (b : ByteArray) : List Int := addL s (rndTo (schTo b 64) s 64)
theorem Only.setRow {S : Nat → Prop} {a w : World} (h : Only S a w) {g : Nat} (hg : a.heap.size ≤ g) (cs : Array Value) : Only S a (w.setRow g cs) :=
  h.trans' (T := fun k => k = g) ⟨rfl, rfl, rfl, by simp, fun k _ hk => by simp only [World.setRow, Array.getElem?_modify]; rw [if_neg (fun e => hk e.symm)]⟩ (fun i hi e => by omega)
theorem sha_start (w w1 : World) (s : List Int) (z8 z64 : Array Value) (hs : s.length = 8) (hw1 : w1 = ((w.alloc (.cells (stRow s) 142)).alloc (.cells z8 142)).alloc (.cells kRow 155)) (hz8 : z8 = Array.replicate 8 (.int .u32 0)) (hz64 : z64 = Array.replicate 64 (.int .u32 0)) :
    Sha w ((w1.alloc (.cells kRow 155)).alloc (.cells z64 155)) w1.heap.size s [] := by
  have hn : w1.heap.size = w.heap.size + 3 := by rw [hw1]; simp
  have hO : Only (fun _ => False) w w1 := by rw [hw1]; exact (((Only.refl _ w).alloc _).alloc _).alloc _
  have h0 : w1.rowIs w.heap.size 142 8 (fun i => .int .u32 (ptAt s i)) := by
    rw [hw1]
    have := World.rowIs_alloc w (stRow s) 142 (fun i => .int .u32 (ptAt s i)) (fun i hi => by
      rw [stRow_size] at hi
      simp [stRow, ptAt, List.getD, hi])
    rw [stRow_size, hs] at this
    exact (this.alloc _).alloc _
  have h1 : w1.rowIs (w.heap.size + 1) 142 8 (fun _ => .int .u32 0) := by
    rw [hw1, hz8]
    have := World.rowIs_alloc (w.alloc (.cells (stRow s) 142)) (Array.replicate 8 (.int .u32 0)) 142 (fun _ => .int .u32 0) (fun i hi => by simp at hi; simp [hi])
    rw [World.size_alloc, Array.size_replicate] at this
    exact this.alloc _
  have h2 : (w1.alloc (.cells kRow 155)).rowIs w1.heap.size 155 64 (fun i => .int .u32 (ptAt kAt i)) := by
    have := World.rowIs_alloc w1 kRow 155 (fun i => .int .u32 (ptAt kAt i)) (fun i hi => by
      have h : i < kAt.length := by simpa [kRow] using hi
      simp [kRow, ptAt, List.getD, h])
    rw [kRow_size] at this; exact this
  have h3 : ((w1.alloc (.cells kRow 155)).alloc (.cells z64 155)).rowIs (w1.heap.size + 1) 155 64 (fun i => .int .u32 (ptAt [] i)) := by
    rw [hz64]
    have := World.rowIs_alloc (w1.alloc (.cells kRow 155)) (Array.replicate 64 (.int .u32 0)) 155 (fun i => .int .u32 (ptAt [] i)) (fun i hi => by simp at hi; simp [hi, ptAt])
    rw [World.size_alloc, Array.size_replicate] at this
    exact this
  exact ⟨(h0.alloc _).alloc _, (h1.alloc _).alloc _, h2.alloc _, h3, hn.symm, (hO.alloc _).alloc _⟩
theorem Sha.word {w wr : World} {n1 : Nat} {s f : List Int} (h : Sha w wr n1 s f) (q : Nat) {k : Nat} (hk : f.length = k) (x : Int) : Sha w ((wr.drewN q).setCell ⟨n1 + 1, k, none⟩ (.int .u32 x)) n1 s (f ++ [x]) := by
  have hn := h.n
  have hw : (wr.drewN q).rowIs (n1 + 1) 155 64 (fun i => .int .u32 (ptAt f i)) := h.ww
  refine ⟨World.rowIs.setOther (show (wr.drewN q).rowIs _ _ _ _ from h.st) (by show w.heap.size ≠ n1 + 1; omega) _, World.rowIs.setOther (show (wr.drewN q).rowIs _ _ _ _ from h.rs) (by show w.heap.size + 1 ≠ n1 + 1; omega) _, World.rowIs.setOther (show (wr.drewN q).rowIs _ _ _ _ from h.kk) (by show n1 ≠ n1 + 1; omega) _, (hw.set k _).congr (fun i _ => ?_), hn, (h.only.drewN q).setCell (.inr (by show w.heap.size ≤ n1 + 1; omega)) _⟩
  rw [ptAt_snoc, hk]
  split <;> rfl

end Go.Proofs.YtkpfachmakfncaaGreatDoor

namespace Go.Proofs.YtkpfachmakfncaaGreatDoor
open Go.RowKit

def zpad (s : ByteArray) : Nat → ByteArray
  | 0 => s ++ ⟨#[128]⟩
  | j + 1 => zpad s j ++ ⟨#[0]⟩
theorem zpad_size (s : ByteArray) : ∀ j, (zpad s j).size = s.size + 1 + j
  | 0 => by rw [zpad, ByteArray.size_append]; rfl
  | j + 1 => by rw [zpad, ByteArray.size_append, zpad_size s j]; rfl
def padN (s : ByteArray) : Nat := (119 - s.size % 64) % 64

/-- 'string([]byte{x})'. -/
theorem conv_one (w : World) (x : Int) : (convert 33 9 (.slice (some ⟨w.heap.size, 0, none⟩) 1 1)).run Tryz.prog (w.alloc (.cells #[.int .u8 x] 5)) = .ok (.string (strOfNums [x])) (w.alloc (.cells #[.int .u8 x] 5)) :=
  run_convert_bytes_arg (P := Tryz.prog) _ 33 5 Tryz.underlying33 Tryz.underlying5 w.heap.size 0 1 1 [x] rfl (fun i hi => by
    obtain rfl : i = 0 := by omega
    rw [World.cell?_alloc_new]; rfl) 9 Tryz.underlying9
theorem strOf_size1 (x : Int) : (strOfNums [x]).size = 1 := strOfNums_size [x]
theorem padN_lt (s : ByteArray) : padN s < 64 := Nat.mod_lt _ (by decide)
def lpad (s : ByteArray) : Nat → ByteArray
  | 0 => zpad s (padN s)
  | k + 1 => lpad s k ++ strOfNums [(s.size : Int) * 8 / 2 ^ (8 * (7 - k)) % 256]
theorem lpad_size (s : ByteArray) : ∀ k, (lpad s k).size = s.size + 1 + padN s + k
  | 0 => by rw [lpad, zpad_size]; rfl
  | k + 1 => by rw [lpad, ByteArray.size_append, lpad_size s k, strOf_size1]; omega
end Go.Proofs.YtkpfachmakfncaaGreatDoor

namespace Go.Proofs.YtkpfachmakfncaaGreatDoor
open Go.RowKit

def first8 : List Int := [0x6a09e667, 0xbb67ae85, 0x3c6ef372, 0xa54ff53a, 0x510e527f, 0x9b05688c, 0x1f83d9ab, 0x5be0cd19]
def stTo (t : ByteArray) : Nat → List Int
  | 0 => first8
  | k + 1 => blockZ (stTo t k) (t.extract (64 * k) (64 * k + 64))
theorem first8_st : St8 first8 := ⟨rfl, fun j hj => by
  match j, hj with
  | 0, _ => decide
  | 1, _ => decide
  | 2, _ => decide
  | 3, _ => decide
  | 4, _ => decide
  | 5, _ => decide
  | 6, _ => decide
  | 7, _ => decide
  | j + 8, hj => omega⟩
theorem stTo_st (t : ByteArray) : ∀ k, St8 (stTo t k)
  | 0 => first8_st
  | _ + 1 => addL_st _ _
def byteOf (s : List Int) (i : Nat) : Int := ptAt s (i / 4) / 2 ^ (8 * (3 - i % 4)) % 256
def hashOf (s : List Int) : List Int := (List.range 32).map (byteOf s)
def byRow (l : List Int) : Array Value := (l.map (Value.int .u8)).toArray
/-- The hash of a string. -/
def shaL (s : ByteArray) : List Int := hashOf (stTo (lpad s 8) ((lpad s 8).size / 64))
theorem eight_of {s : List Int} (h : s.length = 8) : ∃ a b c d e f g i, s = [a, b, c, d, e, f, g, i] := by
  match s, h with
  | [a, b, c, d, e, f, g, i], _ => exact ⟨a, b, c, d, e, f, g, i, rfl⟩
structure SumAt (w wr : World) (n : Nat) (s : List Int) : Prop where
  st : wr.rowIs n 142 8 (fun i => .int .u32 (ptAt s i))
  rs : ∃ z, wr.heap[w.heap.size]? = some (.cells z 92 (0, 0)) ∧ z.size = 32
  lo : w.heap.size < n
  only : Only (fun _ => False) w wr

theorem SumAt.frame {w wr w' : World} {n : Nat} {s : List Int} (h : SumAt w wr n s) (hO : Only (fun _ => False) wr w') : SumAt w w' n s := by
  obtain ⟨z, hz, hz2⟩ := h.rs
  exact ⟨h.st.of_block (hO.block n h.st.lt (fun h => h)), ⟨z, (hO.block _ (Array.getElem?_eq_some_iff.1 hz).1 (fun h => h)).trans hz, hz2⟩, h.lo, h.only.trans hO⟩
theorem heap_setRow_other (w : World) (g k : Nat) (cs : Array Value) (h : k ≠ g) : (w.setRow g cs).heap[k]? = w.heap[k]? := by
  simp only [World.setRow, Array.getElem?_modify]; rw [if_neg (fun e => h e.symm)]
theorem SumAt.put {w wr : World} {n : Nat} {s s' : List Int} (h : SumAt w wr n s) (hs' : s'.length = 8) : SumAt w (wr.setRow n (stRow s')) n s' := by
  obtain ⟨z, hz, hz2⟩ := h.rs
  obtain ⟨c, hc, _, _⟩ := h.st
  have hn := h.lo
  refine ⟨⟨stRow s', setRow_heap _ _ _ _ _ _ hc, by rw [stRow_size, hs'], fun i hi => by simp [stRow, ptAt, List.getD, show i < s'.length by omega]⟩, ⟨z, (heap_setRow_other _ _ _ _ (by omega)).trans hz, hz2⟩, hn, h.only.setRow (by omega) _⟩

structure HashAt (w wr : World) (n nh : Nat) (s : List Int) (k : Nat) : Prop extends SumAt w wr n s where
  hh : wr.rowIs nh 92 32 (fun i => .int .u8 (if i < k then byteOf s i else 0))
  nn : n < nh
theorem SumAt.opened {w wr : World} {n : Nat} {s : List Int} (h : SumAt w wr n s) (z : Array Value) (hz : z = Array.replicate 32 (.int .u8 0)) : HashAt w (wr.alloc (.cells z 92)) n wr.heap.size s 0 := by
  refine ⟨h.frame ((Only.refl _ wr).alloc _), ?_, h.st.lt⟩
  rw [hz]
  have := World.rowIs_alloc wr (Array.replicate 32 (.int .u8 0)) 92 (fun _ => .int .u8 0) (fun i hi => by simp at hi; simp [hi])
  rw [Array.size_replicate] at this
  exact this.congr (fun i _ => by simp)
theorem HashAt.next {w wr : World} {n nh : Nat} {s : List Int} {k : Nat} (h : HashAt w wr n nh s k) : HashAt w (wr.setCell ⟨nh, k, none⟩ (.int .u8 (byteOf s k))) n nh s (k + 1) := by
  obtain ⟨z, hz, hz2⟩ := h.rs
  have hn := h.lo
  have hnn := h.nn
  refine ⟨⟨h.st.setOther (by show n ≠ nh; omega) _, ⟨z, (heap_setCell_other _ _ _ _ (by show w.heap.size ≠ nh; omega)).trans hz, hz2⟩, hn, h.only.setCell (.inr (by show w.heap.size ≤ nh; omega)) _⟩, (h.hh.set k _).congr (fun i _ => ?_), hnn⟩
  by_cases e : i = k
  · subst e; rw [if_pos rfl, if_pos (by omega)]
  · rw [if_neg e]
    by_cases e2 : i < k
    · rw [if_pos e2, if_pos (by omega)]
    · rw [if_neg e2, if_neg (by omega)]

theorem byRow_size (l : List Int) : (byRow l).size = l.length := by simp [byRow]
theorem hashOf_len (s : List Int) : (hashOf s).length = 32 := by simp [hashOf]
theorem byRow_one (s : List Int) : (byRow s).all (·.oneCell') = true := by
  unfold byRow
  rw [Array.all_eq_true_iff_forall_mem]
  intro x hx
  simp at hx
  obtain ⟨z, _, rfl⟩ := hx
  rfl
theorem Tryz.infoH : (Tryz.prog.info? 92).map (·.size) = some 32 := by kernel_rfl
theorem HashAt.ends {w wr : World} {n nh : Nat} {s : List Int} (h : HashAt w wr n nh s 32) : wr.heap[nh]? = some (.cells (byRow (hashOf s)) 92 (0, 0)) := by
  obtain ⟨c, hc, hn, hi⟩ := h.hh
  have : c = byRow (hashOf s) := by
    apply Array.ext_getElem?
    intro i
    by_cases h : i < 32
    · rw [hi i h]
      simp [byRow, hashOf, h]
    · rw [Array.getElem?_eq_none (by omega), Array.getElem?_eq_none (by rw [byRow_size, hashOf_len]; omega)]
  rw [hc, this]
theorem sum_start (w : World) (z f : Array Value) (hz : z = Array.replicate 32 (.int .u8 0)) (hf : f = stRow first8) : SumAt w ((w.alloc (.cells z 92)).alloc (.cells f 142)) (w.heap.size + 1) first8 := by
  subst hz hf
  have h1 := World.rowIs_alloc (w.alloc (.cells (Array.replicate 32 (.int .u8 0)) 92)) (stRow first8) 142 (fun i => .int .u32 (ptAt first8 i)) (fun i hi => by
      rw [stRow_size] at hi
      simp [stRow, ptAt, List.getD, hi])
  rw [stRow_size, World.size_alloc] at h1
  refine ⟨h1, ⟨Array.replicate 32 (.int .u8 0), ?_, by simp⟩, by omega, ((Only.refl _ w).alloc _).alloc _⟩
  rw [Below.heap_alloc _ _ _ (by simp)]; exact heap_alloc_new w _

end Go.Proofs.YtkpfachmakfncaaGreatDoor

namespace Go.Proofs.YtkpfachmakfncaaGreatDoor
open Go.RowKit

theorem or_nat (x y : Nat) (hx : x < 4294967296) (hy : y < 4294967296) : orZ (x : Int) (y : Int) = ((x ||| y : Nat) : Int) := by
  have e : (BitVec.ofInt 32 (x : Int) ||| BitVec.ofInt 32 (y : Int)).toNat = x ||| y := by
    rw [BitVec.toNat_or, BitVec.toNat_ofInt, BitVec.toNat_ofInt]
    have h1 : ((x : Int) % (2 ^ 32 : Nat)).toNat = x := by omega
    have h2 : ((y : Int) % (2 ^ 32 : Nat)).toNat = y := by omega
    rw [h1, h2]
  have hl : x ||| y < 2 ^ 32 := Nat.or_lt_two_pow (by omega) (by omega)
  show IntKind.u32.wrap ((BitVec.ofInt 32 (x : Int) ||| BitVec.ofInt 32 (y : Int)).toNat : Int) = _
  rw [e]
  show ((x ||| y : Nat) : Int) % 4294967296 = _
  omega
theorem or_comm32 (x y : Int) : bits BinOp.or IntKind.u32 x y = bits BinOp.or IntKind.u32 y x := by
  show IntKind.u32.wrap ((BitVec.ofInt 32 x ||| BitVec.ofInt 32 y).toNat : Int) = IntKind.u32.wrap ((BitVec.ofInt 32 y ||| BitVec.ofInt 32 x).toNat : Int)
  rw [BitVec.or_comm]
theorem or_low (x y k m : Nat) (hm : 2 ^ k = m) (hy : y < m) (h : x * m + y < 4294967296) : orZ ((x * m : Nat) : Int) (y : Int) = ((x * m + y : Nat) : Int) := by
  have h1 : x * m < 4294967296 := Nat.lt_of_le_of_lt (Nat.le_add_right _ _) h
  have h2 : y < 4294967296 := Nat.lt_of_le_of_lt (Nat.le_add_left _ _) h
  rw [or_nat _ _ h1 h2]
  subst hm
  rw [Nat.mul_comm x, Nat.two_pow_add_eq_or_of_lt hy]
theorem byteZ_nat (b : ByteArray) (i : Nat) : ∃ n : Nat, n < 256 ∧ byteZ b i = n := ⟨_, (b.data.toList.getD i 0).toNat_lt, rfl⟩
/-- A word, as the program packs it, behind t bytes. -/
def pwT (b : ByteArray) (k : Nat) : Nat → Int
  | 0 => 0
  | t + 1 => orZ (pwT b k t * 256 % 4294967296) (byteZ b (4 * k + t) % 4294967296)
theorem pw_word (b : ByteArray) (k : Nat) : pwT b k 4 = wordZ b k := by
  obtain ⟨b0, h0, e0⟩ := byteZ_nat b (4 * k)
  obtain ⟨b1, h1, e1⟩ := byteZ_nat b (4 * k + 1)
  obtain ⟨b2, h2, e2⟩ := byteZ_nat b (4 * k + 2)
  obtain ⟨b3, h3, e3⟩ := byteZ_nat b (4 * k + 3)
  have hw : wordZ b k = ((b0 * 16777216 + b1 * 65536 + b2 * 256 + b3 : Nat) : Int) := by
    unfold wordZ
    rw [e0, e1, e2, e3]
    have a0 : ((b0 : Int) % 4294967296 * 16777216 % 4294967296) = ((b0 * 16777216 : Nat) : Int) := by omega
    have a1 : ((b1 : Int) % 4294967296 * 65536 % 4294967296) = ((b1 * 65536 : Nat) : Int) := by omega
    have a2 : ((b2 : Int) % 4294967296 * 256 % 4294967296) = ((b2 * 256 : Nat) : Int) := by omega
    have a3 : ((b3 : Int) % 4294967296) = ((b3 : Nat) : Int) := by omega
    rw [a0, a1, a2, a3, or_low b0 (b1 * 65536) 24 16777216 rfl (by omega) (by omega),
      show b0 * 16777216 + b1 * 65536 = (b0 * 256 + b1) * 65536 by omega, or_low (b0 * 256 + b1) (b2 * 256) 16 65536 rfl (by omega) (by omega),
      show (b0 * 256 + b1) * 65536 + b2 * 256 = (b0 * 65536 + b1 * 256 + b2) * 256 by omega, or_low (b0 * 65536 + b1 * 256 + b2) b3 8 256 rfl (by omega) (by omega)]
    all_goals omega
  have p1 : pwT b k 1 = (b0 : Nat) := by
    rw [pwT, pwT, show 4 * k + 0 = 4 * k from rfl, e0]
    have a0 : ((0 : Int) * 256 % 4294967296) = ((0 * 256 : Nat) : Int) := by omega
    have a1 : ((b0 : Int) % 4294967296) = ((b0 : Nat) : Int) := by omega
    rw [a0, a1, or_low 0 b0 8 256 rfl (by omega) (by omega)]; all_goals omega
  have p2 : pwT b k 2 = ((b0 * 256 + b1 : Nat) : Int) := by
    rw [pwT, p1, e1]
    have a0 : ((b0 : Int) * 256 % 4294967296) = ((b0 * 256 : Nat) : Int) := by omega
    have a1 : ((b1 : Int) % 4294967296) = ((b1 : Nat) : Int) := by omega
    rw [a0, a1, or_low b0 b1 8 256 rfl (by omega) (by omega)]
  have p3 : pwT b k 3 = (((b0 * 256 + b1) * 256 + b2 : Nat) : Int) := by
    rw [pwT, p2, e2]
    have a0 : (((b0 * 256 + b1 : Nat) : Int) * 256 % 4294967296) = (((b0 * 256 + b1) * 256 : Nat) : Int) := by omega
    have a1 : ((b2 : Int) % 4294967296) = ((b2 : Nat) : Int) := by omega
    rw [a0, a1, or_low (b0 * 256 + b1) b2 8 256 rfl (by omega) (by omega)]
  rw [pwT, p3, e3, hw]
  have a0 : ((((b0 * 256 + b1) * 256 + b2 : Nat) : Int) * 256 % 4294967296) = ((((b0 * 256 + b1) * 256 + b2) * 256 : Nat) : Int) := by omega
  have a1 : ((b3 : Int) % 4294967296) = ((b3 : Nat) : Int) := by omega
  rw [a0, a1, or_low ((b0 * 256 + b1) * 256 + b2) b3 8 256 rfl (by omega) (by omega)]
  all_goals omega
theorem rot_left (x : Int) (n : Nat) : bits BinOp.or IntKind.u32 (x * 2 ^ (32 - n) % 4294967296) (x / 2 ^ n) = rotZ x n := by unfold rotZ; rw [or_comm32]
theorem pwT_bd (b : ByteArray) (k : Nat) : ∀ t, 0 ≤ pwT b k t ∧ pwT b k t ≤ 4294967295
  | 0 => by unfold pwT; decide
  | _ + 1 => orZ_bd _ _
/-- Words of a block that was read up to byte i. -/
def wdAt (b : ByteArray) (i k : Nat) : Int := pwT b k (min 4 (i - 4 * k))
theorem wdAt_zero (b : ByteArray) (k : Nat) : wdAt b 0 k = 0 := by unfold wdAt; rw [show min 4 (0 - 4 * k) = 0 by omega]; rfl
theorem wdAt_next (b : ByteArray) (i k : Nat) : wdAt b (i + 1) k = if k = i / 4 then orZ (wdAt b i k * 256 % 4294967296) (byteZ b i % 4294967296) else wdAt b i k := by
  by_cases e : k = i / 4
  · rw [if_pos e]
    unfold wdAt
    rw [show min 4 (i + 1 - 4 * k) = i - 4 * k + 1 by omega, show min 4 (i - 4 * k) = i - 4 * k by omega, pwT, show 4 * k + (i - 4 * k) = i by omega]
  · rw [if_neg e]
    unfold wdAt
    rw [show min 4 (i + 1 - 4 * k) = min 4 (i - 4 * k) by omega]
theorem ptAt_sch (b : ByteArray) : ∀ n k, k < n → ptAt (schTo b n) k = schN b (schTo b k) k
  | n + 1, k, h => by
    rw [schTo, ptAt_snoc, schTo_len]
    by_cases e : k = n
    · rw [if_pos e, e]
    · rw [if_neg e]; exact ptAt_sch b n k (by omega)
theorem ptAt_past (l : List Int) (k : Nat) (h : l.length ≤ k) : ptAt l k = 0 := by unfold ptAt; rw [List.getD_eq_getElem?_getD, List.getElem?_eq_none h]; rfl
/-- Behind 64 bytes the words are the first 16 of the schedule. -/
theorem wdAt_all (b : ByteArray) (k : Nat) : wdAt b 64 k = ptAt (schTo b 16) k := by
  by_cases h : k < 16
  · rw [ptAt_sch b 16 k h]
    unfold wdAt schN
    rw [if_pos h, show min 4 (64 - 4 * k) = 4 by omega, pw_word]
  · rw [ptAt_past _ _ (by rw [schTo_len]; omega)]
    unfold wdAt
    rw [show min 4 (64 - 4 * k) = 0 by omega]; rfl
theorem sch_later (b : ByteArray) (i : Nat) (h : 16 ≤ i) : schTo b (i + 1) = schTo b i ++ [mixW (ptAt (schTo b i) (i - 16)) (ptAt (schTo b i) (i - 15)) (ptAt (schTo b i) (i - 7)) (ptAt (schTo b i) (i - 2))] := by
  rw [schTo]
  unfold schN
  rw [if_neg (by omega)]
end Go.Proofs.YtkpfachmakfncaaGreatDoor

namespace Go.Proofs.YtkpfachmakfncaaGreatDoor
open Go.RowKit

theorem and31 : ∀ n : Fin 32, 1 ≤ n.1 → bits BinOp.and IntKind.u64 (18446744073709551616 - (n.1 : Int)) 31 = 32 - (n.1 : Int) := by decide +kernel
theorem rotl_any (x : Int) (n : Nat) (w : World) (_hx : 0 ≤ x) (_hx2 : x ≤ 4294967295) (hn : 1 ≤ n) (hn2 : n ≤ 31) :
    Calls Tryz.prog 129 #[.int .u32 x, .int .i64 (-(n : Int))] w fun e w' => e = .returned (.int .u32 (rotI x n)) ∧ w = w' := by
  have HR := Lib.hid (show rotI x n = bits BinOp.or IntKind.u32 (x * 2 ^ (32 - n) % 4294967296) (x / 2 ^ n) by rw [rot_left]; rfl)
  have h1 : bits BinOp.and IntKind.u64 (IntKind.u64.wrap (-(n : Int))) 31 = 32 - (n : Int) := by
    have h := and31 ⟨n, by omega⟩ hn
    rw [show IntKind.u64.wrap (-(n : Int)) = 18446744073709551616 - (n : Int) by show (-(n : Int)) % 18446744073709551616 = _; omega]
    exact h
  have h3 : (32 - (n : Int)).toNat = 32 - n := by omega
  have h4 : (32 : Int) - (32 - (n : Int)) = n := by omega
  go_enter Tryz.func129, Tryz.ntmps129
  go_wp2
  go_ret
  exact ⟨ret_int (by rw [HR.out]), rfl⟩
theorem rotp_any (x : Int) (n : Nat) (w : World) (hx : 0 ≤ x) (hx2 : x ≤ 4294967295) (hn : 1 ≤ n) (hn2 : n ≤ 31) :
    Calls Tryz.prog 121 #[.int .u32 x, .int .i64 n] w fun e w' => e = .returned (.int .u32 (rotI x n)) ∧ w = w' := by
  have HR := Lib.hid (rotl_any x n w hx hx2 hn hn2)
  go_enter Tryz.func121, Tryz.ntmps121
  go_wp2_with fail
  refine HR.out.mono ?_
  rintro e w' ⟨rfl, rfl⟩
  go_wp2
  go_ret
  exact ⟨rfl, rfl⟩
theorem rotpI_any (x n : Int) (w : World) (hx : 0 ≤ x) (hx2 : x ≤ 4294967295) (hn : 1 ≤ n) (hn2 : n ≤ 31) :
    Calls Tryz.prog 121 #[.int .u32 x, .int .i64 n] w fun e w' => e = .returned (.int .u32 (rotI x n)) ∧ w = w' := by
  obtain ⟨k, rfl⟩ := Int.eq_ofNat_of_zero_le (show 0 ≤ n by omega)
  exact rotp_any x k w hx hx2 (by omega) (by omega)
/-- The state of mix: the box of the state, the result's cell, the words. -/
structure PMix (w wr : World) (s : List Int) (f : Nat → Int) : Prop where
  st : wr.rowIs w.heap.size 142 8 (fun i => .int .u32 (ptAt s i))
  rs : wr.rowIs (w.heap.size + 1) 142 8 (fun _ => .int .u32 0)
  ww : wr.rowIs (w.heap.size + 2) 155 64 (fun i => .int .u32 (f i))
  only : Only (fun _ => False) w wr
theorem PMix.drewN {w wr : World} {s : List Int} {f : Nat → Int} (h : PMix w wr s f) (q : Nat) : PMix w (wr.drewN q) s f := ⟨h.st, h.rs, h.ww, h.only.drewN q⟩
theorem PMix.congr {w wr : World} {s : List Int} {f g : Nat → Int} (h : PMix w wr s f) (e : ∀ i, i < 64 → f i = g i) : PMix w wr s g := ⟨h.st, h.rs, h.ww.congr (fun i hi => by rw [e i hi]), h.only⟩
theorem PMix.put {w wr : World} {s : List Int} {f : Nat → Int} (h : PMix w wr s f) (q k : Nat) (x : Int) : PMix w ((wr.drewN q).setCell ⟨w.heap.size + 2, k, none⟩ (.int .u32 x)) s (fun j => if j = k then x else f j) := by
  have hw : (wr.drewN q).rowIs (w.heap.size + 2) 155 64 (fun i => .int .u32 (f i)) := h.ww
  refine ⟨World.rowIs.setOther (show (wr.drewN q).rowIs _ _ _ _ from h.st) (by show w.heap.size ≠ w.heap.size + 2; omega) _, World.rowIs.setOther (show (wr.drewN q).rowIs _ _ _ _ from h.rs) (by show w.heap.size + 1 ≠ w.heap.size + 2; omega) _, (hw.set k _).congr (fun i _ => ?_), (h.only.drewN q).setCell (.inr (by show w.heap.size ≤ w.heap.size + 2; omega)) _⟩
  split <;> rfl
theorem pmix_start (w : World) (s : List Int) (z8 z64 : Array Value) (hs : s.length = 8) (hz8 : z8 = Array.replicate 8 (.int .u32 0)) (hz64 : z64 = Array.replicate 64 (.int .u32 0)) :
    PMix w (((w.alloc (.cells (stRow s) 142)).alloc (.cells z8 142)).alloc (.cells z64 155)) s (fun _ => 0) := by
  have h0 := World.rowIs_alloc w (stRow s) 142 (fun i => .int .u32 (ptAt s i)) (fun i hi => by
    rw [stRow_size] at hi
    simp [stRow, ptAt, List.getD, hi])
  rw [stRow_size, hs] at h0
  have h1 := World.rowIs_alloc (w.alloc (.cells (stRow s) 142)) (Array.replicate 8 (.int .u32 0)) 142 (fun _ => .int .u32 0) (fun i hi => by simp at hi; simp [hi])
  rw [World.size_alloc, Array.size_replicate] at h1
  have h2 := World.rowIs_alloc ((w.alloc (.cells (stRow s) 142)).alloc (.cells z8 142)) (Array.replicate 64 (.int .u32 0)) 155 (fun _ => .int .u32 0) (fun i hi => by simp at hi; simp [hi])
  rw [World.size_alloc, World.size_alloc, Array.size_replicate] at h2
  subst hz8 hz64
  exact ⟨(h0.alloc _).alloc _, h1.alloc _, h2, (((Only.refl _ w).alloc _).alloc _).alloc _⟩

set_option maxRecDepth 100000 in
set_option maxHeartbeats 4000000 in
theorem mix_any (s : List Int) (b : ByteArray) (w : World) (hs : St8 s) (hb : b.size = 64) (hg : 5 < w.heap.size) (hk : ∀ k, k < 64 → w.cell? ⟨5, k, none⟩ = some (.int .u32 (ptAt kAt k))) :
    Calls Tryz.prog 107 #[.agg (stRow s), .string b] w fun e w' => e = .returned (.agg (stRow (blockZ s b))) ∧ Only (fun _ => False) w w' := by
  have HB := Lib.hid hb
  have HK := Lib.hid hk
  have hb1 : 64 ≤ b.size := by omega
  clear hb hk
  go_enter Tryz.func107, Tryz.ntmps107
  go_wp2_with fail
  generalize hW : World.alloc _ _ = W
  have HS := Lib.hid (show PMix w W s (wdAt b 0) by rw [← hW]; exact (pmix_start w s _ _ hs.len rfl rfl).congr (fun i _ => (wdAt_zero b i).symm))
  clear hW
  go_loopw [23] (fun vi wr => ∃ i : Nat, i ≤ 64 ∧ vi = .int .i64 i ∧ PMix w wr s (wdAt b i)) (fun vi _ => 64 - (intOf vi).toNat)
  case atStart => exact ⟨0, by omega, rfl, HS.out⟩
  case round =>
    clear HS
    obtain ⟨i, hi, rfl, hS⟩ := hrel
    by_cases hlt : i < 64
    · have hc := hS.ww.cell (i := i / 4) (by omega)
      have hfz := hS.ww.frozen (i / 4)
      have hn1 := hS.ww.lt
      have HS := Lib.hid hS
      have HWN := Lib.hid (wdAt_next b i)
      obtain ⟨wd, hwd⟩ : ∃ wd, wdAt b i (i / 4) = wd := ⟨_, rfl⟩
      rw [hwd] at hc
      have HWD := Lib.hid hwd
      clear hwd
      have i1 : (i : Int) < 64 := by omega
      have i2 : (i : Int) / 4 < 64 := by omega
      have i3 : 0 ≤ (i : Int) / 4 := by omega
      have i4 : (i : Int) < b.size := by omega
      have i5 : 0 ≤ (i : Int) := by omega
      have i6 : i < b.size := by omega
      clear hS hi
      go_wp2_with fail
      refine wp_region_quiet_split 13 (by kernel_rfl) (by kernel_rfl) (by kernel_rfl) ?_
      simp only [List.take_succ_cons, List.take_zero, List.drop_succ_cons, List.drop_zero]
      repeat (go_big_quiet_step (fail))
      refine wpQuiet_nil ?_
      intro _ hw'
      obtain ⟨nq, hw''⟩ := hw'
      subst hw''
      go_wp2
      go_roundw
      case rel => exact ⟨i + 1, by omega, by go_num, by
          have h1 := HS.out.put nq (i / 4) (orZ (wd * 256 % 4294967296) (byteZ b i % 4294967296))
          have h2 := h1.congr (g := wdAt b (i + 1)) (fun j _ => by
            rw [HWN.out j]
            by_cases e : j = i / 4
            · rw [if_pos e, if_pos e, e, HWD.out]
            · rw [if_neg e, if_neg e])
          simp only [byteZ_eq]
          exact h2⟩
      case measure => simp [intOf]; omega
    · obtain rfl : i = 64 := by omega
      have HS := Lib.hid (show PMix w wr s (ptAt (schTo b 16)) from hS.congr (fun k _ => wdAt_all b k))
      clear hS hlt hi
      go_wp2_with fail
      go_loopw [7] (fun vi wr => ∃ k : Nat, 16 ≤ k ∧ k ≤ 64 ∧ vi = .int .i64 k ∧ PMix w wr s (ptAt (schTo b k))) (fun vi _ => 64 - (intOf vi).toNat)
      case atStart => exact ⟨16, by omega, by omega, rfl, HS.out⟩
      case round =>
        clear HS
        obtain ⟨k, hk16, hk, rfl, hS⟩ := hrel
        by_cases hlt : k < 64
        · have c1 := hS.ww.cell (i := k - 15) (by omega)
          have c2 := hS.ww.cell (i := k - 2) (by omega)
          have c3 := hS.ww.cell (i := k - 16) (by omega)
          have c4 := hS.ww.cell (i := k - 7) (by omega)
          have hc := hS.ww.cell (i := k) (by omega)
          have hfz := hS.ww.frozen k
          have hn1 := hS.ww.lt
          have HS := Lib.hid hS
          obtain ⟨b10, b11⟩ := schTo_bd b k (k - 15)
          obtain ⟨b20, b21⟩ := schTo_bd b k (k - 2)
          obtain ⟨b30, b31⟩ := schTo_bd b k (k - 16)
          obtain ⟨b40, b41⟩ := schTo_bd b k (k - 7)
          have HSC := Lib.hid (sch_later b k hk16)
          have HLN := Lib.hid (schTo_len b k)
          generalize ptAt (schTo b k) (k - 16) = y0 at *
          generalize ptAt (schTo b k) (k - 15) = y1 at *
          generalize ptAt (schTo b k) (k - 7) = y2 at *
          generalize ptAt (schTo b k) (k - 2) = y3 at *
          have i1 : (k : Int) < 64 := by omega
          have i2 : (16 : Int) ≤ k := by omega
          have HR1 := Lib.hid (fun w => rotp_any y1 7 w b10 b11 (by decide) (by decide))
          have HR2 := Lib.hid (fun w => rotp_any y1 18 w b10 b11 (by decide) (by decide))
          have HR3 := Lib.hid (fun w => rotp_any y3 17 w b20 b21 (by decide) (by decide))
          have HR4 := Lib.hid (fun w => rotp_any y3 19 w b20 b21 (by decide) (by decide))
          have HMW := Lib.hid (show mixW y0 y1 y2 y3 = (y0 + bits BinOp.xor IntKind.u32 (bits BinOp.xor IntKind.u32 (rotI y1 7) (rotI y1 18)) (y1 / 8) + y2 + bits BinOp.xor IntKind.u32 (bits BinOp.xor IntKind.u32 (rotI y3 17) (rotI y3 19)) (y3 / 1024)) % 4294967296 from rfl)
          generalize rotI y1 7 = r1 at *
          generalize rotI y1 18 = r2 at *
          generalize rotI y3 17 = r3 at *
          generalize rotI y3 19 = r4 at *
          clear hS hk
          go_wp2_with fail
          go_quiet (fail)
          have d3 : (wr.drewN nq).cell? ⟨w.heap.size + 2, k - 16, none⟩ = some (.int .u32 y0) := c3
          have d4 : (wr.drewN nq).cell? ⟨w.heap.size + 2, k - 7, none⟩ = some (.int .u32 y2) := c4
          have dc : (wr.drewN nq).cell? ⟨w.heap.size + 2, k, none⟩ = some (.int .u32 (ptAt (schTo b k) k)) := hc
          have df : (wr.drewN nq).frozen? ⟨w.heap.size + 2, k, none⟩ = false := hfz
          have dn : w.heap.size + 2 < (wr.drewN nq).heap.size := hn1
          have HSQ := Lib.hid (HS.out.drewN nq)
          clear c1 c2 c3 c4 hc hfz hn1 HS
          generalize wr.drewN nq = wq at *
          go_wp2_with fail
          refine (HR1.out _).mono ?_
          rintro e w' ⟨rfl, rfl⟩
          go_wp2_with fail
          refine (HR2.out _).mono ?_
          rintro e w' ⟨rfl, rfl⟩
          go_wp2_with fail
          refine (HR3.out _).mono ?_
          rintro e w' ⟨rfl, rfl⟩
          go_wp2_with fail
          refine (HR4.out _).mono ?_
          rintro e w' ⟨rfl, rfl⟩
          go_wp2_with fail
          refine wp_region_quiet_split 15 (by kernel_rfl) (by kernel_rfl) (by kernel_rfl) ?_
          simp only [List.take_succ_cons, List.take_zero, List.drop_succ_cons, List.drop_zero]
          repeat (go_big_quiet_step (fail))
          refine wpQuiet_nil ?_
          intro _ hw'
          obtain ⟨nr, hw''⟩ := hw'
          subst hw''
          go_wp2
          refine ⟨?_, ?measure⟩
          iterate 48 (apply Exists.intro)
          refine ⟨?rel, rfl⟩
          case rel => exact ⟨k + 1, by omega, by omega, by go_num, by
              have h1 := HSQ.out.put nr k (mixW y0 y1 y2 y3)
              rw [HMW.out] at h1
              have h2 := h1.congr (g := ptAt (schTo b (k + 1))) (fun j _ => by rw [HSC.out, HMW.out, ptAt_snoc, HLN.out])
              exact h2⟩
          case measure => simp [intOf]; omega
        · obtain rfl : k = 64 := by omega
          obtain ⟨F, hF⟩ : ∃ F, schTo b 64 = F := ⟨_, rfl⟩
          rw [hF] at hS
          have HF := Lib.hid hF
          have HS := Lib.hid hS
          have s0 := hS.st.cell (i := 0) (by omega)
          have s1 := hS.st.cell (i := 1) (by omega)
          have s2 := hS.st.cell (i := 2) (by omega)
          have s3 := hS.st.cell (i := 3) (by omega)
          have s4 := hS.st.cell (i := 4) (by omega)
          have s5 := hS.st.cell (i := 5) (by omega)
          have s6 := hS.st.cell (i := 6) (by omega)
          have s7 := hS.st.cell (i := 7) (by omega)
          have sl := hS.st.lt
          clear hF hS hlt hk hk16
          go_wp2_with fail
          go_quiet (fail)
          have e4 : (wr.drewN nq).cell? ⟨w.heap.size, 4, none⟩ = some (.int .u32 (ptAt s 4)) := s4
          have e5 : (wr.drewN nq).cell? ⟨w.heap.size, 5, none⟩ = some (.int .u32 (ptAt s 5)) := s5
          have e6 : (wr.drewN nq).cell? ⟨w.heap.size, 6, none⟩ = some (.int .u32 (ptAt s 6)) := s6
          have e7 : (wr.drewN nq).cell? ⟨w.heap.size, 7, none⟩ = some (.int .u32 (ptAt s 7)) := s7
          have el : w.heap.size < (wr.drewN nq).heap.size := sl
          have HSQ := Lib.hid (HS.out.drewN nq)
          clear s0 s1 s2 s3 s4 s5 s6 s7 sl HS
          generalize wr.drewN nq = wq at *
          go_wp2_with fail
          go_quiet (fail)
          have HV := Lib.hid (HSQ.out.drewN nq)
          clear e4 e5 e6 e7 el HSQ
          generalize wq.drewN nq = wp at *
          go_wp2_with fail
          go_loopw [12, 13, 14, 15, 16, 17, 18, 19, 99] (fun va vb vc vd ve vf vg vh vi wr => ∃ k : Nat, k ≤ 64 ∧ vi = .int .i64 k ∧ va = .int .u32 (ptAt (rndTo F s k) 0) ∧ vb = .int .u32 (ptAt (rndTo F s k) 1) ∧ vc = .int .u32 (ptAt (rndTo F s k) 2) ∧ vd = .int .u32 (ptAt (rndTo F s k) 3) ∧ ve = .int .u32 (ptAt (rndTo F s k) 4) ∧ vf = .int .u32 (ptAt (rndTo F s k) 5) ∧ vg = .int .u32 (ptAt (rndTo F s k) 6) ∧ vh = .int .u32 (ptAt (rndTo F s k) 7) ∧ PMix w wr s (ptAt F)) (fun _ _ _ _ _ _ _ _ vi _ => 64 - (intOf vi).toNat)
          case atStart => exact ⟨0, by omega, rfl, rfl, rfl, rfl, rfl, rfl, rfl, rfl, rfl, HV.out⟩
          case round =>
            clear HV
            obtain ⟨k, hk, rfl, rfl, rfl, rfl, rfl, rfl, rfl, rfl, rfl, hV⟩ := hrel
            by_cases hlt : k < 64
            · have ck := hV.only.cell (HK.out k hlt) id
              have cw := hV.ww.cell (i := k) (by omega)
              have l1 := Nat.lt_of_lt_of_le hg hV.only.size
              have l2 := hV.ww.lt
              have hbv := rndTo_bd F hs k
              have HRN := Lib.hid (rnd_eq F s k)
              obtain ⟨a0, a1⟩ := hbv.bd 0 (by omega)
              obtain ⟨e0, e1⟩ := hbv.bd 4 (by omega)
              have HV := Lib.hid hV
              clear hV hbv
              generalize ptAt (rndTo F s k) 0 = xa at *
              generalize ptAt (rndTo F s k) 1 = xb at *
              generalize ptAt (rndTo F s k) 2 = xc at *
              generalize ptAt (rndTo F s k) 3 = xd at *
              generalize ptAt (rndTo F s k) 4 = xe at *
              generalize ptAt (rndTo F s k) 5 = xf at *
              generalize ptAt (rndTo F s k) 6 = xg at *
              generalize ptAt (rndTo F s k) 7 = xh at *
              generalize ptAt kAt k = vk at *
              generalize ptAt F k = vw at *
              have hlt2 : (k : Int) < 64 := by omega
              have hsg : IntKind.u32.signed = false := rfl
              clear hk
              go_wp2_with fail
              go_quiet ((go_at_call 121; exact quiet_left (rotpI_any _ _ _ (by assumption) (by assumption) (by decide) (by decide))))
              have HVQ := Lib.hid (HV.out.drewN nq)
              clear ck cw l1 l2 HV
              generalize wr.drewN nq = wq at *
              go_wp2_with (first | (go_at_call 121; refine (rotpI_any _ _ _ (by assumption) (by assumption) (by decide) (by decide)).mono ?_; rintro e w' ⟨rfl, rfl⟩))
              refine ⟨?_, ?measure⟩
              iterate 74 (apply Exists.intro)
              refine ⟨?rel, rfl⟩
              case rel => exact ⟨k + 1, by omega, by go_num, by rw [HRN.out]; (first | rfl | (simp only [ptAt, List.getD_cons_zero, Int.emod_add_emod, Int.add_emod_emod])), by rw [HRN.out]; rfl, by rw [HRN.out]; rfl, by rw [HRN.out]; rfl, by rw [HRN.out]; (first | rfl | (simp only [ptAt, List.getD_cons_zero, List.getD_cons_succ, Int.add_emod_emod])), by rw [HRN.out]; rfl, by rw [HRN.out]; rfl, by rw [HRN.out]; rfl, HVQ.out⟩
              case measure => simp [intOf]; omega
            · have HKK := Lib.hid (show k = 64 by omega)
              obtain ⟨V, hV64⟩ : ∃ V, rndTo F s k = V := ⟨_, rfl⟩
              have HV64 := Lib.hid hV64
              rw [hV64]
              have s0 := hV.st.cell (i := 0) (by omega)
              have s1 := hV.st.cell (i := 1) (by omega)
              have s2 := hV.st.cell (i := 2) (by omega)
              have s3 := hV.st.cell (i := 3) (by omega)
              have s4 := hV.st.cell (i := 4) (by omega)
              have s5 := hV.st.cell (i := 5) (by omega)
              have s6 := hV.st.cell (i := 6) (by omega)
              have s7 := hV.st.cell (i := 7) (by omega)
              have sl := hV.st.lt
              have hk2 : (k : Int) = 64 := by omega
              rw [hk2]
              have HRS := Lib.hid (row8 hV.rs)
              have HOE := Lib.hid hV.only
              have HRV := Lib.hid (show stRow (addL s V) = #[.int .u32 ((ptAt s 0 + ptAt V 0) % 4294967296), .int .u32 ((ptAt s 1 + ptAt V 1) % 4294967296), .int .u32 ((ptAt s 2 + ptAt V 2) % 4294967296), .int .u32 ((ptAt s 3 + ptAt V 3) % 4294967296), .int .u32 ((ptAt s 4 + ptAt V 4) % 4294967296), .int .u32 ((ptAt s 5 + ptAt V 5) % 4294967296), .int .u32 ((ptAt s 6 + ptAt V 6) % 4294967296), .int .u32 ((ptAt s 7 + ptAt V 7) % 4294967296)] from rfl)
              clear hk2 hlt hk hV64 hV
              go_wp2_with (first | (refine wpList_store_row rfl 142 _ _ rfl (w.heap.size + 1) #[.int .u32 ((ptAt s 0 + ptAt V 0) % 4294967296), .int .u32 ((ptAt s 1 + ptAt V 1) % 4294967296), .int .u32 ((ptAt s 2 + ptAt V 2) % 4294967296), .int .u32 ((ptAt s 3 + ptAt V 3) % 4294967296), .int .u32 ((ptAt s 4 + ptAt V 4) % 4294967296), .int .u32 ((ptAt s 5 + ptAt V 5) % 4294967296), .int .u32 ((ptAt s 6 + ptAt V 6) % 4294967296), .int .u32 ((ptAt s 7 + ptAt V 7) % 4294967296)] rfl rfl 142 zeros8 HRS.out Tryz.info8 rfl (by simp [Value.oneCell']) ?_))
              refine bodyPost_ret (v := .agg #[.int .u32 ((ptAt s 0 + ptAt V 0) % 4294967296), .int .u32 ((ptAt s 1 + ptAt V 1) % 4294967296), .int .u32 ((ptAt s 2 + ptAt V 2) % 4294967296), .int .u32 ((ptAt s 3 + ptAt V 3) % 4294967296), .int .u32 ((ptAt s 4 + ptAt V 4) % 4294967296), .int .u32 ((ptAt s 5 + ptAt V 5) % 4294967296), .int .u32 ((ptAt s 6 + ptAt V 6) % 4294967296), .int .u32 ((ptAt s 7 + ptAt V 7) % 4294967296)]) (results_cell_row rfl _ _ (w.heap.size + 1) 142 #[.int .u32 ((ptAt s 0 + ptAt V 0) % 4294967296), .int .u32 ((ptAt s 1 + ptAt V 1) % 4294967296), .int .u32 ((ptAt s 2 + ptAt V 2) % 4294967296), .int .u32 ((ptAt s 3 + ptAt V 3) % 4294967296), .int .u32 ((ptAt s 4 + ptAt V 4) % 4294967296), .int .u32 ((ptAt s 5 + ptAt V 5) % 4294967296), .int .u32 ((ptAt s 6 + ptAt V 6) % 4294967296), .int .u32 ((ptAt s 7 + ptAt V 7) % 4294967296)] (0, 0) _ rfl (setRow_heap _ _ _ _ _ _ HRS.out) Tryz.underlying142 rfl Tryz.info8) rfl ⟨?_, HOE.out.setRow (by omega) _⟩
              rw [← HRV.out, ← HV64.out, ← HF.out, HKK.out]
              rfl
end Go.Proofs.YtkpfachmakfncaaGreatDoor

namespace Go.Proofs.YtkpfachmakfncaaGreatDoor
open Go.RowKit

structure Bytes32 (h : List Int) : Prop where
  len : h.length = 32
  bd : ∀ j, 0 ≤ ptAt h j ∧ ptAt h j ≤ 255
theorem shaL_bytes (s : ByteArray) : Bytes32 (shaL s) := by
  refine ⟨hashOf_len _, fun j => ?_⟩
  unfold shaL hashOf ptAt
  by_cases h : j < 32
  · simp only [List.getD, List.getElem?_map, List.getElem?_range h]
    show 0 ≤ byteOf _ j ∧ byteOf _ j ≤ 255
    unfold byteOf
    omega
  · simp only [List.getD, List.getElem?_map]
    rw [List.getElem?_eq_none (by simp; omega)]
    show (0 : Int) ≤ 0 ∧ (0 : Int) ≤ 255
    decide
def numTo (h : List Int) : Nat → Int
  | 0 => ptAt h 0 % 128
  | k + 1 => numTo h k * 256 + ptAt h (k + 1)
theorem numTo_bd {h : List Int} (hb : Bytes32 h) : ∀ k, 0 ≤ numTo h k ∧ numTo h k < 128 * 256 ^ k
  | 0 => by rw [numTo]; omega
  | k + 1 => by
    rw [numTo, Int.pow_succ]
    have := numTo_bd hb k
    have := hb.bd (k + 1)
    omega
/-- The number of a hash. -/
def numZ (h : List Int) : Int := numTo h 7
theorem numZ_bd {h : List Int} (hb : Bytes32 h) : 0 ≤ numZ h ∧ numZ h ≤ 9223372036854775807 := by
  have := numTo_bd hb 7
  unfold numZ
  omega
theorem byRow_at (h : List Int) (i : Nat) (hi : i < h.length) : (byRow h)[i]? = some (.int .u8 (ptAt h i)) := by
  simp [byRow, ptAt, List.getD, hi]

def strS : ByteArray := ⟨#[115, 47]⟩
def strE : ByteArray := ⟨#[101, 47]⟩
def strK : ByteArray := ⟨#[107]⟩
def scalarZ (s : ByteArray) : Int := numZ (shaL (strS ++ s)) % 1152921504606845789
def elemX (s : ByteArray) : Int := 1 + numZ (shaL (strE ++ s)) % 2305843009213691578
def elemZ (s : ByteArray) : Int := elemX s * elemX s % 2305843009213691579
theorem scalarZ_bd (s : ByteArray) : 0 ≤ scalarZ s ∧ scalarZ s < 1152921504606845789 := emod_self_lt _ _ (by decide)

def keyS (s : ByteArray) : Int := max (scalarZ (strK ++ s)) 1
def keyP (s : ByteArray) : Int := powM 4 (keyS s) 2305843009213691579
theorem keyS_bd (s : ByteArray) : 1 ≤ keyS s ∧ keyS s < 1152921504606845789 := by have := scalarZ_bd (strK ++ s); unfold keyS; omega
end Go.Proofs.YtkpfachmakfncaaGreatDoor
