/-
  The reference's hash function: rot, rounds; the words of a block. The reference's hash function: a block. The reference's hash function: padded, Sum. The reference's hash function: Sum.
  Numbers of hashes: the reference's number, Scalar, Element, Key.
-/
import Derived.Test.YteikkpiginfbkaaGreatDoorPh07
import Derived.Test.YteikkpiginfbkaaGreatDoorPh04
import Derived.Deep.OwnRows
import Derived.StillTailTactics
import Derived.Deep.WholeRow
import Derived.Test.YteikkpiginfbkaaGreatDoorPh02
import Derived.Laws.BytesArg
namespace Go.Proofs.YteikkpiginfbkaaGreatDoor
open Go.RowKit

def rotZ (x : Int) (k : Nat) : Int := bits BinOp.or IntKind.u32 (x / 2 ^ k) (x * 2 ^ (32 - k) % 4294967296)
def rotI (x n : Int) : Int := rotZ x n.toNat
def kAt : List Int := [0x428a2f98, 0x71374491, 0xb5c0fbcf, 0xe9b5dba5, 0x3956c25b, 0x59f111f1, 0x923f82a4, 0xab1c5ed5,
    0xd807aa98, 0x12835b01, 0x243185be, 0x550c7dc3, 0x72be5d74, 0x80deb1fe, 0x9bdc06a7, 0xc19bf174,
    0xe49b69c1, 0xefbe4786, 0x0fc19dc6, 0x240ca1cc, 0x2de92c6f, 0x4a7484aa, 0x5cb0a9dc, 0x76f988da,
    0x983e5152, 0xa831c66d, 0xb00327c8, 0xbf597fc7, 0xc6e00bf3, 0xd5a79147, 0x06ca6351, 0x14292967,
    0x27b70a85, 0x2e1b2138, 0x4d2c6dfc, 0x53380d13, 0x650a7354, 0x766a0abb, 0x81c2c92e, 0x92722c85,
    0xa2bfe8a1, 0xa81a664b, 0xc24b8b70, 0xc76c51a3, 0xd192e819, 0xd6990624, 0xf40e3585, 0x106aa070,
    0x19a4c116, 0x1e376c08, 0x2748774c, 0x34b0bcb5, 0x391c0cb3, 0x4ed8aa4a, 0x5b9cca4f, 0x682e6ff3,
    0x748f82ee, 0x78a5636f, 0x84c87814, 0x8cc70208, 0x90befffa, 0xa4506ceb, 0xbef9a3f7, 0xc67178f2]
section
variable {P : Program}
end
end Go.Proofs.YteikkpiginfbkaaGreatDoor

namespace Go.Proofs.YteikkpiginfbkaaGreatDoor
open Go.RowKit

def byteZ (b : ByteArray) (i : Nat) : Int := (b.data.toList.getD i 0).toNat
theorem byteZ_eq (b : ByteArray) (i : Nat) (h : i < b.size) : (b[i].toNat : Int) = byteZ b i := by
  unfold byteZ
  have : b.data.toList.getD i 0 = b[i] := by
    have h2 : i < b.data.size := h
    simp only [List.getD, Array.getElem?_toList, Array.getElem?_eq_getElem h2, Option.getD_some]
    rfl
  rw [this]
def orZ (x y : Int) : Int := bits BinOp.or IntKind.u32 x y
def xorZ (x y : Int) : Int := bits BinOp.xor IntKind.u32 x y
def wordZ (b : ByteArray) (i : Nat) : Int :=
  orZ (orZ (orZ (byteZ b (4 * i) % 4294967296 * 16777216 % 4294967296) (byteZ b (4 * i + 1) % 4294967296 * 65536 % 4294967296)) (byteZ b (4 * i + 2) % 4294967296 * 256 % 4294967296)) (byteZ b (4 * i + 3) % 4294967296)
def mixW (y0 y1 y2 y3 : Int) : Int :=
  (y0 + xorZ (xorZ (rotI y1 7) (rotI y1 18)) (y1 / 8) + y2 + xorZ (xorZ (rotI y3 17) (rotI y3 19)) (y3 / 1024)) % 4294967296
def schN (b : ByteArray) (l : List Int) (k : Nat) : Int := if k < 16 then wordZ b k else mixW (ptAt l (k - 16)) (ptAt l (k - 15)) (ptAt l (k - 7)) (ptAt l (k - 2))
def schTo (b : ByteArray) : Nat → List Int
  | 0 => []
  | k + 1 => schTo b k ++ [schN b (schTo b k) k]
def andZ (x y : Int) : Int := bits BinOp.and IntKind.u32 x y
def notZ (x : Int) : Int := bits BinOp.xor IntKind.u32 IntKind.u32.max x
def tZ (v : List Int) (k w : Int) : Int :=
  ptAt v 7 + xorZ (xorZ (rotI (ptAt v 4) 6) (rotI (ptAt v 4) 11)) (rotI (ptAt v 4) 25) + xorZ (andZ (ptAt v 4) (ptAt v 5)) (andZ (notZ (ptAt v 4)) (ptAt v 6)) + k + w
def uZ (v : List Int) : Int :=
  xorZ (xorZ (rotI (ptAt v 0) 2) (rotI (ptAt v 0) 13)) (rotI (ptAt v 0) 22) + xorZ (xorZ (andZ (ptAt v 0) (ptAt v 1)) (andZ (ptAt v 0) (ptAt v 2))) (andZ (ptAt v 1) (ptAt v 2))
/-- One step. -/
def rnd (v : List Int) (k w : Int) : List Int :=
  [(tZ v k w + uZ v) % 4294967296, ptAt v 0, ptAt v 1, ptAt v 2, (ptAt v 3 + tZ v k w) % 4294967296, ptAt v 4, ptAt v 5, ptAt v 6]
def rndTo (f s : List Int) : Nat → List Int
  | 0 => s
  | k + 1 => rnd (rndTo f s k) (ptAt kAt k) (ptAt f k)
def addL (s v : List Int) : List Int := (List.range 8).map (fun j => (ptAt s j + ptAt v j) % 4294967296)
def blockZ (s : List Int) (b : ByteArray) : List Int := addL s (rndTo (schTo b 64) s 64)
theorem Only.setRow {S : Nat → Prop} {a w : World} (h : Only S a w) {g : Nat} (hg : a.heap.size ≤ g) (cs : Array Value) : Only S a (w.setRow g cs) :=
  h.trans' (T := fun k => k = g) ⟨rfl, rfl, rfl, by simp, fun k _ hk => by simp only [World.setRow, Array.getElem?_modify]; rw [if_neg (fun e => hk e.symm)]⟩ (fun i hi e => by omega)
end Go.Proofs.YteikkpiginfbkaaGreatDoor

namespace Go.Proofs.YteikkpiginfbkaaGreatDoor
open Go.RowKit

def zpad (s : ByteArray) : Nat → ByteArray
  | 0 => s ++ ⟨#[128]⟩
  | j + 1 => zpad s j ++ ⟨#[0]⟩
def padN (s : ByteArray) : Nat := (119 - s.size % 64) % 64

/-- 'string([]byte{x})'. -/
theorem conv_one (w : World) (x : Int) : (convert 93 9 (.slice (some ⟨w.heap.size, 0, none⟩) 1 1)).run Tryz.prog (w.alloc (.cells #[.int .u8 x] 5)) = .ok (.string (strOfNums [x])) (w.alloc (.cells #[.int .u8 x] 5)) :=
  run_convert_bytes_arg (P := Tryz.prog) _ 93 5 Tryz.underlying93 Tryz.underlying5 w.heap.size 0 1 1 [x] rfl (fun i hi => by
    obtain rfl : i = 0 := by omega
    rw [World.cell?_alloc_new]; rfl) 9 Tryz.underlying9
theorem strOf_size1 (x : Int) : (strOfNums [x]).size = 1 := strOfNums_size [x]
def lpad (s : ByteArray) : Nat → ByteArray
  | 0 => zpad s (padN s)
  | k + 1 => lpad s k ++ strOfNums [(s.size : Int) * 8 / 2 ^ (8 * (7 - k)) % 256]
end Go.Proofs.YteikkpiginfbkaaGreatDoor

namespace Go.Proofs.YteikkpiginfbkaaGreatDoor
open Go.RowKit

def first8 : List Int := [0x6a09e667, 0xbb67ae85, 0x3c6ef372, 0xa54ff53a, 0x510e527f, 0x9b05688c, 0x1f83d9ab, 0x5be0cd19]
def stTo (t : ByteArray) : Nat → List Int
  | 0 => first8
  | k + 1 => blockZ (stTo t k) (t.extract (64 * k) (64 * k + 64))
def byteOf (s : List Int) (i : Nat) : Int := ptAt s (i / 4) / 2 ^ (8 * (3 - i % 4)) % 256
def hashOf (s : List Int) : List Int := (List.range 32).map (byteOf s)
/-- The hash of a string. -/
def shaL (s : ByteArray) : List Int := hashOf (stTo (lpad s 8) ((lpad s 8).size / 64))
end Go.Proofs.YteikkpiginfbkaaGreatDoor

namespace Go.Proofs.YteikkpiginfbkaaGreatDoor
open Go.RowKit

def numTo (h : List Int) : Nat → Int
  | 0 => ptAt h 0 % 128
  | k + 1 => numTo h k * 256 + ptAt h (k + 1)
/-- The number of a hash. -/
def numZ (h : List Int) : Int := numTo h 7
def strS : ByteArray := ⟨#[115, 47]⟩
def strK : ByteArray := ⟨#[107]⟩
def scalarZ (s : ByteArray) : Int := numZ (shaL (strS ++ s)) % 1152921504606845789
def keyS (s : ByteArray) : Int := max (scalarZ (strK ++ s)) 1
end Go.Proofs.YteikkpiginfbkaaGreatDoor
