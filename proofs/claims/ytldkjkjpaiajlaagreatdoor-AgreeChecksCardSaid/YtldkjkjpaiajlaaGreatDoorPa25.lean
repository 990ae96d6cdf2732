/-
  Rules, plain: the lines of a draw as the program joins them.
  Rules: the program's Print.
  Rules, the reference: numeral, amount, IsName, words.
  Rules, the reference: words.
-/
import Derived.Test.YtldkjkjpaiajlaaGreatDoorPa22
import Derived.Test.YtldkjkjpaiajlaaGreatDoorPa24
namespace Go.Proofs.YtldkjkjpaiajlaaGreatDoor
open Go.RowKit

def lineB (ws : List ByteArray) : ByteArray := ⟨(lineW ws).toArray⟩
theorem ba_ext {a b : ByteArray} (h : a.data.toList = b.data.toList) : a = b := by rw [← arr_list a, h, arr_list]
/-- Lines, in a slice of strings that is owned. -/
def srowU (l : List (List ByteArray)) : List Value := l.map fun ws => .string (lineB ws)
def LnsAt (base : Nat) (w : World) (v : Value) (ls : List (List ByteArray)) : Prop := w.ownsRow base 9 1 v ls.length (srowU ls)
theorem LnsAt.only {base : Nat} {w w' : World} {v : Value} {ls : List (List ByteArray)} (h : LnsAt base w v ls) (hO : Only (fun _ => False) w w') : LnsAt base w' v ls := hO.owns h (fun _ _ h => h)
end Go.Proofs.YtldkjkjpaiajlaaGreatDoor

namespace Go.Proofs.YtldkjkjpaiajlaaGreatDoor
open Go.RowKit

theorem Tryz.infoStr : (Tryz.prog.info? 9).map (fun i => (i.zero, i.size, i.bytes)) = some (some (.string ⟨#[]⟩), 1, 16) := by kernel_rfl
theorem one_str1 (s : ByteArray) : ∀ v ∈ [Value.string s], v.oneCell' = true := by intro v hv; simp at hv; subst hv; rfl
end Go.Proofs.YtldkjkjpaiajlaaGreatDoor

namespace Go.Proofs.YtldkjkjpaiajlaaGreatDoor
open Go.RowKit

end Go.Proofs.YtldkjkjpaiajlaaGreatDoor

namespace Go.Proofs.YtldkjkjpaiajlaaGreatDoor
open Go.RowKit

def arrB (l : List UInt8) : ByteArray := ⟨l.toArray⟩
/-- The pieces of a text between bytes c. -/
def wordsC (c : UInt8) (s : ByteArray) : List ByteArray := (cutC c s.data.toList).map arrB
theorem wordsC_sp (s : ByteArray) : wordsC 32 s = wordsB s := (words_eq s).symm
theorem ext_piece (s : ByteArray) (f k : Nat) : s.extract f k = arrB ((s.data.toList.take k).drop f) := by
  apply ba_ext
  show (s.extract f k).data.toList = (s.data.toList.take k).drop f
  have : (s.extract f k).data = s.data.extract f k := by simp
  rw [this, Array.toList_extract, List.extract_eq_take_drop, List.drop_take]
def rowW (L : List (List UInt8)) : List Value := L.map fun l => .string (arrB l)
theorem rowW_app (L : List (List UInt8)) (x : List UInt8) : rowW (L ++ [x]) = rowW L ++ [.string (arrB x)] := by simp [rowW]
/-- How far cutting has come. -/
structure CutAt (c : UInt8) (s : ByteArray) (k f : Nat) (L : List (List UInt8)) : Prop where
  free : ∀ l ∈ L, noC c l
  le : f ≤ k
  flat : s.data.toList.take f = L.flatMap (· ++ [c])
  last : noC c ((s.data.toList.take k).drop f)
  few : L.length ≤ f
theorem CutAt.start (c : UInt8) (s : ByteArray) : CutAt c s 0 0 [] := ⟨(fun l h => (by cases h)), Nat.le_refl _, rfl, (fun b h => (by simp at h)), Nat.le_refl _⟩
theorem drop_take_snoc {s : ByteArray} {k f : Nat} (hf : f ≤ k) (hk : k < s.data.toList.length) : (s.data.toList.take (k + 1)).drop f = (s.data.toList.take k).drop f ++ [s.data.toList[k]] := by
  rw [take_snocU hk, List.drop_append_of_le_length (by rw [List.length_take]; omega)]
theorem CutAt.step {c : UInt8} {s : ByteArray} {k f : Nat} {L : List (List UInt8)} (h : CutAt c s k f L) (hk : k < s.data.toList.length) (hc : s.data.toList[k] ≠ c) : CutAt c s (k + 1) f L := by
  refine ⟨h.free, by have := h.le; omega, h.flat, ?_, h.few⟩
  rw [drop_take_snoc h.le hk]
  intro b hb
  rcases List.mem_append.1 hb with hb | hb
  · exact h.last b hb
  · rw [List.mem_singleton.1 hb]; exact hc
theorem take_parts {l : List UInt8} {k f : Nat} (hf : f ≤ k) : l.take k = l.take f ++ (l.take k).drop f := by
  have e : (l.take k).take f = l.take f := by rw [List.take_take, Nat.min_eq_left hf]
  rw [← e, List.take_append_drop]
theorem CutAt.cut {c : UInt8} {s : ByteArray} {k f : Nat} {L : List (List UInt8)} (h : CutAt c s k f L) (hk : k < s.data.toList.length) (hc : s.data.toList[k] = c) : CutAt c s (k + 1) (k + 1) (L ++ [(s.data.toList.take k).drop f]) := by
  refine ⟨fun l hl => ?_, Nat.le_refl _, ?_, fun b hb => by simp at hb, by rw [List.length_append, List.length_singleton]; have := h.few; have := h.le; omega⟩
  · rcases List.mem_append.1 hl with hl | hl
    · exact h.free l hl
    · rw [List.mem_singleton.1 hl]; exact h.last
  · have h1 := take_parts (l := s.data.toList) h.le
    rw [h.flat] at h1
    generalize (s.data.toList.take k).drop f = p at *
    rw [take_snocU hk, h1, hc]
    simp
theorem CutAt.done {c : UInt8} {s : ByteArray} {f : Nat} {L : List (List UInt8)} (h : CutAt c s s.size f L) : wordsC c s = (L ++ [(s.data.toList.take s.size).drop f]).map arrB := by
  have e : s.data.toList.length = s.size := Array.length_toList
  unfold wordsC
  congr 1
  have h1 := take_parts (l := s.data.toList) h.le
  rw [h.flat] at h1
  have h2 := h.last
  generalize (s.data.toList.take s.size).drop f = p at *
  rw [take_all (by omega)] at h1
  rw [h1]
  exact cutC_flat h.free h2
end Go.Proofs.YtldkjkjpaiajlaaGreatDoor
