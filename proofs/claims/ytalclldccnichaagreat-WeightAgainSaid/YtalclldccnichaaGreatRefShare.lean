/-
  The reference's split and Share.
-/
import Derived.Test.YtalclldccnichaaGreatRefCount
namespace Go.Proofs.YtalclldccnichaaGreat
open Go.RowKit

/-- Two lists that a call makes. -/
structure Duo (w wr : World) (base : Nat) (p q : Value) (pl ql : List Int) : Prop where
  pts : wr.ownsRow base 3 1 p pl.length (irow pl)
  num : wr.ownsRow base 3 1 q ql.length (irow ql)
  ne : ∀ k, p.ownBlock = some k → q.ownBlock ≠ some k
  only : Only (fun _ => False) w wr
  low : w.heap.size ≤ base
theorem Duo.frame {w wr w' : World} {base : Nat} {p q : Value} {pl ql : List Int} (h : Duo w wr base p q pl ql) (hO : Only (fun _ => False) wr w') : Duo w w' base p q pl ql :=
  ⟨hO.owns h.pts (fun _ _ h => h), hO.owns h.num (fun _ _ h => h), h.ne, h.only.trans hO, h.low⟩
theorem Duo.left {w wn w' : World} {base : Nat} {x : Int} {p q : Value} {pl ql : List Int} (h : Duo w wn base p q pl ql) {g cap : Nat}
    (hown : w'.ownsRow base 3 1 (.slice (some ⟨g, 0, none⟩) (pl.length + 1) cap) (pl.length + 1) (irow pl ++ [.int .i64 x])) (hg : wn.grownBy w' p.ownBlock) (hat : p.ownBlock = some g ∨ g = wn.heap.size) :
    Duo w w' base (.slice (some ⟨g, 0, none⟩) (pl.length + 1) cap) q (pl ++ [x]) ql := by
  have hO : Only (fun k => p.ownBlock = some k) wn w' := (Only.refl _ wn).grown hg (fun k e _ => e)
  have e : ∀ k, (Value.slice (some ⟨g, 0, none⟩) (pl.length + 1) cap).ownBlock = some k → k = g := fun k hk => by simpa [Value.ownBlock] using hk.symm
  refine ⟨by rw [List.length_append, List.length_singleton, irow_append]; exact hown, hO.owns h.num (fun k hq hp => h.ne k hp hq), ?_, ?_, h.low⟩
  · intro k hk hq
    obtain rfl := e k hk
    rcases hat with hat | hat
    · exact h.ne k hat hq
    · have := (own_lt h.num hq).1; omega
  · exact h.only.trans' hO (fun i hi hp => by have := (own_lt h.pts hp).2; have := h.low; omega)
theorem Duo.right {w wn w' : World} {base : Nat} {y : Int} {p q : Value} {pl ql : List Int} (h : Duo w wn base p q pl ql) {g cap : Nat}
    (hown : w'.ownsRow base 3 1 (.slice (some ⟨g, 0, none⟩) (ql.length + 1) cap) (ql.length + 1) (irow ql ++ [.int .i64 y])) (hg : wn.grownBy w' q.ownBlock) (hat : q.ownBlock = some g ∨ g = wn.heap.size) :
    Duo w w' base p (.slice (some ⟨g, 0, none⟩) (ql.length + 1) cap) pl (ql ++ [y]) := by
  have hO : Only (fun k => q.ownBlock = some k) wn w' := (Only.refl _ wn).grown hg (fun k e _ => e)
  have e : ∀ k, (Value.slice (some ⟨g, 0, none⟩) (ql.length + 1) cap).ownBlock = some k → k = g := fun k hk => by simpa [Value.ownBlock] using hk.symm
  refine ⟨hO.owns h.pts (fun k hp hq => h.ne k hp hq), by rw [List.length_append, List.length_singleton, irow_append]; exact hown, ?_, ?_, h.low⟩
  · intro k hk hq
    obtain rfl := e k hq
    rcases hat with hat | hat
    · exact h.ne k hk hat
    · have := (own_lt h.pts hk).1; omega
  · exact h.only.trans' hO (fun i hi hp => by have := (own_lt h.num hp).2; have := h.low; omega)
theorem take_snoc {α β : Type} (f : α → β) (l : List α) (d : α) (k : Nat) (h : k < l.length) : (l.take (k + 1)).map f = (l.take k).map f ++ [f (l.getD k d)] := by
  rw [List.take_add_one, List.map_append]
  congr 1
  simp [List.getD, h]

/-- What the reference's Share computes, of the first k. -/
def combRTo (zs ns : List Int) : Nat → Int
  | 0 => 0
  | k + 1 => (combRTo zs ns k + facR zs k * ptAt ns k % 1152921504606845789) % 1152921504606845789
def shareRZ (zs ns : List Int) : Int := if shareB zs ns then combRTo zs ns zs.length else 0

end Go.Proofs.YtalclldccnichaaGreat
