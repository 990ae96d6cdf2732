/-
  The laws' own function bent.
-/
import Derived.Test.YtalclldccnichaaGreatWtF
namespace Go.Proofs.YtalclldccnichaaGreat
open Go.RowKit

theorem own_ty {w : World} {b e s n g : Nat} {v : Value} {xs : List Value} (h : w.ownsRow b e s v n xs) (hg : v.ownBlock = some g) : ∃ cur, w.heap[g]? = some (.cells cur e (0, 0)) := by
  rcases h.2 with ⟨rfl, _⟩ | ⟨g', cap, cur, rfl, _, hgg, _⟩
  · simp [Value.ownBlock] at hg
  · obtain rfl : g' = g := by simpa [Value.ownBlock] using hg
    exact ⟨cur, hgg⟩
theorem own_ne_ty {w : World} {b e s n b' e' s' n' : Nat} {v v' : Value} {xs xs' : List Value} (h : w.ownsRow b e s v n xs) (h' : w.ownsRow b' e' s' v' n' xs') (hne : e ≠ e') (k : Nat) (hk : v.ownBlock = some k) : v'.ownBlock ≠ some k := by
  intro hk'
  obtain ⟨c, hc⟩ := own_ty h hk
  obtain ⟨c', hc'⟩ := own_ty h' hk'
  rw [hc] at hc'
  simp only [Option.some.injEq, Obj.cells.injEq] at hc'
  exact hne hc'.2.1
theorem own_ne_blk {w : World} {b e s n g t : Nat} {v : Value} {xs : List Value} {cs : Array Value} {fr : Nat × Nat} (h : w.ownsRow b e s v n xs) (hb : w.heap[g]? = some (.cells cs t fr)) (hne : e ≠ t) : v.ownBlock ≠ some g := by
  intro hk
  obtain ⟨c, hc⟩ := own_ty h hk
  rw [hc] at hb
  simp only [Option.some.injEq, Obj.cells.injEq] at hb
  exact hne hb.2.1
theorem own_set' {w : World} {base e n j g cap size : Nat} {xs : List Value} (h : w.ownsRow base e size (.slice (some ⟨g, 0, none⟩) n cap) n xs) (u : Value) : (w.setCell ⟨g, j, none⟩ u).ownsRow base e size (.slice (some ⟨g, 0, none⟩) n cap) n (xs.set j u) := by
  refine ⟨by rw [List.length_set]; exact h.1, ?_⟩
  rcases h.2 with ⟨hn, _⟩ | ⟨g', cap', cur, hv, hb, hg, hcap, hcap2, hsz, htk⟩
  · simp at hn
  · simp only [Value.slice.injEq, Option.some.injEq, Addr.mk.injEq, and_true, true_and] at hv
    obtain ⟨rfl, rfl⟩ := hv
    refine .inr ⟨g, cap, cur.setIfInBounds j u, rfl, hb, heap_setCell_same w g j cur e u hg, hcap, hcap2, by rw [Array.size_setIfInBounds]; exact hsz, ?_⟩
    rw [Array.toList_setIfInBounds, List.take_set, htk]
theorem own_empty (w : World) (base e size : Nat) (hb : base ≤ w.heap.size) : (w.alloc (.cells #[] e)).ownsRow base e size (.slice (some ⟨w.heap.size, 0, none⟩) 0 0) 0 [] :=
  ⟨by simp, .inr ⟨w.heap.size, 0, #[], rfl, hb, heap_alloc_last w _, Nat.le_refl _, by decide, by simp, by simp⟩⟩
theorem mbs_news {w : World} {b off : Nat} {l : List Mb} (hc : ∀ j, j < l.length → w.cell? ⟨b, off + j * 3, none⟩ = some (.int .i64 (mbAt l j).id) ∧ w.cell? ⟨b, off + j * 3 + 1, none⟩ = some (.int .i64 (mbAt l j).wt) ∧ w.cell? ⟨b, off + j * 3 + 2, none⟩ = some (.int .i64 (mbAt l j).pb)) : ∀ j u, (mrow l)[j]? = some u → w.cell? ((⟨b, off, none⟩ : Addr).add j) = some u := by
  intro j u hu
  have hl : (mrow l).length = l.length * 3 := by
    clear hc hu
    induction l with
    | nil => rfl
    | cons m l ih => rw [show mrow (m :: l) = [.int .i64 m.id, .int .i64 m.wt, .int .i64 m.pb] ++ mrow l by simp [mrow], List.length_append, ih]; simp; omega
  have hj : j < l.length * 3 := by rw [← hl]; exact (List.getElem?_eq_some_iff.1 hu).1
  have hadd : (⟨b, off, none⟩ : Addr).add j = ⟨b, off + j, none⟩ := by unfold Addr.add; split <;> simp_all
  rw [hadd]
  obtain ⟨k, r, hr, rfl⟩ : ∃ k r, r < 3 ∧ j = k * 3 + r := ⟨j / 3, j % 3, by omega, by omega⟩
  have h1 := mrow_at l k (by omega)
  have h2 := hc k (by omega)
  match r, hr with
  | 0, _ => rw [Nat.add_zero, h1.1] at hu; rw [Nat.add_zero, h2.1]; exact hu
  | 1, _ => rw [h1.2.1] at hu; rw [← Nat.add_assoc, h2.2.1]; exact hu
  | 2, _ => rw [h1.2.2] at hu; rw [← Nat.add_assoc, h2.2.2]; exact hu
theorem mrow_one (l : List Mb) : ∀ u ∈ mrow l, u.oneCell' = true := by
  intro u hu
  unfold mrow at hu
  rw [List.mem_flatMap] at hu
  obtain ⟨m, _, hm⟩ := hu
  simp only [List.mem_cons, List.not_mem_nil, or_false] at hm
  rcases hm with rfl | rfl | rfl <;> rfl
theorem mrow_len (l : List Mb) : (mrow l).length = l.length * 3 := by
  induction l with
  | nil => rfl
  | cons m l ih => rw [show mrow (m :: l) = [.int .i64 m.id, .int .i64 m.wt, .int .i64 m.pb] ++ mrow l by simp [mrow], List.length_append, ih]; simp; omega
theorem rowD_len (qs : List (Value × Dl × Value)) : (rowD qs).length = qs.length * 3 := by
  induction qs with
  | nil => rfl
  | cons m l ih => rw [show rowD (m :: l) = [m.1, .int .i64 m.2.1.pt, m.2.2] ++ rowD l by simp [rowD], List.length_append, ih]; simp; omega
theorem rowD_one {qs : List (Value × Dl × Value)} (h : ∀ q ∈ qs, q.1.oneCell' = true ∧ q.2.2.oneCell' = true) : ∀ u ∈ rowD qs, u.oneCell' = true := by
  intro u hu
  unfold rowD at hu
  rw [List.mem_flatMap] at hu
  obtain ⟨m, hm, hx⟩ := hu
  simp only [List.mem_cons, List.not_mem_nil, or_false] at hx
  rcases hx with rfl | rfl | rfl
  · exact (h m hm).1
  · rfl
  · exact (h m hm).2
theorem rowD_set : ∀ (qs : List (Value × Dl × Value)) (i : Nat) (a c : Value) (d : Dl), i < qs.length → (((rowD qs).set (i * 3) a).set (i * 3 + 1) (.int .i64 d.pt)).set (i * 3 + 2) c = rowD (qs.set i (a, d, c))
  | q :: qs, 0, a, c, d, _ => by simp [rowD]
  | q :: qs, i + 1, a, c, d, h => by
    have ih := rowD_set qs i a c d (by simpa using h)
    have e : ∀ (x : Value × Dl × Value) (l : List (Value × Dl × Value)), rowD (x :: l) = x.1 :: .int .i64 x.2.1.pt :: x.2.2 :: rowD l := fun x l => by simp [rowD]
    rw [List.set_cons_succ, e, e, ← ih, show (i + 1) * 3 = i * 3 + 1 + 1 + 1 by omega, show i * 3 + 1 + 1 + 1 + 1 = i * 3 + 1 + 1 + 1 + 1 from rfl]
    simp only [List.set_cons_succ, show i * 3 + 1 + 1 + 1 + 2 = (i * 3 + 2) + 1 + 1 + 1 by omega]
/-- The state of bent: X is the block of the dealing that is changed. -/
structure BtAt (w wr : World) (q0 q1 q2 : Int) (vo vc : Value) (X : Nat) (cv bv : Value) (pt : Int) (qs : List (Value × Dl × Value)) (l : List Mb) (cs : List Int) (bs : List ByteArray) : Prop where
  q : wr.heap[w.heap.size]? = some (.cells #[.int .i64 q0, .int .i64 q1, .int .i64 q2] 23 (0, 0))
  out : wr.ownsRow (w.heap.size + 1) 72 3 vo qs.length (rowD qs)
  crew : wr.ownsRow (w.heap.size + 1) 68 3 vc l.length (mrow l)
  blk : wr.heap[X]? = some (.cells #[cv, .int .i64 pt, bv] 72 (0, 0))
  cm : wr.ownsRow (w.heap.size + 1) 3 1 cv cs.length (irow cs)
  bx : wr.ownsRow (w.heap.size + 1) 9 1 bv bs.length (srowS bs)
  ne : vo.ownBlock ≠ some X
  low : w.heap.size < X
  only : Only (fun _ => False) w wr
theorem BtAt.frame {w wr w' : World} {q0 q1 q2 pt : Int} {vo vc cv bv : Value} {X : Nat} {qs : List (Value × Dl × Value)} {l : List Mb} {cs : List Int} {bs : List ByteArray} (h : BtAt w wr q0 q1 q2 vo vc X cv bv pt qs l cs bs) (hO : Only (fun _ => False) wr w') : BtAt w w' q0 q1 q2 vo vc X cv bv pt qs l cs bs :=
  ⟨row_still hO h.q, hO.owns h.out (fun _ _ h => h), hO.owns h.crew (fun _ _ h => h), row_still hO h.blk, hO.owns h.cm (fun _ _ h => h), hO.owns h.bx (fun _ _ h => h), h.ne, h.low, h.only.trans hO⟩
/-- Dealings and members come back. -/
def BentPost (w : World) (e : Ending) (w' : World) : Prop := Only (fun _ => False) w w' ∧ ∃ v6 v7 ds l, e = .returned (.tuple #[v6, v7]) ∧ DlsAt w' v6 ds ∧ DlsS ds ∧ MbsAt w' v7 l ∧ MbsW l
end Go.Proofs.YtalclldccnichaaGreat
