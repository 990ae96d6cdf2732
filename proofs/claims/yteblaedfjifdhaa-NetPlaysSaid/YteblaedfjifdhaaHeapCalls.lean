/-
  The walks of heap.Push and heap.Pop over the queue of a net.
-/
import Derived.Test.YteblaedfjifdhaaDown
namespace Go.Proofs.Yteblaedfjifdhaa
open Go.RowKit

/-- The queue's value v lies in cell o of block b (cells arr); its row holds q, in the order of a heap. -/
structure QueueAt (w : World) (b o : Nat) (arr : Array Value) (T : TypeId) (v : Value) (q : List Wt) : Prop where
  blk : w.heap[b]? = some (.cells arr T (0, 0))
  at_ : arr[o]? = some v
  own : w.ownsRow 0 75 5 v q.length (row q)
  ne : v.ownBlock ≠ some b
  heap : Heap q q.length
  len : q.length ≤ 1000000

theorem QueueAt.cell {w : World} {b o : Nat} {arr : Array Value} {T : TypeId} {v : Value} {q : List Wt} (h : QueueAt w b o arr T v q) : w.cell? ⟨b, o, none⟩ = some v := by
  rw [cell_of_row w b o arr T (0, 0) h.blk]; exact h.at_
theorem QueueAt.frozen {w : World} {b o : Nat} {arr : Array Value} {T : TypeId} {v : Value} {q : List Wt} (h : QueueAt w b o arr T v q) : w.frozen? ⟨b, o, none⟩ = false :=
  frozen_of_row w b o arr T h.blk

/-- What a call leaves of the queue: the new value in its cell, its new row in the old block or a new one, nothing else turned. -/
def QLeft (w : World) (b o : Nat) (arr : Array Value) (T : TypeId) (v : Value) (P : List Wt → Prop) (w' : World) : Prop :=
  ∃ v' r, P r ∧ QueueAt w' b o (arr.setIfInBounds o v') T v' r ∧ (∀ k, v'.ownBlock = some k → v.ownBlock = some k ∨ w.heap.size ≤ k) ∧ Only (fun k => k = b ∨ v.ownBlock = some k) w w'

set_option maxHeartbeats 400000 in
theorem hpush_any (b o : Nat) (arr : Array Value) (T : TypeId) (v : Value) (q : List Wt) (x : Wt) (w : World) (hQ : QueueAt w b o arr T v q) (hlen : q.length < 1000000) :
    Calls Try.prog 26 #[.iface 70 (.pointer (some ⟨b, o, none⟩)), .iface 75 x.val] w fun e w' => e = .returned (.tuple #[]) ∧ QLeft w b o arr T v (fun r => r.Perm (x :: q)) w' := by
  have hlt : b < w.heap.size := (Array.getElem?_eq_some_iff.1 hQ.blk).1
  have hm := method_push
  have harr : o < arr.size := (Array.getElem?_eq_some_iff.1 hQ.at_).1
  go_enter Try.func26, Try.ntmps26
  go_wp2_with fail
  refine (push_core b o v q x w hQ.cell hQ.frozen hQ.own hQ.ne hQ.len).mono ?_
  rintro e w' ⟨rfl, g, cap, w1, rfl, hrow, hat, hO⟩
  have hb1 : w1.heap[b]? = some (.cells arr T (0, 0)) := by rw [hO.block b hlt hQ.ne]; exact hQ.blk
  have hb2 := heap_setCell_same w1 b o arr T (.slice (some ⟨g, 0, none⟩) (q.length + 1) cap) hb1
  have hgb : b ≠ g := by
    rintro rfl
    rcases hat with h | h
    · exact hQ.ne h
    · omega
  have hrow2 : QRow (w1.setCell ⟨b, o, none⟩ (.slice (some ⟨g, 0, none⟩) (q.length + 1) cap)) g (q.length + 1) cap (q ++ [x]) :=
    ((Only.refl (fun k => k = b) w1).setCell (.inl rfl) _).owns hrow (fun k e => by simp [Value.ownBlock] at e; omega)
  have hO2 : Only (fun k => k = b ∨ v.ownBlock = some k) w (w1.setCell ⟨b, o, none⟩ (.slice (some ⟨g, 0, none⟩) (q.length + 1) cap)) :=
    (hO.mono (fun _ _ h => .inr h)).setCell (.inl (.inl rfl)) _
  clear hrow hO
  generalize w1.setCell ⟨b, o, none⟩ (.slice (some ⟨g, 0, none⟩) (q.length + 1) cap) = w2 at *
  have hc2 : w2.cell? ⟨b, o, none⟩ = some (.slice (some ⟨g, 0, none⟩) (q.length + 1) cap) := by
    rw [cell_of_row w2 b o _ T (0, 0) hb2]; simp [harr]
  have hml := method_len b o _ _ _ w2 hc2
  have hU := upInv_start (x := x) hQ.heap
  have HU := Lib.hid hU
  have HB := Lib.hid hb2
  clear hU hb2 hb1
  go_wp2_with (first | (go_at_call 47; refine (len_any _ _ _ _).mono ?_; rintro e w' ⟨rfl, rfl⟩))
  refine (up_any b o g (q.length + 1) cap q.length (q ++ [x]) w2 hc2 hgb hrow2 (by omega) HU.out).mono ?_
  rintro e w3 ⟨rfl, r, hp, hh, hr, hO3⟩
  go_wp2
  go_end0
  have hrl : r.length = q.length + 1 := by rw [hp.length_eq]; simp
  refine ⟨rfl, .slice (some ⟨g, 0, none⟩) (q.length + 1) cap, r, hp.trans (List.perm_append_singleton _ _), ⟨?_, ?_, ?_, ?_, hh, by omega⟩, ?_, ?_⟩
  · rw [hO3.block b (Nat.lt_of_lt_of_le hlt hO2.size) hgb]; exact HB.out
  · simp [harr]
  · rw [hrl]; exact hr
  · simp [Value.ownBlock]; omega
  · intro k e; simp [Value.ownBlock] at e; subst e; exact hat
  · refine hO2.trans' hO3 ?_
    rintro k hk rfl
    rcases hat with h | h
    · exact .inr h
    · omega

/-- What Pop leaves. -/
def HPopped (w : World) (b o : Nat) (arr : Array Value) (T : TypeId) (v : Value) (q : List Wt) (e : Ending) (w' : World) : Prop :=
  ∃ x, e = .returned (.iface 75 x.val) ∧ QLeft w b o arr T v (fun r => q.Perm (x :: r) ∧ ∀ y ∈ r, ltB y x = false) w'

set_option maxHeartbeats 400000 in
theorem hpop_any (b o : Nat) (arr : Array Value) (T : TypeId) (v : Value) (q : List Wt) (w : World) (hQ : QueueAt w b o arr T v q) (hne : q ≠ []) :
    Calls Try.prog 28 #[.iface 70 (.pointer (some ⟨b, o, none⟩))] w (HPopped w b o arr T v q) := by
  have hlt : b < w.heap.size := (Array.getElem?_eq_some_iff.1 hQ.blk).1
  have harr : o < arr.size := (Array.getElem?_eq_some_iff.1 hQ.at_).1
  obtain ⟨n, hn⟩ : ∃ n, q.length = n + 1 := ⟨q.length - 1, by have := List.length_pos_iff.2 hne; omega⟩
  obtain ⟨g, cap, rfl, _, hgl⟩ := hQ.own.form (by omega)
  have hgb : b ≠ g := by intro e; subst e; exact hQ.ne rfl
  have hq : QRow w g (n + 1) cap q := by have := hQ.own; rw [hn] at this; exact this
  have hc := hQ.cell
  rw [hn] at hc
  have hfz := hQ.frozen
  have hbd := hQ.len
  have HB := Lib.hid hQ.blk
  have HH := Lib.hid hQ.heap
  have HN := Lib.hid hn
  have HX := Lib.hid hQ.at_
  have hb2 : n + 1 ≤ 1000000 := by omega
  clear hQ hn hne
  have hml := method_len b o _ _ _ w hc
  have hms := method_swap b o _ _ _ w hc
  go_enter Try.func28, Try.ntmps28
  go_wp2_with (first | (go_at_call 47; refine (len_any _ _ _ _).mono ?_; rintro e w' ⟨rfl, rfl⟩))
  refine (swap_any g 0 n (n + 1) cap q w hq (by omega) (by omega)).mono ?_
  rintro e w1 ⟨rfl, hq1, hO1⟩
  have hc1 := hO1.cell hc hgb
  have hD := downInv_start (n := n) (by rw [← HN.out]; exact HH.out) (by rw [HN.out]; omega)
  have HD := Lib.hid hD
  clear hD hml hms
  go_wp2_with fail
  refine (down_any b o g n (n + 1) cap _ w1 hc1 hgb hq1 (by omega) (by omega) HD.out).mono ?_
  rintro e w2 ⟨bb, rfl, r, hp, hh, hq2, hO2, hk⟩
  have hc2 := hO2.cell hc1 hgb
  have hO12 := hO1.trans hO2
  have hf2 : w2.frozen? ⟨b, o, none⟩ = false := (World.frozen?_of_block (hO12.block b hlt hgb)).trans hfz
  have hmp := method_pop
  have HK := Lib.hid hk
  clear hk
  go_wp2_with fail
  refine (pop_any b o g n cap r w2 hc2 hf2 hgb hq2).mono ?_
  rintro e w3 ⟨rfl, A, rfl, hq3⟩
  go_wp2
  go_ret
  have hperm := hp.trans (swapQ_perm q 0 n (by rw [HN.out]; omega) (by rw [HN.out]; omega))
  have hlast : el r n = el q 0 := (HK.out n (Nat.le_refl _)).trans (el_swap_j q 0 n (by rw [HN.out]; omega))
  obtain ⟨h1, h2, h3⟩ := pop_parts HH.out HN.out hperm hlast hh
  have hrl : r.length = n + 1 := by rw [hperm.length_eq, HN.out]
  have hbl2 : b < w2.heap.size := Nat.lt_of_lt_of_le hlt hO12.size
  have hb3 : w2.heap[b]? = some (.cells arr T (0, 0)) := by rw [hO12.block b hlt hgb]; exact HB.out
  refine ⟨el q 0, by rw [hlast]; rfl, .slice (some ⟨g, 0, none⟩) n cap, r.take n, ⟨h1, h3⟩, ⟨?_, ?_, ?_, ?_, h2, by simp; omega⟩, ?_, ?_⟩
  · rw [Below.heap_alloc _ _ _ (by simpa using hbl2)]
    exact heap_setCell_same w2 b o arr T _ hb3
  · simp [harr]
  · have e : (r.take n).length = n := by simp; omega
    rw [e]; exact hq3
  · simp [Value.ownBlock]; omega
  · intro k e; exact .inl e
  · refine Only.alloc (Only.setCell ?_ (.inl (.inl rfl)) _) _
    exact hO12.mono (fun k _ e => .inr (by rw [e]; rfl))
end Go.Proofs.Yteblaedfjifdhaa
