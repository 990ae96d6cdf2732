/-
  The walks of Push and Pop of the queue, and of heap.Push and heap.Pop over it.
-/
import Derived.Test.YteblaedfjifdhaaUp
import Derived.Deep.AppendLies
import Derived.Deep.RegionLaw
namespace Go.Proofs.Yteblaedfjifdhaa
open Go.RowKit

theorem Try.info75 : (Try.prog.info? 75).map (fun i => (i.zero, i.size, i.bytes)) = some (some (.agg #[.int .i64 0, .int .i64 0, .string ByteArray.empty, .int .i64 0, .int .i64 0]), 5, 48) := by kernel_rfl

theorem assert75 (v : Value) (w : World) : (Instr.typeAssert (.iface 75 v) 20 75 true).run Try.prog w = .ok (.tuple #[v, .bool true]) w := by kernel_rfl

theorem news2 (w : World) (A : Obj) (cs : List Value) (T : TypeId) : ∀ j u, cs[j]? = some u → (((w.alloc A).alloc (.cells cs.toArray T)).drew).cell? ((⟨w.heap.size + 1, 0, none⟩ : Addr).add j) = some u := by
  have h : (((w.alloc A).alloc (.cells cs.toArray T)).drew).heap[w.heap.size + 1]? = some (.cells cs.toArray T) := by
    have := heap_alloc_new (w.alloc A) (.cells cs.toArray T)
    rw [World.size_alloc] at this
    exact this
  intro j u hu
  exact World.news_of_block h j u (by simpa using hu)
theorem Wt.one (x : Wt) : ∀ u ∈ x.cells, u.oneCell' = true := by
  intro u hu
  simp only [Wt.cells, List.mem_cons, List.not_mem_nil, or_false] at hu
  rcases hu with rfl | rfl | rfl | rfl | rfl <;> rfl

theorem two_later (w : World) (A B : Obj) {p : Addr} {v : Value} (hc : w.cell? p = some v) (hf : w.frozen? p = false) :
    (((w.alloc A).alloc B).drew).cell? p = some v ∧ (((w.alloc A).alloc B).drew).frozen? p = false ∧ p.block < (((w.alloc A).alloc B).drew).heap.size := by
  have hb := ((Below.refl _ w).alloc (Nat.le_refl _) A).alloc (by simp) B
  have hlt := World.block_lt_of_cell? w _ hc
  exact ⟨(hb.cell hlt).trans hc, (hb.frozen hlt).trans hf, Nat.lt_of_lt_of_le hlt hb.size⟩

/-- What Push leaves: the queue's value, where its row lies, what has turned. -/
def Pushed (b o : Nat) (v : Value) (q : List Wt) (x : Wt) (w w' : World) : Prop :=
  ∃ g cap w1, w' = w1.setCell ⟨b, o, none⟩ (.slice (some ⟨g, 0, none⟩) (q.length + 1) cap) ∧ QRow w1 g (q.length + 1) cap (q ++ [x]) ∧ (v.ownBlock = some g ∨ w.heap.size ≤ g) ∧ Only (fun k => v.ownBlock = some k) w w1

set_option maxHeartbeats 400000 in
theorem push_core (b o : Nat) (v : Value) (q : List Wt) (x : Wt) (w : World) 
    (hc : w.cell? ⟨b, o, none⟩ = some v) (hfz : w.frozen? ⟨b, o, none⟩ = false) (hown : w.ownsRow 0 75 5 v q.length (row q)) (hvb : v.ownBlock ≠ some b) (hlen : q.length ≤ 1000000) :
    Calls Try.prog 51 #[.pointer (some ⟨b, o, none⟩), .iface 75 x.val] w fun e w' => e = .returned (.tuple #[]) ∧ Pushed b o v q x w w' := by
  obtain ⟨i0, hi, hz0, hz1, hz2⟩ := info_parts Try.info75
  have hbl := World.block_lt_of_cell? w _ hc
  simp only at hbl
  unfold Wt.val
  have ta := assert75
  go_enter Try.func51, Try.ntmps51
  go_wp2
  go_region_law ((refine step_append_lies _ rfl _ _ 54 rfl 0 75 i0 _ 5 48 Try.underlying54 hi hz0 hz1 hz2 rfl (by decide) v q.length (row q) rfl (owns_drew ((hown.alloc _).alloc _)) ⟨w.heap.size + 1, 0, none⟩ 1 1 x.cells rfl rfl (by exact news2 w _ _ _) x.one (by decide) (Nat.le_trans (Nat.succ_le_succ hlen) (by decide)) (by omega) (Nat.zero_le _) _ rfl ?_); intro g cap w1 hown1 hgrow hat hlt; have c1 := hgrow.cell (two_later w _ _ hc hfz).1 (Ne.symm hvb); have f1 := (hgrow.frozen_far ⟨b, o, none⟩ (two_later w _ _ hc hfz).2.2 (Ne.symm hvb)).trans (two_later w _ _ hc hfz).2.1)
  all_goals
    go_wp2
    go_end0
    refine ⟨rfl, g, cap, w1, rfl, ?_, ?_, ?_⟩
    · show w1.ownsRow 0 75 5 _ _ (row (q ++ [x])); rw [row_append, row_one]; exact hown1
    · rcases hat with h | h
      · exact .inl h
      · right; simp at h; omega
    · exact ((((Only.refl _ w).alloc _).alloc _).drew).grown hgrow (fun k e _ => e)

set_option maxHeartbeats 400000 in
theorem pop_core (b o g n c : Nat) (_q : List Wt) (a0 a1 a3 a4 : Int) (t : ByteArray) (w : World) (hn : n + 1 ≤ c) (hcm : c ≤ 9223372036854775807)
    (hc : w.cell? ⟨b, o, none⟩ = some (.slice (some ⟨g, 0, none⟩) (n + 1) c)) (hfz : w.frozen? ⟨b, o, none⟩ = false) 
    (h0 : w.cell? ⟨g, n * 5, none⟩ = some (.int .i64 a0)) 
    (h1 : w.cell? ⟨g, n * 5 + 1, none⟩ = some (.int .i64 a1)) 
    (h2 : w.cell? ⟨g, n * 5 + 1 + 1, none⟩ = some (.string t)) 
    (h3 : w.cell? ⟨g, n * 5 + 1 + 1 + 1, none⟩ = some (.int .i64 a3)) 
    (h4 : w.cell? ⟨g, n * 5 + 1 + 1 + 1 + 1, none⟩ = some (.int .i64 a4)) :
    Calls Try.prog 50 #[.pointer (some ⟨b, o, none⟩)] w fun e w' => e = .returned (.iface 75 (.agg #[.int .i64 a0, .int .i64 a1, .string t, .int .i64 a3, .int .i64 a4])) ∧ 
      w' = (w.setCell ⟨b, o, none⟩ (.slice (some ⟨g, 0, none⟩) n c)).alloc (.cells #[.int .i64 a0, .int .i64 a1, .string t, .int .i64 a3, .int .i64 a4] 75) := by
  have hbl := World.block_lt_of_cell? w _ hc
  simp only at hbl
  go_enter Try.func50, Try.ntmps50
  go_wp2
  go_ret
  exact ⟨rfl, rfl⟩

theorem QRow.cut {w : World} {g n c : Nat} {q : List Wt} (h : QRow w g (n + 1) c q) : QRow w g n c (q.take n) := by
  have hl := h.len
  refine ⟨by rw [row_length, List.length_take]; congr 1; omega, ?_⟩
  rcases h.2 with ⟨h', _⟩ | ⟨g', cap', cur, h', hb, hg, h1, h2, h3, htake⟩
  · simp at h'
  · simp only [Value.slice.injEq, Option.some.injEq, Addr.mk.injEq, and_true, true_and] at h'
    obtain ⟨rfl, rfl⟩ := h'
    refine .inr ⟨g, c, cur, rfl, hb, hg, by omega, h2, h3, ?_⟩
    rw [row_take, ← htake, List.take_take]
    congr 1; omega

theorem pop_any (b o g n c : Nat) (q : List Wt) (w : World) (hc : w.cell? ⟨b, o, none⟩ = some (.slice (some ⟨g, 0, none⟩) (n + 1) c)) (hfz : w.frozen? ⟨b, o, none⟩ = false) (hbg : b ≠ g)
    (hq : QRow w g (n + 1) c q) :
    Calls Try.prog 50 #[.pointer (some ⟨b, o, none⟩)] w fun e w' => e = .returned (.iface 75 (el q n).val) ∧ ∃ A, w' = (w.setCell ⟨b, o, none⟩ (.slice (some ⟨g, 0, none⟩) n c)).alloc A ∧ QRow w' g n c (q.take n) := by
  have hl := hq.cap
  have := hl.2; unfold maxLen at this
  refine (pop_core b o g n c q (el q n).fr (el q n).to (el q n).tm (el q n).nm (el q n).tx w hl.1 (by omega) hc hfz 
    (hq.cell n 0 (by omega) (by omega)) (hq.cell n 1 (by omega) (by omega)) (hq.cell n 2 (by omega) (by omega)) (hq.cell n 3 (by omega) (by omega)) (hq.cell n 4 (by omega) (by omega))).mono ?_
  rintro e w' ⟨rfl, rfl⟩
  refine ⟨rfl, _, rfl, World.ownsRow.alloc ?_ _⟩
  exact ((Only.refl (fun k => k = b) w).setCell (.inl rfl) _).owns hq.cut (fun k e => by simp [Value.ownBlock] at e; omega)
end Go.Proofs.Yteblaedfjifdhaa
