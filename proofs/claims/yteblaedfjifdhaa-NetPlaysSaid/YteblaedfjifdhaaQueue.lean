/-
  The walks of the methods of the queue.
-/
import Derived.Test.YteblaedfjifdhaaRows
import Derived.Test.YteblaedfjifdhaaHeap
import Derived.Test.YteblaedfjifdhaaOnly
import Derived.WalkLawsBesides
import Derived.Deep.QuietTactic
import Derived.BigQuiet
import Derived.BigRegion
import Derived.Lib.Hide
namespace Go.Proofs.Yteblaedfjifdhaa
open Go.RowKit

theorem len_any (v : Option Addr) (n c : Nat) (w : World) :
    Calls Try.prog 47 #[.slice v n c] w fun e w' => e = .returned (.int .i64 n) ∧ w = w' := by
  go_enter Try.func47, Try.ntmps47
  go_wp2
  go_ret
  exact ⟨rfl, rfl⟩

abbrev QRow (w : World) (g n c : Nat) (q : List Wt) : Prop := w.ownsRow 0 75 5 (.slice (some ⟨g, 0, none⟩) n c) n (row q)

theorem QRow.len {w : World} {g n c : Nat} {q : List Wt} (h : QRow w g n c q) : q.length = n := by
  have := h.1; rw [row_length] at this; omega
theorem QRow.cap {w : World} {g n c : Nat} {q : List Wt} (h : QRow w g n c q) : n ≤ c ∧ c ≤ maxLen := by
  rcases h.2 with ⟨h', _⟩ | ⟨g', cap', cur, h', _, hg, h1, h2, _, htake⟩
  · simp at h'
  · simp only [Value.slice.injEq, Option.some.injEq, Addr.mk.injEq, and_true, true_and] at h'
    obtain ⟨rfl, rfl⟩ := h'
    exact ⟨h1, h2⟩
theorem QRow.cell {w : World} {g n c : Nat} {q : List Wt} (h : QRow w g n c q) (i k : Nat) (hi : i < n) (hk : k < 5) : w.cell? ⟨g, i * 5 + k, none⟩ = (el q i).cells[k]? := by
  rw [h.cellAt _ (by omega), row_get q i k (by rw [h.len]; exact hi) hk]

set_option maxHeartbeats 400000 in
theorem less_core (g i j n c : Nat) (ti tj ni nj : Int) (w : World) (hi : i < n) (hj : j < n) (_hc : n ≤ c) (_hn : n ≤ 9223372036854775807)
   (h1 : w.cell? ⟨g, i * 5 + 3, none⟩ = some (.int .i64 ti)) (h2 : w.cell? ⟨g, j * 5 + 3, none⟩ = some (.int .i64 tj))
   (h3 : w.cell? ⟨g, i * 5 + 4, none⟩ = some (.int .i64 ni)) (h4 : w.cell? ⟨g, j * 5 + 4, none⟩ = some (.int .i64 nj)) :
    Calls Try.prog 48 #[.slice (some ⟨g, 0, none⟩) n c, .int .i64 i, .int .i64 j] w fun e w' => e = .returned (.bool (if ti ≠ tj then decide (ti < tj) else decide (ni < nj))) ∧ ∃ k, w' = w.drewN k := by
  by_cases ht : ti = tj
  · subst ht
    go_enter Try.func48, Try.ntmps48
    go_wp2
    go_quiet (fail)
    go_wp2
    go_quiet (fail)
    go_wp2
    go_ret
    exact ⟨by simp, _, rfl⟩
  · have hb : (ti != tj) = true := by simpa using ht
    go_enter Try.func48, Try.ntmps48
    go_wp2
    go_quiet (fail)
    go_wp2
    go_quiet (fail)
    go_wp2
    go_ret
    exact ⟨by simp, _, rfl⟩

theorem less_any (g i j n c : Nat) (q : List Wt) (w : World) (hq : QRow w g n c q) (hi : i < n) (hj : j < n) :
    Calls Try.prog 48 #[.slice (some ⟨g, 0, none⟩) n c, .int .i64 i, .int .i64 j] w fun e w' => e = .returned (.bool (ltB (el q i) (el q j))) ∧ ∃ k, w' = w.drewN k := by
  have hl := hq.cap
  have := hl.2; unfold maxLen at this
  exact less_core g i j n c (el q i).tm (el q j).tm (el q i).nm (el q j).nm w hi hj hl.1 (by omega)
    (hq.cell i 3 hi (by omega)) (hq.cell j 3 hj (by omega)) (hq.cell i 4 hi (by omega)) (hq.cell j 4 hj (by omega))

set_option maxHeartbeats 1000000 in
theorem swap_core (g i j n c : Nat) (a0 a1 a3 a4 b0 b1 b3 b4 : Int) (s t : ByteArray)  (w : World) (hi : i < n) (hj : j < n) (_hc : n ≤ c) (_hn : n ≤ 9223372036854775807)
   (hij : i ≠ j)
   (hA0 : w.cell? ⟨g, i * 5, none⟩ = some (.int .i64 a0)) 
   (hA1 : w.cell? ⟨g, i * 5 + 1, none⟩ = some (.int .i64 a1)) 
   (hA2 : w.cell? ⟨g, i * 5 + 1 + 1, none⟩ = some (.string s)) 
   (hA3 : w.cell? ⟨g, i * 5 + 1 + 1 + 1, none⟩ = some (.int .i64 a3)) 
   (hA4 : w.cell? ⟨g, i * 5 + 1 + 1 + 1 + 1, none⟩ = some (.int .i64 a4)) 
   (hB0 : w.cell? ⟨g, j * 5, none⟩ = some (.int .i64 b0)) 
   (hB1 : w.cell? ⟨g, j * 5 + 1, none⟩ = some (.int .i64 b1)) 
   (hB2 : w.cell? ⟨g, j * 5 + 1 + 1, none⟩ = some (.string t)) 
   (hB3 : w.cell? ⟨g, j * 5 + 1 + 1 + 1, none⟩ = some (.int .i64 b3)) 
   (hB4 : w.cell? ⟨g, j * 5 + 1 + 1 + 1 + 1, none⟩ = some (.int .i64 b4)) 
   (hf : ∀ o, w.frozen? ⟨g, o, none⟩ = false) :
    Calls Try.prog 49 #[.slice (some ⟨g, 0, none⟩) n c, .int .i64 i, .int .i64 j] w fun e w' => e = .returned (.tuple #[]) ∧
      w' = ((((((((((w.setCell ⟨g, i * 5, none⟩ (.int .i64 b0)).setCell ⟨g, i * 5 + 1, none⟩ (.int .i64 b1)).setCell ⟨g, i * 5 + 2, none⟩ (.string t)).setCell ⟨g, i * 5 + 3, none⟩ (.int .i64 b3)).setCell ⟨g, i * 5 + 4, none⟩ (.int .i64 b4)).setCell
        ⟨g, j * 5, none⟩ (.int .i64 a0)).setCell ⟨g, j * 5 + 1, none⟩ (.int .i64 a1)).setCell ⟨g, j * 5 + 2, none⟩ (.string s)).setCell ⟨g, j * 5 + 3, none⟩ (.int .i64 a3)).setCell ⟨g, j * 5 + 4, none⟩ (.int .i64 a4)).drew := by
  go_enter Try.func49, Try.ntmps49
  go_region
  go_end0
  exact ⟨rfl, rfl⟩

set_option maxHeartbeats 1000000 in
theorem swap_same (g i n c : Nat) (a0 a1 a3 a4 : Int) (s : ByteArray)  (w : World) (hi : i < n) (_hc : n ≤ c) (_hn : n ≤ 9223372036854775807)
   (hA0 : w.cell? ⟨g, i * 5, none⟩ = some (.int .i64 a0)) 
   (hA1 : w.cell? ⟨g, i * 5 + 1, none⟩ = some (.int .i64 a1)) 
   (hA2 : w.cell? ⟨g, i * 5 + 1 + 1, none⟩ = some (.string s)) 
   (hA3 : w.cell? ⟨g, i * 5 + 1 + 1 + 1, none⟩ = some (.int .i64 a3)) 
   (hA4 : w.cell? ⟨g, i * 5 + 1 + 1 + 1 + 1, none⟩ = some (.int .i64 a4)) 
   (hf : ∀ o, w.frozen? ⟨g, o, none⟩ = false) :
    Calls Try.prog 49 #[.slice (some ⟨g, 0, none⟩) n c, .int .i64 i, .int .i64 i] w fun e w' => e = .returned (.tuple #[]) ∧
      w' = ((((((((((w.setCell ⟨g, i * 5, none⟩ (.int .i64 a0)).setCell ⟨g, i * 5 + 1, none⟩ (.int .i64 a1)).setCell ⟨g, i * 5 + 2, none⟩ (.string s)).setCell ⟨g, i * 5 + 3, none⟩ (.int .i64 a3)).setCell ⟨g, i * 5 + 4, none⟩ (.int .i64 a4)).setCell
        ⟨g, i * 5, none⟩ (.int .i64 a0)).setCell ⟨g, i * 5 + 1, none⟩ (.int .i64 a1)).setCell ⟨g, i * 5 + 2, none⟩ (.string s)).setCell ⟨g, i * 5 + 3, none⟩ (.int .i64 a3)).setCell ⟨g, i * 5 + 4, none⟩ (.int .i64 a4)).drew := by
  go_enter Try.func49, Try.ntmps49
  go_region
  go_end0
  exact ⟨rfl, rfl⟩

theorem QRow.stored5 {w : World} {g n c : Nat} {q : List Wt} (h : QRow w g n c q) (i : Nat) (hi : i < n) (x : Wt) :
    QRow (((((w.setCell ⟨g, i * 5, none⟩ (.int .i64 x.fr)).setCell ⟨g, i * 5 + 1, none⟩ (.int .i64 x.to)).setCell ⟨g, i * 5 + 2, none⟩ (.string x.tx)).setCell ⟨g, i * 5 + 3, none⟩ (.int .i64 x.tm)).setCell ⟨g, i * 5 + 4, none⟩ (.int .i64 x.nm)) g n c (q.set i x) := by
  have h1 := (h.stored (i * 5) (.int .i64 x.fr)).1
  have h2 := (h1.stored (i * 5 + 1) (.int .i64 x.to)).1
  have h3 := (h2.stored (i * 5 + 2) (.string x.tx)).1
  have h4 := (h3.stored (i * 5 + 3) (.int .i64 x.tm)).1
  have h5 := (h4.stored (i * 5 + 4) (.int .i64 x.nm)).1
  rw [row_set q i x (by rw [h.len]; exact hi)] at h5
  exact h5
theorem only_set5 {S : Nat → Prop} {w0 w : World} {g i : Nat} (h : Only S w0 w) (hg : S g) (v0 v1 v2 v3 v4 : Value) :
    Only S w0 (((((w.setCell ⟨g, i * 5, none⟩ v0).setCell ⟨g, i * 5 + 1, none⟩ v1).setCell ⟨g, i * 5 + 2, none⟩ v2).setCell ⟨g, i * 5 + 3, none⟩ v3).setCell ⟨g, i * 5 + 4, none⟩ v4) :=
  ((((h.setCell (.inl hg) _).setCell (.inl hg) _).setCell (.inl hg) _).setCell (.inl hg) _).setCell (.inl hg) _

theorem swap_any (g i j n c : Nat) (q : List Wt) (w : World) (hq : QRow w g n c q) (hi : i < n) (hj : j < n) :
    Calls Try.prog 49 #[.slice (some ⟨g, 0, none⟩) n c, .int .i64 i, .int .i64 j] w fun e w' => e = .returned (.tuple #[]) ∧ QRow w' g n c (swapQ q i j) ∧ Only (fun k => k = g) w w' := by
  have hl := hq.cap
  have := hl.2; unfold maxLen at this
  have hf : ∀ o, w.frozen? ⟨g, o, none⟩ = false := fun o => hq.frozenAt o
  by_cases hij : i = j
  · subst hij
    refine (swap_same g i n c (el q i).fr (el q i).to (el q i).tm (el q i).nm (el q i).tx w hi hl.1 (by omega)
      (hq.cell i 0 hi (by omega)) (hq.cell i 1 hi (by omega)) (hq.cell i 2 hi (by omega)) (hq.cell i 3 hi (by omega)) (hq.cell i 4 hi (by omega)) hf).mono ?_
    rintro e w' ⟨rfl, rfl⟩
    refine ⟨rfl, owns_drew ?_, (only_set5 (only_set5 (Only.refl (fun k => k = g) _) rfl _ _ _ _ _) rfl _ _ _ _ _).drew⟩
    exact (hq.stored5 i hi (el q i)).stored5 i hi (el q i)
  · refine (swap_core g i j n c (el q i).fr (el q i).to (el q i).tm (el q i).nm (el q j).fr (el q j).to (el q j).tm (el q j).nm (el q i).tx (el q j).tx w hi hj hl.1 (by omega) hij
      (hq.cell i 0 hi (by omega)) (hq.cell i 1 hi (by omega)) (hq.cell i 2 hi (by omega)) (hq.cell i 3 hi (by omega)) (hq.cell i 4 hi (by omega))
      (hq.cell j 0 hj (by omega)) (hq.cell j 1 hj (by omega)) (hq.cell j 2 hj (by omega)) (hq.cell j 3 hj (by omega)) (hq.cell j 4 hj (by omega)) hf).mono ?_
    rintro e w' ⟨rfl, rfl⟩
    refine ⟨rfl, owns_drew ?_, (only_set5 (only_set5 (Only.refl (fun k => k = g) _) rfl _ _ _ _ _) rfl _ _ _ _ _).drew⟩
    exact (hq.stored5 i hi (el q j)).stored5 j hj (el q i)

end Go.Proofs.Yteblaedfjifdhaa
