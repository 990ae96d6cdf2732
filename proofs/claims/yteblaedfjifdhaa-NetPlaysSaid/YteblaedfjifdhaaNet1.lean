/-
  The walks of the net's small methods: isNode, trouble, Waiting.
-/
import Derived.Test.YteblaedfjifdhaaHeapCalls
namespace Go.Proofs.Yteblaedfjifdhaa
open Go.RowKit

theorem isNode_core (b : Nat) (nodes k : Int) (w : World) (h : w.cell? ⟨b, 0, none⟩ = some (.int .i64 nodes)) :
    Calls Try.prog 25 #[.pointer (some ⟨b, 0, none⟩), .int .i64 k] w fun e w' => e = .returned (.bool (decide (0 ≤ k) && decide (k < nodes))) ∧ w = w' := by
  by_cases h0 : 0 ≤ k
  · have hd : decide (0 ≤ k) = true := by simpa using h0
    go_enter Try.func25, Try.ntmps25
    go_wp2
    go_ret
    exact ⟨by simp [h0], rfl⟩
  · have hd : decide (0 ≤ k) = false := by simpa using h0
    go_enter Try.func25, Try.ntmps25
    go_wp2
    go_ret
    exact ⟨by simp, rfl⟩

/-- Is k a node? -/
def nodeB (nodes k : Int) : Bool := decide (0 ≤ k) && decide (k < nodes)
theorem isNode_any (b : Nat) (nodes k : Int) (w : World) (h : w.cell? ⟨b, 0, none⟩ = some (.int .i64 nodes)) :
    Calls Try.prog 25 #[.pointer (some ⟨b, 0, none⟩), .int .i64 k] w fun e w' => e = .returned (.bool (nodeB nodes k)) ∧ w = w' := isNode_core b nodes k w h

theorem isNode_is (b : Nat) (nodes k : Int) (bb : Bool) (w : World) (h : w.cell? ⟨b, 0, none⟩ = some (.int .i64 nodes)) (hb : nodeB nodes k = bb) :
    Calls Try.prog 25 #[.pointer (some ⟨b, 0, none⟩), .int .i64 k] w fun e w' => e = .returned (.bool bb) ∧ w = w' := by
  subst hb; exact isNode_any b nodes k w h

/-- The trouble of a message. -/
structure Tr where
  lost : Bool
  copies : Int
  delay : Int
def Tr.cells (x : Tr) : List Value := [.bool x.lost, .int .i64 x.copies, .int .i64 x.delay]
def Tr.val (x : Tr) : Value := .agg #[.bool x.lost, .int .i64 x.copies, .int .i64 x.delay]
def trow : List Tr → List Value
  | [] => []
  | x :: q => x.cells ++ trow q
def tel (s : List Tr) (i : Nat) : Tr := s.getD i ⟨false, 0, 0⟩
def trOf (s : List Tr) (k : Nat) : Tr := if s.length = 0 then ⟨false, 1, 1⟩ else ⟨(tel s (k % s.length)).lost, min (max (tel s (k % s.length)).copies 1) 8, max (tel s (k % s.length)).delay 0⟩

set_option maxHeartbeats 400000 in
theorem trouble_nil (b : Nat) (a : Option Addr) (c : Nat) (k : Int) (w : World) (h : w.cell? ⟨b, 1, none⟩ = some (.slice a 0 c)) :
    Calls Try.prog 24 #[.pointer (some ⟨b, 0, none⟩), .int .i64 k] w fun e w' => e = .returned (Tr.val ⟨false, 1, 1⟩) ∧ ∃ A, w' = w.alloc A := by
  have hbl : b < w.heap.size := World.block_lt_of_cell? w _ h
  go_enter Try.func24, Try.ntmps24
  go_wp2
  refine bodyPost_ret (v := Tr.val ⟨false, 1, 1⟩) (by simp [results, Try.results24, go_sem, Tr.val]) rfl ⟨rfl, _, rfl⟩

set_option maxHeartbeats 400000 in
theorem trouble_some (b g n c k : Nat) (l : Bool) (cp d : Int) (w : World) (hn : 0 < n) (_hnc : n ≤ c) (_hcm : c ≤ 9223372036854775807) (hk : k ≤ 1000000)
    (h : w.cell? ⟨b, 1, none⟩ = some (.slice (some ⟨g, 0, none⟩) n c)) (h0 : w.cell? ⟨g, k % n * 3, none⟩ = some (.bool l)) (h1 : w.cell? ⟨g, k % n * 3 + 1, none⟩ = some (.int .i64 cp)) (h2 : w.cell? ⟨g, k % n * 3 + 1 + 1, none⟩ = some (.int .i64 d)) :
    Calls Try.prog 24 #[.pointer (some ⟨b, 0, none⟩), .int .i64 k] w fun e w' => e = .returned (Tr.val ⟨l, min (max cp 1) 8, max d 0⟩) ∧ Only (fun _ => False) w w' := by
  have hnb : ((n : Int) == 0) = false := beq_eq_false_iff_ne.2 (by omega)
  have hmod : k % n < n := Nat.mod_lt _ hn
  have hbl : b < w.heap.size := World.block_lt_of_cell? w _ h
  have hgl : g < w.heap.size := World.block_lt_of_cell? w _ h0
  go_enter Try.func24, Try.ntmps24
  go_wp2
  go_region
  go_wp2
  all_goals
    refine bodyPost_ret (by simp [results, Try.results24, go_sem]; rfl) rfl ⟨?_, (((Only.refl _ w).alloc _).alloc _).drew⟩
    simp [Tr.val]
    omega

theorem trow_length (q : List Tr) : (trow q).length = q.length * 3 := by
  induction q with
  | nil => rfl
  | cons x q ih => simp only [trow, List.length_append, ih, List.length_cons, Tr.cells, List.length_nil]; omega
theorem trow_append (q r : List Tr) : trow (q ++ r) = trow q ++ trow r := by
  induction q with
  | nil => rfl
  | cons x q ih => simp only [List.cons_append, trow, ih, List.append_assoc]
theorem trow_one (x : Tr) : trow [x] = x.cells := by simp [trow]
theorem trow_get (q : List Tr) (i k : Nat) (hi : i < q.length) (hk : k < 3) : (trow q)[i * 3 + k]? = (tel q i).cells[k]? := by
  induction q generalizing i with
  | nil => simp at hi
  | cons x q ih =>
    have hl : x.cells.length = 3 := rfl
    cases i with
    | zero =>
      simp only [trow, Nat.zero_mul, Nat.zero_add]
      rw [List.getElem?_append_left (by rw [hl]; omega)]; rfl
    | succ i =>
      simp only [trow]
      rw [List.getElem?_append_right (by rw [hl]; omega), hl, show (i + 1) * 3 + k - 3 = i * 3 + k by omega, ih i (by simpa using hi)]
      rfl
theorem Tr.one (x : Tr) : ∀ u ∈ x.cells, u.oneCell' = true := by
  intro u hu
  simp only [Tr.cells, List.mem_cons, List.not_mem_nil, or_false] at hu
  rcases hu with rfl | rfl | rfl <;> rfl
theorem trow_one' (q : List Tr) : ∀ u ∈ trow q, u.oneCell' = true := by
  induction q with
  | nil => intro u hu; simp [trow] at hu
  | cons x q ih =>
    intro u hu
    rw [trow, List.mem_append] at hu
    rcases hu with h | h
    · exact x.one u h
    · exact ih u h

/-- The script's value sv has the row s. -/
abbrev ScriptAt (w : World) (sv : Value) (s : List Tr) : Prop := w.ownsRow 0 44 3 sv s.length (trow s)

theorem trouble_any (b k : Nat) (sv : Value) (s : List Tr) (w : World) (hk : k ≤ 1000000) (h : w.cell? ⟨b, 1, none⟩ = some sv) (hs : ScriptAt w sv s) :
    Calls Try.prog 24 #[.pointer (some ⟨b, 0, none⟩), .int .i64 k] w fun e w' => e = .returned (trOf s k).val ∧ Only (fun _ => False) w w' := by
  by_cases h0 : s.length = 0
  · have hv : ∃ a c, sv = .slice a 0 c := by
      rcases hs.2 with ⟨h', _⟩ | ⟨g, cap, cur, h', _⟩
      · exact ⟨none, 0, h'⟩
      · rw [h0] at h'; exact ⟨_, _, h'⟩
    obtain ⟨a, c, rfl⟩ := hv
    refine (trouble_nil b a c k w h).mono ?_
    rintro e w' ⟨rfl, A, rfl⟩
    exact ⟨by simp [trOf, h0], (Only.refl _ w).alloc _⟩
  · obtain ⟨g, c, rfl, _, _⟩ := hs.form (by omega)
    have hmod : k % s.length < s.length := Nat.mod_lt _ (by omega)
    have hcap : s.length ≤ c ∧ c ≤ maxLen := by
      rcases hs.2 with ⟨h', _⟩ | ⟨g', cap', cur, h', _, hg, h1, h2, _, htake⟩
      · simp at h'
      · simp only [Value.slice.injEq, Option.some.injEq, Addr.mk.injEq, and_true, true_and] at h'
        obtain ⟨rfl, rfl⟩ := h'
        exact ⟨h1, h2⟩
    have hc2 := hcap.2
    unfold maxLen at hc2
    have hcell : ∀ j, j < 3 → w.cell? ⟨g, k % s.length * 3 + j, none⟩ = (tel s (k % s.length)).cells[j]? := fun j hj => by
      rw [hs.cellAt _ (by omega), trow_get s _ j hmod hj]
    refine (trouble_some b g s.length c k _ _ _ w (by omega) hcap.1 (by omega) hk h (hcell 0 (by omega)) (hcell 1 (by omega)) (hcell 2 (by omega))).mono ?_
    rintro e w' ⟨rfl, hO⟩
    exact ⟨by simp [trOf, h0], hO⟩

theorem waiting_core (b n c : Nat) (a : Option Addr) (w : World) (h : w.cell? ⟨b, 4, none⟩ = some (.slice a n c)) :
    Calls Try.prog 21 #[.pointer (some ⟨b, 0, none⟩)] w fun e w' => e = .returned (.int .i64 n) ∧ w = w' := by
  go_enter Try.func21, Try.ntmps21
  go_wp2
  go_ret
  exact ⟨rfl, rfl⟩
theorem waiting_nil (w : World) :
    Calls Try.prog 21 #[.pointer none] w fun e w' => e = .returned (.int .i64 0) ∧ w = w' := by
  go_enter Try.func21, Try.ntmps21
  go_wp2
  go_ret
  exact ⟨rfl, rfl⟩

end Go.Proofs.Yteblaedfjifdhaa
