/-
  The walks of New (with slices.Clone).
-/
import Derived.Test.YteblaedfjifdhaaSend2
namespace Go.Proofs.Yteblaedfjifdhaa
open Go.RowKit

theorem Try.info44 : (Try.prog.info? 44).map (fun i => (i.zero, i.size, i.bytes)) = some (some (.agg #[.bool false, .int .i64 0, .int .i64 0]), 3, 24) := by kernel_rfl

/-- A slice that reads as the script s. -/
def SrcAt (w : World) (sv : Value) (s : List Tr) : Prop :=
  (sv = .slice none 0 0 ∧ s = []) ∨ ∃ a c, sv = .slice (some a) s.length c ∧ ∀ j u, (trow s)[j]? = some u → w.cell? (a.add j) = some u
theorem SrcAt.of_own {w : World} {sv : Value} {s : List Tr} {base : Nat} (h : w.ownsRow base 44 3 sv s.length (trow s)) : SrcAt w sv s := by
  rcases h.2 with ⟨h', h0⟩ | ⟨g, cap, cur, h', hb, hg, r⟩
  · exact .inl ⟨h', List.eq_nil_of_length_eq_zero h0⟩
  · subst h'
    exact .inr ⟨_, _, rfl, fun j u hu => h.cells rfl j u hu⟩
theorem SrcAt.frame {w w' : World} {sv : Value} {s : List Tr} (h : SrcAt w sv s) {S : Nat → Prop} (hO : Only S w w') (hS : ∀ k, sv.ownBlock = some k → ¬ S k) : SrcAt w' sv s := by
  rcases h with h | ⟨a, c, rfl, hc⟩
  · exact .inl h
  · refine .inr ⟨a, c, rfl, fun j u hu => hO.cell (hc j u hu) ?_⟩
    have : (a.add j).block = a.block := by unfold Addr.add; split <;> rfl
    rw [this]; exact hS _ rfl

set_option maxHeartbeats 400000 in
theorem clone_nil (w : World) : Calls Try.prog 23 #[.slice none 0 0] w fun e w' => e = .returned (.slice none 0 0) ∧ w = w' := by
  have q1 := fun (w : World) (a : Option Addr) (n c n' c' : Nat) => Lib.run_eql_slice_nil (P := Try.prog) w 22 _ a n c n' c' Try.underlying22
  go_enter Try.func23, Try.ntmps23
  go_wp2
  go_ret
  exact ⟨rfl, rfl⟩

/-- What Clone hands back. -/
def Cloned (w : World) (s : List Tr) (e : Ending) (w' : World) : Prop := ∃ a c, e = .returned (.slice a s.length c) ∧ w'.ownsRow w.heap.size 44 3 (.slice a s.length c) s.length (trow s) ∧ Only (fun _ => False) w w'

set_option maxHeartbeats 400000 in
theorem clone_some (w : World) (a : Addr) (c : Nat) (s : List Tr) (hc : ∀ j u, (trow s)[j]? = some u → w.cell? (a.add j) = some u) (hl : s.length ≤ 1000000) :
    Calls Try.prog 23 #[.slice (some a) s.length c] w (Cloned w s) := by
  obtain ⟨i0, hi, hz0, hz1, hz2⟩ := info_parts Try.info44
  have q1 := fun (w : World) (a : Option Addr) (n c n' c' : Nat) => Lib.run_eql_slice_nil (P := Try.prog) w 22 _ a n c n' c' Try.underlying22
  have HC := Lib.hid hc
  clear hc
  go_enter Try.func23, Try.ntmps23
  go_wp2_with (at_builtin; refine wpList_append_own _ rfl _ _ 22 rfl w.heap.size 44 i0 _ 3 24 Try.underlying22 hi hz0 hz1 hz2 rfl (by decide) _ 0 [] rfl (World.ownsRow_lit w #[] 0 (Nat.le_refl _) (Nat.zero_le _) rfl) a s.length c (trow s) rfl (trow_length s) ?c2 (trow_one' s) ?c3 ?c4 (by simp) ?_)
  case c2 => exact fun j u hu => cell_later ((Below.refl _ w).alloc (Nat.le_refl _) _) (HC.out j u hu)
  case c3 => exact Nat.le_trans (by omega) (show (1000000 : Nat) ≤ maxLen by decide)
  case c4 => omega
  intro v' w1 hown hgrow _
  go_wp2
  go_ret
  obtain ⟨a', c', rfl⟩ := slice_of_own hown
  exact ⟨a', c', rfl, hown, ((Only.refl _ w).alloc _).grown hgrow (fun k e hk => by simp [Value.ownBlock] at e; omega)⟩

theorem clone_any (w : World) (sv : Value) (s : List Tr) (h : SrcAt w sv s) (hl : s.length ≤ 1000000) : Calls Try.prog 23 #[sv] w (Cloned w s) := by
  rcases h with ⟨rfl, rfl⟩ | ⟨a, c, rfl, hc⟩
  · refine (clone_nil w).mono ?_
    rintro e w' ⟨rfl, rfl⟩
    exact ⟨none, 0, rfl, World.ownsRow_nil w _ _ _, Only.refl _ _⟩
  · exact clone_some w a c s hc hl

/-- A new net. -/
def newNS (nodes : Int) (s : List Tr) : NS := ⟨nodes, s, fun _ => 0, 0, []⟩
def Newed (w : World) (N : NS) (e : Ending) (w' : World) : Prop :=
  ∃ b F, e = .returned (.pointer (some ⟨b, 0, none⟩)) ∧ NetAt w' F b N ∧ (∀ k, F k → w.heap.size ≤ k) ∧ Only (fun _ => False) w w'

theorem netAt_new {w w1 : World} {nodes : Int} {s : List Tr} {v : Value} (hown : w1.ownsRow w.heap.size 44 3 v s.length (trow s)) (hO : Only (fun _ => False) w w1) :
    ∃ F, NetAt (w1.alloc (.cells #[.int .i64 nodes, v, .map none, .int .i64 0, .slice none 0 0] 56)) F w1.heap.size (newNS nodes s) ∧ ∀ k, F k → w.heap.size ≤ k := by
  have hs := hO.size
  refine ⟨fun k => w.heap.size ≤ k ∧ k ≤ w1.heap.size, ⟨v, none, .slice none 0 0, [], ⟨heap_alloc_new w1 _, rfl, World.ownsRow_nil _ _ _ _, by simp [Value.ownBlock], fun i _ h => by simp at h, by simp⟩, List.Perm.refl _, ?_, .inl ⟨rfl, fun _ => rfl⟩,
    ⟨hs, Nat.le_refl _⟩, fun k e => by simp [Value.ownBlock] at e, fun k e => ?_, (fun k e => by cases e), fun k hk => by simp; omega⟩, fun k hk => hk.1⟩
  · have := hown.alloc (.cells #[.int .i64 nodes, v, .map none, .int .i64 0, .slice none 0 0] 56)
    exact ⟨this.1, by
      rcases this.2 with h | ⟨g, cap, cur, h1, _, h3⟩
      · exact .inl h
      · exact .inr ⟨g, cap, cur, h1, Nat.zero_le _, h3⟩⟩
  · have := hown.lt k e
    exact ⟨⟨this.1, by omega⟩, by omega, by simp [Value.ownBlock]⟩

set_option maxHeartbeats 400000 in
theorem new_any (w : World) (nodes : Int) (sv : Value) (s : List Tr) (h : SrcAt w sv s) (hl : s.length ≤ 1000000) : Calls Try.prog 13 #[.int .i64 nodes, sv] w (Newed w (newNS nodes s)) := by
  have HS := Lib.hid h
  clear h
  go_enter Try.func13, Try.ntmps13
  go_wp2_with (go_at_call 23; refine (clone_any _ _ s HS.out hl).mono ?_; rintro e w' ⟨a, c, rfl, hown, hO⟩)
  go_ret
  obtain ⟨F, h1, h2⟩ := netAt_new (nodes := nodes) hown hO
  exact ⟨_, F, rfl, h1, h2, hO.alloc _⟩
end Go.Proofs.Yteblaedfjifdhaa
