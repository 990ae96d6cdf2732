/-
  The walk of the laws' own function script.
-/
import Derived.Test.YteblaedfjifdhaaSane
namespace Go.Proofs.Yteblaedfjifdhaa
open Go.RowKit

/-- A slice that reads as the troubles l. -/
def TrsAt (w : World) (lv : Value) (l : List Tr) : Prop :=
  (∃ a c, lv = .slice a 0 c ∧ l = []) ∨ ∃ gb off c, lv = .slice (some ⟨gb, off, none⟩) l.length c ∧ gb < w.heap.size ∧ l.length ≤ c ∧ c ≤ maxLen ∧
    ∀ j, j < l.length → w.cell? ⟨gb, off + j * 3, none⟩ = some (.bool (tel l j).lost) ∧ w.cell? ⟨gb, off + j * 3 + 1, none⟩ = some (.int .i64 (tel l j).copies) ∧ w.cell? ⟨gb, off + j * 3 + 1 + 1, none⟩ = some (.int .i64 (tel l j).delay)
def TrsWf (l : List Tr) : Prop := ∀ j, j < l.length → -9223372036854775808 ≤ (tel l j).delay ∧ (tel l j).delay ≤ 9223372036854775807

theorem TrsAt.frame {w w' : World} {lv : Value} {l : List Tr} (h : TrsAt w lv l) (hO : Only (fun _ => False) w w') : TrsAt w' lv l := by
  rcases h with h | ⟨gb, off, c, rfl, h1, h2, h3, hc⟩
  · exact .inl h
  · exact .inr ⟨gb, off, c, rfl, Nat.lt_of_lt_of_le h1 hO.size, h2, h3, fun j hj => ⟨hO.cell (hc j hj).1 (fun h => h), hO.cell (hc j hj).2.1 (fun h => h), hO.cell (hc j hj).2.2 (fun h => h)⟩⟩
def cutTr (t : Tr) : Tr := ⟨t.lost, t.copies, t.delay.tmod 100000⟩
def scriptTo (l : List Tr) : Nat → List Tr
  | 0 => []
  | k + 1 => scriptTo l k ++ [cutTr (tel l k)]
def scriptOf (l : List Tr) : List Tr := scriptTo l (min l.length 12)
theorem scriptTo_length (l : List Tr) (k : Nat) : (scriptTo l k).length = k := by
  induction k with
  | zero => rfl
  | succ k ih => simp [scriptTo, ih]
theorem scriptOf_length (l : List Tr) : (scriptOf l).length ≤ 12 := by rw [scriptOf, scriptTo_length]; omega
theorem tmod_bd (z : Int) : -100000 < z.tmod 100000 ∧ z.tmod 100000 < 100000 := ⟨Int.lt_tmod_of_pos z (by decide), Int.tmod_lt_of_pos z (by decide)⟩
theorem mem_scriptTo {l : List Tr} {k : Nat} {t : Tr} (h : t ∈ scriptTo l k) : -100000 < t.delay ∧ t.delay < 100000 := by
  induction k with
  | zero => cases h
  | succ k ih =>
    rcases List.mem_append.1 h with h | h
    · exact ih h
    · rw [List.mem_singleton] at h
      subst h
      exact tmod_bd _
theorem trOf_delay {l : List Tr} (k : Nat) : (trOf (scriptOf l) k).delay ≤ 100000 := by
  unfold trOf
  split
  · simp
  · rename_i h
    have hm : tel (scriptOf l) (k % (scriptOf l).length) ∈ scriptOf l := by
      have := Nat.mod_lt k (show 0 < (scriptOf l).length by omega)
      simp [tel, this]
    have := mem_scriptTo hm
    simp only; omega

theorem News2.of (w : World) (A : Obj) (cs : List Value) (T : TypeId) : ∀ j u, cs[j]? = some u → ((w.alloc A).alloc (.cells cs.toArray T)).cell? ((⟨w.heap.size + 1, 0, none⟩ : Addr).add j) = some u := news2 w A cs T

/-- What script hands back. -/
def Scripted (w : World) (s : List Tr) (e : Ending) (w' : World) : Prop := ∃ a c, e = .returned (.slice a s.length c) ∧ w'.ownsRow w.heap.size 44 3 (.slice a s.length c) s.length (trow s) ∧ Only (fun _ => False) w w'

set_option maxHeartbeats 1000000 in
theorem script_any (w : World) (lv : Value) (l : List Tr) (h : TrsAt w lv l) (hwf : TrsWf l) : Calls Try.prog 12 #[lv] w (Scripted w (scriptOf l)) := by
  obtain ⟨i0, hi, hz0, hz1, hz2⟩ := info_parts Try.info44
  have hgs : ∃ a c, lv = .slice a l.length c ∧ l.length ≤ maxLen := by
    rcases h with ⟨a, c, rfl, rfl⟩ | ⟨gb, off, c, rfl, _, h1, h2, _⟩
    · exact ⟨a, c, rfl, Nat.zero_le _⟩
    · exact ⟨_, _, rfl, Nat.le_trans h1 h2⟩
  obtain ⟨a, c, rfl, hml⟩ := hgs
  unfold maxLen at hml
  go_enter Try.func12, Try.ntmps12
  go_wp2
  go_loopw [3, 4] (fun v vi wr => ∃ (k : Nat) (a : Option Addr) (c : Nat), v = .slice a k c ∧ vi = .int .i64 k ∧ k ≤ l.length ∧ k ≤ 12 ∧ wr.ownsRow w.heap.size 44 3 (.slice a k c) k (trow (scriptTo l k)) ∧ Only (fun _ => False) w wr) (fun _ vi _ => 12 - (intOf vi).toNat)
  case atStart => exact ⟨0, none, 0, rfl, rfl, Nat.zero_le _, Nat.zero_le _, World.ownsRow_nil _ _ _ _, Only.refl _ _⟩
  case round =>
    obtain ⟨k, a', c', rfl, rfl, hk, hk12, hown, hO⟩ := hrel
    have hsz := hO.size
    by_cases hlt : k < l.length
    · by_cases hlt2 : k < 12
      · rcases h with ⟨_, _, _, rfl⟩ | ⟨gb, off, c1, hgv, hgl, _, _, hcs⟩
        · simp at hlt
        · simp only [Value.slice.injEq, true_and] at hgv
          obtain ⟨rfl, rfl⟩ := hgv
          obtain ⟨e0, e1, e2⟩ := hcs k hlt
          have d0 := hO.cell e0 (fun h => h)
          have d1 := hO.cell e1 (fun h => h)
          have d2 := hO.cell e2 (fun h => h)
          have hgl' : gb < wr.heap.size := by omega
          obtain ⟨b1, b2⟩ := hwf k hlt
          have ht : ∃ t, tel l k = t := ⟨_, rfl⟩
          obtain ⟨⟨lo, cp, dl⟩, ht⟩ := ht
          rw [ht] at d0 d1 d2 b1 b2
          dsimp only at d0 d1 d2 b1 b2
          have HT := Lib.hid ht
          clear ht hcs e0 e1 e2 hwf
          have htm : -100000 < dl.tmod 100000 ∧ dl.tmod 100000 < 100000 := tmod_bd dl
          obtain ⟨t1, t2⟩ := htm
          go_wp2_with (at_builtin; refine wpList_append_own _ rfl _ _ 22 rfl w.heap.size 44 i0 _ 3 24 Try.underlying22 hi hz0 hz1 hz2 rfl (by decide) _ k (trow (scriptTo l k)) rfl ((hown.alloc _).alloc _) ⟨wr.heap.size + 1, 0, none⟩ 1 1 (Tr.cells ⟨lo, cp, dl.tmod 100000⟩) rfl rfl ?c1 (Tr.one _) ?c3 ?c4 ?c5 ?_)
          case c1 => exact News2.of wr _ _ _
          case c3 => unfold maxLen; omega
          case c4 => omega
          case c5 => simp; omega
          intro v' w1 hown1 hgrow1 _
          obtain ⟨a2, c2, hv⟩ := slice_of_own hown1
          rw [hv] at hown1 ⊢
          have hown2 : w1.ownsRow w.heap.size 44 3 (.slice a2 (k + 1) c2) (k + 1) (trow (scriptTo l (k + 1))) := by
            rw [scriptTo, trow_append, trow_one, HT.out]; exact hown1
          have hO2 : Only (fun _ => False) w w1 := by
            refine ((hO.alloc _).alloc _).grown hgrow1 (fun i e hi => ?_)
            have := hown.lt i e
            omega
          clear hown1 hgrow1 d0 d1 d2 hv
          go_wp2
          go_roundw
          case rel => exact ⟨k + 1, a2, c2, rfl, by go_num, by omega, by omega, hown2, hO2⟩
          case measure => simp [intOf]; omega
      · have hd : decide ((k : Int) < 12) = false := by simp; omega
        go_wp2
        go_ret
        refine ⟨a', c', ?_, ?_, hO⟩
        · rw [scriptOf, scriptTo_length, show min l.length 12 = k by omega]; rfl
        · rw [scriptOf, scriptTo_length, show min l.length 12 = k by omega]; exact hown
    · go_wp2
      go_ret
      refine ⟨a', c', ?_, ?_, hO⟩
      · rw [scriptOf, scriptTo_length, show min l.length 12 = k by omega]; rfl
      · rw [scriptOf, scriptTo_length, show min l.length 12 = k by omega]; exact hown
end Go.Proofs.Yteblaedfjifdhaa
