/-
  The reference's groups: Polynomial, Boxes. The reference's groups: Check, fits where they hold; mixed. The reference's groups: Mod, next, Crew. The reference's groups: Dealings. The reference's groups: dealings as a list. The reference's groups: a crew is right. The reference's groups: what is dealt passes the check. The reference's groups: Begin, where it begins. The reference's groups: Made. The reference's groups: Made. The reference's groups: At, Chosen.
  Plain: what Join and Lift return of shares of a polynomial, whatever else comes.
  The program's dealings: members, Check; package weight: total, dealt.
  Package weight: dealt, Begin.
  The reference's Check, fits and Begin in general.
  Package weight: Begin.
  The reference's Begin in general. Package weight: Right; the reference's Commits.
  The reference's Commits; plain: the keys of a group that was made. Plain: the made group is right, its dealings fit. The laws' own function bent.
-/
import Derived.Test.YtlhfgbkonmgahaaGreatDoorPt14
import Derived.Test.YtlhfgbkonmgahaaGreatDoorPt05
import Derived.Test.YtlhfgbkonmgahaaGreatDoorPt02
import Derived.Maps.AppendAt
import Derived.Deep.RegionLaw
import Derived.Test.YtlhfgbkonmgahaaGreatDoorPt11
import Derived.Deep.OwnRows
import Derived.Laws.OwnMore
namespace Go.Proofs.YtlhfgbkonmgahaaGreatDoor
open Go.RowKit

def coefS (i : Nat) (seed : ByteArray) : ByteArray := (⟨#[99, 111, 101, 102, 102, 105, 99, 105, 101, 110, 116, 32]⟩ : ByteArray) ++ decB i ++ ⟨#[32, 111, 102, 32]⟩ ++ seed
def polyTo (seed : ByteArray) : Nat → List Int
  | 0 => []
  | k + 1 => polyTo seed k ++ [scalarZ (coefS k seed)]
theorem polyTo_len (seed : ByteArray) : ∀ k, (polyTo seed k).length = k
  | 0 => rfl
  | k + 1 => by rw [polyTo, List.length_append, polyTo_len seed k]; rfl
theorem polyTo_bd (seed : ByteArray) : ∀ k j, 0 ≤ ptAt (polyTo seed k) j ∧ ptAt (polyTo seed k) j < 1152921504606845789
  | 0, j => by simp [polyTo, ptAt]
  | k + 1, j => by
    rw [polyTo, ptAt_snoc]
    split
    · exact scalarZ_bd _
    · exact polyTo_bd seed k j
/-- A list of numbers in a block of its own comes back. -/
def ListPost (w : World) (l : List Int) (e : Ending) (w' : World) : Prop := ∃ v, e = .returned v ∧ w'.ownsRow w.heap.size 3 1 v l.length (irow l) ∧ Only (fun _ => False) w w'

/-- The keys, one for each point. -/
def boxTo (l : List Mb) : Nat → List Int
  | 0 => []
  | k + 1 => boxTo l k ++ List.replicate (mbAt l k).wt.toNat (mbAt l k).pb
theorem boxTo_len (l : List Mb) (h : ∀ j, 0 ≤ (mbAt l j).wt) : ∀ k, ((boxTo l k).length : Int) = sumTo l k
  | 0 => rfl
  | k + 1 => by
    rw [boxTo, List.length_append, List.length_replicate, sumTo, ← boxTo_len l h k]
    have := h k
    omega

end Go.Proofs.YtlhfgbkonmgahaaGreatDoor

namespace Go.Proofs.YtlhfgbkonmgahaaGreatDoor
open Go.RowKit

theorem StrsAt.cellAt {W : World} {a : Option Addr} {len c k : Nat} {l : List ByteArray} (h : StrsAt W (.slice a len c) l) (hk : k < l.length) :
    ∃ b off, a = some ⟨b, off, none⟩ ∧ b < W.heap.size ∧ l.length ≤ c ∧ c ≤ 9223372036854775807 ∧ W.cell? ⟨b, off + k, none⟩ = some (.string (sAt l k)) := by
  rcases h with ⟨_, _, _, h0⟩ | ⟨b, off, cap, hv, hb, h1, h2, hc⟩
  · rw [h0] at hk; simp at hk
  · simp only [Value.slice.injEq] at hv
    obtain ⟨rfl, _, rfl⟩ := hv
    exact ⟨b, off, rfl, hb, h1, h2, hc k hk⟩
/-- A dealing is in form. -/
structure ChkOk (d : Dl) (n : Nat) : Prop where
  bl : d.bx.length = n
  c1 : 1 ≤ d.cm.length
  c2 : d.cm.length ≤ n
  pt : memB d.pt = true
  cm : membersB d.cm = true
  b16 : ∀ j, j < n → (sAt d.bx j).size = 16

def dlAt (l : List Dl) (j : Nat) : Dl := l.getD j ⟨[], 0, []⟩
/-- Dealings in a slice. -/
def DlsAt (W : World) (sv : Value) (l : List Dl) : Prop :=
  (∃ a c, sv = .slice a 0 c ∧ l = []) ∨ ∃ b off cap, sv = .slice (some ⟨b, off, none⟩) l.length cap ∧ b < W.heap.size ∧ l.length ≤ cap ∧ cap ≤ 9223372036854775807 ∧
    ∀ j, j < l.length → ∃ c0 c2, W.cell? ⟨b, off + j * 3, none⟩ = some c0 ∧ W.cell? ⟨b, off + j * 3 + 1, none⟩ = some (.int .i64 (dlAt l j).pt) ∧ W.cell? ⟨b, off + j * 3 + 2, none⟩ = some c2 ∧ DlAt W c0 (.int .i64 (dlAt l j).pt) c2 (dlAt l j)
theorem DlsAt.only {A B : World} (h : Only (fun _ => False) A B) {sv : Value} {l : List Dl} : DlsAt A sv l → DlsAt B sv l
  | .inl e => .inl e
  | .inr ⟨b, off, cap, e, hb, h1, h2, hc⟩ => .inr ⟨b, off, cap, e, Nat.lt_of_lt_of_le hb h.size, h1, h2, fun j hj => by
      obtain ⟨c0, c2, x0, x1, x2, hd⟩ := hc j hj
      exact ⟨c0, c2, h.cell x0 (fun h => h), h.cell x1 (fun h => h), h.cell x2 (fun h => h), hd.only h⟩⟩
theorem DlsAt.slice {W : World} {v : Value} {l : List Dl} (h : DlsAt W v l) : ∃ a c, v = .slice a l.length c := by
  rcases h with ⟨a, c, rfl, rfl⟩ | ⟨b, off, cap, rfl, _⟩
  · exact ⟨_, _, rfl⟩
  · exact ⟨_, _, rfl⟩
theorem DlsAt.cellAt {W : World} {a : Option Addr} {len c k : Nat} {l : List Dl} (h : DlsAt W (.slice a len c) l) (hk : k < l.length) :
    ∃ b off c0 c2, a = some ⟨b, off, none⟩ ∧ b < W.heap.size ∧ l.length ≤ c ∧ c ≤ 9223372036854775807 ∧ W.cell? ⟨b, off + k * 3, none⟩ = some c0 ∧ W.cell? ⟨b, off + k * 3 + 1, none⟩ = some (.int .i64 (dlAt l k).pt) ∧ W.cell? ⟨b, off + k * 3 + 2, none⟩ = some c2 ∧ DlAt W c0 (.int .i64 (dlAt l k).pt) c2 (dlAt l k) := by
  rcases h with ⟨_, _, _, h0⟩ | ⟨b, off, cap, hv, hb, h1, h2, hc⟩
  · rw [h0] at hk; simp at hk
  · simp only [Value.slice.injEq] at hv
    obtain ⟨rfl, _, rfl⟩ := hv
    obtain ⟨c0, c2, x0, x1, x2, hd⟩ := hc k hk
    exact ⟨b, off, c0, c2, rfl, hb, h1, h2, x0, x1, x2, hd⟩

/-- The product of powers of commitments. -/
def mixTo (l : List Dl) (pw : List Int) (j : Nat) : Nat → Int
  | 0 => 1
  | k + 1 => mixTo l pw j k * powM (ptAt (dlAt l k).cm j) (ptAt pw k) 2305843009213691579 % 2305843009213691579
def mixL (l : List Dl) (pw : List Int) : Nat → List Int
  | 0 => []
  | m + 1 => mixL l pw m ++ [mixTo l pw m l.length]
theorem mixL_len (l : List Dl) (pw : List Int) : ∀ m, (mixL l pw m).length = m
  | 0 => rfl
  | m + 1 => by rw [mixL, List.length_append, mixL_len l pw m]; rfl

end Go.Proofs.YtlhfgbkonmgahaaGreatDoor

namespace Go.Proofs.YtlhfgbkonmgahaaGreatDoor
open Go.RowKit

/-- The t-th number that is read. -/
def nxT (zs : List Int) (t : Nat) (n : Int) : Int := if t < zs.length then ptAt zs t % n else 0
theorem nxT_bd (zs : List Int) (t : Nat) (n : Int) (hn : 0 < n) : 0 ≤ nxT zs t n ∧ nxT zs t n < n := by
  unfold nxT; split
  · exact emod_self_lt _ _ hn
  · omega
def memS (n : Nat) : ByteArray := (⟨#[109, 101, 109, 98, 101, 114, 32]⟩ : ByteArray) ++ decB n
def crewTo (zs : List Int) (first : Nat) : Nat → List Mb
  | 0 => []
  | k + 1 => crewTo zs first k ++ [⟨first + k, 1 + nxT zs (1 + k) 3, keyP (memS (first + k))⟩]
def secTo (first : Nat) : Nat → List Int
  | 0 => []
  | k + 1 => secTo first k ++ [keyS (memS (first + k))]
theorem crewTo_len (zs : List Int) (first : Nat) : ∀ k, (crewTo zs first k).length = k
  | 0 => rfl
  | k + 1 => by rw [crewTo, List.length_append, crewTo_len zs first k]; rfl
theorem secTo_len (first : Nat) : ∀ k, (secTo first k).length = k
  | 0 => rfl
  | k + 1 => by rw [secTo, List.length_append, secTo_len first k]; rfl
def manyZ (zs : List Int) : Nat := (1 + nxT zs 0 4).toNat

theorem own_lt0 {w : World} {g : Nat} {o : Obj} (h : w.heap[g]? = some o) : g < w.heap.size := (Array.getElem?_eq_some_iff.1 h).1
theorem three_int (a b c : Int) : ∀ u ∈ [Value.int .i64 a, .int .i64 b, .int .i64 c], u.oneCell' = true := by
  intro u hu
  simp at hu
  rcases hu with rfl | rfl | rfl <;> rfl
def CrewPost (w : World) (zs : List Int) (first : Nat) (e : Ending) (w' : World) : Prop := Only (fun _ => False) w w' ∧ ∃ vm vs, e = .returned (.tuple #[vm, vs]) ∧ MbsAt w' vm (crewTo zs first (manyZ zs)) ∧ PtsAt w'.heap.size w' vs (secTo first (manyZ zs))

end Go.Proofs.YtlhfgbkonmgahaaGreatDoor

namespace Go.Proofs.YtlhfgbkonmgahaaGreatDoor
open Go.RowKit

def dlSeed (seed : ByteArray) (id : Nat) : ByteArray := seed ++ ⟨#[32]⟩ ++ decB id
def dlOf (l : List Mb) (seed : ByteArray) (nd k : Nat) : Dl := dealZ (polyTo (dlSeed seed (mbAt l k).id.toNat) nd) (boxTo l l.length) (dlSeed seed (mbAt l k).id.toNat)
def dlsTo (l : List Mb) (seed : ByteArray) (nd : Nat) : Nat → List Dl
  | 0 => []
  | k + 1 => dlsTo l seed nd k ++ [dlOf l seed nd k]
theorem dlsTo_len (l : List Mb) (seed : ByteArray) (nd : Nat) : ∀ k, (dlsTo l seed nd k).length = k
  | 0 => rfl
  | k + 1 => by rw [dlsTo, List.length_append, dlsTo_len l seed nd k]; rfl
/-- Members that are right, with ids that are small, and keys that are members. -/
structure CrewOk (l : List Mb) (nd : Nat) : Prop where
  w : MbsW l
  len1 : 1 ≤ l.length
  len2 : l.length ≤ 13
  id : ∀ j, j < l.length → 0 ≤ (mbAt l j).id ∧ (mbAt l j).id ≤ 2000
  wt : ∀ j, 0 ≤ (mbAt l j).wt ∧ (mbAt l j).wt ≤ 20
  box : membersB (boxTo l l.length) = true
  many : (boxTo l l.length).length ≤ 60
  ndz : needZ (totZ l) = nd
  nd1 : 1 ≤ nd
  nd2 : nd ≤ (boxTo l l.length).length
  tot : totZ l ≤ 1000000
/-- The cells of dealings, one behind the other. -/
def rowD (qs : List (Value × Dl × Value)) : List Value := qs.flatMap fun q => [q.1, .int .i64 q.2.1.pt, q.2.2]
theorem rowD_append (a : List (Value × Dl × Value)) (q : Value × Dl × Value) : rowD (a ++ [q]) = rowD a ++ [q.1, .int .i64 q.2.1.pt, q.2.2] := by simp [rowD]
def DlS (b o : Nat) (x : Int) (w3 w' : World) : Prop := w'.cell? ⟨b, o, none⟩ = some (.int .i64 x) ∧ Only (fun _ => False) w3 w'
theorem dlS_only {b o : Nat} {x : Int} {w3 A B : World} (hO : Only (fun _ => False) A B) (h : A.cell? ⟨b, o, none⟩ = some (.int .i64 x) ∧ Only (fun _ => False) w3 A) : B.cell? ⟨b, o, none⟩ = some (.int .i64 x) ∧ Only (fun _ => False) w3 B := ⟨hO.cell h.1 id, h.2.trans hO⟩
theorem dl_blk {A B : World} {o : Obj} (hO : Only (fun _ => False) (A.alloc o) B) : B.heap[A.heap.size]? = some o := by
  rw [hO.block A.heap.size (by simp) id]; exact heap_alloc_last A o
theorem step_store_row {P : Program} {w : World} {ops : Array Oper} {o : Oper} {a : Act} {K : Act → World → Prop} {Q : Exit → Act → World → Prop} {E : Prop} (hgd : o.guard = none) (ty : TypeId) (x y : Operand) (ho : o.op = .store ty x y)
    (g : Nat) (cells : Array Value) (hx : a.eval x = .pointer (some ⟨g, 0, none⟩)) (hy : a.eval y = .agg cells)
    (t : TypeId) (old : Array Value) (hg : w.heap[g]? = some (.cells old t (0, 0))) (hi : (P.info? ty).map (·.size) = some cells.size)
    (hold : old.size = cells.size) (h1 : cells.all (·.oneCell') = true)
    (h : K (a.put o.dst undef) (w.setRow g cells)) : if Region.wanted o (yielded ops a.tmps) = true then Oper.wp P o a w K Q else E := by
  have hw : Region.wanted o (yielded ops a.tmps) = true := by simp [Region.wanted, hgd]
  rw [if_pos hw]
  exact wp_store_row ty x y ho g cells hx hy t old hg hi hold h1 h
theorem dl_row {a w : World} {g : Nat} {cs : Array Value} (h : Only (fun _ => False) a w) (hg : a.heap.size ≤ g) : Only (fun _ => False) a (w.setRow g cs) :=
  h.trans' (T := fun k => k = g) ⟨rfl, rfl, rfl, by simp [World.setRow], fun k _ hk => heap_setRow_other w g k cs hk⟩ (fun i hi e => by omega)
theorem dl_blk2 {A B : World} {o : Obj} (hO : Only (fun _ => False) (A.alloc o).drew B) : B.heap[A.heap.size]? = some o := by
  rw [hO.block A.heap.size (by show _ < (A.alloc o).heap.size; simp) id]; exact heap_alloc_last A o
end Go.Proofs.YtlhfgbkonmgahaaGreatDoor

namespace Go.Proofs.YtlhfgbkonmgahaaGreatDoor
open Go.RowKit

theorem rowD_at : ∀ (qs : List (Value × Dl × Value)) (j : Nat) (hj : j < qs.length), (rowD qs)[j * 3]? = some qs[j].1 ∧ (rowD qs)[j * 3 + 1]? = some (.int .i64 qs[j].2.1.pt) ∧ (rowD qs)[j * 3 + 2]? = some qs[j].2.2
  | q :: qs, 0, _ => by simp [rowD]
  | q :: qs, j + 1, hj => by
    have h := rowD_at qs j (by simpa using hj)
    have e : rowD (q :: qs) = [q.1, .int .i64 q.2.1.pt, q.2.2] ++ rowD qs := by simp [rowD]
    rw [e]
    refine ⟨?_, ?_, ?_⟩
    · rw [List.getElem?_append_right (by simp; omega)]; simpa [show (j + 1) * 3 - 3 = j * 3 by omega] using h.1
    · rw [List.getElem?_append_right (by simp; omega)]; simpa [show (j + 1) * 3 + 1 - 3 = j * 3 + 1 by omega] using h.2.1
    · rw [List.getElem?_append_right (by simp; omega)]; simpa [show (j + 1) * 3 + 2 - 3 = j * 3 + 2 by omega] using h.2.2
end Go.Proofs.YtlhfgbkonmgahaaGreatDoor

namespace Go.Proofs.YtlhfgbkonmgahaaGreatDoor
open Go.RowKit

theorem keyP_mem (s : ByteArray) : memB (keyP s) = true := by
  have h := keyS_bd s
  exact mem_pow mem_four (by omega) (by omega)
theorem boxTo_mem (l : List Mb) (h : ∀ j, j < l.length → memB (mbAt l j).pb = true) : ∀ k, k ≤ l.length → membersB (boxTo l k) = true
  | 0, _ => rfl
  | k + 1, hk => by
    have ih := boxTo_mem l h k (by omega)
    unfold membersB at *
    rw [boxTo, List.all_append, ih, Bool.true_and, List.all_eq_true]
    intro x hx
    rw [(List.mem_replicate.1 hx).2]
    exact h k (by omega)
theorem crewTo_at (zs : List Int) (first : Nat) : ∀ n k, k < n → mbAt (crewTo zs first n) k = ⟨first + k, 1 + nxT zs (1 + k) 3, keyP (memS (first + k))⟩
  | n + 1, k, hk => by
    have hl := crewTo_len zs first n
    unfold mbAt
    rw [crewTo]
    by_cases h : k < n
    · have ih := crewTo_at zs first n k h
      unfold mbAt at ih
      rw [← ih]
      simp [List.getD, List.getElem?_append_left (show k < (crewTo zs first n).length by omega)]
    · obtain rfl : k = n := by omega
      simp [List.getD, hl]
theorem mbAt_out (l : List Mb) (j : Nat) (h : l.length ≤ j) : mbAt l j = ⟨0, 0, 0⟩ := by simp [mbAt, List.getD, h]
theorem crew_wt (zs : List Int) (first n j : Nat) : 0 ≤ (mbAt (crewTo zs first n) j).wt ∧ (mbAt (crewTo zs first n) j).wt ≤ 3 := by
  by_cases h : j < n
  · rw [crewTo_at zs first n j h]
    have := nxT_bd zs (1 + j) 3 (by decide)
    dsimp only
    omega
  · rw [mbAt_out _ _ (by rw [crewTo_len]; omega)]; decide
theorem crew_in (zs : List Int) (first n : Nat) (z : Int) : ∀ k, k ≤ n → (first : Int) + k ≤ z → inTo (ids (crewTo zs first n)) k z = false
  | 0, _, _ => rfl
  | k + 1, hk, hz => by
    rw [inTo, crew_in zs first n z k (by omega) (by omega), ptAt_ids, crewTo_at zs first n k (by omega), Bool.or_false]
    exact beq_eq_false_iff_ne.2 (by dsimp only; omega)
theorem crew_mb (zs : List Int) (first n : Nat) : ∀ k, k ≤ n → mbOk (crewTo zs first n) k = true
  | 0, _ => rfl
  | k + 1, hk => by
    have hb := nxT_bd zs (1 + k) 3 (by decide)
    rw [mbOk, crew_mb zs first n k (by omega), crewTo_at zs first n k (by omega), Bool.true_and]
    dsimp only
    rw [crew_in zs first n _ k (by omega) (Int.le_refl _), decide_eq_true (show 1 ≤ 1 + nxT zs (1 + k) 3 by omega), decide_eq_true (show 1 + nxT zs (1 + k) 3 ≤ 20 by omega)]
    rfl
theorem crew_sum (zs : List Int) (first n : Nat) : ∀ k, 0 ≤ sumTo (crewTo zs first n) k ∧ sumTo (crewTo zs first n) k ≤ 3 * k
  | 0 => by simp [sumTo]
  | k + 1 => by
    have ih := crew_sum zs first n k
    have := crew_wt zs first n k
    rw [sumTo]; omega
theorem manyZ_bd (zs : List Int) : 1 ≤ manyZ zs ∧ manyZ zs ≤ 4 := by
  have := nxT_bd zs 0 4 (by decide)
  unfold manyZ; omega
theorem crew_right (zs : List Int) (first : Nat) : rightB (crewTo zs first (manyZ zs)) = true := by
  have hm := manyZ_bd zs
  have hs := crew_sum zs first (manyZ zs) (manyZ zs)
  unfold rightB
  rw [crewTo_len, crew_mb zs first _ _ (Nat.le_refl _), decide_eq_true hm.1, decide_eq_true (show manyZ zs ≤ 13 by omega), decide_eq_true (show sumTo (crewTo zs first (manyZ zs)) (manyZ zs) ≤ 60 by omega)]
  rfl
/-- How many must join. -/
def ndOf (l : List Mb) : Nat := (needZ (sumTo l l.length)).toNat
theorem crew_ok (zs : List Int) (first : Nat) (hf : first ≤ 1000) : CrewOk (crewTo zs first (manyZ zs)) (ndOf (crewTo zs first (manyZ zs))) := by
  have hm := manyZ_bd zs
  have hr := crew_right zs first
  have hl := crewTo_len zs first (manyZ zs)
  have hs := crew_sum zs first (manyZ zs) (manyZ zs)
  have hp := sumTo_pos (crewTo zs first (manyZ zs)) (manyZ zs) (crew_mb zs first _ _ (Nat.le_refl _))
  have ht : totZ (crewTo zs first (manyZ zs)) = sumTo (crewTo zs first (manyZ zs)) (manyZ zs) := by unfold totZ; rw [if_pos hr, hl]
  have hb := boxTo_len (crewTo zs first (manyZ zs)) (fun j => (crew_wt zs first _ j).1) (manyZ zs)
  have hn : 1 ≤ needZ (sumTo (crewTo zs first (manyZ zs)) (manyZ zs)) ∧ needZ (sumTo (crewTo zs first (manyZ zs)) (manyZ zs)) ≤ sumTo (crewTo zs first (manyZ zs)) (manyZ zs) := by
    unfold needZ mostZ
    rw [if_neg (by omega), if_neg (by omega)]
    omega
  refine ⟨⟨fun j => ?_⟩, by omega, by omega, fun j hj => ?_, fun j => ?_, boxTo_mem _ (fun j hj => ?_) _ (Nat.le_refl _), ?_, ?_, ?_, ?_, by omega⟩
  · have h1 := crew_wt zs first (manyZ zs) j
    refine ⟨?_, by omega, by omega⟩
    by_cases h : j < manyZ zs
    · rw [crewTo_at zs first _ j h]; dsimp only; omega
    · rw [mbAt_out _ _ (by omega)]; decide
  · rw [crewTo_at zs first _ j (by omega)]; dsimp only; omega
  · have h1 := crew_wt zs first (manyZ zs) j
    omega
  · rw [crewTo_at zs first _ j (by omega)]; exact keyP_mem _
  · rw [hl]; omega
  · unfold ndOf; rw [hl, ht]; omega
  · unfold ndOf; rw [hl]; omega
  · unfold ndOf; rw [hl]; omega
end Go.Proofs.YtlhfgbkonmgahaaGreatDoor

namespace Go.Proofs.YtlhfgbkonmgahaaGreatDoor
open Go.RowKit

theorem cmTo_mem (cs : List Int) (h : ∀ j, 0 ≤ ptAt cs j ∧ ptAt cs j < 1152921504606845789) : ∀ k, membersB (cmTo cs k) = true
  | 0 => rfl
  | k + 1 => by
    have ih := cmTo_mem cs h k
    unfold membersB at *
    rw [cmTo, List.all_append, ih, Bool.true_and, List.all_eq_true]
    intro x hx
    rw [List.mem_singleton.1 hx]
    have := h k
    exact mem_pow mem_four (by omega) (by omega)
theorem bxTo_16 (cs ks : List Int) (n : Int) : ∀ k j, j < k → (sAt (bxTo cs ks n k) j).size = 16
  | k + 1, j, hj => by
    have hl := bxTo_len cs ks n k
    unfold sAt
    rw [bxTo]
    by_cases h : j < k
    · have ih := bxTo_16 cs ks n k j h
      unfold sAt at ih
      rw [← ih]
      simp [List.getD, List.getElem?_append_left (show j < (bxTo cs ks n k).length by omega)]
    · obtain rfl : j = k := by omega
      have e : ((bxTo cs ks n j ++ [boxOf cs ks n j]).getD j ByteArray.empty) = boxOf cs ks n j := by simp [List.getD, hl]
      rw [e]; unfold boxOf; rw [strOf_size, sealL_len]
theorem chk_deal (cs ks : List Int) (seed : ByteArray) (h : ∀ j, 0 ≤ ptAt cs j ∧ ptAt cs j < 1152921504606845789) (h1 : 1 ≤ cs.length) (h2 : cs.length ≤ ks.length) : ChkOk (dealZ cs ks seed) ks.length := by
  have hs := scalarZ_bd (ptS seed)
  refine ⟨bxTo_len _ _ _ _, ?_, ?_, mem_pow mem_four (by omega) (by omega), cmTo_mem cs h _, fun j hj => bxTo_16 _ _ _ _ _ hj⟩
  · show 1 ≤ (cmTo cs cs.length).length; rw [cmTo_len]; exact h1
  · show (cmTo cs cs.length).length ≤ _; rw [cmTo_len]; exact h2
end Go.Proofs.YtlhfgbkonmgahaaGreatDoor

namespace Go.Proofs.YtlhfgbkonmgahaaGreatDoor
open Go.RowKit

theorem Tryz.infoKe : (Tryz.prog.info? 41).map (·.size) = some 2 := by kernel_rfl
def onesL (n : Nat) : List Int := List.replicate n 1
theorem onesL_succ (n : Nat) : onesL (n + 1) = onesL n ++ [1] := by unfold onesL; rw [List.replicate_succ']
theorem onesL_len (n : Nat) : (onesL n).length = n := by unfold onesL; simp
theorem onesL_at (n j : Nat) (h : j < n) : ptAt (onesL n) j = 1 := by unfold onesL ptAt; simp [List.getD, h]
theorem two_slices (a b : Option Addr) (m n c d : Nat) : (#[Value.slice a m c, .slice b n d] : Array Value).all (·.oneCell') = true := by simp [Value.oneCell']
theorem GridOwn.base {b b' : Nat} {W : World} {v : Value} {us : List Value} {rows : List (List Int)} (h : GridOwn b W v us rows) (hb : b' ≤ b) : GridOwn b' W v us rows :=
  ⟨own_base h.out hb, h.len, fun j hj => own_base (h.own j hj) hb, h.f2⟩
theorem MbsAt.slice {W : World} {sv : Value} {l : List Mb} (h : MbsAt W sv l) : ∃ a c, sv = .slice a l.length c := by
  rcases h with ⟨a, c, rfl, rfl⟩ | ⟨b, off, cap, rfl, _⟩
  · exact ⟨_, _, rfl⟩
  · exact ⟨_, _, rfl⟩
/-- Keys come back. -/
def BeginPost (w : World) (cm : List Int) (rows : List (List Int)) (e : Ending) (w' : World) : Prop :=
  Only (fun _ => False) w w' ∧ ∃ vc vp, e = .returned (.tuple #[.agg #[vc, vp], .bool true]) ∧ w'.ownsRow (w.heap.size + 1) 3 1 vc cm.length (irow cm) ∧ ∃ us, GridOwn (w.heap.size + 1) w' vp us rows
end Go.Proofs.YtlhfgbkonmgahaaGreatDoor

namespace Go.Proofs.YtlhfgbkonmgahaaGreatDoor
open Go.RowKit

def zerosL (n : Nat) : List Int := List.replicate n 0
theorem zerosL_succ (n : Nat) : zerosL (n + 1) = zerosL n ++ [0] := by unfold zerosL; rw [List.replicate_succ']
theorem zerosL_len (n : Nat) : (zerosL n).length = n := by unfold zerosL; simp
theorem zerosL_at (n j : Nat) : ptAt (zerosL n) j = 0 := by
  unfold zerosL ptAt
  by_cases h : j < n
  · simp [List.getD, h]
  · simp [List.getD, h]
/-- One polynomial is added. -/
def addTo (L P : List Int) : Nat → List Int
  | 0 => L
  | j + 1 => (addTo L P j).set j ((ptAt L j + ptAt P j) % 1152921504606845789)
theorem addTo_len (L P : List Int) : ∀ j, (addTo L P j).length = L.length
  | 0 => rfl
  | j + 1 => by rw [addTo, List.length_set, addTo_len L P j]
theorem ptAt_set (L : List Int) (j i : Nat) (x : Int) : ptAt (L.set j x) i = if j = i ∧ j < L.length then x else ptAt L i := by
  unfold ptAt
  simp only [List.getD, List.getElem?_set]
  by_cases h : j = i
  · subst h
    by_cases h2 : j < L.length
    · simp [h2]
    · simp [h2]
  · simp [h]
theorem addTo_at (L P : List Int) : ∀ j i, j ≤ i → ptAt (addTo L P j) i = ptAt L i
  | 0, _, _ => rfl
  | j + 1, i, h => by rw [addTo, ptAt_set, if_neg (by omega), addTo_at L P j i (by omega)]
theorem addTo_in (L P : List Int) : ∀ j i, i < j → i < L.length → ptAt (addTo L P j) i = (ptAt L i + ptAt P i) % 1152921504606845789
  | j + 1, i, h, h2 => by
    rw [addTo, ptAt_set]
    by_cases e : j = i
    · subst e; rw [if_pos ⟨rfl, by rw [addTo_len]; exact h2⟩]
    · rw [if_neg (fun c => e c.1), addTo_in L P j i (by omega) h2]
def firstS : ByteArray := ⟨#[102, 105, 114, 115, 116]⟩
def seedOf (l : List Mb) (k : Nat) : ByteArray := dlSeed firstS (mbAt l k).id.toNat
/-- The sum of the first k polynomials. -/
def coefTo (l : List Mb) (nd : Nat) : Nat → List Int
  | 0 => zerosL nd
  | k + 1 => addTo (coefTo l nd k) (polyTo (seedOf l k) nd) nd
theorem coefTo_len (l : List Mb) (nd : Nat) : ∀ k, (coefTo l nd k).length = nd
  | 0 => zerosL_len nd
  | k + 1 => by rw [coefTo, addTo_len, coefTo_len l nd k]
theorem coefTo_bd (l : List Mb) (nd : Nat) : ∀ k j, 0 ≤ ptAt (coefTo l nd k) j ∧ ptAt (coefTo l nd k) j < 1152921504606845789
  | 0, j => by rw [coefTo, zerosL_at]; decide
  | k + 1, j => by
    rw [coefTo]
    by_cases h : j < nd
    · rw [addTo_in _ _ _ _ h (by rw [coefTo_len]; exact h)]
      exact emod_self_lt _ _ (by decide)
    · rw [addTo_at _ _ _ _ (by omega)]; exact coefTo_bd l nd k j
theorem own_set {w : World} {base e n j g cap : Nat} {xs : List Value} (h : w.ownsRow base e 1 (.slice (some ⟨g, 0, none⟩) n cap) n xs) (u : Value) (_hj : j < n) : (w.setCell ⟨g, j, none⟩ u).ownsRow base e 1 (.slice (some ⟨g, 0, none⟩) n cap) n (xs.set j u) := by
  refine ⟨by rw [List.length_set]; exact h.1, ?_⟩
  rcases h.2 with ⟨hn, _⟩ | ⟨g', cap', cur, hv, hb, hg, hcap, hcap2, hsz, htk⟩
  · simp at hn
  · simp only [Value.slice.injEq, Option.some.injEq, Addr.mk.injEq, and_true, true_and] at hv
    obtain ⟨rfl, rfl⟩ := hv
    refine .inr ⟨g, cap, cur.setIfInBounds j u, rfl, hb, heap_setCell_same w g j cur e u hg, hcap, hcap2, by rw [Array.size_setIfInBounds]; exact hsz, ?_⟩
    rw [Array.toList_setIfInBounds, List.take_set, htk]
theorem irow_set (L : List Int) (j : Nat) (z : Int) : (irow L).set j (.int .i64 z) = irow (L.set j z) := by unfold irow; rw [List.map_set]
/-- The numbers of a slice that lies in a block of its own. -/
theorem own_cells {w : World} {base n : Nat} {v : Value} {L : List Int} (h : w.ownsRow base 3 1 v L.length (irow L)) (hn : L.length = n) (hp : 0 < n) :
    ∃ g cap, v = .slice (some ⟨g, 0, none⟩) n cap ∧ g < w.heap.size ∧ n ≤ cap ∧ cap ≤ 9223372036854775807 ∧ ∀ j, j < n → w.cell? ⟨g, j, none⟩ = some (.int .i64 (ptAt L j)) ∧ w.frozen? ⟨g, j, none⟩ = false := by
  subst hn
  rcases h.2 with ⟨_, h0⟩ | ⟨g, cap, cur, rfl, hb, hg, hcap, hcap2, hsz, htk⟩
  · omega
  · refine ⟨g, cap, rfl, (Array.getElem?_eq_some_iff.1 hg).1, hcap, by unfold maxLen at hcap2; omega, fun j hj => ⟨?_, frozen_of_row _ _ j _ _ hg⟩⟩
    rw [cell_of_row w g j cur 3 (0, 0) hg]
    have h1 := irow_get L j hj
    rw [← h1, ← htk, List.getElem?_take_of_lt (by omega)]
    simp
end Go.Proofs.YtlhfgbkonmgahaaGreatDoor

namespace Go.Proofs.YtlhfgbkonmgahaaGreatDoor
open Go.RowKit

def crewZ (zs : List Int) : List Mb := crewTo zs 1 (manyZ zs)
def ndZ (zs : List Int) : Nat := ndOf (crewZ zs)
def coefZ (zs : List Int) : List Int := coefTo (crewZ zs) (ndZ zs) (crewZ zs).length
def dealsZ (zs : List Int) : List Dl := dlsTo (crewZ zs) firstS (ndZ zs) (crewZ zs).length
def commZ (zs : List Int) : List Int := mixL (dealsZ zs) (onesL (dealsZ zs).length) (ndZ zs)
/-- A group comes back. -/
def MadePost (w : World) (zs : List Int) (e : Ending) (w' : World) : Prop :=
  Only (fun _ => False) w w' ∧ ∃ vm vs vc vk vp, e = .returned (.agg #[vm, vs, vc, vk, vp]) ∧ MbsAt w' vm (crewZ zs) ∧ PtsAt w'.heap.size w' vs (secTo 1 (manyZ zs)) ∧ PtsAt w'.heap.size w' vc (coefZ zs) ∧ PtsAt w'.heap.size w' vk (commZ zs) ∧ GridAt w' vp (pointsOf (crewZ zs))
theorem dlsTo_at (l : List Mb) (seed : ByteArray) (nd : Nat) : ∀ n k, k < n → dlAt (dlsTo l seed nd n) k = dlOf l seed nd k
  | n + 1, k, hk => by
    have hl := dlsTo_len l seed nd n
    unfold dlAt
    rw [dlsTo]
    by_cases h : k < n
    · have ih := dlsTo_at l seed nd n k h
      unfold dlAt at ih
      rw [← ih]
      simp [List.getD, List.getElem?_append_left (show k < (dlsTo l seed nd n).length by omega)]
    · obtain rfl : k = n := by omega
      simp [List.getD, hl]
theorem polyTo_bd0 (seed : ByteArray) (n j : Nat) : 0 ≤ ptAt (polyTo seed n) j ∧ ptAt (polyTo seed n) j < 1152921504606845789 := polyTo_bd seed n j
theorem dl_ok (l : List Mb) (seed : ByteArray) (nd n k : Nat) (h1 : 1 ≤ nd) (h2 : nd ≤ (boxTo l l.length).length) (hn : (boxTo l l.length).length = n) : ChkOk (dlOf l seed nd k) n ∧ (dlOf l seed nd k).cm.length = nd := by
  subst hn
  refine ⟨chk_deal _ _ _ (fun j => polyTo_bd _ _ j) (by rw [polyTo_len]; exact h1) (by rw [polyTo_len]; exact h2), ?_⟩
  unfold dlOf dealZ
  rw [cmTo_len, polyTo_len]
theorem firstS_eq (b : ByteArray) : (⟨#[102, 105, 114, 115, 116, 32]⟩ : ByteArray) ++ b = firstS ++ ⟨#[32]⟩ ++ b := rfl
theorem five_slices (a b c d e : Option Addr) (i j k l m i' j' k' l' m' : Nat) : (#[Value.slice a i i', .slice b j j', .slice c k k', .slice d l l', .slice e m m'] : Array Value).all (·.oneCell') = true := by simp [Value.oneCell']

theorem own_at {w : World} {base g n cap j : Nat} {L : List Int} (h : w.ownsRow base 3 1 (.slice (some ⟨g, 0, none⟩) n cap) L.length (irow L)) (hn : L.length = n) (hj : j < n) :
    g < w.heap.size ∧ n ≤ cap ∧ cap ≤ 9223372036854775807 ∧ w.cell? ⟨g, j, none⟩ = some (.int .i64 (ptAt L j)) ∧ w.frozen? ⟨g, j, none⟩ = false := by
  obtain ⟨g', cap', hv, h1, h2, h3, h4⟩ := own_cells h hn (by omega)
  simp only [Value.slice.injEq, Option.some.injEq, Addr.mk.injEq, and_true, true_and] at hv
  obtain ⟨rfl, rfl⟩ := hv
  exact ⟨h1, h2, h3, h4 j hj⟩
theorem deals_len {qs : List (Value × Dl × Value)} {l : List Mb} {seed : ByteArray} {nd k : Nat} (hq : qs.map (·.2.1) = dlsTo l seed nd k) (hnd : nd ≤ 60) (hb : (boxTo l l.length).length ≤ 60) : ∀ q ∈ qs, q.2.1.cm.length ≤ 9223372036854775807 ∧ q.2.1.bx.length ≤ 9223372036854775807 := by
  intro q hm
  obtain ⟨j, hj, rfl⟩ := List.mem_iff_getElem.1 hm
  have hk : qs.length = k := by have := congrArg List.length hq; rw [List.length_map, dlsTo_len] at this; exact this
  have h1 : qs[j].2.1 = dlAt (dlsTo l seed nd k) j := by rw [← hq]; simp [dlAt, List.getD, hj]
  rw [h1, dlsTo_at _ _ _ _ _ (by omega)]
  unfold dlOf dealZ
  dsimp only
  rw [cmTo_len, polyTo_len, bxTo_len]
  omega
/-- A block without numbers is written: numbers elsewhere stay. -/
theorem pts_kept {A B : World} {g : Nat} {v : Value} {zs : List Int} (hO : Only (fun k => k = g) A B) (hg : ∀ o z, A.cell? ⟨g, o, none⟩ ≠ some (.int .i64 z)) (h : PtsAt A.heap.size A v zs) : PtsAt B.heap.size B v zs := by
  rcases h with h | ⟨b, off, cap, e, hb, h1, h2, hc⟩
  · exact .inl h
  · exact .inr ⟨b, off, cap, e, Nat.lt_of_lt_of_le hb hO.size, h1, h2, fun j hj => hO.cell (hc j hj) (fun e => hg (off + j) _ (by rw [← show b = g from e]; exact hc j hj))⟩
theorem mbs_kept {A B : World} {g : Nat} {v : Value} {l : List Mb} (hO : Only (fun k => k = g) A B) (hg : ∀ o z, A.cell? ⟨g, o, none⟩ ≠ some (.int .i64 z)) (h : MbsAt A v l) : MbsAt B v l := by
  rcases h with h | ⟨b, off, cap, e, hb, h1, h2, hc⟩
  · exact .inl h
  · refine .inr ⟨b, off, cap, e, Nat.lt_of_lt_of_le hb hO.size, h1, h2, fun j hj => ?_⟩
    obtain ⟨c0, c1, c2⟩ := hc j hj
    have hne : ¬ b = g := fun e => hg (off + j * 3) _ (by rw [← e]; exact c0)
    exact ⟨hO.cell c0 hne, hO.cell c1 hne, hO.cell c2 hne⟩
theorem nils_ints {w : World} {g : Nat} {t : TypeId} (h : w.heap[g]? = some (.cells #[.slice none 0 0, .slice none 0 0, .slice none 0 0, .slice none 0 0, .slice none 0 0] t (0, 0))) : ∀ o z, w.cell? ⟨g, o, none⟩ ≠ some (.int .i64 z) := by
  intro o z e
  rw [cell_of_row _ _ o _ _ _ h] at e
  match o with
  | 0 => simp at e
  | 1 => simp at e
  | 2 => simp at e
  | 3 => simp at e
  | 4 => simp at e
  | o + 5 => simp at e
/-- Numbers of the crew that Begin needs. -/
theorem crew_tot {l : List Mb} {nd : Nat} (hr : rightB l = true) (hk : CrewOk l nd) : totZ l = ((boxTo l l.length).length : Nat) ∧ needZ ((boxTo l l.length).length : Nat) = nd := by
  have h1 : totZ l = ((boxTo l l.length).length : Nat) := by
    rw [boxTo_len l (fun j => (hk.wt j).1)]; unfold totZ; rw [if_pos hr]
  exact ⟨h1, by rw [← h1]; exact hk.ndz⟩

end Go.Proofs.YtlhfgbkonmgahaaGreatDoor

namespace Go.Proofs.YtlhfgbkonmgahaaGreatDoor
open Go.RowKit

theorem Tryz.infoSh : (Tryz.prog.info? 23).map (·.size) = some 2 := by kernel_rfl
theorem two_ints (a b : Int) : (#[Value.int .i64 a, .int .i64 b] : Array Value).all (·.oneCell') = true := by simp [Value.oneCell']
/-- What is chosen, and what is left. -/
def choTo (zs L0 : List Int) : Nat → List Int × List Int
  | 0 => ([], L0)
  | t + 1 => ((choTo zs L0 t).1 ++ [ptAt (choTo zs L0 t).2 (nxT zs t (choTo zs L0 t).2.length).toNat], (choTo zs L0 t).2.take (nxT zs t (choTo zs L0 t).2.length).toNat ++ (choTo zs L0 t).2.drop ((nxT zs t (choTo zs L0 t).2.length).toNat + 1))
theorem choTo_len (zs L0 : List Int) : ∀ t, t ≤ L0.length → (choTo zs L0 t).1.length = t ∧ (choTo zs L0 t).2.length = L0.length - t
  | 0, _ => ⟨rfl, rfl⟩
  | t + 1, h => by
    obtain ⟨h1, h2⟩ := choTo_len zs L0 t (by omega)
    have hb := nxT_bd zs t (choTo zs L0 t).2.length (by omega)
    rw [choTo]
    refine ⟨by rw [List.length_append, h1]; rfl, ?_⟩
    rw [List.length_append, List.length_take, List.length_drop]
    omega
/-- The points that are chosen are different, and of the list. -/
theorem choTo_perm (zs L0 : List Int) : ∀ t, t ≤ L0.length → ((choTo zs L0 t).1 ++ (choTo zs L0 t).2).Perm L0
  | 0, _ => List.Perm.refl _
  | t + 1, h => by
    obtain ⟨h1, h2⟩ := choTo_len zs L0 t (by omega)
    have ih := choTo_perm zs L0 t (by omega)
    have hb := nxT_bd zs t (choTo zs L0 t).2.length (by omega)
    rw [choTo]
    generalize (choTo zs L0 t).1 = O at *
    generalize (choTo zs L0 t).2 = R at *
    obtain ⟨k, hk⟩ : ∃ k, (nxT zs t R.length).toNat = k := ⟨_, rfl⟩
    rw [hk]
    have hkl : k < R.length := by omega
    refine List.Perm.trans ?_ ih
    have e : R = R.take k ++ ptAt R k :: R.drop (k + 1) := by
      conv => lhs; rw [← List.take_append_drop k R]
      congr 1
      rw [List.drop_eq_getElem_cons hkl]
      unfold ptAt
      simp [List.getD, hkl]
    conv => rhs; rw [e]
    simp only [List.append_assoc, List.singleton_append]
    exact List.Perm.append_left O List.perm_middle.symm
section
variable {P : Program} (w : World)
/-- An append at a step of a region that draws, whatever is appended: nothing, too. -/
theorem step_append_at {ops : Array Oper} {o : Oper} {a : Act} {K : Act → World → Prop} {Q : Exit → Act → World → Prop} {E : Prop} (hgd : o.guard = none) (s x : Operand) (t : TypeId)
    (ho : o.op = .call { callee := .builtin .append, args := #[s, x], argTypes := #[t, t] })
    (base : Nat) (e : TypeId) (i : TypeInfo) (z : Value) (size bytes : Nat) (ht : P.underlying t = some (.slice e)) (hi : P.info? e = some i) (hz : i.zero = some z)
    (hsize : i.size = size) (hby : i.bytes = bytes) (hzs : z.cells.size = size) (hsz : 0 < size)
    (v : Value) (n : Nat) (xs : List Value) (hs : a.eval s = v) (hown : w.ownsRow base e size v n xs)
    (ad : Addr) (m c : Nat) (news : List Value) (hx : a.eval x = .slice (some ad) m c) (hl : news.length = m * size) (hnews : ∀ j u, news[j]? = some u → w.cell? (ad.add j) = some u) (h1 : ∀ u ∈ news, u.oneCell' = true)
    (h63 : n + m ≤ maxLen) (hbytes : (n + m) * bytes ≤ 140737488355328) (hbase : base ≤ w.heap.size)
    (h : ∀ v' w', w'.ownsRow base e size v' (n + m) (xs ++ news) → w.grownBy w' v.ownBlock → K (a.put o.dst v') w') :
    if Region.wanted o (yielded ops a.tmps) = true then Oper.wp P o a w K Q else E := by
  have hw : Region.wanted o (yielded ops a.tmps) = true := by simp [Region.wanted, hgd]
  rw [if_pos hw]
  obtain ⟨v', w', hr, h2, h3, _, _⟩ := run_append_own_at (P := P) w base t o.type e i z size bytes ht hi hz hsize hby hzs hsz v n xs hown ad m c news hl hnews h1 h63 hbytes hbase
  unfold Oper.wp execOp
  simp only [ho, resolve, invoke, builtin, Sem.run_bind, Sem.run_pure, Result.andThen_ok, List.map_toArray, List.map_cons, List.map_nil, hs, hx, hr]
  exact h v' w' h2 h3
end
theorem own_news {w w' : World} {base n k m g cap : Nat} {L : List Int} (h : w.ownsRow base 3 1 (.slice (some ⟨g, 0, none⟩) n cap) L.length (irow L)) (hO : Only (fun _ => False) w w') (hk : k + m ≤ L.length) (hn : L.length = n) :
    ∀ j u, (irow ((L.drop k).take m))[j]? = some u → w'.cell? ((⟨g, k, none⟩ : Addr).add j) = some u := by
  intro j u hu
  have hadd : (⟨g, k, none⟩ : Addr).add j = ⟨g, k + j, none⟩ := by unfold Addr.add; split <;> simp_all
  rw [hadd]
  by_cases hj : j < m
  · obtain ⟨_, _, _, hc, _⟩ := own_at (j := k + j) h hn (by omega)
    rw [hO.cell hc id]
    rw [← hu]
    unfold irow
    rw [List.getElem?_map, List.getElem?_take_of_lt hj, List.getElem?_drop]
    unfold ptAt
    rw [List.getElem?_eq_getElem (show k + j < L.length by omega)]
    simp [List.getD, show k + j < L.length by omega]
  · have : (irow ((L.drop k).take m))[j]? = none := by
      unfold irow
      rw [List.getElem?_map, List.getElem?_eq_none (by rw [List.length_take, List.length_drop]; omega)]; rfl
    rw [this] at hu; simp at hu
theorem cho_only1 {w w' : World} {o : Obj} {n c : Nat} (hg : ((w.alloc o).drew).grownBy w' (Value.slice (some ⟨w.heap.size, 0, none⟩) n c).ownBlock) : Only (fun _ => False) w w' :=
  (((Only.refl (fun _ => False) w).alloc o).drew).trans' ((Only.refl (fun k => k = w.heap.size) _).grown hg (fun k e _ => by simpa [Value.ownBlock] using e.symm)) (fun i hi e => by omega)
theorem cho_only2 {w w4 w' : World} {v : Value} {e s n : Nat} {xs : List Value} (hO : Only (fun _ => False) w w4) (hown : w4.ownsRow w.heap.size e s v n xs) (hg : w4.grownBy w' v.ownBlock) : Only (fun _ => False) w w' :=
  hO.trans' ((Only.refl (fun k => v.ownBlock = some k) _).grown hg (fun k e _ => e)) (fun i hi e => by have := own_low' hown e; omega)
theorem irow_ones (L : List Int) : ∀ u ∈ irow L, u.oneCell' = true := irow_one L

/-- The length of a slice. -/
def lenV : Value → Nat
  | .slice _ n _ => n
  | _ => 0
/-- What Chosen returns. -/
def choZ (zs : List Int) (n nd : Nat) : List Int := (choTo zs (upI 0 n) nd).1

end Go.Proofs.YtlhfgbkonmgahaaGreatDoor

namespace Go.Proofs.YtlhfgbkonmgahaaGreatDoor
open Go.RowKit

/-- One share more. -/
def cntS (per : Int → Bool) (p : List Int × List Int) (s : Int × Int) : List Int × List Int := if inTo p.1 p.1.length s.1 || !ptB s.1 || !per s.2 then p else (p.1 ++ [s.1], p.2 ++ [s.2])
def cntA (per : Int → Bool) (l : List (Int × Int)) : List Int × List Int := cntTo per l l.length
theorem cntTo_succ (per : Int → Bool) (l : List (Int × Int)) (k : Nat) : cntTo per l (k + 1) = cntS per (cntTo per l k) (shAt l k) := rfl
theorem cntTo_left (per : Int → Bool) (l t : List (Int × Int)) : ∀ k, k ≤ l.length → cntTo per (l ++ t) k = cntTo per l k
  | 0, _ => rfl
  | k + 1, h => by
    rw [cntTo_succ, cntTo_succ, cntTo_left per l t k (by omega)]
    unfold shAt
    simp [List.getD, List.getElem?_append_left (show k < l.length by omega)]
theorem cntA_one (per : Int → Bool) (l : List (Int × Int)) (x : Int × Int) : cntA per (l ++ [x]) = cntS per (cntA per l) x := by
  unfold cntA
  rw [List.length_append, List.length_singleton, cntTo_succ, cntTo_left per _ [x] _ (Nat.le_refl _)]
  unfold shAt
  simp [List.getD]
theorem cntA_fold (per : Int → Bool) : ∀ (t l : List (Int × Int)), cntA per (l ++ t) = t.foldl (cntS per) (cntA per l)
  | [], l => by simp
  | x :: t, l => by
    rw [show l ++ x :: t = (l ++ [x]) ++ t by simp, cntA_fold per t (l ++ [x]), cntA_one]; rfl
theorem cntS_no (per : Int → Bool) (p : List Int × List Int) (x y : Int) (h : ptB x = false ∨ per y = false) : cntS per p (x, y) = p := by
  unfold cntS
  rcases h with h | h
  · dsimp only; rw [h]; simp
  · dsimp only; rw [h]; simp
theorem cntS_yes (per : Int → Bool) (p : List Int × List Int) (x y : Int) (h1 : ptB x = true) (h2 : per y = true) (h3 : inTo p.1 p.1.length x = false) : cntS per p (x, y) = (p.1 ++ [x], p.2 ++ [y]) := by
  unfold cntS
  dsimp only
  rw [h1, h2, h3]; rfl
theorem diff_at {F : List Int} (h : diffB F = true) {i : Nat} (hi : i < F.length) : ptB (ptAt F i) = true ∧ inTo F i (ptAt F i) = false := by
  have h1 := diffTo_mono F (j := i + 1) (k := F.length) hi h
  rw [diffTo] at h1
  simp only [Bool.and_eq_true, Bool.not_eq_true'] at h1
  grind
theorem cntS_next (per : Int → Bool) (F N : List Int) (y : Int) (hF : diffB F = true) {i : Nat} (hi : i < F.length) (hy : per y = true) : cntS per (F.take i, N) (ptAt F i, y) = (F.take (i + 1), N ++ [y]) := by
  obtain ⟨h1, h2⟩ := diff_at hF hi
  have hl : (F.take i).length = i := by rw [List.length_take]; omega
  rw [cntS_yes per _ _ _ h1 hy (by dsimp only; rw [hl, inTo_take F i i _ (Nat.le_refl _)]; exact h2)]
  dsimp only
  rw [take_snocI F i hi]
theorem insB_val (C : List Int) (x : Int) : insB (valZ C x) = true := by
  have := valZ_bd C x
  have h : gQ = 1152921504606845789 := rfl
  unfold insB
  rw [decide_eq_true this.1, decide_eq_true (show valZ C x ≤ 1152921504606845788 by omega)]; rfl
/-- The shares of WeightJoins. -/
def jnAt (F C : List Int) (o : List (Int × Int)) (i : Nat) : List (Int × Int) :=
  (if i < o.length ∧ i < 4 then [(0, (shAt o i).1), (ptAt F i, -1 - (shAt o i).2 % 1000), (1152921504606845789, 1)] else []) ++ [(ptAt F i, valZ C (ptAt F i))]
def jnTo (F C : List Int) (o : List (Int × Int)) : Nat → List (Int × Int)
  | 0 => []
  | i + 1 => jnTo F C o i ++ jnAt F C o i
theorem jn_noise (p : List Int × List Int) (F : List Int) (o : List (Int × Int)) (i : Nat) : (if i < o.length ∧ i < 4 then [(0, (shAt o i).1), (ptAt F i, -1 - (shAt o i).2 % 1000), (1152921504606845789, 1)] else []).foldl (cntS insB) p = p := by
  split
  · have hm := Int.emod_nonneg (shAt o i).2 (show (1000 : Int) ≠ 0 by decide)
    simp only [List.foldl_cons, List.foldl_nil]
    rw [cntS_no insB p _ _ (.inl (by decide)), cntS_no insB p _ _ (.inr (by unfold insB; rw [decide_eq_false (by omega)]; rfl)), cntS_no insB p _ _ (.inl (by decide))]
  · rfl
theorem jn_cnt (F C : List Int) (o : List (Int × Int)) (hF : diffB F = true) : ∀ i, i ≤ F.length → cntA insB (jnTo F C o i) = (F.take i, (F.take i).map (valZ C))
  | 0, _ => by simp [jnTo, cntA, cntTo]
  | i + 1, h => by
    have ih := jn_cnt F C o hF i (by omega)
    rw [jnTo, jnAt, cntA_fold, List.foldl_append, ih, jn_noise]
    simp only [List.foldl_cons, List.foldl_nil]
    rw [cntS_next insB F _ _ hF (show i < F.length by omega) (insB_val C _), take_snocI F i (by omega), List.map_append]
    rfl
/-- Without the last share there are too few. -/
theorem jn_few (F C : List Int) (o : List (Int × Int)) (hF : diffB F = true) (n : Nat) (hn : F.length = n) (h1 : 1 ≤ n) : enB insB n ((jnTo F C o n).take ((jnTo F C o n).length - 1)) = false := by
  obtain ⟨i, rfl⟩ : ∃ i, n = i + 1 := ⟨n - 1, by omega⟩
  have e : (jnTo F C o (i + 1)).take ((jnTo F C o (i + 1)).length - 1) = jnTo F C o i ++ (if i < o.length ∧ i < 4 then [(0, (shAt o i).1), (ptAt F i, -1 - (shAt o i).2 % 1000), (1152921504606845789, 1)] else []) := by
    rw [jnTo, jnAt, ← List.append_assoc, List.length_append, List.length_singleton, Nat.add_sub_cancel, List.take_left']
    rfl
  have h2 : cntA insB ((jnTo F C o (i + 1)).take ((jnTo F C o (i + 1)).length - 1)) = (F.take i, (F.take i).map (valZ C)) := by
    rw [e, cntA_fold, jn_noise, jn_cnt F C o hF i (by omega)]
  unfold enB cntP
  unfold cntA at h2
  rw [h2]
  dsimp only
  rw [List.length_take, decide_eq_false (show ¬ ((i + 1 : Nat) : Int) ≤ ((min i F.length : Nat) : Int) by omega), Bool.and_false]
theorem cnt_more (per : Int → Bool) (l t : List (Int × Int)) (n : Nat) (F N : List Int) (hF : F.length = n) (hN : N.length = n) (h : cntA per l = (F, N)) : ((cntP per (l ++ t)).take n = F ∧ (cntN per (l ++ t)).take n = N) ∧ n ≤ (cntP per (l ++ t)).length := by
  have h1 : cntTo per (l ++ t) l.length = (F, N) := by rw [cntTo_left per l t _ (Nat.le_refl _)]; exact h
  have h2 := cntTo_pre per (l ++ t) l.length (l ++ t).length (by rw [List.length_append]; omega)
  rw [h1] at h2
  dsimp only at h2
  rw [hF] at h2
  unfold cntP cntN
  refine ⟨⟨h2.1.symm, h2.2.symm⟩, ?_⟩
  have h3 := congrArg List.length h2.1
  rw [List.length_take, hF] at h3
  omega
theorem jn_join (F C : List Int) (o t : List (Int × Int)) (hF : diffB F = true) (n : Nat) (hn : F.length = n) (h1 : 1 ≤ n) (hC : C.length = n) (hC0 : 0 ≤ ptAt C 0 ∧ ptAt C 0 < 1152921504606845789) :
    enB insB n (jnTo F C o n ++ t) = true ∧ joinZ n (jnTo F C o n ++ t) = ptAt C 0 := by
  have hc := jn_cnt F C o hF n (by omega)
  rw [← hn, List.take_length] at hc
  obtain ⟨⟨hp, hN⟩, hlen⟩ := cnt_more insB (jnTo F C o F.length) t F.length F (F.map (valZ C)) rfl (List.length_map _) hc
  rw [hn] at hp hN hlen
  have he : enB insB n (jnTo F C o n ++ t) = true := by
    unfold enB
    rw [decide_eq_true (show (1 : Int) ≤ n by omega), decide_eq_true (show (n : Int) ≤ ((cntP insB (jnTo F C o n ++ t)).length : Nat) by omega)]; rfl
  refine ⟨he, ?_⟩
  unfold joinZ
  rw [if_pos he, Int.toNat_natCast, hp, hN, comb_eq F _ hF]
  refine comb_first F _ C hF (by omega) hC0 (fun j hj => ?_)
  unfold ptAt
  simp [List.getD, hj]
theorem inTo_not (F : List Int) (z : Int) : ∀ k, (∀ j, j < k → ptAt F j ≠ z) → inTo F k z = false
  | 0, _ => rfl
  | k + 1, h => by
    rw [inTo, inTo_not F z k (fun j hj => h j (by omega)), Bool.or_false]
    exact beq_eq_false_iff_ne.2 (fun e => h k (by omega) e.symm)
theorem diff_nodup (F : List Int) (hn : F.Nodup) (hp : ∀ x ∈ F, ptB x = true) : ∀ k, k ≤ F.length → diffTo F k = true
  | 0, _ => rfl
  | k + 1, h => by
    rw [diffTo, diff_nodup F hn hp k (by omega)]
    have hk : ptAt F k ∈ F := by unfold ptAt; simp [List.getD, show k < F.length by omega]
    rw [hp _ hk, inTo_not F _ k (fun j hj e => ?_)]
    · rfl
    · unfold ptAt at e
      simp only [List.getD, show k < F.length by omega, show j < F.length by omega, List.getElem?_eq_getElem, Option.getD_some] at e
      exact (List.pairwise_iff_getElem.1 hn) j k (by omega) (by omega) hj e
theorem upI_mem (s : Int) : ∀ (n : Nat) (x : Int), x ∈ upI s n → s + 1 ≤ x ∧ x ≤ s + n
  | 0, x, h => by simp [upI] at h
  | n + 1, x, h => by
    rw [upI, List.mem_append, List.mem_singleton] at h
    rcases h with h | h
    · have := upI_mem s n x h; omega
    · omega
theorem upI_nodup (s : Int) : ∀ n : Nat, (upI s n).Nodup
  | 0 => by simp [upI]
  | n + 1 => by
    rw [upI, List.nodup_append]
    refine ⟨upI_nodup s n, by simp, fun x hx y hy => ?_⟩
    have := upI_mem s n x hx
    rw [List.mem_singleton] at hy
    omega
theorem choZ_len (zs : List Int) (n nd : Nat) (h : nd ≤ n) : (choZ zs n nd).length = nd := (choTo_len zs (upI 0 n) nd (by rw [upI_len]; exact h)).1
theorem choZ_mem (zs : List Int) (n nd : Nat) (h : nd ≤ n) (x : Int) (hx : x ∈ choZ zs n nd) : 1 ≤ x ∧ x ≤ n := by
  have hp := choTo_perm zs (upI 0 n) nd (by rw [upI_len]; exact h)
  have := upI_mem 0 n x (hp.subset (List.mem_append_left _ hx))
  omega
theorem choZ_diff (zs : List Int) (n nd : Nat) (h : nd ≤ n) (hn : n ≤ 60) : diffB (choZ zs n nd) = true := by
  have hp := choTo_perm zs (upI 0 n) nd (by rw [upI_len]; exact h)
  have hnd := (List.nodup_append.1 (hp.nodup_iff.2 (upI_nodup 0 n))).1
  refine diff_nodup _ hnd (fun x hx => ?_) _ (Nat.le_refl _)
  have := choZ_mem zs n nd h x hx
  unfold ptB
  rw [decide_eq_true this.1, decide_eq_true (show x ≤ 1152921504606845788 by omega)]; rfl
/-- The shares of WeightLifts. -/
def lfAt (F C : List Int) (base : Int) (i : Nat) : List (Int × Int) := [(ptAt F i, 0), (ptAt F i, 2305843009213691578), (ptAt F i, powM base (valZ C (ptAt F i)) 2305843009213691579)]
def lfTo (F C : List Int) (base : Int) : Nat → List (Int × Int)
  | 0 => []
  | i + 1 => lfTo F C base i ++ lfAt F C base i
theorem mem_zero : memB 0 = false := memB_low (by decide)
theorem mem_last : memB 2305843009213691578 = false := by kernel_rfl
theorem lf_cnt (F C : List Int) (base : Int) (hF : diffB F = true) (hb : memB base = true) : ∀ i, i ≤ F.length → cntA memB (lfTo F C base i) = (F.take i, (F.take i).map (fun x => powM base (valZ C x) 2305843009213691579))
  | 0, _ => by simp [lfTo, cntA, cntTo]
  | i + 1, h => by
    have ih := lf_cnt F C base hF hb i (by omega)
    have hv := valZ_bd C (ptAt F i)
    have hq : gQ = 1152921504606845789 := rfl
    rw [lfTo, lfAt, cntA_fold, ih]
    simp only [List.foldl_cons, List.foldl_nil]
    rw [cntS_no memB _ _ _ (.inr mem_zero), cntS_no memB _ _ _ (.inr mem_last), cntS_next memB F _ _ hF (show i < F.length by omega) (show memB (powM base (valZ C (ptAt F i)) 2305843009213691579) = true from mem_pow hb hv.1 (by omega)), take_snocI F i (by omega), List.map_append]
    rfl
theorem lf_more (F C : List Int) (base : Int) (hF : diffB F = true) (hb : memB base = true) (n : Nat) (hn : F.length = n) : enB memB ((n : Int) + 1) (lfTo F C base n) = false := by
  have hc := lf_cnt F C base hF hb n (by omega)
  unfold enB cntP
  unfold cntA at hc
  rw [hc]
  dsimp only
  rw [List.length_take, decide_eq_false (show ¬ (n : Int) + 1 ≤ ((min n F.length : Nat) : Int) by omega), Bool.and_false]
theorem lf_lift (F C : List Int) (base : Int) (hF : diffB F = true) (hb : memB base = true) (n : Nat) (hn : F.length = n) (h1 : 1 ≤ n) (hC : C.length = n) (hC0 : 0 ≤ ptAt C 0 ∧ ptAt C 0 < 1152921504606845789) :
    enB memB n (lfTo F C base n) = true ∧ liftedZ n (lfTo F C base n) = powM base (ptAt C 0) 2305843009213691579 := by
  have hc := lf_cnt F C base hF hb n (by omega)
  rw [← hn, List.take_length] at hc
  obtain ⟨⟨hp, hN⟩, hlen⟩ := cnt_more memB (lfTo F C base F.length) [] F.length F _ rfl (List.length_map _) hc
  rw [hn, List.append_nil] at hp hN hlen
  have he : enB memB n (lfTo F C base n) = true := by
    unfold enB
    rw [decide_eq_true (show (1 : Int) ≤ n by omega), decide_eq_true (show (n : Int) ≤ ((cntP memB (lfTo F C base n)).length : Nat) by omega)]; rfl
  refine ⟨he, ?_⟩
  rw [lifted_eq n _ he, Int.toNat_natCast, hp, hN]
  have hl := lift_law F (F.map (fun x => powM base (valZ C x) 2305843009213691579)) (F.map (valZ C)) base hb (fun j hj => by
    have hv := valZ_bd C (ptAt F j)
    have e1 : ptAt (F.map (valZ C)) j = valZ C (ptAt F j) := by unfold ptAt; simp [List.getD, hj]
    have e2 : ptAt (F.map (fun x => powM base (valZ C x) 2305843009213691579)) j = powM base (valZ C (ptAt F j)) 2305843009213691579 := by unfold ptAt; simp [List.getD, hj]
    rw [e1, e2]
    exact ⟨rfl, hv.1, hv.2⟩) n (by omega)
  rw [hl]
  have := comb_first F (F.map (valZ C)) C hF (by omega) hC0 (fun j hj => by unfold ptAt; simp [List.getD, hj])
  rw [hn] at this
  rw [this]
  rfl
end Go.Proofs.YtlhfgbkonmgahaaGreatDoor

namespace Go.Proofs.YtlhfgbkonmgahaaGreatDoor
open Go.RowKit

/-- Boxes of 16 bytes. -/
def b16B (l : List ByteArray) : Bool := l.all (fun s => s.size == 16)
theorem b16_no (l : List ByteArray) (k : Nat) (h : k < l.length) (hb : (sAt l k).size ≠ 16) : b16B l = false := by
  unfold b16B
  rw [List.all_eq_false]
  refine ⟨l[k], List.getElem_mem h, ?_⟩
  have : sAt l k = l[k] := by simp [sAt, List.getD, h]
  rw [← this]; simpa using hb
theorem b16_yes (l : List ByteArray) (h : ∀ j, j < l.length → (sAt l j).size = 16) : b16B l = true := by
  unfold b16B
  rw [List.all_eq_true]
  intro x hx
  obtain ⟨j, hj, rfl⟩ := List.mem_iff_getElem.1 hx
  have := h j hj
  simpa [sAt, List.getD, hj] using this
/-- Is a dealing in form for n keys? -/
def chkB (d : Dl) (n : Nat) : Bool := (decide (d.bx.length = n) && decide (1 ≤ d.cm.length) && decide (d.cm.length ≤ n)) && (b16B d.bx && (membersB d.cm && memB d.pt))

/-- The number of points of rows. -/
def gridTo (rows : List (List Int)) : Nat → Nat
  | 0 => 0
  | k + 1 => gridTo rows k + (rows.getD k []).length
def gridN (rows : List (List Int)) : Nat := gridTo rows rows.length
end Go.Proofs.YtlhfgbkonmgahaaGreatDoor

namespace Go.Proofs.YtlhfgbkonmgahaaGreatDoor
open Go.RowKit

/-- Are all dealings in form, with as many commitments as are needed? -/
def fitB (ds : List Dl) (n nd : Nat) : Bool := ds.all (fun d => chkB d n && decide (d.cm.length = nd))
theorem fit_no (ds : List Dl) (n nd k : Nat) (h : k < ds.length) (hb : (chkB (dlAt ds k) n && decide ((dlAt ds k).cm.length = nd)) = false) : fitB ds n nd = false := by
  unfold fitB
  rw [List.all_eq_false]
  refine ⟨ds[k], List.getElem_mem h, ?_⟩
  have : dlAt ds k = ds[k] := by simp [dlAt, List.getD, h]
  rw [← this, hb]; simp
theorem fit_yes (ds : List Dl) (n nd : Nat) (h : ∀ j, j < ds.length → (chkB (dlAt ds j) n && decide ((dlAt ds j).cm.length = nd)) = true) : fitB ds n nd = true := by
  unfold fitB
  rw [List.all_eq_true]
  intro x hx
  obtain ⟨j, hj, rfl⟩ := List.mem_iff_getElem.1 hx
  have := h j hj
  simpa [dlAt, List.getD, hj] using this
/-- No dealing is longer than memory. -/
structure DlsS (ds : List Dl) : Prop where
  len : ds.length ≤ 1000
  each : ∀ j, j < ds.length → (dlAt ds j).bx.length ≤ 1000000 ∧ (dlAt ds j).cm.length ≤ 1000000

end Go.Proofs.YtlhfgbkonmgahaaGreatDoor

namespace Go.Proofs.YtlhfgbkonmgahaaGreatDoor
open Go.RowKit

end Go.Proofs.YtlhfgbkonmgahaaGreatDoor

namespace Go.Proofs.YtlhfgbkonmgahaaGreatDoor
open Go.RowKit

/-- The product of commitments. -/
def prodTo (ds : List Dl) (j : Nat) : Nat → Int
  | 0 => 1
  | k + 1 => prodTo ds j k * ptAt (dlAt ds k).cm j % 2305843009213691579
def colTo (ds : List Dl) (nd : Nat) : Nat → List Int
  | 0 => zerosL nd
  | j + 1 => (colTo ds nd j).set j (prodTo ds j ds.length)
theorem colTo_len (ds : List Dl) (nd : Nat) : ∀ j, (colTo ds nd j).length = nd
  | 0 => zerosL_len nd
  | j + 1 => by rw [colTo, List.length_set, colTo_len ds nd j]
theorem colTo_in (ds : List Dl) (nd : Nat) : ∀ j i, i < j → i < nd → ptAt (colTo ds nd j) i = prodTo ds i ds.length
  | j + 1, i, h, h2 => by
    rw [colTo, ptAt_set]
    by_cases e : j = i
    · subst e; rw [if_pos ⟨rfl, by rw [colTo_len]; exact h2⟩]
    · rw [if_neg (fun c => e c.1), colTo_in ds nd j i (by omega) h2]
def nOf (l : List Mb) : Nat := (sumTo l l.length).toNat
/-- Do dealings fit members? -/
def begB (l : List Mb) (ds : List Dl) : Bool := rightB l && (decide (1 ≤ ds.length) && fitB ds (nOf l) (ndOf l))
theorem right_parts {l : List Mb} (h : rightB l = true) : (1 ≤ l.length ∧ l.length ≤ 13) ∧ mbOk l l.length = true ∧ sumTo l l.length ≤ 60 := by
  unfold rightB at h
  simp only [Bool.and_eq_true, decide_eq_true_eq] at h
  exact ⟨h.1, h.2.1, h.2.2⟩
theorem grid_points {l : List Mb} (h : rightB l = true) : ∀ k, k ≤ l.length → ((gridTo (pointsOf l) k : Nat) : Int) = sumTo l k
  | 0, _ => rfl
  | k + 1, hk => by
    have hw := (mbOk_wt l l.length (right_parts h).2.1).1 k (by omega)
    rw [gridTo, sumTo, pointsOf_at l k (by omega), rowsAt_len, ← grid_points h k (by omega)]
    omega
theorem right_sum {l : List Mb} (h : rightB l = true) : (∀ k, k ≤ l.length → gridTo (pointsOf l) k ≤ 1000000) ∧ gridN (pointsOf l) = nOf l ∧ 1 ≤ nOf l ∧ nOf l ≤ 60 ∧ needZ (nOf l) = ndOf l ∧ 1 ≤ ndOf l ∧ ndOf l ≤ nOf l ∧ totZ l = nOf l := by
  obtain ⟨⟨h1, h2⟩, h3, h4⟩ := right_parts h
  have hs := (mbOk_wt l l.length h3).2
  have hp := sumTo_pos l l.length h3
  have hg := grid_points h
  have hn : (nOf l : Int) = sumTo l l.length := by unfold nOf; have := hs l.length (Nat.le_refl _); omega
  have hnd : needZ (nOf l) = ndOf l := by
    unfold ndOf
    rw [hn]
    have : 0 ≤ needZ (sumTo l l.length) := by unfold needZ mostZ; split <;> (try split) <;> omega
    omega
  have hnb : 1 ≤ needZ (nOf l) ∧ needZ (nOf l) ≤ nOf l := by
    rw [hn]
    unfold needZ mostZ
    rw [if_neg (by omega), if_neg (by omega)]
    omega
  refine ⟨fun k hk => ?_, ?_, by omega, by omega, hnd, by omega, by omega, ?_⟩
  · have := hg k hk; have := hs k hk; omega
  · unfold gridN; rw [pointsOf_len]; have := hg l.length (Nat.le_refl _); omega
  · unfold totZ; rw [if_pos h]; omega
theorem points_ne {l : List Mb} (h : rightB l = true) (j : Nat) (hj : j < (pointsOf l).length) : 0 < ((pointsOf l).getD j []).length := by
  rw [pointsOf_len] at hj
  rw [pointsOf_at l j hj, rowsAt_len]
  have := ((mbOk_wt l l.length (right_parts h).2.1).1 j hj).1
  omega
/-- A block of empty slices is written: rows elsewhere stay. -/
theorem grid_kept {A B : World} {g : Nat} {v : Value} {rows : List (List Int)} (hO : Only (fun k => k = g) A B) (hg : ∀ o z, A.cell? ⟨g, o, none⟩ ≠ some (.int .i64 z)) (hg2 : ∀ o a n c, A.cell? ⟨g, o, none⟩ = some (.slice a n c) → n = 0)
    (hne : ∀ j, j < rows.length → 0 < (rows.getD j []).length) (h : GridAt A v rows) : GridAt B v rows := by
  rcases h with h | ⟨b, off, cap, e, hb, h1, h2, hc⟩
  · exact .inl h
  · refine .inr ⟨b, off, cap, e, Nat.lt_of_lt_of_le hb hO.size, h1, h2, fun j hj => ?_⟩
    obtain ⟨u, hu, hp⟩ := hc j hj
    refine ⟨u, hO.cell hu (fun e => ?_), pts_kept hO hg hp⟩
    obtain ⟨a, c, rfl⟩ := hp.slice
    have := hg2 (off + j) _ _ _ (by rw [← show b = g from e]; exact hu)
    have := hne j hj
    omega
theorem keys_empty {w : World} {g : Nat} {t : TypeId} (h : w.heap[g]? = some (.cells #[.slice none 0 0, .slice none 0 0] t (0, 0))) : (∀ o z, w.cell? ⟨g, o, none⟩ ≠ some (.int .i64 z)) ∧ ∀ o a n c, w.cell? ⟨g, o, none⟩ = some (.slice a n c) → n = 0 := by
  refine ⟨fun o z e => ?_, fun o a n c e => ?_⟩
  · rw [cell_of_row _ _ o _ _ _ h] at e
    match o with
    | 0 => simp at e
    | 1 => simp at e
    | o + 2 => simp at e
  · rw [cell_of_row _ _ o _ _ _ h] at e
    match o with
    | 0 => simp at e; omega
    | 1 => simp at e; omega
    | o + 2 => simp at e
theorem own_made (w : World) (n : Nat) (hn : n ≤ 1000000) : (w.alloc (.cells (madeCells #[.int .i64 0] n) 3)).ownsRow w.heap.size 3 1 (.slice (some ⟨w.heap.size, 0, none⟩) n n) (zerosL n).length (irow (zerosL n)) := by
  rw [zerosL_len]
  refine ⟨by rw [irow_length, zerosL_len, Nat.mul_one], .inr ⟨w.heap.size, n, _, rfl, Nat.le_refl _, heap_alloc_last w _, Nat.le_refl _, by unfold maxLen; omega, by rw [size_madeCells, Nat.mul_one], ?_⟩⟩
  rw [toList_madeCells_one, Nat.mul_one, List.take_of_length_le (by simp)]
  unfold irow zerosL
  rw [List.map_replicate]
theorem fit_at (ds : List Dl) (n nd : Nat) (h : fitB ds n nd = true) (k : Nat) (hk : k < ds.length) : (dlAt ds k).cm.length = nd := by
  unfold fitB at h
  rw [List.all_eq_true] at h
  have h1 := h ds[k] (List.getElem_mem hk)
  simp only [Bool.and_eq_true, decide_eq_true_eq] at h1
  have : dlAt ds k = ds[k] := by simp [dlAt, List.getD, hk]
  rw [this]; exact h1.2
/-- The commitments that are being made, in the block behind w2. -/
structure CbAt (w2 wr : World) (nd : Nat) (L : List Int) : Prop where
  own : wr.ownsRow w2.heap.size 3 1 (.slice (some ⟨w2.heap.size, 0, none⟩) nd nd) L.length (irow L)
  only : Only (fun _ => False) w2 wr
theorem CbAt.frame {w2 wr w' : World} {nd : Nat} {L : List Int} (h : CbAt w2 wr nd L) (hO : Only (fun _ => False) wr w') : CbAt w2 w' nd L := ⟨hO.owns h.own (fun _ _ h => h), h.only.trans hO⟩
theorem CbAt.put {w2 wr : World} {nd j : Nat} {L : List Int} {z : Int} (h : CbAt w2 wr nd L) (hn : L.length = nd) (hj : j < nd) : CbAt w2 (wr.setCell ⟨w2.heap.size, j, none⟩ (.int .i64 z)) nd (L.set j z) := by
  subst hn
  refine ⟨?_, h.only.setCell (.inr (Nat.le_refl _)) _⟩
  rw [List.length_set, ← irow_set]
  exact own_set h.own _ hj
/-- What Begin leaves. -/
def BegPost (w : World) (l : List Mb) (ds : List Dl) (e : Ending) (w' : World) : Prop :=
  Only (fun _ => False) w w' ∧ ((begB l ds = true ∧ ∃ vc vp, e = .returned (.tuple #[.agg #[vc, vp], .bool true]) ∧ w'.ownsRow (w.heap.size + 1) 3 1 vc (colTo ds (ndOf l) (ndOf l)).length (irow (colTo ds (ndOf l) (ndOf l))) ∧ GridAt w' vp (pointsOf l)) ∨
    (begB l ds = false ∧ e = .returned (.tuple #[.agg #[.slice none 0 0, .slice none 0 0], .bool false])))

end Go.Proofs.YtlhfgbkonmgahaaGreatDoor

namespace Go.Proofs.YtlhfgbkonmgahaaGreatDoor
open Go.RowKit

theorem chk_ok {d : Dl} {n : Nat} (h : chkB d n = true) : ChkOk d n := by
  unfold chkB at h
  simp only [Bool.and_eq_true, decide_eq_true_eq] at h
  obtain ⟨⟨⟨h1, h2⟩, h3⟩, h4, h5, h6⟩ := h
  refine ⟨h1, h2, h3, h6, h5, fun j hj => ?_⟩
  unfold b16B at h4
  rw [List.all_eq_true] at h4
  have hj2 : j < d.bx.length := by omega
  have := h4 d.bx[j] (List.getElem_mem hj2)
  have e : sAt d.bx j = d.bx[j] := by simp [sAt, List.getD, hj2]
  rw [e]; simpa using this
theorem fit_chk (ds : List Dl) (n nd : Nat) (h : fitB ds n nd = true) (k : Nat) (hk : k < ds.length) : ChkOk (dlAt ds k) n ∧ (dlAt ds k).cm.length = nd := by
  refine ⟨?_, fit_at ds n nd h k hk⟩
  unfold fitB at h
  rw [List.all_eq_true] at h
  have h1 := h ds[k] (List.getElem_mem hk)
  simp only [Bool.and_eq_true, decide_eq_true_eq] at h1
  have : dlAt ds k = ds[k] := by simp [dlAt, List.getD, hk]
  rw [this]; exact chk_ok h1.1
/-- What the reference's Begin leaves. -/
def RBegPost (w : World) (l : List Mb) (ds : List Dl) (e : Ending) (w' : World) : Prop :=
  Only (fun _ => False) w w' ∧ ((begB l ds = true ∧ BeginPost w (mixL ds (onesL ds.length) (ndOf l)) (pointsOf l) e w') ∨
    (begB l ds = false ∧ e = .returned (.tuple #[.agg #[.slice none 0 0, .slice none 0 0], .bool false])))
theorem begB_parts {l : List Mb} {ds : List Dl} (h : begB l ds = true) : rightB l = true ∧ 1 ≤ ds.length ∧ fitB ds (nOf l) (ndOf l) = true := by
  unfold begB at h
  simp only [Bool.and_eq_true, decide_eq_true_eq] at h
  exact ⟨h.1, h.2.1, h.2.2⟩

/-- The two products are the same. -/
theorem powM_one (c : Int) : powM c 1 2305843009213691579 = c % 2305843009213691579 := by
  rw [powM_eq c 1 _ (by decide) (by decide) (by decide)]
  show c ^ 1 % _ = _
  rw [Int.pow_succ, Int.pow_zero, Int.one_mul]
theorem mix_prod (ds : List Dl) (m j : Nat) : ∀ k, k ≤ m → mixTo ds (onesL m) j k = prodTo ds j k
  | 0, _ => rfl
  | k + 1, h => by
    rw [mixTo, prodTo, mix_prod ds m j k (by omega), onesL_at m k (by omega), powM_one]
    exact (Cong.mul (Cong.refl _ _) (Cong.mod _ _)).emod
theorem mixL_at (ds : List Dl) (pw : List Int) : ∀ m j, j < m → ptAt (mixL ds pw m) j = mixTo ds pw j ds.length
  | m + 1, j, h => by
    rw [mixL, ptAt_append, mixL_len]
    by_cases e : j < m
    · rw [if_pos e, mixL_at ds pw m j e]
    · obtain rfl : j = m := by omega
      rw [if_neg e, if_pos rfl]
theorem list_ext {a b : List Int} (hl : a.length = b.length) (h : ∀ j, j < a.length → ptAt a j = ptAt b j) : a = b := by
  refine List.ext_getElem hl (fun i h1 h2 => ?_)
  have := h i h1
  simpa [ptAt, List.getD, h1, h2] using this
theorem mix_col (ds : List Dl) (nd : Nat) : mixL ds (onesL ds.length) nd = colTo ds nd nd := by
  refine list_ext (by rw [mixL_len, colTo_len]) (fun j hj => ?_)
  rw [mixL_len] at hj
  rw [mixL_at _ _ _ _ hj, colTo_in ds nd nd j hj hj, mix_prod ds _ j _ (Nat.le_refl _)]
end Go.Proofs.YtlhfgbkonmgahaaGreatDoor

namespace Go.Proofs.YtlhfgbkonmgahaaGreatDoor
open Go.RowKit

/-- Are the first t numbers of a row those behind s? -/
def rowOkTo (s : Nat) (r : List Int) : Nat → Bool
  | 0 => true
  | t + 1 => rowOkTo s r t && decide (ptAt r t = (s : Int) + t + 1)
def rowsOk (rows : List (List Int)) : Nat → Bool
  | 0 => true
  | k + 1 => rowsOk rows k && (decide (0 < (rows.getD k []).length) && rowOkTo (gridTo rows k) (rows.getD k []) (rows.getD k []).length)
theorem rowOkTo_false (s : Nat) (r : List Int) : ∀ (k j : Nat), j ≤ k → rowOkTo s r j = false → rowOkTo s r k = false
  | 0, j, hj, h => by rw [show j = 0 by omega] at h; exact h
  | k + 1, j, hj, h => by
    by_cases e : j = k + 1
    · rw [← e]; exact h
    · rw [rowOkTo, rowOkTo_false s r k j (by omega) h]; rfl
theorem rowsOk_false (rows : List (List Int)) : ∀ (k j : Nat), j ≤ k → rowsOk rows j = false → rowsOk rows k = false
  | 0, j, hj, h => by rw [show j = 0 by omega] at h; exact h
  | k + 1, j, hj, h => by
    by_cases e : j = k + 1
    · rw [← e]; exact h
    · rw [rowsOk, rowsOk_false rows k j (by omega) h]; rfl
/-- Are keys right? -/
def rightKB (rows : List (List Int)) (cm : List Int) : Bool := rowsOk rows rows.length && ((decide (1 ≤ gridN rows) && decide (gridN rows ≤ 60) && decide ((cm.length : Int) = needZ (gridN rows))) && membersB cm)

set_option maxRecDepth 100000 in
set_option maxHeartbeats 2000000 in
theorem right_is (ac ap : Option Addr) (cc cp : Nat) (cm : List Int) (rows : List (List Int)) (bb : Bool) (w : World) (hC : PtsAt w.heap.size w (.slice ac cm.length cc) cm) (hG : GridAt w (.slice ap rows.length cp) rows) (hs : ∀ k, k ≤ rows.length → gridTo rows k ≤ 1000000) (_hcm : cm.length ≤ 1000000) (hb : rightKB rows cm = bb) :
    Calls Tryz.prog 44 #[.agg #[.slice ac cm.length cc, .slice ap rows.length cp]] w fun e w' => e = .returned (.bool bb) ∧ Only (fun _ => False) w w' := by
  have hA := (Only.refl (fun _ => False) w).alloc (.cells #[.slice ac cm.length cc, .slice ap rows.length cp] 41)
  have hz := heap_alloc_last w (.cells #[.slice ac cm.length cc, .slice ap rows.length cp] 41)
  have HZ := Lib.hid hz
  have HA := Lib.hid hA
  have HC := Lib.hid (hC.only hA)
  have HG := Lib.hid (hG.only hA)
  have HS := Lib.hid hs
  have HB := Lib.hid hb
  have e0 := cell_of_row _ _ 0 _ _ _ hz
  have e1 := cell_of_row _ _ 1 _ _ _ hz
  have l0 := own_lt0 hz
  clear hC hG hA hz hs hb
  go_enter Tryz.func44, Tryz.ntmps44
  go_wp2_with fail
  generalize w.alloc (.cells #[.slice ac cm.length cc, .slice ap rows.length cp] 41) = w1 at *
  go_loop [3, 14] (fun vn vi => ∃ k : Nat, k ≤ rows.length ∧ vi = .int .i64 k ∧ vn = .int .i64 ((gridTo rows k : Nat) + 1) ∧ rowsOk rows k = true) (fun _ vi => rows.length - (intOf vi).toNat)
  case atStart => exact ⟨0, Nat.zero_le _, rfl, rfl, rfl⟩
  case round =>
    obtain ⟨k, hk, rfl, rfl, hok⟩ := hrel
    have HOK := Lib.hid hok
    have hs1 := HS.out k hk
    clear hok
    by_cases hlt : k < rows.length
    · have i1 : (k : Int) < rows.length := by omega
      obtain ⟨b, off, rfl, hb, hcp1, hcp2, hc⟩ : ∃ b off, ap = some ⟨b, off, none⟩ ∧ b < w1.heap.size ∧ rows.length ≤ cp ∧ cp ≤ 9223372036854775807 ∧ ∀ j, j < rows.length → ∃ u, w1.cell? ⟨b, off + j, none⟩ = some u ∧ PtsAt w1.heap.size w1 u (rows.getD j []) := by
        rcases HG.out with ⟨_, _, _, h0⟩ | ⟨b, off, cap, hv, hb, h1, h2, hc⟩
        · rw [h0] at hlt; simp at hlt
        · simp only [Value.slice.injEq, true_and] at hv
          obtain ⟨rfl, rfl⟩ := hv
          exact ⟨b, off, rfl, hb, h1, h2, hc⟩
      obtain ⟨u, hu, hp⟩ := hc k hlt
      have HP := Lib.hid hp
      obtain ⟨au, cu, rfl⟩ := hp.slice
      have HN := Lib.hid (show rowsOk rows (k + 1) = (rowsOk rows k && (decide (0 < (rows.getD k []).length) && rowOkTo (gridTo rows k) (rows.getD k []) (rows.getD k []).length)) from rfl)
      have HGN := Lib.hid (show gridTo rows (k + 1) = gridTo rows k + (rows.getD k []).length from rfl)
      have hs2 := HS.out (k + 1) (by omega)
      rw [HGN.out] at hs2
      have HNO := Lib.hid (fun (h : rowsOk rows (k + 1) = false) => show bb = false by rw [← HB.out]; unfold rightKB; rw [rowsOk_false rows rows.length (k + 1) (by omega) h]; rfl)
      generalize gridTo rows k = s at *
      generalize rows.getD k [] = r at *
      clear hc hp
      by_cases hr0 : 0 < r.length
      · have q1 : ((r.length : Int) == 0) = false := beq_eq_false_iff_ne.2 (by omega)
        rw [HOK.out, decide_eq_true hr0, Bool.true_and, Bool.true_and] at HN
        go_wp2_with fail
        go_loop [3, 23] (fun vn vt => ∃ t : Nat, t ≤ r.length ∧ vt = .int .i64 t ∧ vn = .int .i64 ((s + t : Nat) + 1) ∧ rowOkTo s r t = true) (fun _ vt => r.length - (intOf vt).toNat)
        case atStart => exact ⟨0, Nat.zero_le _, rfl, rfl, rfl⟩
        case round =>
          obtain ⟨t, ht, rfl, rfl, htk⟩ := hrel
          have HTK := Lib.hid htk
          clear htk
          by_cases htl : t < r.length
          · obtain ⟨br, orr, rfl, hbr, hrl, hcr1, hcr2, hcell⟩ := HP.out.cellAt htl
            have HTN := Lib.hid (show rowOkTo s r (t + 1) = (rowOkTo s r t && decide (ptAt r t = (s : Int) + t + 1)) from rfl)
            have i2 : (t : Int) < r.length := by omega
            have i3 : 0 ≤ (t : Int) := by omega
            clear hrl
            by_cases hx : ptAt r t = (s : Int) + t + 1
            · have HT1 := Lib.hid (show rowOkTo s r (t + 1) = true by rw [HTN.out, HTK.out, decide_eq_true hx]; rfl)
              have q2 : (ptAt r t != ((s + t : Nat) : Int) + 1) = false := by rw [hx]; simp
              generalize ptAt r t = x at *
              clear hx HTN
              go_wp2
              go_round
              case rel => exact ⟨t + 1, by omega, by go_num, by go_num, HT1.out⟩
              case measure => simp [intOf]; omega
            · have HF := Lib.hid (HNO.out (by rw [HN.out]; exact rowOkTo_false s r r.length (t + 1) (by omega) (by rw [HTN.out, HTK.out, decide_eq_false hx]; rfl)))
              have q2 : (ptAt r t != ((s + t : Nat) : Int) + 1) = true := by rw [bne_iff_ne]; omega
              generalize ptAt r t = x at *
              clear hx HTN
              go_wp2
              go_ret
              exact ⟨by rw [HF.out]; rfl, HA.out⟩
          · obtain rfl : t = r.length := by omega
            have i2 : ¬ (r.length : Int) < r.length := by omega
            go_wp2
            go_round
            case rel => exact ⟨k + 1, by omega, by go_num, by rw [HGN.out], by rw [HN.out]; exact HTK.out⟩
            case measure => simp [intOf]; omega
      · have HF := Lib.hid (HNO.out (by rw [HN.out, decide_eq_false hr0]; simp))
        have q1 : ((r.length : Int) == 0) = true := beq_iff_eq.2 (by omega)
        go_wp2
        go_ret
        exact ⟨by rw [HF.out]; rfl, HA.out⟩
    · obtain rfl : k = rows.length := by omega
      have i1 : ¬ (rows.length : Int) < rows.length := by omega
      have HGR := Lib.hid (show gridN rows = gridTo rows rows.length from rfl)
      have HBB := Lib.hid (show bb = ((decide (1 ≤ gridN rows) && decide (gridN rows ≤ 60) && decide ((cm.length : Int) = needZ (gridN rows))) && membersB cm) by rw [← HB.out]; unfold rightKB; rw [HOK.out, Bool.true_and])
      rw [HGR.out] at HBB
      generalize gridTo rows rows.length = n at *
      have HND := Lib.hid (fun w => need_is n (needZ n) w (by omega) rfl)
      have k1 : (n : Int) + 1 - 1 = n := by omega
      have k2 : IntKind.i64.wrap ((n : Int) + 1 - 1) = n := by rw [k1]; exact IntWalk.i64_in _ (by omega)
      by_cases h1 : 1 ≤ n
      · by_cases h2 : n ≤ 60
        · have hnz : 0 ≤ needZ n ∧ needZ n ≤ 60 := by unfold needZ mostZ; split <;> (try split) <;> omega
          by_cases h3 : (cm.length : Int) = needZ n
          · rw [decide_eq_true h1, decide_eq_true h2, decide_eq_true h3, Bool.true_and, Bool.true_and, Bool.true_and] at HBB
            have q1 : ¬ (n : Int) < 1 := by omega
            have q2 : ¬ (60 : Int) < n := by omega
            have q3 : ((cm.length : Int) != needZ n) = false := by rw [h3]; simp
            clear h3
            generalize needZ n = nz at *
            go_wp2_with fail
            go_quiet ((go_at_call 78; exact quiet_left (HND.out _)))
            have HOQ := Lib.hid (HA.out.drewN nq)
            have HCQ := Lib.hid (HC.out.only ((Only.refl (fun _ => False) w1).drewN nq))
            have d0 : (w1.drewN nq).cell? ⟨w.heap.size, 0, none⟩ = some (.slice ac cm.length cc) := e0
            have dl : w.heap.size < (w1.drewN nq).heap.size := l0
            clear k1 k2 e0 e1 l0 HA HC HG
            generalize w1.drewN nq = w2 at *
            go_wp2_with fail
            go_loopw [53] (fun vi wr => ∃ (j : Nat), j ≤ cm.length ∧ vi = .int .i64 j ∧ (∀ i, i < j → memB (ptAt cm i) = true) ∧ Only (fun _ => False) w2 wr) (fun vi _ => cm.length - (intOf vi).toNat)
            case atStart => exact ⟨0, Nat.zero_le _, rfl, fun j h => by omega, Only.refl _ _⟩
            case round =>
              obtain ⟨j, hj, rfl, hall, hO⟩ := hrel
              have HAL := Lib.hid hall
              have HO := Lib.hid hO
              clear hall hO
              by_cases hjl : j < cm.length
              · obtain ⟨b, off, rfl, hb, hl0, hc1, hc2, hcell⟩ := (HCQ.out.only HO.out).cellAt hjl
                have i2 : (j : Int) < cm.length := by omega
                clear hl0
                cases hm : memB (ptAt cm j)
                · have HF := Lib.hid (show bb = false by rw [HBB.out]; exact membersB_take cm j hjl hm)
                  have HM := Lib.hid (member_is (ptAt cm j) false wr hm)
                  generalize ptAt cm j = z at *
                  go_wp2_with fail
                  refine HM.out.mono ?_
                  rintro e w3 ⟨rfl, hO3⟩
                  have HO3 := Lib.hid ((HOQ.out.trans HO.out).trans hO3)
                  clear hO3
                  go_wp2
                  go_ret
                  exact ⟨by rw [HF.out]; rfl, HO3.out⟩
                · have HN := Lib.hid (show ∀ i, i < j + 1 → memB (ptAt cm i) = true from fun i hi => by
                    by_cases e : i = j
                    · rw [e]; exact hm
                    · exact HAL.out i (by omega))
                  have HM := Lib.hid (member_is (ptAt cm j) true wr hm)
                  generalize ptAt cm j = z at *
                  go_wp2_with fail
                  refine HM.out.mono ?_
                  rintro e w3 ⟨rfl, hO3⟩
                  have HO3 := Lib.hid (HO.out.trans hO3)
                  clear hO3
                  go_wp2
                  go_roundw
                  case rel => exact ⟨j + 1, by omega, by go_num, HN.out, HO3.out⟩
                  case measure => simp [intOf]; omega
              · have HT := Lib.hid (show bb = true by rw [HBB.out]; exact membersB_all cm (fun i hi => HAL.out i (by omega)))
                have i2 : ¬ (j : Int) < cm.length := by omega
                have HO3 := Lib.hid (HOQ.out.trans HO.out)
                go_wp2
                go_ret
                exact ⟨by rw [HT.out]; rfl, HO3.out⟩
          · rw [decide_eq_false h3] at HBB
            have HF := Lib.hid (show bb = false by rw [HBB.out]; simp)
            have q1 : ¬ (n : Int) < 1 := by omega
            have q2 : ¬ (60 : Int) < n := by omega
            have q3 : ((cm.length : Int) != needZ n) = true := by rw [bne_iff_ne]; exact h3
            clear h3 HBB
            generalize needZ n = nz at *
            go_wp2_with fail
            go_quiet ((go_at_call 78; exact quiet_left (HND.out _)))
            have HOQ := Lib.hid (HA.out.drewN nq)
            go_wp2
            go_ret
            exact ⟨by rw [HF.out]; rfl, HOQ.out⟩
        · have HF := Lib.hid (show bb = false by rw [HBB.out, decide_eq_false h2]; simp)
          have q1 : ¬ (n : Int) < 1 := by omega
          have q2 : (60 : Int) < n := by omega
          clear HBB
          go_wp2_with fail
          go_quiet (fail)
          have HOQ := Lib.hid (HA.out.drewN nq)
          go_wp2
          go_ret
          exact ⟨by rw [HF.out]; rfl, HOQ.out⟩
      · have HF := Lib.hid (show bb = false by rw [HBB.out, decide_eq_false h1]; simp)
        have q1 : (n : Int) < 1 := by omega
        clear HBB
        go_wp2_with fail
        go_quiet (fail)
        have HOQ := Lib.hid (HA.out.drewN nq)
        go_wp2
        go_ret
        exact ⟨by rw [HF.out]; rfl, HOQ.out⟩
end Go.Proofs.YtlhfgbkonmgahaaGreatDoor

namespace Go.Proofs.YtlhfgbkonmgahaaGreatDoor
open Go.RowKit

/-- Powers of one base: exponents add. -/
theorem pow_addQ {a x y : Int} (h : memB a = true) (hx : 0 ≤ x) (hx2 : x < 1152921504606845789) (hy : 0 ≤ y) (hy2 : y < 1152921504606845789) : powM a x 2305843009213691579 * powM a y 2305843009213691579 % 2305843009213691579 = powM a ((x + y) % 1152921504606845789) 2305843009213691579 := by
  have hin := ((memB_iff a).1 h).2.2
  have hz := emod_self_lt (x + y) 1152921504606845789 (by decide)
  have h1 := powM_cong a x 2305843009213691579 hx (by omega)
  have h2 := powM_cong a y 2305843009213691579 hy (by omega)
  have h3 := powM_cong a ((x + y) % 1152921504606845789) 2305843009213691579 hz.1 (by omega)
  have h4 := hin.exp (x.toNat + y.toNat)
  have e : (x.toNat + y.toNat) % 1152921504606845789 = ((x + y) % 1152921504606845789).toNat := by omega
  rw [e, Int.pow_add] at h4
  have hc : Cong 2305843009213691579 (powM a x 2305843009213691579 * powM a y 2305843009213691579) (powM a ((x + y) % 1152921504606845789) 2305843009213691579) := (h1.mul h2).trans (Cong.trans (show Cong 2305843009213691579 _ _ from h4) h3.symm)
  rw [hc.emod]
  have hb := powM_bd a ((x + y) % 1152921504606845789) 2305843009213691579 (by decide)
  exact Int.emod_eq_of_lt hb.1 hb.2
theorem cmTo_at (cs : List Int) : ∀ k j, j < k → ptAt (cmTo cs k) j = powM 4 (ptAt cs j) 2305843009213691579
  | k + 1, j, h => by
    rw [cmTo, ptAt_append, cmTo_len]
    by_cases e : j < k
    · rw [if_pos e, cmTo_at cs k j e]
    · obtain rfl : j = k := by omega
      rw [if_neg e, if_pos rfl]
theorem powM_zero4 : powM 4 0 2305843009213691579 = 1 := by kernel_rfl
/-- The product of the commitments is the commitment of the sum. -/
theorem prod_coef (l : List Mb) (nd j : Nat) (hj : j < nd) : ∀ k, k ≤ l.length → prodTo (dlsTo l firstS nd l.length) j k = powM 4 (ptAt (coefTo l nd k) j) 2305843009213691579
  | 0, _ => by rw [prodTo, coefTo, zerosL_at, powM_zero4]
  | k + 1, h => by
    have ih := prod_coef l nd j hj k (by omega)
    have hb := coefTo_bd l nd k j
    have hp := polyTo_bd (seedOf l k) nd j
    rw [prodTo, ih, dlsTo_at _ _ _ _ _ (show k < l.length by omega), coefTo, addTo_in _ _ _ _ hj (by rw [coefTo_len]; exact hj)]
    have e : ptAt (dlOf l firstS nd k).cm j = powM 4 (ptAt (polyTo (seedOf l k) nd) j) 2305843009213691579 := by
      unfold dlOf dealZ
      dsimp only
      rw [polyTo_len, cmTo_at _ _ _ hj]
      rfl
    rw [e]
    exact pow_addQ mem_four hb.1 hb.2 hp.1 hp.2
theorem comm_coef (zs : List Int) : commZ zs = cmTo (coefZ zs) (ndZ zs) := by
  have hl : (dealsZ zs).length = (crewZ zs).length := dlsTo_len _ _ _ _
  unfold commZ
  rw [mix_col]
  refine list_ext (by rw [colTo_len, cmTo_len]) (fun j hj => ?_)
  rw [colTo_len] at hj
  rw [colTo_in _ _ _ j hj hj, cmTo_at _ _ _ hj, hl]
  unfold dealsZ coefZ
  exact prod_coef _ _ _ hj _ (Nat.le_refl _)
theorem upI_at (s : Int) : ∀ (m t : Nat), t < m → ptAt (upI s m) t = s + t + 1
  | m + 1, t, h => by
    rw [upI, ptAt_append, upI_len]
    by_cases e : t < m
    · rw [if_pos e, upI_at s m t e]
    · obtain rfl : t = m := by omega
      rw [if_neg e, if_pos rfl]
theorem rowOk_up (s m : Nat) : ∀ t, t ≤ m → rowOkTo s (upI (s : Int) m) t = true
  | 0, _ => rfl
  | t + 1, h => by rw [rowOkTo, rowOk_up s m t (by omega), upI_at (s : Int) m t (by omega), decide_eq_true rfl]; rfl
theorem rows_points {l : List Mb} (h : rightB l = true) : ∀ k, k ≤ l.length → rowsOk (pointsOf l) k = true
  | 0, _ => rfl
  | k + 1, hk => by
    have hw := (mbOk_wt l l.length (right_parts h).2.1).1 k (by omega)
    have hg := grid_points h k (by omega)
    rw [rowsOk, rows_points h k (by omega), pointsOf_at l k (by omega), rowsAt_len, decide_eq_true (show 0 < (mbAt l k).wt.toNat by omega)]
    unfold rowsAt
    rw [← hg, rowOk_up _ _ _ (Nat.le_refl _)]
    rfl
/-- Keys of a group that was made are right. -/
theorem right_keys {l : List Mb} {cm : List Int} (h : rightB l = true) (hl : cm.length = ndOf l) (hm : membersB cm = true) : rightKB (pointsOf l) cm = true := by
  obtain ⟨s1, s2, s3, s4, s5, s6, s7, s8⟩ := right_sum h
  unfold rightKB
  rw [pointsOf_len, rows_points h _ (Nat.le_refl _), s2, hm, hl, s5, decide_eq_true s3, decide_eq_true s4, decide_eq_true rfl]
  rfl
theorem comm_mem (zs : List Int) : membersB (commZ zs) = true := by
  rw [comm_coef]
  exact cmTo_mem _ (fun j => coefTo_bd _ _ _ j) _
end Go.Proofs.YtlhfgbkonmgahaaGreatDoor

namespace Go.Proofs.YtlhfgbkonmgahaaGreatDoor
open Go.RowKit

theorem made_right (zs : List Int) : rightB (crewZ zs) = true := crew_right zs 1
theorem made_ok (zs : List Int) : CrewOk (crewZ zs) (ndZ zs) := crew_ok zs 1 (by decide)
/-- The dealings of a group that was made fit. -/
theorem made_fit (zs : List Int) : begB (crewZ zs) (dealsZ zs) = true := by
  have hr := made_right zs
  have hk := made_ok zs
  have hs := right_sum hr
  have ht := crew_tot hr hk
  have hl : (dealsZ zs).length = (crewZ zs).length := dlsTo_len _ _ _ _
  have hn : (boxTo (crewZ zs) (crewZ zs).length).length = nOf (crewZ zs) := by have := ht.1; have := hs.2.2.2.2.2.2.2; omega
  unfold begB
  rw [hr, decide_eq_true (show 1 ≤ (dealsZ zs).length by rw [hl]; exact hk.len1), fit_yes]
  · rfl
  · intro j hj
    rw [hl] at hj
    have h1 := dl_ok (crewZ zs) firstS (ndZ zs) (nOf (crewZ zs)) j hk.nd1 hk.nd2 hn
    have e : dlAt (dealsZ zs) j = dlOf (crewZ zs) firstS (ndZ zs) j := dlsTo_at _ _ _ _ _ hj
    rw [e, decide_eq_true (show (dlOf (crewZ zs) firstS (ndZ zs) j).cm.length = ndOf (crewZ zs) from h1.2), Bool.and_true]
    have hc := h1.1
    unfold chkB
    rw [decide_eq_true hc.bl, decide_eq_true hc.c1, decide_eq_true hc.c2, hc.cm, hc.pt, b16_yes _ (fun k hk => hc.b16 k (by have := hc.bl; omega))]
    rfl
theorem made_col (zs : List Int) : colTo (dealsZ zs) (ndOf (crewZ zs)) (ndOf (crewZ zs)) = commZ zs := by
  unfold commZ
  rw [mix_col]
  rfl
theorem short_points {l : List Mb} (h : rightB l = true) : Short (pointsOf l) := by
  obtain ⟨⟨h1, h2⟩, h3, h4⟩ := right_parts h
  intro j
  by_cases hj : j < l.length
  · rw [pointsOf_at l j hj, rowsAt_len]
    have := ((mbOk_wt l l.length h3).1 j hj).2
    omega
  · have : (pointsOf l).getD j [] = [] := by simp [List.getD, List.getElem?_eq_none (show (pointsOf l).length ≤ j by rw [pointsOf_len]; omega)]
    rw [this]; decide
theorem deals_short {qs : List (Value × Dl × Value)} {l : List Mb} {seed : ByteArray} {nd k : Nat} (hq : qs.map (·.2.1) = dlsTo l seed nd k) : ∀ q ∈ qs, q.2.1.cm.length = nd ∧ q.2.1.bx.length = (boxTo l l.length).length := by
  intro q hm
  obtain ⟨j, hj, rfl⟩ := List.mem_iff_getElem.1 hm
  have hk : qs.length = k := by have := congrArg List.length hq; rw [List.length_map, dlsTo_len] at this; exact this
  have h1 : qs[j].2.1 = dlAt (dlsTo l seed nd k) j := by rw [← hq]; simp [dlAt, List.getD, hj]
  rw [h1, dlsTo_at _ _ _ _ _ (by omega)]
  unfold dlOf dealZ
  dsimp only
  rw [cmTo_len, polyTo_len, bxTo_len]
  exact ⟨rfl, rfl⟩

end Go.Proofs.YtlhfgbkonmgahaaGreatDoor

namespace Go.Proofs.YtlhfgbkonmgahaaGreatDoor
open Go.RowKit

theorem own_ty {w : World} {b e s n g : Nat} {v : Value} {xs : List Value} (h : w.ownsRow b e s v n xs) (hg : v.ownBlock = some g) : ∃ cur, w.heap[g]? = some (.cells cur e (0, 0)) := by
  rcases h.2 with ⟨rfl, _⟩ | ⟨g', cap, cur, rfl, _, hgg, _⟩
  · simp [Value.ownBlock] at hg
  · obtain rfl : g' = g := by simpa [Value.ownBlock] using hg
    exact ⟨cur, hgg⟩
theorem own_ne_ty {w : World} {b e s n b' e' s' n' : Nat} {v v' : Value} {xs xs' : List Value} (h : w.ownsRow b e s v n xs) (h' : w.ownsRow b' e' s' v' n' xs') (hne : e ≠ e') (k : Nat) (hk : v.ownBlock = some k) : v'.ownBlock ≠ some k := by
  intro hk'
  obtain ⟨c, hc⟩ := own_ty h hk
  obtain ⟨c', hc'⟩ := own_ty h' hk'
  rw [hc] at hc'
  simp only [Option.some.injEq, Obj.cells.injEq] at hc'
  exact hne hc'.2.1
theorem own_ne_blk {w : World} {b e s n g t : Nat} {v : Value} {xs : List Value} {cs : Array Value} {fr : Nat × Nat} (h : w.ownsRow b e s v n xs) (hb : w.heap[g]? = some (.cells cs t fr)) (hne : e ≠ t) : v.ownBlock ≠ some g := by
  intro hk
  obtain ⟨c, hc⟩ := own_ty h hk
  rw [hc] at hb
  simp only [Option.some.injEq, Obj.cells.injEq] at hb
  exact hne hb.2.1
theorem own_set' {w : World} {base e n j g cap size : Nat} {xs : List Value} (h : w.ownsRow base e size (.slice (some ⟨g, 0, none⟩) n cap) n xs) (u : Value) : (w.setCell ⟨g, j, none⟩ u).ownsRow base e size (.slice (some ⟨g, 0, none⟩) n cap) n (xs.set j u) := by
  refine ⟨by rw [List.length_set]; exact h.1, ?_⟩
  rcases h.2 with ⟨hn, _⟩ | ⟨g', cap', cur, hv, hb, hg, hcap, hcap2, hsz, htk⟩
  · simp at hn
  · simp only [Value.slice.injEq, Option.some.injEq, Addr.mk.injEq, and_true, true_and] at hv
    obtain ⟨rfl, rfl⟩ := hv
    refine .inr ⟨g, cap, cur.setIfInBounds j u, rfl, hb, heap_setCell_same w g j cur e u hg, hcap, hcap2, by rw [Array.size_setIfInBounds]; exact hsz, ?_⟩
    rw [Array.toList_setIfInBounds, List.take_set, htk]
theorem own_empty (w : World) (base e size : Nat) (hb : base ≤ w.heap.size) : (w.alloc (.cells #[] e)).ownsRow base e size (.slice (some ⟨w.heap.size, 0, none⟩) 0 0) 0 [] :=
  ⟨by simp, .inr ⟨w.heap.size, 0, #[], rfl, hb, heap_alloc_last w _, Nat.le_refl _, by decide, by simp, by simp⟩⟩
theorem mbs_news {w : World} {b off : Nat} {l : List Mb} (hc : ∀ j, j < l.length → w.cell? ⟨b, off + j * 3, none⟩ = some (.int .i64 (mbAt l j).id) ∧ w.cell? ⟨b, off + j * 3 + 1, none⟩ = some (.int .i64 (mbAt l j).wt) ∧ w.cell? ⟨b, off + j * 3 + 2, none⟩ = some (.int .i64 (mbAt l j).pb)) : ∀ j u, (mrow l)[j]? = some u → w.cell? ((⟨b, off, none⟩ : Addr).add j) = some u := by
  intro j u hu
  have hl : (mrow l).length = l.length * 3 := by
    clear hc hu
    induction l with
    | nil => rfl
    | cons m l ih => rw [show mrow (m :: l) = [.int .i64 m.id, .int .i64 m.wt, .int .i64 m.pb] ++ mrow l by simp [mrow], List.length_append, ih]; simp; omega
  have hj : j < l.length * 3 := by rw [← hl]; exact (List.getElem?_eq_some_iff.1 hu).1
  have hadd : (⟨b, off, none⟩ : Addr).add j = ⟨b, off + j, none⟩ := by unfold Addr.add; split <;> simp_all
  rw [hadd]
  obtain ⟨k, r, hr, rfl⟩ : ∃ k r, r < 3 ∧ j = k * 3 + r := ⟨j / 3, j % 3, by omega, by omega⟩
  have h1 := mrow_at l k (by omega)
  have h2 := hc k (by omega)
  match r, hr with
  | 0, _ => rw [Nat.add_zero, h1.1] at hu; rw [Nat.add_zero, h2.1]; exact hu
  | 1, _ => rw [h1.2.1] at hu; rw [← Nat.add_assoc, h2.2.1]; exact hu
  | 2, _ => rw [h1.2.2] at hu; rw [← Nat.add_assoc, h2.2.2]; exact hu
theorem mrow_one (l : List Mb) : ∀ u ∈ mrow l, u.oneCell' = true := by
  intro u hu
  unfold mrow at hu
  rw [List.mem_flatMap] at hu
  obtain ⟨m, _, hm⟩ := hu
  simp only [List.mem_cons, List.not_mem_nil, or_false] at hm
  rcases hm with rfl | rfl | rfl <;> rfl
theorem mrow_len (l : List Mb) : (mrow l).length = l.length * 3 := by
  induction l with
  | nil => rfl
  | cons m l ih => rw [show mrow (m :: l) = [.int .i64 m.id, .int .i64 m.wt, .int .i64 m.pb] ++ mrow l by simp [mrow], List.length_append, ih]; simp; omega
theorem rowD_len (qs : List (Value × Dl × Value)) : (rowD qs).length = qs.length * 3 := by
  induction qs with
  | nil => rfl
  | cons m l ih => rw [show rowD (m :: l) = [m.1, .int .i64 m.2.1.pt, m.2.2] ++ rowD l by simp [rowD], List.length_append, ih]; simp; omega
theorem rowD_one {qs : List (Value × Dl × Value)} (h : ∀ q ∈ qs, q.1.oneCell' = true ∧ q.2.2.oneCell' = true) : ∀ u ∈ rowD qs, u.oneCell' = true := by
  intro u hu
  unfold rowD at hu
  rw [List.mem_flatMap] at hu
  obtain ⟨m, hm, hx⟩ := hu
  simp only [List.mem_cons, List.not_mem_nil, or_false] at hx
  rcases hx with rfl | rfl | rfl
  · exact (h m hm).1
  · rfl
  · exact (h m hm).2
theorem rowD_set : ∀ (qs : List (Value × Dl × Value)) (i : Nat) (a c : Value) (d : Dl), i < qs.length → (((rowD qs).set (i * 3) a).set (i * 3 + 1) (.int .i64 d.pt)).set (i * 3 + 2) c = rowD (qs.set i (a, d, c))
  | q :: qs, 0, a, c, d, _ => by simp [rowD]
  | q :: qs, i + 1, a, c, d, h => by
    have ih := rowD_set qs i a c d (by simpa using h)
    have e : ∀ (x : Value × Dl × Value) (l : List (Value × Dl × Value)), rowD (x :: l) = x.1 :: .int .i64 x.2.1.pt :: x.2.2 :: rowD l := fun x l => by simp [rowD]
    rw [List.set_cons_succ, e, e, ← ih, show (i + 1) * 3 = i * 3 + 1 + 1 + 1 by omega, show i * 3 + 1 + 1 + 1 + 1 = i * 3 + 1 + 1 + 1 + 1 from rfl]
    simp only [List.set_cons_succ, show i * 3 + 1 + 1 + 1 + 2 = (i * 3 + 2) + 1 + 1 + 1 by omega]
/-- Dealings and members come back. -/
def BentPost (w : World) (e : Ending) (w' : World) : Prop := Only (fun _ => False) w w' ∧ ∃ v6 v7 ds l, e = .returned (.tuple #[v6, v7]) ∧ DlsAt w' v6 ds ∧ DlsS ds ∧ MbsAt w' v7 l ∧ MbsW l
end Go.Proofs.YtlhfgbkonmgahaaGreatDoor
