/-
  What lies in memory of a net ('NetAt'), and the walk of Next.
-/
import Derived.Test.YteblaedfjifdhaaNet1
import Derived.Maps.OwnSet
namespace Go.Proofs.Yteblaedfjifdhaa
open Go.RowKit

/-- A net: its nodes, its script, the group of each node, how many messages were sent, the copies that wait (in whatever order). -/
structure NS where
  nodes : Int
  s : List Tr
  gr : Int → Int
  sent : Nat
  L : List Wt

/-- The map of groups. -/
def GroupsAt (w : World) (gm : Option Nat) (gr : Int → Int) : Prop :=
  (gm = none ∧ ∀ k, gr k = 0) ∨ ∃ mb n D, gm = some mb ∧ w.ownsMap (H := Unit) Try.prog 3 (plainElem Try.prog 3) mb n D ∧ ∀ k, D.atKey (.int .i64 k) (.lit (.int .i64 0)) = .lit (.int .i64 (gr k))

theorem Try.zero3 (w : World) : (zeroValue 3).run Try.prog w = .ok (.int .i64 0) w := by kernel_rfl
theorem Try.law3 : Maps.Keyed Try.prog 3 := Maps.int_keyed Try.underlying3

theorem GroupsAt.look {w : World} {gm : Option Nat} {gr : Int → Int} (h : GroupsAt w gm gr) (k : Int) (hk : (Lit.int .i64 k).wf = true) :
    (Instr.lookup 52 (.map gm) (.int .i64 k) false).run Try.prog w = .ok (.int .i64 (gr k)) w := by
  have hkey := Maps.keyOf_int_mk Try.underlying3 hk
  rcases h with ⟨rfl, h0⟩ | ⟨mb, n, D, rfl, hown, hat⟩
  · rw [h0 k]
    have := Maps.look_nil (w := w) false Try.law3 Try.underlying52 (Try.zero3 w) hkey
    simpa using this
  · obtain ⟨c, hrun, hc, _⟩ := hown.lookup_int Try.law3 Try.underlying52 Try.underlying3 (Try.zero3 w) hkey
    rw [hat k] at hc
    simp only [DataW.lit.injEq, Lit.int.injEq, true_and] at hc
    rw [hrun, hc]

theorem GroupsAt.frame {S : Nat → Prop} {w w' : World} {gm : Option Nat} {gr : Int → Int} (h : GroupsAt w gm gr) (hO : Only S w w') (hS : ∀ k, gm = some k → ¬ S k) : GroupsAt w' gm gr := by
  rcases h with h | ⟨mb, n, D, rfl, ⟨es, clock, hb, r⟩, hat⟩
  · exact .inl h
  · refine .inr ⟨mb, n, D, rfl, ⟨es, clock, ?_, r⟩, hat⟩
    rw [hO.block mb (Array.getElem?_eq_some_iff.1 hb).1 (hS mb rfl)]; exact hb

theorem GroupsAt.lt {w : World} {gm : Option Nat} {gr : Int → Int} (h : GroupsAt w gm gr) (k : Nat) (hk : gm = some k) : k < w.heap.size := by
  rcases h with ⟨rfl, _⟩ | ⟨mb, n, D, rfl, hown, hat⟩
  · cases hk
  · cases hk; exact hown.lt

theorem QueueAt.frame {S : Nat → Prop} {w w' : World} {b o : Nat} {arr : Array Value} {T : TypeId} {v : Value} {q : List Wt} (h : QueueAt w b o arr T v q) (hO : Only S w w') (hb : ¬ S b) (hv : ∀ k, v.ownBlock = some k → ¬ S k) : QueueAt w' b o arr T v q :=
  ⟨by rw [hO.block b (Array.getElem?_eq_some_iff.1 h.blk).1 hb]; exact h.blk, h.at_, hO.owns h.own hv, h.ne, h.heap, h.len⟩

def netCells (N : NS) (sv : Value) (gm : Option Nat) (v : Value) : Array Value := #[.int .i64 N.nodes, sv, .map gm, .int .i64 N.sent, v]

/-- A net lies at block b; all that is its own lies in blocks of F. -/
def NetAt (w : World) (F : Nat → Prop) (b : Nat) (N : NS) : Prop :=
  ∃ sv gm v q, QueueAt w b 4 (netCells N sv gm v) 56 v q ∧ q.Perm N.L ∧ ScriptAt w sv N.s ∧ GroupsAt w gm N.gr ∧ F b ∧ (∀ k, v.ownBlock = some k → F k) ∧
    (∀ k, sv.ownBlock = some k → F k ∧ k ≠ b ∧ v.ownBlock ≠ some k) ∧ (∀ k, gm = some k → F k ∧ k ≠ b ∧ v.ownBlock ≠ some k) ∧ ∀ k, F k → k < w.heap.size

theorem NetAt.frame {S F : Nat → Prop} {w w' : World} {b : Nat} {N : NS} (h : NetAt w F b N) (hO : Only S w w') (hS : ∀ k, F k → ¬ S k) : NetAt w' F b N := by
  obtain ⟨sv, gm, v, q, hq, hp, hs, hg, h1, h2, h3, h4, h5⟩ := h
  exact ⟨sv, gm, v, q, hq.frame hO (hS b h1) (fun k e => hS k (h2 k e)), hp, hO.owns hs (fun k e => hS k (h3 k e).1), hg.frame hO (fun k e => hS k (h4 k e).1), h1, h2, h3, h4,
    fun k hk => Nat.lt_of_lt_of_le (h5 k hk) hO.size⟩
theorem NetAt.drewN {F : Nat → Prop} {w : World} {b : Nat} {N : NS} (h : NetAt w F b N) (k : Nat) : NetAt (w.drewN k) F b N := h.frame ((Only.refl (fun _ => False) w).drewN k) (fun _ _ h => h)
theorem NetAt.perm {F : Nat → Prop} {w : World} {b : Nat} {N : NS} (h : NetAt w F b N) {L : List Wt} (hL : N.L.Perm L) : NetAt w F b { N with L := L } := by
  obtain ⟨sv, gm, v, q, hq, hp, hr⟩ := h
  exact ⟨sv, gm, v, q, hq, hp.trans hL, hr⟩
theorem NetAt.lt {F : Nat → Prop} {w : World} {b : Nat} {N : NS} (h : NetAt w F b N) : ∀ k, F k → k < w.heap.size := by
  obtain ⟨sv, gm, v, q, hq, hp, hs, hg, h1, h2, h3, h4, h5⟩ := h
  exact h5

/-- What a call leaves of a net. -/
def NLeft (w : World) (F : Nat → Prop) (b : Nat) (N' : NS) (w' : World) : Prop := ∃ F', NetAt w' F' b N' ∧ (∀ k, F' k → F k ∨ w.heap.size ≤ k) ∧ Only F w w'

theorem slice_of_own {w : World} {base e size n : Nat} {v : Value} {xs : List Value} (h : w.ownsRow base e size v n xs) : ∃ a c, v = .slice a n c := by
  rcases h.2 with ⟨h', h0⟩ | ⟨g, cap, cur, h', _⟩
  · exact ⟨none, 0, by rw [h', h0]⟩
  · exact ⟨_, _, h'⟩

theorem waiting_any (F : Nat → Prop) (b : Nat) (N : NS) (w : World) (h : NetAt w F b N) :
    Calls Try.prog 21 #[.pointer (some ⟨b, 0, none⟩)] w fun e w' => e = .returned (.int .i64 N.L.length) ∧ w = w' := by
  obtain ⟨sv, gm, v, q, hq, hp, _⟩ := h
  obtain ⟨a, c, rfl⟩ := slice_of_own hq.own
  rw [← hp.length_eq]
  exact waiting_core b q.length c a w hq.cell

def zeroMsg : Value := .agg #[.int .i64 0, .int .i64 0, .string ByteArray.empty]
def Wt.msg (x : Wt) : Value := .agg #[.int .i64 x.fr, .int .i64 x.to, .string x.tx]

/-- A net is left whole: the queue was turned by a call in w1; what came behind touched new blocks alone. -/
theorem NetAt.left_of {w w1 w2 : World} {F : Nat → Prop} {b : Nat} {N' : NS} {sv v v' : Value} {gm : Option Nat} {r : List Wt} {B : Nat} {T : Nat → Prop}
    (hq1 : QueueAt w1 b 4 (netCells N' sv gm v') 56 v' r) (hs : ScriptAt w sv N'.s) (hg : GroupsAt w gm N'.gr) (h1 : F b) (h2 : ∀ k, v.ownBlock = some k → F k)
    (h3 : ∀ k, sv.ownBlock = some k → F k ∧ k ≠ b ∧ v.ownBlock ≠ some k) (h4 : ∀ k, gm = some k → F k ∧ k ≠ b ∧ v.ownBlock ≠ some k) (h5 : ∀ k, F k → k < w.heap.size)
    (hat : ∀ k, v'.ownBlock = some k → v.ownBlock = some k ∨ B ≤ k) (hT : ∀ k, T k → w.heap.size ≤ k ∧ k < B)
    (hO : Only (fun k => k = b ∨ v.ownBlock = some k) w w2) (hO2 : Only T w1 w2) (hB : w.heap.size ≤ B) (hp : r.Perm N'.L) : NLeft w F b N' w2 := by
  have hvk : ∀ k, v'.ownBlock = some k → F k ∨ w.heap.size ≤ k := fun k e => by
    rcases hat k e with h | h
    · exact .inl (h2 k h)
    · exact .inr (by omega)
  have hq2 : QueueAt w2 b 4 (netCells N' sv gm v') 56 v' r := hq1.frame hO2 (fun t => by have := hT _ t; have := h5 b h1; omega) (fun k e t => by
    have := hT _ t
    rcases hat k e with h | h
    · have := h5 k (h2 k h); omega
    · omega)
  have hvl : ∀ k, v'.ownBlock = some k → k < w2.heap.size := fun k e => (hq2.own.lt k e).2
  refine ⟨fun k => F k ∨ (w.heap.size ≤ k ∧ k < w2.heap.size), ⟨sv, gm, v', r, hq2, hp, hO.owns hs (fun k e => ?_), hg.frame hO (fun k e => ?_), .inl h1, fun k e => ?_, fun k e => ?_, fun k e => ?_, ?_⟩, ?_, hO.mono ?_⟩
  · obtain ⟨_, ha, hb⟩ := h3 k e
    rintro (h | h)
    · exact ha h
    · exact hb h
  · obtain ⟨_, ha, hb⟩ := h4 k e
    rintro (h | h)
    · exact ha h
    · exact hb h
  · have := hvl k e
    rcases hvk k e with h | h
    · exact .inl h
    · exact .inr ⟨h, this⟩
  · obtain ⟨hf, ha, hb⟩ := h3 k e
    refine ⟨.inl hf, ha, fun h => ?_⟩
    rcases hat k h with h' | h'
    · exact hb h'
    · have := h5 k hf; omega
  · obtain ⟨hf, ha, hb⟩ := h4 k e
    refine ⟨.inl hf, ha, fun h => ?_⟩
    rcases hat k h with h' | h'
    · exact hb h'
    · have := h5 k hf; omega
  · rintro k (h | h)
    · exact Nat.lt_of_lt_of_le (h5 k h) hO.size
    · exact h.2
  · rintro k (h | h)
    · exact .inl h
    · exact .inr h.1
  · rintro k _ (h | h)
    · rw [h]; exact h1
    · exact h2 k h

set_option maxHeartbeats 400000 in
theorem next_nilptr (w : World) :
    Calls Try.prog 19 #[.pointer none] w fun e w' => e = .returned (.tuple #[zeroMsg, .int .i64 0, .bool false]) ∧ Only (fun _ => False) w w' := by
  go_enter Try.func19, Try.ntmps19
  go_wp2
  refine bodyPost_ret (by simp [results, Try.results19, go_sem]; rfl) rfl ⟨rfl, (Only.refl _ w).alloc _⟩

set_option maxHeartbeats 400000 in
theorem next_empty (b c : Nat) (a : Option Addr) (w : World) (h : w.cell? ⟨b, 4, none⟩ = some (.slice a 0 c)) :
    Calls Try.prog 19 #[.pointer (some ⟨b, 0, none⟩)] w fun e w' => e = .returned (.tuple #[zeroMsg, .int .i64 0, .bool false]) ∧ Only (fun _ => False) w w' := by
  have hbl : b < w.heap.size := World.block_lt_of_cell? w _ h
  go_enter Try.func19, Try.ntmps19
  go_wp2
  refine bodyPost_ret (by simp [results, Try.results19, go_sem]; rfl) rfl ⟨rfl, (Only.refl _ w).alloc _⟩

/-- What Next leaves where a copy waits. -/
def Nexted (w : World) (F : Nat → Prop) (b : Nat) (N : NS) (e : Ending) (w' : World) : Prop :=
  ∃ x L', e = .returned (.tuple #[x.msg, .int .i64 x.tm, .bool true]) ∧ N.L.Perm (x :: L') ∧ (∀ y ∈ L', ltB y x = false) ∧ NLeft w F b { N with L := L' } w'

set_option maxHeartbeats 400000 in
theorem next_some (F : Nat → Prop) (b : Nat) (N : NS) (w : World) (h : NetAt w F b N) (hne : N.L ≠ []) :
    Calls Try.prog 19 #[.pointer (some ⟨b, 0, none⟩)] w (Nexted w F b N) := by
  obtain ⟨sv, gm, v, q, hq, hp, hs, hg, h1, h2, h3, h4, h5⟩ := h
  have hbl := h5 b h1
  have hqne : q ≠ [] := by rintro rfl; exact hne (by simpa using hp.symm)
  obtain ⟨a, c, rfl⟩ := slice_of_own hq.own
  have hc := hq.cell
  have hlen : ((q.length : Int) == 0) = false := beq_eq_false_iff_ne.2 (by have := List.length_pos_iff.2 hqne; omega)
  have ta := assert75
  have HQ := Lib.hid hq
  have HP := Lib.hid hp
  have H2 := Lib.hid h2
  have H3 := Lib.hid h3
  have H4 := Lib.hid h4
  have H5 := Lib.hid h5
  clear hq hp h2 h3 h4 h5
  go_enter Try.func19, Try.ntmps19
  go_wp2_with fail
  refine (hpop_any b 4 _ 56 _ q _ (HQ.out.frame ((Only.refl (fun _ => False) w).alloc _) (fun h => h) (fun _ _ h => h)) hqne).mono ?_
  rintro e w1 ⟨x, rfl, v', r, ⟨hperm, hmin⟩, hq1, hat, hO⟩
  have hO0 := hO
  have hbk : ¬ (w.heap.size = b ∨ Value.ownBlock (.slice a q.length c) = some w.heap.size) := by
    rintro (e | e)
    · omega
    · have := H5.out _ (H2.out _ e); omega
  have hblk := hO.block w.heap.size (by simp) hbk
  rw [heap_alloc_new] at hblk
  have k0 := cell_of_row w1 w.heap.size 0 _ 31 (0, 0) hblk
  have k1 := cell_of_row w1 w.heap.size 1 _ 31 (0, 0) hblk
  have k2 := cell_of_row w1 w.heap.size 2 _ 31 (0, 0) hblk
  have f0 := frozen_of_row w1 w.heap.size 0 _ 31 hblk
  have f1 := frozen_of_row w1 w.heap.size 1 _ 31 hblk
  have f2 := frozen_of_row w1 w.heap.size 2 _ 31 hblk
  simp at k0 k1 k2
  have hsz : w.heap.size < w1.heap.size := by have := hO.size; simp at this; omega
  have HPR := Lib.hid hperm
  have HM := Lib.hid hmin
  have HQ1 := Lib.hid hq1
  have HA := Lib.hid hat
  have HO := Lib.hid hO
  clear hperm hmin hq1 hat hO hO0 hblk hbk
  unfold Wt.val
  go_wp2
  go_region
  go_wp2
  refine bodyPost_ret (v := .tuple #[x.msg, .int .i64 x.tm, .bool true]) (by simp [results, Try.results19, go_sem, k0, k1, k2, hsz, Wt.msg]) rfl ⟨x, r, rfl, HP.out.symm.trans HPR.out, HM.out, ?_⟩
  refine NetAt.left_of (v := .slice a q.length c) HQ1.out hs hg h1 H2.out H3.out H4.out H5.out (B := w.heap.size + 1) (by simpa using HA.out) (fun k hk => ?_) ((((((Only.refl _ w).alloc _).trans' HO.out (fun _ _ h => h)).setCell (.inr (Nat.le_refl _)) _).setCell (.inr (Nat.le_refl _)) _).setCell (.inr (Nat.le_refl _)) _ |>.alloc _ |>.drew) (((((Only.refl (fun k => k = w.heap.size) w1).setCell (.inl rfl) _).setCell (.inl rfl) _).setCell (.inl rfl) _).alloc _).drew (by omega) (List.Perm.refl _)
  · omega
end Go.Proofs.Yteblaedfjifdhaa
