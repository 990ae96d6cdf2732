/-
  What lies in memory of the reference's net ('RefAt'), and the walks of its New, Waiting, group and Part.
-/
import Derived.Test.YteblaedfjifdhaaParts
import Derived.Laws.AppendOwnNone
namespace Go.Proofs.Yteblaedfjifdhaa
open Go.RowKit

/-- The reference's net: its nodes, its script, the copies that wait, how many messages were sent, the groups. -/
structure RS where
  nodes : Int
  s : List Tr
  L : List Wt
  sent : Nat
  gs : List Int

def refCells (R : RS) (sv lv gv : Value) : Array Value := #[.int .i64 R.nodes, sv, lv, .int .i64 R.sent, gv]

structure RefIs (w : World) (F : Nat → Prop) (b : Nat) (R : RS) (sv lv gv : Value) : Prop where
  blk : w.heap[b]? = some (.cells (refCells R sv lv gv) 67 (0, 0))
  scr : ScriptAt w sv R.s
  cps : w.ownsRow 0 78 5 lv R.L.length (row R.L)
  grs : w.ownsRow 0 3 1 gv R.gs.length (irow R.gs)
  fb : F b
  fs : ∀ k, sv.ownBlock = some k → F k ∧ k ≠ b ∧ lv.ownBlock ≠ some k
  fl : ∀ k, lv.ownBlock = some k → F k ∧ k ≠ b
  fg : ∀ k, gv.ownBlock = some k → F k ∧ k ≠ b ∧ lv.ownBlock ≠ some k
  lt : ∀ k, F k → k < w.heap.size
def RefAt (w : World) (F : Nat → Prop) (b : Nat) (R : RS) : Prop := ∃ sv lv gv, RefIs w F b R sv lv gv
def RLeft (w : World) (F : Nat → Prop) (b : Nat) (R' : RS) (w' : World) : Prop := ∃ F', RefAt w' F' b R' ∧ (∀ k, F' k → F k ∨ w.heap.size ≤ k) ∧ Only F w w'

section
variable {w w' : World} {F S : Nat → Prop} {b : Nat} {R : RS} {sv lv gv : Value}
theorem RefIs.cells (h : RefIs w F b R sv lv gv) :
    w.cell? ⟨b, 0, none⟩ = some (.int .i64 R.nodes) ∧ w.cell? ⟨b, 1, none⟩ = some sv ∧ w.cell? ⟨b, 2, none⟩ = some lv ∧ w.cell? ⟨b, 3, none⟩ = some (.int .i64 R.sent) ∧ w.cell? ⟨b, 4, none⟩ = some gv := by
  refine ⟨?_, ?_, ?_, ?_, ?_⟩ <;> rw [cell_of_row w b _ _ 67 (0, 0) h.blk] <;> rfl
theorem RefIs.frame (h : RefIs w F b R sv lv gv) (hO : Only S w w') (hS : ∀ k, F k → ¬ S k) : RefIs w' F b R sv lv gv :=
  ⟨by rw [hO.block b (Array.getElem?_eq_some_iff.1 h.blk).1 (hS b h.fb)]; exact h.blk, hO.owns h.scr (fun k e => hS k (h.fs k e).1), hO.owns h.cps (fun k e => hS k (h.fl k e).1), hO.owns h.grs (fun k e => hS k (h.fg k e).1),
    h.fb, h.fs, h.fl, h.fg, fun k hk => Nat.lt_of_lt_of_le (h.lt k hk) hO.size⟩
theorem RefAt.frame (h : RefAt w F b R) (hO : Only S w w') (hS : ∀ k, F k → ¬ S k) : RefAt w' F b R := by
  obtain ⟨sv, lv, gv, h⟩ := h
  exact ⟨sv, lv, gv, h.frame hO hS⟩
theorem RefAt.lt (h : RefAt w F b R) : ∀ k, F k → k < w.heap.size := by
  obtain ⟨sv, lv, gv, h⟩ := h
  exact h.lt
end

theorem rwaiting_core (b n c : Nat) (a : Option Addr) (w : World) (h : w.cell? ⟨b, 2, none⟩ = some (.slice a n c)) :
    Calls Try.prog 22 #[.pointer (some ⟨b, 0, none⟩)] w fun e w' => e = .returned (.int .i64 n) ∧ w = w' := by
  go_enter Try.func22, Try.ntmps22
  go_wp2
  go_ret
  exact ⟨rfl, rfl⟩
theorem rwaiting_is (F : Nat → Prop) (b : Nat) (R : RS) (w : World) (z : Int) (h : RefAt w F b R) (hz : (R.L.length : Int) = z) :
    Calls Try.prog 22 #[.pointer (some ⟨b, 0, none⟩)] w fun e w' => e = .returned (.int .i64 z) ∧ w = w' := by
  subst hz
  obtain ⟨sv, lv, gv, h⟩ := h
  obtain ⟨a, c, rfl⟩ := slice_of_own h.cps
  exact rwaiting_core b _ c a w h.cells.2.2.1

theorem irow_get (zs : List Int) (i : Nat) (h : i < zs.length) : (irow zs)[i]? = some (.int .i64 (zs.getD i 0)) := by
  simp [irow, h]

/-- The group of node k, by the reference. -/
def rgr (gs : List Int) (k : Int) : Int := gs.getD k.toNat 0
theorem group_far (b n c : Nat) (a : Option Addr) (k : Int) (w : World) (hk : (n : Int) ≤ k) (h : w.cell? ⟨b, 4, none⟩ = some (.slice a n c)) :
    Calls Try.prog 27 #[.pointer (some ⟨b, 0, none⟩), .int .i64 k] w fun e w' => e = .returned (.int .i64 0) ∧ w = w' := by
  go_enter Try.func27, Try.ntmps27
  go_wp2
  go_ret
  exact ⟨rfl, rfl⟩
theorem group_near (b g n c k : Nat) (z : Int) (w : World) (hk : k < n) (_hn : n ≤ 9223372036854775807) (h : w.cell? ⟨b, 4, none⟩ = some (.slice (some ⟨g, 0, none⟩) n c)) (hz : w.cell? ⟨g, k, none⟩ = some (.int .i64 z)) :
    Calls Try.prog 27 #[.pointer (some ⟨b, 0, none⟩), .int .i64 k] w fun e w' => e = .returned (.int .i64 z) ∧ w = w' := by
  go_enter Try.func27, Try.ntmps27
  go_wp2
  go_ret
  exact ⟨rfl, rfl⟩
theorem group_is (F : Nat → Prop) (b : Nat) (R : RS) (sv lv gv : Value) (k z : Int) (w : World) (h : RefIs w F b R sv lv gv) (hk : 0 ≤ k) (hz : rgr R.gs k = z) :
    Calls Try.prog 27 #[.pointer (some ⟨b, 0, none⟩), .int .i64 k] w fun e w' => e = .returned (.int .i64 z) ∧ w = w' := by
  obtain ⟨i, rfl⟩ := Int.eq_ofNat_of_zero_le hk
  subst hz
  unfold rgr
  rw [Int.toNat_natCast]
  obtain ⟨c0, c1, c2, c3, c4⟩ := h.cells
  by_cases hlt : i < R.gs.length
  · obtain ⟨g, c, rfl, _, _⟩ := h.grs.form (by omega)
    have hcap : R.gs.length ≤ c ∧ c ≤ maxLen := by
      rcases h.grs.2 with ⟨h', _⟩ | ⟨g', cap', cur, h', _, hg, h1, h2, _, htake⟩
      · simp at h'
      · simp only [Value.slice.injEq, Option.some.injEq, Addr.mk.injEq, and_true, true_and] at h'
        obtain ⟨rfl, rfl⟩ := h'
        exact ⟨h1, h2⟩
    have hc2 := hcap.2
    unfold maxLen at hc2
    exact group_near b g _ c i _ w hlt (by omega) c4 (by rw [h.grs.cellAt _ (by omega)]; exact irow_get _ _ hlt)
  · obtain ⟨a, c, rfl⟩ := slice_of_own h.grs
    have : R.gs.getD i 0 = 0 := by simp [List.getD, List.getElem?_eq_none (show R.gs.length ≤ i by omega)]
    rw [this]
    exact group_far b _ c a i w (by omega) c4

/-- A new net of the reference. -/
def newRS (nodes : Int) (s : List Tr) : RS := ⟨nodes, s, [], 0, []⟩
def RNewed (w : World) (R : RS) (e : Ending) (w' : World) : Prop :=
  ∃ b F, e = .returned (.pointer (some ⟨b, 0, none⟩)) ∧ RefAt w' F b R ∧ (∀ k, F k → w.heap.size ≤ k) ∧ Only (fun _ => False) w w'

theorem refAt_new {w w1 : World} {nodes : Int} {s : List Tr} {v : Value} (hown : w1.ownsRow w.heap.size 44 3 v s.length (trow s)) (hO : Only (fun _ => False) w w1) :
    ∃ F, RefAt (w1.alloc (.cells #[.int .i64 nodes, v, .slice none 0 0, .int .i64 0, .slice none 0 0] 67)) F w1.heap.size (newRS nodes s) ∧ ∀ k, F k → w.heap.size ≤ k := by
  have hs := hO.size
  refine ⟨fun k => w.heap.size ≤ k ∧ k ≤ w1.heap.size, ⟨v, .slice none 0 0, .slice none 0 0, heap_alloc_new w1 _, ?_, World.ownsRow_nil _ _ _ _, World.ownsRow_nil _ _ _ _, ⟨hs, Nat.le_refl _⟩, fun k e => ?_,
    fun k e => by simp [Value.ownBlock] at e, fun k e => by simp [Value.ownBlock] at e, fun k hk => by simp; omega⟩, fun k hk => hk.1⟩
  · have := hown.alloc (.cells #[.int .i64 nodes, v, .slice none 0 0, .int .i64 0, .slice none 0 0] 67)
    exact ⟨this.1, by
      rcases this.2 with h | ⟨g, cap, cur, h1, _, h3⟩
      · exact .inl h
      · exact .inr ⟨g, cap, cur, h1, Nat.zero_le _, h3⟩⟩
  · have := hown.lt k e
    exact ⟨⟨this.1, by omega⟩, by omega, by simp [Value.ownBlock]⟩

set_option maxHeartbeats 400000 in
theorem rnew_nil (w : World) (nodes : Int) : Calls Try.prog 14 #[.int .i64 nodes, .slice none 0 0] w (RNewed w (newRS nodes [])) := by
  obtain ⟨i0, hi, hz0, hz1, hz2⟩ := info_parts Try.info44
  have hown := World.ownsRow_lit (e := 44) (size := 3) w #[] 0 (Nat.le_refl _) (Nat.zero_le _) rfl
  have HO := Lib.hid hown
  clear hown
  go_enter Try.func14, Try.ntmps14
  go_wp2_with (at_builtin; refine wpList_append_own_none rfl _ _ 22 rfl w.heap.size 44 i0 3 Try.underlying22 hi _ 0 [] rfl HO.out rfl ?_)
  go_ret
  obtain ⟨F, h1, h2⟩ := refAt_new (nodes := nodes) (s := []) HO.out ((Only.refl _ w).alloc _)
  rw [World.size_alloc] at h1
  exact ⟨_, F, rfl, h1, h2, ((Only.refl _ w).alloc _).alloc _⟩

set_option maxHeartbeats 400000 in
theorem rnew_some (w : World) (nodes : Int) (a : Addr) (c : Nat) (s : List Tr) (hc : ∀ j u, (trow s)[j]? = some u → w.cell? (a.add j) = some u) (hl : s.length ≤ 1000000) :
    Calls Try.prog 14 #[.int .i64 nodes, .slice (some a) s.length c] w (RNewed w (newRS nodes s)) := by
  obtain ⟨i0, hi, hz0, hz1, hz2⟩ := info_parts Try.info44
  have HC := Lib.hid hc
  clear hc
  go_enter Try.func14, Try.ntmps14
  go_wp2_with (at_builtin; refine wpList_append_own _ rfl _ _ 22 rfl w.heap.size 44 i0 _ 3 24 Try.underlying22 hi hz0 hz1 hz2 rfl (by decide) _ 0 [] rfl (World.ownsRow_lit w #[] 0 (Nat.le_refl _) (Nat.zero_le _) rfl) a s.length c (trow s) rfl (trow_length s) ?c2 (trow_one' s) ?c3 ?c4 (by simp) ?_)
  case c2 => exact fun j u hu => cell_later ((Below.refl _ w).alloc (Nat.le_refl _) _) (HC.out j u hu)
  case c3 => exact Nat.le_trans (by omega) (show (1000000 : Nat) ≤ maxLen by decide)
  case c4 => omega
  intro v' w1 hown hgrow _
  obtain ⟨a', c', rfl⟩ := slice_of_own hown
  have hO : Only (fun _ => False) w w1 := ((Only.refl _ w).alloc _).grown hgrow (fun k e hk => by simp [Value.ownBlock] at e; omega)
  have HW := Lib.hid hown
  have HO := Lib.hid hO
  clear hown hgrow hO
  go_wp2
  go_ret
  obtain ⟨F, h1, h2⟩ := refAt_new (nodes := nodes) HW.out HO.out
  exact ⟨_, F, rfl, h1, h2, HO.out.alloc _⟩

theorem rnew_any (w : World) (nodes : Int) (sv : Value) (s : List Tr) (h : SrcAt w sv s) (hl : s.length ≤ 1000000) : Calls Try.prog 14 #[.int .i64 nodes, sv] w (RNewed w (newRS nodes s)) := by
  rcases h with ⟨rfl, rfl⟩ | ⟨a, c, rfl, hc⟩
  · exact rnew_nil w nodes
  · exact rnew_some w nodes a c s hc hl

/-- n.Groups is written. -/
theorem RefIs.grouped {w w1 : World} {F : Nat → Prop} {b : Nat} {R : RS} {sv lv gv v : Value} {zs : List Int} (h : RefIs w F b R sv lv gv) (hown : w1.ownsRow w.heap.size 3 1 v zs.length (irow zs)) (hO : Only (fun _ => False) w w1) :
    RLeft w F b { R with gs := zs } (w1.setCell ⟨b, 4, none⟩ v) := by
  have h1 := h.frame hO (fun _ _ h => h)
  have hbl := h1.lt b h.fb
  have hOb : Only (fun k => k = b) w1 (w1.setCell ⟨b, 4, none⟩ v) := (Only.refl (fun k => k = b) w1).setCell (.inl rfl) _
  have hwb := h.lt b h.fb
  have hv : ∀ k, v.ownBlock = some k → w.heap.size ≤ k ∧ k < w1.heap.size := fun k e => hown.lt k e
  refine ⟨fun k => F k ∨ (w.heap.size ≤ k ∧ k < w1.heap.size), ⟨sv, lv, v, ?_, hOb.owns h1.scr (fun k e => (h.fs k e).2.1), hOb.owns h1.cps (fun k e => (h.fl k e).2), ?_, .inl h.fb, fun k e => ?_, fun k e => ?_, fun k e => ?_, ?_⟩, ?_, ?_⟩
  · rw [heap_setCell_same w1 b 4 _ 67 _ h1.blk]; rfl
  · have := hOb.owns hown (fun k e e' => by have := (hv k e).1; omega)
    exact ⟨this.1, by
      rcases this.2 with h | ⟨g, cap, cur, h1, _, h3⟩
      · exact .inl h
      · exact .inr ⟨g, cap, cur, h1, Nat.zero_le _, h3⟩⟩
  · obtain ⟨p, q, r⟩ := h.fs k e
    exact ⟨.inl p, q, r⟩
  · obtain ⟨p, q⟩ := h.fl k e
    exact ⟨.inl p, q⟩
  · have := hv k e
    refine ⟨.inr this, by omega, fun e' => ?_⟩
    have := h.lt k (h.fl k e').1
    omega
  · rintro k (hk | hk)
    · have := h1.lt k hk; simpa using this
    · simpa using hk.2
  · rintro k (hk | hk)
    · exact .inl hk
    · exact .inr hk.1
  · exact (hO.mono (fun _ _ h => h.elim)).setCell (.inl h.fb) _

set_option maxHeartbeats 400000 in
theorem rpart_nil (F : Nat → Prop) (b : Nat) (R : RS) (w : World) (h : RefAt w F b R) :
    Calls Try.prog 18 #[.pointer (some ⟨b, 0, none⟩), .slice none 0 0] w fun e w' => e = .returned (.tuple #[]) ∧ RLeft w F b { R with gs := [] } w' := by
  obtain ⟨sv, lv, gv, h⟩ := h
  obtain ⟨i0, hi, hz0, hz1, hz2⟩ := info_parts Try.info3
  have hbl := h.lt b h.fb
  have c4 := h.cells.2.2.2.2
  have f4 := frozen_of_row w b 4 _ 67 h.blk
  have hown := World.ownsRow_lit (e := 3) (size := 1) w #[] 0 (Nat.le_refl _) (Nat.zero_le _) rfl
  have HO := Lib.hid hown
  have HR := Lib.hid h
  clear hown h
  go_enter Try.func18, Try.ntmps18
  go_wp2_with (at_builtin; refine wpList_append_own_none rfl _ _ 32 rfl w.heap.size 3 i0 1 Try.underlying32 hi _ 0 [] rfl HO.out rfl ?_)
  go_end0
  have := HR.out.grouped (zs := []) HO.out ((Only.refl _ w).alloc _)
  rw [World.setCell_alloc_past _ _ _ _ hbl] at this
  exact ⟨rfl, this⟩

set_option maxHeartbeats 400000 in
theorem rpart_some (F : Nat → Prop) (b : Nat) (R : RS) (w : World) (h : RefAt w F b R) (a : Addr) (c : Nat) (zs : List Int) (hc : ∀ j u, (irow zs)[j]? = some u → w.cell? (a.add j) = some u) (hl : zs.length * 8 ≤ 140737488351232) :
    Calls Try.prog 18 #[.pointer (some ⟨b, 0, none⟩), .slice (some a) zs.length c] w fun e w' => e = .returned (.tuple #[]) ∧ RLeft w F b { R with gs := zs } w' := by
  obtain ⟨sv, lv, gv, h⟩ := h
  obtain ⟨i0, hi, hz0, hz1, hz2⟩ := info_parts Try.info3
  have hbl := h.lt b h.fb
  have c4 := h.cells.2.2.2.2
  have f4 := frozen_of_row w b 4 _ 67 h.blk
  have HR := Lib.hid h
  have HC := Lib.hid hc
  clear hc h
  go_enter Try.func18, Try.ntmps18
  go_wp2_with (at_builtin; refine wpList_append_own _ rfl _ _ 32 rfl w.heap.size 3 i0 _ 1 8 Try.underlying32 hi hz0 hz1 hz2 rfl (by decide) _ 0 [] rfl (World.ownsRow_lit w #[] 0 (Nat.le_refl _) (Nat.zero_le _) rfl) a zs.length c (irow zs) rfl (by rw [irow_length, Nat.mul_one]) ?c2 (irow_one zs) ?c3 ?c4 (by simp) ?_)
  case c2 => exact fun j u hu => cell_later ((Below.refl _ w).alloc (Nat.le_refl _) _) (HC.out j u hu)
  case c3 => unfold maxLen; omega
  case c4 => omega
  intro v' w1 hown hgrow _
  obtain ⟨a', c', rfl⟩ := slice_of_own hown
  have hO : Only (fun _ => False) w w1 := ((Only.refl _ w).alloc _).grown hgrow (fun k e hk => by simp [Value.ownBlock] at e; omega)
  have c4' := hO.cell c4 (fun h => h)
  have hsz := hO.size
  have hbl' : b < w1.heap.size := by omega
  have f4' := frozen_of_row w1 b 4 _ 67 (HR.out.frame hO (fun _ _ h => h)).blk
  have HW := Lib.hid hown
  have HO := Lib.hid hO
  clear hown hgrow hO c4 f4
  go_wp2
  go_end0
  exact ⟨rfl, HR.out.grouped HW.out HO.out⟩
end Go.Proofs.Yteblaedfjifdhaa
