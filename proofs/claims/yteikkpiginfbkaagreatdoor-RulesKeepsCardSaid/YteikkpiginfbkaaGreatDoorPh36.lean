/-
  Rules: pairs that are made side by side ('a, b := p.Make(), p.Make()').
-/
import Derived.Test.YteikkpiginfbkaaGreatDoorPh34
import Derived.Test.YteikkpiginfbkaaGreatDoorPh35
namespace Go.Proofs.YteikkpiginfbkaaGreatDoor
open Go.RowKit

def prFact (B0 : Nat) (c : Array Value) (V : Value → World → Prop) (Z : Array Value) (T : Nat) : Nat → Value → World → Prop
  | 0, v, _ => v = .agg c
  | 1, v, W => V v W
  | 2, v, _ => v = .agg c
  | 3, v, W => V v W
  | _, v, W => NewAt B0 Z T v W
def prRel (i j : Nat) (v u : Value) : Prop := 4 ≤ i → 4 ≤ j → v ≠ u
section
variable {B0 T i : Nat} {c Z : Array Value} {V : Value → World → Prop}
theorem prFact_only (hV : ∀ v w w', V v w → Only (fun _ => False) w w' → V v w') : ∀ i v w w', prFact B0 c V Z T i v w → Only (fun _ => False) w w' → prFact B0 c V Z T i v w'
  | 0, _, _, _, h, _ => h
  | 1, _, _, _, h, hO => hV _ _ _ h hO
  | 2, _, _, _, h, _ => h
  | 3, _, _, _, h, hO => hV _ _ _ h hO
  | _ + 4, _, _, _, h, hO => NewAt.only h hO
def prPost (B0 : Nat) (c : Array Value) (V : Value → World → Prop) (Z : Array Value) (T i : Nat) (wx : World) (v : Value) (w' : World) : Prop :=
  Only (fun _ => False) wx w' ∧ prFact B0 c V Z T i v w' ∧ ∀ j u, j ≠ i → prFact B0 c V Z T j u wx → prRel i j v u ∧ prRel j i u v
variable {P : Program} {o : Oper} {ρ : Operand → Value} {wx : World}
theorem pr_low {v u : Value} {j : Nat} (hi : i < 4) : prRel i j v u ∧ prRel j i u v := ⟨fun h => by omega, fun _ h => by omega⟩
theorem pr_load {x : Operand} {B ty : Nat} {d : TypeDesc} (hi : i = 0 ∨ i = 2) (ho : o.op = .load ty x) (hx : ρ x = .pointer (some ⟨B, 0, none⟩)) (hrow : wx.heap[B]? = some (.cells c ty (0, 0)))
    (hu : P.underlying ty = some d) (hd : (match d with | .struct _ | .array _ _ => true | _ => false) = true) (hz : (P.info? ty).map (·.size) = some c.size) : opV P o ρ wx (prPost B0 c V Z T i wx) :=
  opV_load_row ty x ho B hx ty c (0, 0) d hrow hu hd hz ⟨Only.refl _ _, by rcases hi with rfl | rfl <;> rfl, fun _ _ _ _ => pr_low (by omega)⟩
theorem pr_call {g : Nat} (hi : i = 1 ∨ i = 3) (hx : (execOp ρ o).run P wx = .ok (.enter g #[.agg c]) wx) (hc : Calls P g #[.agg c] wx fun e w' => ∃ v, e = .returned v ∧ V v w' ∧ Only (fun _ => False) wx w') : opV P o ρ wx (prPost B0 c V Z T i wx) :=
  opV_of_enter hx (hc.mono fun _ _ ⟨v, he, hv, hO⟩ => ⟨v, he, hO, by rcases hi with rfl | rfl <;> exact hv, fun _ _ _ _ => pr_low (by omega)⟩)
theorem pr_new (hi : 4 ≤ i) (hle : B0 ≤ wx.heap.size) (hx : (execOp ρ o).run P wx = .ok (.value (.pointer (some ⟨wx.heap.size, 0, none⟩))) (wx.alloc (.cells Z T))) : opV P o ρ wx (prPost B0 c V Z T i wx) := by
  obtain ⟨k, rfl⟩ : ∃ k, i = k + 4 := ⟨i - 4, by omega⟩
  refine opV_of_value hx ⟨(Only.refl _ _).alloc _, ⟨wx.heap.size, rfl, hle, heap_alloc_last _ _⟩, fun j u _ hu => ⟨fun _ hj => ?_, fun hj _ => ?_⟩⟩
  · obtain ⟨m, rfl⟩ : ∃ m, j = m + 4 := ⟨j - 4, by omega⟩
    exact (newAt_ne (show NewAt B0 Z T u wx from hu)).1
  · obtain ⟨m, rfl⟩ : ∃ m, j = m + 4 := ⟨j - 4, by omega⟩
    exact (newAt_ne (show NewAt B0 Z T u wx from hu)).2
end
def EnVal (base : Nat) (x : En) (v : Value) (W : World) : Prop := ∃ vp vw vg, v = .agg (enCells x vp vw vg) ∧ EnOwn base W x vp vw vg
theorem EnVal.only {base : Nat} {x : En} {v : Value} {w w' : World} (h : EnVal base x v w) (hO : Only (fun _ => False) w w') : EnVal base x v w' := by
  obtain ⟨vp, vw, vg, h1, h2⟩ := h
  exact ⟨vp, vw, vg, h1, ⟨hO.owns h2.picks (fun _ _ h => h), hO.owns h2.wishes (fun _ _ h => h), hO.owns h2.groups (fun _ _ h => h)⟩⟩
def zeroEnC : Array Value := #[.int .i64 0, .int .i64 0, .int .i64 0, .slice none 0 0, .slice none 0 0, .slice none 0 0]
theorem en_oneL {base : Nat} {w : World} {e : En} {vp vw vg : Value} (h : EnOwn base w e vp vw vg) : (enCells e vp vw vg).all (·.oneCell') = true := by
  obtain ⟨_, _, rfl⟩ := slice_of_own h.picks
  obtain ⟨_, _, rfl⟩ := slice_of_own h.wishes
  obtain ⟨_, _, rfl⟩ := slice_of_own h.groups
  simp [enCells, Value.oneCell']
theorem en_rowsL {base g : Nat} {W : World} {e : En} {vp vw vg : Value} {cs old : Array Value} (h : EnOwn base W e vp vw vg) (hr : W.heap[g]? = some (.cells old 44 (0, 0))) : EnOwn base (W.setRow g cs) e vp vw vg := by
  have hO : Only (fun k => k = g) W (W.setRow g cs) := onlyR_row (S := fun k => k = g) (Only.refl _ _) (.inl rfl) cs
  exact ⟨hO.owns h.picks (fun k hk e => by rw [e] at hk; exact ownR_blk h.picks hr (by decide) hk), hO.owns h.wishes (fun k hk e => by rw [e] at hk; exact ownR_blk h.wishes hr (by decide) hk), hO.owns h.groups (fun k hk e => by rw [e] at hk; exact ownR_blk h.groups hr (by decide) hk)⟩
end Go.Proofs.YteikkpiginfbkaaGreatDoor
