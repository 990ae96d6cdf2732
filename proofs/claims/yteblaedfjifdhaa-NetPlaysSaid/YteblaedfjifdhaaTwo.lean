/-
  Two nets side by side in memory.
-/
import Derived.Test.YteblaedfjifdhaaOpen
namespace Go.Proofs.Yteblaedfjifdhaa
open Go.RowKit

structure Two (w0 w : World) (F : Nat → Prop) (b : Nat) (N : NS) (G : Nat → Prop) (c : Nat) (M : NS) (A : List (Nat × Obj)) : Prop where
  one : Own w0 w F b N A
  two : Own w0 w G c M A
  dis : ∀ k, F k → ¬ G k

section
variable {w0 w w' : World} {F G : Nat → Prop} {b c : Nat} {N M : NS} {A : List (Nat × Obj)}
theorem Two.swap (h : Two w0 w F b N G c M A) : Two w0 w G c M F b N A := ⟨h.two, h.one, fun k h1 h2 => h.dis k h2 h1⟩
theorem Own.other (h : Own w0 w G c M A) (hF : ∀ k, F k → w0.heap.size ≤ k) (hO : Only F w w') (hd : ∀ k, F k → ¬ G k) (hA : ∀ t o, (t, o) ∈ A → ¬ F t) : Own w0 w' G c M A := by
  refine ⟨h.net.frame hO (fun k hk hf => hd k hf hk), h.good, h.new, h.only.trans' hO (fun i hi hf => by have := hF i hf; omega), fun t o ht => ?_⟩
  obtain ⟨ha, hb⟩ := h.apart t o ht
  exact ⟨ha, by rw [hO.block t (Array.getElem?_eq_some_iff.1 hb).1 (hA t o ht)]; exact hb⟩
theorem Two.left {N' : NS} (h : Two w0 w F b N G c M A) (hl : NLeft w F b N' w') (hG : Good N') : ∃ F', Two w0 w' F' b N' G c M A := by
  obtain ⟨F', h1, h2, h3⟩ := hl
  have hlt := h.two.net.lt
  refine ⟨F', ?_, h.two.other h.one.new h3 h.dis (fun t o ht => (h.one.apart t o ht).1), ?_⟩
  · refine ⟨h1, hG, fun k hk => ?_, h.one.only.trans' h3 (fun i hi hf => ?_), fun t o ht => ?_⟩
    · rcases h2 k hk with h' | h'
      · exact h.one.new k h'
      · have := h.one.only.size; omega
    · have := h.one.new i hf; omega
    · obtain ⟨ha, hb⟩ := h.one.apart t o ht
      have hlt := (Array.getElem?_eq_some_iff.1 hb).1
      refine ⟨fun hf => ?_, by rw [h3.block t hlt ha]; exact hb⟩
      rcases h2 t hf with h' | h'
      · exact ha h'
      · omega
  · intro k hk hg
    rcases h2 k hk with h' | h'
    · exact h.dis k h' hg
    · have := hlt k hg; omega
theorem Two.right {M' : NS} (h : Two w0 w F b N G c M A) (hl : NLeft w G c M' w') (hG : Good M') : ∃ G', Two w0 w' F b N G' c M' A := by
  obtain ⟨G', h'⟩ := h.swap.left hl hG
  exact ⟨G', h'.swap⟩
theorem Two.quiet (h : Two w0 w F b N G c M A) (hO : Only (fun _ => False) w w') : Two w0 w' F b N G c M A := ⟨h.one.quiet hO, h.two.quiet hO, h.dis⟩
theorem Two.keep (h : Two w0 w F b N G c M A) (t : Nat) (o : Obj) (hb : w0.heap[t]? = some o) : Two w0 w F b N G c M ((t, o) :: A) := ⟨h.one.keep t o hb, h.two.keep t o hb, h.dis⟩
/-- A second net is made. -/
theorem Own.two (h : Own w0 w F b N A) (h1 : NetAt w' G c M) (hG : Good M) (h2 : ∀ k, G k → w.heap.size ≤ k) (h3 : Only (fun _ => False) w w') : Two w0 w' F b N G c M A := by
  refine ⟨h.quiet h3, ⟨h1, hG, fun k hk => ?_, h.only.trans h3, fun t o ht => ?_⟩, fun k hf hg => ?_⟩
  · have := h2 k hk; have := h.only.size; omega
  · have hb := (h.apart t o ht).2
    have hlt := (Array.getElem?_eq_some_iff.1 hb).1
    exact ⟨fun hg => by have := h2 t hg; omega, by rw [h3.block t hlt (fun h => h)]; exact hb⟩
  · have := h.net.lt k hf; have := h2 k hg; omega
end
end Go.Proofs.Yteblaedfjifdhaa
