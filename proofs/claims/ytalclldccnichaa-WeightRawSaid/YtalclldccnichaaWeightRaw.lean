/-
  The law WeightRaw: for every input it returns true, and each argument reads afterwards as it read before. No condition.
-/
import Derived.Test.YtalclldccnichaaRawWalk
import Derived.Below
import Derived.Carry
namespace Go.Proofs.Ytalclldccnichaa
open Go.ChangeShapes Go.WideShapes Go.ChangeAt Go.RowKit

set_option maxRecDepth 100000 in
theorem weightRaw_lifted (os : Os) (started : os.Started) (H : Type) (enc : TypeId × Value → H) :
    ReturnsInHanded {} Try.checked os 6 .any (Rows.weightRawSpec.pre6 enc Try.prog Try.f6 Rows.weightRawRow.domain false) (Rows.weightRawSpec.post enc Try.prog Try.f6 false true false false) := by
  refine returnsInHanded_of_change (C := Try.checked) Try.own started (by kernel_rfl) Try.func6
    (ChangeSpec.witness6 (enc := enc) (C := Try.checked) false ⟨#[], #[.int .u8 0, .slice none 0 0, .slice none 0 0], []⟩ 8 (by kernel_rfl) (by kernel_rfl) (by kernel_rfl) (by kernel_rfl)) ?_
  intro W base args ds gs before hval0 hW hcnd _
  have hval : ∀ (j : Nat) t v, Try.f6.params[j]? = some t → args[j]? = some v → Value.okWide Try.prog W .any base t v := hval0
  have hW' := hW
  obtain ⟨p, q, hA0, hV, rfl, hfz, hnd⟩ := hW
  have hA : DataW.TrodAll enc Try.prog W 0 (fun _ => true) true Try.f6.params.toList args.toList ds p := hA0
  rw [Try.params6] at hA hval
  obtain ⟨v0, vs0, d0, ds0, p0, q0, hargs, rfl, rfl, h0, r0⟩ := trodAll_cons hA
  obtain ⟨v1, vs1, d1, ds1, p1, q1, rfl, rfl, rfl, h1, r1⟩ := trodAll_cons r0
  obtain ⟨v2, vs2, d2, ds2, p2, q2, rfl, rfl, rfl, h2, r2⟩ := trodAll_cons r1
  obtain ⟨rfl, rfl, rfl⟩ := trodAll_nil r2
  obtain rfl : args = #[v0, v1, v2] := by cases args; simp_all
  obtain ⟨rfl, rfl⟩ := trodVars_none hV
  have k0 := h0
  have lt0 : ∀ x ∈ p0, x.block < W.heap.size := by obtain ⟨m, hm⟩ := k0; exact DataW.trod_lt m _ _ _ hm
  have ok0 := hval 0 5 v0 rfl rfl
  have rd0 := Rd.of h0
  obtain ⟨nd, rfl⟩ := okWide_int Try.underlying5 ok0
  have w0 : 0 ≤ nd ∧ nd ≤ 255 := by obtain ⟨n, hn, wn⟩ := rd0.int Try.underlying5; simp [Value.cells] at hn; subst hn; exact bounds_u8 wn
  have k1 := h1
  have lt1 : ∀ x ∈ p1, x.block < W.heap.size := by obtain ⟨m, hm⟩ := k1; exact DataW.trod_lt m _ _ _ hm
  have ok1 := hval 1 41 v1 rfl rfl
  have rd1 := Rd.of h1
  have sl1 := okWide_slice Try.underlying41 ok1
  have rs1 : Rd W 41 [v1] := by obtain ⟨a, n, c, e⟩ := sl1; rw [e] at rd1 ⊢; exact rd1
  obtain ⟨l, at1, wf1, cp1⟩ := open_shs rs1
  have k2 := h2
  have lt2 : ∀ x ∈ p2, x.block < W.heap.size := by obtain ⟨m, hm⟩ := k2; exact DataW.trod_lt m _ _ _ hm
  have ok2 := hval 2 34 v2 rfl rfl
  have rd2 := Rd.of h2
  have sl2 := okWide_slice Try.underlying34 ok2
  have rs2 : Rd W 34 [v2] := by obtain ⟨a, n, c, e⟩ := sl2; rw [e] at rd2 ⊢; exact rd2
  obtain ⟨f, at2, wf2, cp2⟩ := open_ints rs2
  clear hA0 hval0
  refine (raw_walk nd v1 v2 l f W w0.1 w0.2 at1 wf1 at2 wf2 cp1 cp2).mono fun e W' ⟨he, bel⟩ => ?_
  subst he
  exact ⟨_, rfl, _, _, _, [], _, [], hW', trodAll_mk1 (shut_bool Try.underlying4 _), (trodAll_cons_mk (Below.trod Try.laidOut (by kernel_rfl) (of_decide_eq_true (by kernel_rfl)) k0 bel lt0) (trodAll_cons_mk (Below.trod Try.laidOut (by kernel_rfl) (of_decide_eq_true (by kernel_rfl)) k1 bel lt1) (trodAll_cons_mk (Below.trod Try.laidOut (by kernel_rfl) (of_decide_eq_true (by kernel_rfl)) k2 bel lt2) trodAll_mk0))), rfl, bel.frame _, fun h => by cases h⟩

theorem weightRaw_holds : Rows.WeightRawSaid :=
  OpenClaim.holds_of_wide 6 Try.f6 rfl rfl rfl rfl rfl rfl rfl ⟨rfl, rfl, rfl, rfl, rfl⟩ rfl rfl rfl rfl rfl (by kernel_rfl) Try.func6 (by kernel_rfl)
    (of_decide_eq_true (by kernel_rfl)) (by unfold Func.isWrapper; first | (rw [if_pos (by decide +kernel)]; kernel_rfl) | (rw [if_neg (by decide +kernel)]; exact ⟨rfl, rfl⟩))
    (fun os started H enc _ => weightRaw_lifted os started H enc)
#print axioms weightRaw_holds
end Go.Proofs.Ytalclldccnichaa
