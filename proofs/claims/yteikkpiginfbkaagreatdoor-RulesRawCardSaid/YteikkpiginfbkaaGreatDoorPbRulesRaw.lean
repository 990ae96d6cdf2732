/-
  The law RulesRaw: for every input it returns true, and each argument reads afterwards as it read before. Package variables start as the program's text lays them (tied).
-/
import Derived.Test.YteikkpiginfbkaaGreatDoorPa24
import Derived.Test.YteikkpiginfbkaaGreatDoorPa26
import Derived.Test.YteikkpiginfbkaaGreatDoorTie
import Derived.Test.YteikkpiginfbkaaGreatDoorCards
import Derived.Below
import Derived.Carry
import Derived.ProofKit
import Derived.LaidMore
import Derived.Stop.Joined
import Derived.SevenTiedAt
import Derived.Deep.DeepHandedRow
import Derived.Deep.DeepWitnessRowRef
namespace Go.Proofs.YteikkpiginfbkaaGreatDoor
open Go.ChangeShapes Go.WideShapes Go.ChangeAt Go.RowKit
/-- The listed variables. -/
def rulesRaw_laid : List (String × DataW Unit) := [("math/bits.deBruijn32tab", Rows.laid_math_bits_deBruijn32tab), ("math/bits.deBruijn64tab", Rows.laid_math_bits_deBruijn64tab), ("internal/strconv.uint64pow10", Rows.laid_internal_strconv_uint64pow10), ("unicode/utf8.acceptRanges", Rows.laid_unicode_utf8_acceptRanges), ("unicode/utf8.first", Rows.laid_unicode_utf8_first)]
theorem rulesRaw_glob {W : World} (h : laidMetH Tryz.prog rulesRaw_laid W) (hsh : W.ShapedOpen Tryz.prog) : GlobU W :=
  globU_of_laid h (by kernel_rfl) hsh (by kernel_rfl) (List.Mem.tail _ (List.Mem.tail _ (List.Mem.head _)))
/-- A world that holds the listed variables. -/
noncomputable def rulesRaw_world (os : Os) : World :=
  { World.doorLaid Tryz.prog 400 os with heap := (World.doorLaid Tryz.prog 400 os).heap.modify 2 fun
      | .cells _ t frozen => .cells (Pinned.utf8FirstZ.map fun (n : Nat) => Value.int .u8 (n : Int)).toArray t frozen
      | o => o }
theorem rulesRaw_door (os : Os) (args : Array Value) : laidMetH Tryz.prog rulesRaw_laid ((rulesRaw_world os).forCall (fun _ _ => 0) ⟨#[], args, []⟩).memory :=
  laidMetH_of_parts3 (fuel := 8) (laidMet_of_run' 8 (by kernel_rfl) (by kernel_rfl)) (by kernel_rfl) (by kernel_rfl)
theorem rulesRaw_reads (os : Os) {H : Type} (enc : TypeId × Value → H) : ∃ places, DataW.whole enc Tryz.prog ((rulesRaw_world os).forCall (fun _ _ => 0) ⟨#[], #[.string ByteArray.empty, .agg #[.int .i64 0, .int .i64 0, .int .i64 0, .int .i64 0, .int .i64 0, .int .i64 0, .int .i64 0, .slice none 0 0, .bool false, .slice none 0 0, .bool false]], []⟩).memory Tryz.f7.params.toList Rows.rulesRawSpec.vars false (#[.string ByteArray.empty, .agg #[.int .i64 0, .int .i64 0, .int .i64 0, .int .i64 0, .int .i64 0, .int .i64 0, .int .i64 0, .slice none 0 0, .bool false, .slice none 0 0, .bool false]] : Array Value).toList 8 = some ([.lit (.string []), .agg [.lit (.int .i64 0), .agg [.lit (.int .i64 0), .lit (.int .i64 0), .lit (.int .i64 0), .lit (.int .i64 0), .lit (.int .i64 0), .lit (.int .i64 0)], .nil, .lit (.bool false), .nil, .lit (.bool false)]], [], places) :=
  ⟨[], by kernel_rfl⟩
set_option maxRecDepth 100000 in
theorem rulesRaw_lifted (os : Os) (started : os.Started) (H : Type) (enc : TypeId × Value → H) (F : Stop.Interp) :
    ReturnsInHanded {} Tryz.checked os 7 .any ((OpenSpec.ofChange Rows.rulesRawSpec).preRow enc Tryz.prog Tryz.f7 Rows.rulesRawRow.domain false rulesRaw_laid) (((OpenSpec.ofChange Rows.rulesRawSpec).at F).post enc Tryz.prog Tryz.f7 false true false false) := by
  obtain ⟨places, hx⟩ := rulesRaw_reads os enc
  refine returnsInHanded_of_row (C := Tryz.checked) (s := OpenSpec.ofChange Rows.rulesRawSpec) Tryz.own started (by kernel_rfl) Tryz.func7
    (witness_row_atRef (enc := enc) (C := Tryz.checked) false (rulesRaw_world os) #[.string ByteArray.empty, .agg #[.int .i64 0, .int .i64 0, .int .i64 0, .int .i64 0, .int .i64 0, .int .i64 0, .int .i64 0, .slice none 0 0, .bool false, .slice none 0 0, .bool false]] rfl (by kernel_rfl) (by kernel_rfl) (by kernel_rfl)
      (OpenSpec.preRow_of_cond 8 hx (by kernel_rfl) (fun k hk => by cases hk) (by kernel_rfl) (rulesRaw_door os _))) ?_
  intro W base args ds gs before hval0 hW _ _ hsz0 hLd hsh _
  have hval : ∀ (j : Nat) t v, Tryz.f7.params[j]? = some t → args[j]? = some v → Value.okWide Tryz.prog W .any base t v := hval0
  have hW' := hW
  obtain ⟨p, q, hA0, hV, rfl, hfz, hnd⟩ := hW
  have hA : DataW.TrodAll enc Tryz.prog W 0 (fun _ => true) true Tryz.f7.params.toList args.toList ds p := hA0
  rw [Tryz.params7] at hA hval
  obtain ⟨v0, vs0, d0, ds0, p0, q0, hargs, rfl, rfl, h0, r0⟩ := trodAll_cons hA
  obtain ⟨v1, vs1, d1, ds1, p1, q1, rfl, rfl, rfl, h1, r1⟩ := trodAll_cons r0
  obtain ⟨rfl, rfl, rfl⟩ := trodAll_nil r1
  obtain rfl : args = #[v0, v1] := by cases args; simp_all
  obtain ⟨rfl, rfl⟩ := trodVars_none hV
  have hs : (DataW.weightsEach Tryz.prog [9, 26] [d0, d1]).all (· ≤ reachBytes) = true := hsz0
  have hG : GlobU W := rulesRaw_glob hLd hsh
  have k0 := h0
  have lt0 : ∀ x ∈ p0, x.block < W.heap.size := by obtain ⟨m, hm⟩ := k0; exact DataW.trod_lt m _ _ _ hm
  have ok0 := hval 0 9 v0 rfl rfl
  have rd0 := Rd.of h0
  have ws0 : ∀ n ∈ d0.weights Tryz.prog 9, n ≤ reachBytes := fun n hn => by simpa using List.all_eq_true.1 hs _ (DataW.weights_mem_each (j := 0) (t := 9) rfl rfl n hn)
  obtain ⟨raw, rfl, rfl, wr⟩ := ChangeMaps.open_string Tryz.underlying9 ok0 h0
  have hraw : raw.size ≤ 9223372036854775807 := by have hz := rd0.string Tryz.underlying9; obtain ⟨s, e, hs⟩ := hz; simp [Value.cells] at e; subst e; unfold maxLen at hs; omega
  have k1 := h1
  have lt1 : ∀ x ∈ p1, x.block < W.heap.size := by obtain ⟨m, hm⟩ := k1; exact DataW.trod_lt m _ _ _ hm
  have ok1 := hval 1 26 v1 rfl rfl
  have rd1 := Rd.of h1
  have ws1 : ∀ n ∈ d1.weights Tryz.prog 26, n ≤ reachBytes := fun n hn => by simpa using List.all_eq_true.1 hs _ (DataW.weights_mem_each (j := 1) (t := 26) rfl rfl n hn)
  obtain ⟨pn, pnl, pnb, rfl, pnAt, pn64⟩ := open_plan13 ok1 rd1
  clear hA0 hval0
  refine (rw_walk raw pn pnl pnb W pnAt pn64 hraw hG).mono fun e W' ⟨he, bel⟩ => ?_
  subst he
  exact ⟨_, rfl, _, _, _, [], _, [], hW', trodAll_mk1 (shut_bool Tryz.underlying4 _), (trodAll_cons_mk (Below.trod Tryz.laidOut (by kernel_rfl) (of_decide_eq_true (by kernel_rfl)) k0 bel lt0) (trodAll_cons_mk (Below.trod Tryz.laidOut (by kernel_rfl) (of_decide_eq_true (by kernel_rfl)) k1 bel lt1) trodAll_mk0)), rfl, bel.frame _, fun h => by cases h⟩

theorem rulesRaw_row : Rows.RulesRawSaid :=
  OpenClaim.holds_of_cond 7 Tryz.f7 rfl rfl rfl rfl rfl rfl rfl ⟨rfl, rfl, rfl, rfl, rfl⟩ rfl rfl rfl rfl rfl (by kernel_rfl) Tryz.func7 (by kernel_rfl)
    (of_decide_eq_true (by kernel_rfl)) (by unfold Func.isWrapper; first | (rw [if_pos (by decide +kernel)]; kernel_rfl) | (rw [if_neg (by decide +kernel)]; exact ⟨rfl, rfl⟩))
    (fun os started H enc _ F => by rw [OpenClaim.pre_eq_preRow]; exact rulesRaw_lifted os started H enc F)
theorem rulesRaw_holds : Rows.RulesRawCardSaid :=
  Claim7.holds_tied_plain_at .later [] _ _ _ _
    rulesRaw_row (fun _ h => by cases h) (by kernel_rfl) (fun _ h => by cases h) rulesRaw_row_tie rfl ⟨rfl, rfl⟩ (by kernel_rfl) rfl
    (fun f fn hf hfn => by
      obtain rfl : f = 7 := Option.some.inj ((show Tryz.prog.funcNamed Rows.rulesRawRow.func = some 7 by kernel_rfl).symm.trans hf) |>.symm
      obtain rfl : fn = Tryz.f7 := (Option.some.inj (Tryz.func7.symm.trans hfn)).symm
      exact ⟨by kernel_rfl, fun j t ht => by
        rw [Tryz.params7] at ht
        match j, ht with
        | 0, ht => (obtain rfl : t = 9 := by simpa using ht.symm); exact (show Tryz.prog.wantsStandIn 9 = false by kernel_rfl)
        | 1, ht => (obtain rfl : t = 26 := by simpa using ht.symm); exact (show Tryz.prog.wantsStandIn 26 = false by kernel_rfl)
        | j + 2, ht => simp at ht⟩)
    (by kernel_rfl)
#print axioms rulesRaw_holds
end Go.Proofs.YteikkpiginfbkaaGreatDoor
