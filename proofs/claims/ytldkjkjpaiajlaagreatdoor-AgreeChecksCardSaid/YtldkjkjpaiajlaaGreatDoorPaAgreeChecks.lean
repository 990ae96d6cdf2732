/-
  The law AgreeChecks: for every input it returns true, and each argument reads afterwards as it read before. Package variables start as the program's text lays them (tied).
-/
import Derived.Test.YtldkjkjpaiajlaaGreatDoorPa29
import Derived.Test.YtldkjkjpaiajlaaGreatDoorPa30
import Derived.Test.YtldkjkjpaiajlaaGreatDoorPa31
import Derived.Test.YtldkjkjpaiajlaaGreatDoorTie
import Derived.Test.YtldkjkjpaiajlaaGreatDoorCards
import Derived.Below
import Derived.Carry
import Derived.ProofKit
import Derived.LaidMore
import Derived.Stop.Joined
import Derived.SevenTiedAt
import Derived.Deep.DeepHandedRow
import Derived.Deep.DeepWitnessRowRef
namespace Go.Proofs.YtldkjkjpaiajlaaGreatDoor
open Go.ChangeShapes Go.WideShapes Go.ChangeAt Go.RowKit
/-- The listed variables. -/
def agreeChecks_laid : List (String × DataW Unit) := [("math/bits.deBruijn32tab", Rows.laid_math_bits_deBruijn32tab), ("math/bits.deBruijn64tab", Rows.laid_math_bits_deBruijn64tab), ("internal/strconv.uint64pow10", Rows.laid_internal_strconv_uint64pow10), ("unicode/utf8.acceptRanges", Rows.laid_unicode_utf8_acceptRanges), ("strconv.ErrRange", Rows.laid_strconv_ErrRange), ("strconv.ErrSyntax", Rows.laid_strconv_ErrSyntax), ("sortes/digest.first", Rows.laid_sortes_digest_first), ("sortes/digest.constants", Rows.laid_sortes_digest_constants), ("unicode/utf8.first", Rows.laid_unicode_utf8_first)]
theorem agreeChecks_glob {W : World} (h : laidMetH Tryz.prog agreeChecks_laid W) (hsh : W.ShapedOpen Tryz.prog) : GlobA W :=
  globA_of_laid hsh (glob_of_laid h (by kernel_rfl) (by kernel_rfl) (by kernel_rfl) (by kernel_rfl) (List.Mem.tail _ (List.Mem.tail _ (List.Mem.tail _ (List.Mem.tail _ (List.Mem.tail _ (List.Mem.tail _ (List.Mem.head _))))))) (List.Mem.tail _ (List.Mem.tail _ (List.Mem.tail _ (List.Mem.tail _ (List.Mem.tail _ (List.Mem.tail _ (List.Mem.tail _ (List.Mem.head _)))))))) (List.Mem.tail _ (List.Mem.tail _ (List.Mem.head _))))
/-- A world that holds the listed variables. -/
noncomputable def agreeChecks_world (os : Os) : World :=
  { World.doorLaid Tryz.prog 400 os with heap := (World.doorLaid Tryz.prog 400 os).heap.modify 3 fun
      | .cells _ t frozen => .cells (Pinned.utf8FirstZ.map fun (n : Nat) => Value.int .u8 (n : Int)).toArray t frozen
      | o => o }
theorem agreeChecks_door (os : Os) (args : Array Value) : laidMetH Tryz.prog agreeChecks_laid ((agreeChecks_world os).forCall (fun _ _ => 0) ⟨#[], args, []⟩).memory :=
  laidMetH_of_parts3 (fuel := 8) (laidMet_of_run' 8 (by kernel_rfl) (by kernel_rfl)) (by kernel_rfl) (by kernel_rfl)
theorem agreeChecks_reads (os : Os) {H : Type} (enc : TypeId × Value → H) : ∃ places, DataW.whole enc Tryz.prog ((agreeChecks_world os).forCall (fun _ _ => 0) ⟨#[], #[.slice none 0 0, .int .u8 0, .agg #[.int .u8 0, .int .u8 0]], []⟩).memory Tryz.f3.params.toList Rows.agreeChecksSpec.vars false (#[.slice none 0 0, .int .u8 0, .agg #[.int .u8 0, .int .u8 0]] : Array Value).toList 8 = some ([.nil, .lit (.int .u8 0), .agg [.lit (.int .u8 0), .lit (.int .u8 0)]], [], places) :=
  ⟨[], by kernel_rfl⟩
set_option maxRecDepth 100000 in
theorem agreeChecks_lifted (os : Os) (started : os.Started) (H : Type) (enc : TypeId × Value → H) (F : Stop.Interp) :
    ReturnsInHanded {} Tryz.checked os 3 .any ((OpenSpec.ofChange Rows.agreeChecksSpec).preRow enc Tryz.prog Tryz.f3 Rows.agreeChecksRow.domain false agreeChecks_laid) (((OpenSpec.ofChange Rows.agreeChecksSpec).at F).post enc Tryz.prog Tryz.f3 false true false false) := by
  obtain ⟨places, hx⟩ := agreeChecks_reads os enc
  refine returnsInHanded_of_row (C := Tryz.checked) (s := OpenSpec.ofChange Rows.agreeChecksSpec) Tryz.own started (by kernel_rfl) Tryz.func3
    (witness_row_atRef (enc := enc) (C := Tryz.checked) false (agreeChecks_world os) #[.slice none 0 0, .int .u8 0, .agg #[.int .u8 0, .int .u8 0]] rfl (by kernel_rfl) (by kernel_rfl) (by kernel_rfl)
      (OpenSpec.preRow_of_cond 8 hx (by kernel_rfl) (fun k hk => by cases hk) (by kernel_rfl) (agreeChecks_door os _))) ?_
  intro W base args ds gs before hval0 hW _ _ hsz0 hLd hsh _
  have hval : ∀ (j : Nat) t v, Tryz.f3.params[j]? = some t → args[j]? = some v → Value.okWide Tryz.prog W .any base t v := hval0
  have hW' := hW
  obtain ⟨p, q, hA0, hV, rfl, hfz, hnd⟩ := hW
  have hA : DataW.TrodAll enc Tryz.prog W 0 (fun _ => true) true Tryz.f3.params.toList args.toList ds p := hA0
  rw [Tryz.params3] at hA hval
  obtain ⟨v0, vs0, d0, ds0, p0, q0, hargs, rfl, rfl, h0, r0⟩ := trodAll_cons hA
  obtain ⟨v1, vs1, d1, ds1, p1, q1, rfl, rfl, rfl, h1, r1⟩ := trodAll_cons r0
  obtain ⟨v2, vs2, d2, ds2, p2, q2, rfl, rfl, rfl, h2, r2⟩ := trodAll_cons r1
  obtain ⟨rfl, rfl, rfl⟩ := trodAll_nil r2
  obtain rfl : args = #[v0, v1, v2] := by cases args; simp_all
  obtain ⟨rfl, rfl⟩ := trodVars_none hV
  have hs : (DataW.weightsEach Tryz.prog [22, 5, 23] [d0, d1, d2]).all (· ≤ reachBytes) = true := hsz0
  have hG : GlobA W := agreeChecks_glob hLd hsh
  have k0 := h0
  have lt0 : ∀ x ∈ p0, x.block < W.heap.size := by obtain ⟨m, hm⟩ := k0; exact DataW.trod_lt m _ _ _ hm
  have ok0 := hval 0 22 v0 rfl rfl
  have rd0 := Rd.of h0
  have ws0 : ∀ n ∈ d0.weights Tryz.prog 22, n ≤ reachBytes := fun n hn => by simpa using List.all_eq_true.1 hs _ (DataW.weights_mem_each (j := 0) (t := 22) rfl rfl n hn)
  have sl0 := okWide_slice Tryz.underlying22 ok0
  have rs0 : Rd W 22 [v0] := by obtain ⟨a, n, c, e⟩ := sl0; rw [e] at rd0 ⊢; exact rd0
  obtain ⟨ws, atw, hwl⟩ := open_u8s rs0
  have k1 := h1
  have lt1 : ∀ x ∈ p1, x.block < W.heap.size := by obtain ⟨m, hm⟩ := k1; exact DataW.trod_lt m _ _ _ hm
  have ok1 := hval 1 5 v1 rfl rfl
  have rd1 := Rd.of h1
  have ws1 : ∀ n ∈ d1.weights Tryz.prog 5, n ≤ reachBytes := fun n hn => by simpa using List.all_eq_true.1 hs _ (DataW.weights_mem_each (j := 1) (t := 5) rfl rfl n hn)
  obtain ⟨bz, rfl, rfl, rfl, wbz⟩ := open_int Tryz.underlying5 ok1 h1
  obtain ⟨bits, rfl, hbits⟩ := u8_bd wbz
  have k2 := h2
  have lt2 : ∀ x ∈ p2, x.block < W.heap.size := by obtain ⟨m, hm⟩ := k2; exact DataW.trod_lt m _ _ _ hm
  have ok2 := hval 2 23 v2 rfl rfl
  have rd2 := Rd.of h2
  have ws2 : ∀ n ∈ d2.weights Tryz.prog 23, n ≤ reachBytes := fun n hn => by simpa using List.all_eq_true.1 hs _ (DataW.weights_mem_each (j := 2) (t := 23) rfl rfl n hn)
  obtain ⟨q0, q1, rfl, hq0, hq1⟩ := open_2u8 ok2 rd2
  clear hA0 hval0
  refine (ac_law v0 ws bits q0 q1 W atw hwl hbits hq0 hq1 hG).mono fun e W' ⟨he, bel⟩ => ?_
  subst he
  exact ⟨_, rfl, _, _, _, [], _, [], hW', trodAll_mk1 (shut_bool Tryz.underlying4 _), (trodAll_cons_mk (Below.trod Tryz.laidOut (by kernel_rfl) (of_decide_eq_true (by kernel_rfl)) k0 bel lt0) (trodAll_cons_mk (Below.trod Tryz.laidOut (by kernel_rfl) (of_decide_eq_true (by kernel_rfl)) k1 bel lt1) (trodAll_cons_mk (Below.trod Tryz.laidOut (by kernel_rfl) (of_decide_eq_true (by kernel_rfl)) k2 bel lt2) trodAll_mk0))), rfl, bel.frame _, fun h => by cases h⟩

theorem agreeChecks_row : Rows.AgreeChecksSaid :=
  OpenClaim.holds_of_cond 3 Tryz.f3 rfl rfl rfl rfl rfl rfl rfl ⟨rfl, rfl, rfl, rfl, rfl⟩ rfl rfl rfl rfl rfl (by kernel_rfl) Tryz.func3 (by kernel_rfl)
    (of_decide_eq_true (by kernel_rfl)) (by unfold Func.isWrapper; first | (rw [if_pos (by decide +kernel)]; kernel_rfl) | (rw [if_neg (by decide +kernel)]; exact ⟨rfl, rfl⟩))
    (fun os started H enc _ F => by rw [OpenClaim.pre_eq_preRow]; exact agreeChecks_lifted os started H enc F)
theorem agreeChecks_holds : Rows.AgreeChecksCardSaid :=
  Claim7.holds_tied_plain_at .later [] _ _ _ _
    agreeChecks_row (fun _ h => by cases h) (by kernel_rfl) (fun _ h => by cases h) agreeChecks_row_tie rfl ⟨rfl, rfl⟩ (by kernel_rfl) rfl
    (fun f fn hf hfn => by
      obtain rfl : f = 3 := Option.some.inj ((show Tryz.prog.funcNamed Rows.agreeChecksRow.func = some 3 by kernel_rfl).symm.trans hf) |>.symm
      obtain rfl : fn = Tryz.f3 := (Option.some.inj (Tryz.func3.symm.trans hfn)).symm
      exact ⟨by kernel_rfl, fun j t ht => by
        rw [Tryz.params3] at ht
        match j, ht with
        | 0, ht => (obtain rfl : t = 22 := by simpa using ht.symm); exact (show Tryz.prog.wantsStandIn 22 = false by kernel_rfl)
        | 1, ht => (obtain rfl : t = 5 := by simpa using ht.symm); exact (show Tryz.prog.wantsStandIn 5 = false by kernel_rfl)
        | 2, ht => (obtain rfl : t = 23 := by simpa using ht.symm); exact (show Tryz.prog.wantsStandIn 23 = false by kernel_rfl)
        | j + 3, ht => simp at ht⟩)
    (by kernel_rfl)
#print axioms agreeChecks_holds
end Go.Proofs.YtldkjkjpaiajlaaGreatDoor
