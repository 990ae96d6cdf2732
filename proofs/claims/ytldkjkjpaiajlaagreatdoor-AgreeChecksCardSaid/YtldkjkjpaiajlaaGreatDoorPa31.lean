/-
  Agree: what the row's condition on listed package variables gives the walks.
-/
import Derived.Test.YtldkjkjpaiajlaaGreatDoorPa19
import Derived.Test.YtldkjkjpaiajlaaGreatDoorPa30
import Derived.Test.YtldkjkjpaiajlaaGreatDoorPa23
import Derived.LaidMore
import Derived.Lib.LaidTab
import Derived.MakeChecks
import Derived.Shelf.Vars
namespace Go.Proofs.YtldkjkjpaiajlaaGreatDoor
open Go.RowKit

theorem laid_mem {P : Program} {w : World} : ∀ {l : List (String × DataW Unit)} {ps : List MemPlace}, DataW.LaidVars P w l ps → ∀ {name : String} {d : DataW Unit}, (name, d) ∈ l →
    ∃ g t cs fuel p, P.globalNamed name = some g ∧ (P.globals[g]?).map (·.type) = some t ∧ w.var? P name = some cs ∧ DataW.trod (fun _ => ()) P w 0 (fun _ => true) false fuel t cs.toList = some (d, p)
  | [], _, _, _, _, h => by cases h
  | (n, d) :: r, ps, h, name, d', hm => by
    obtain ⟨g, t, cs, fuel, p, q, h1, h2, h3, h4, h5, _⟩ := h
    rcases List.mem_cons.1 hm with e | e
    · cases e; exact ⟨g, t, cs, fuel, p, h1, h2, h3, h4⟩
    · exact laid_mem h5 e
theorem tab_of_laid {P : Program} {W : World} {name : String} {k : IntKind} {zs : List Int} {l : List (String × DataW Unit)} {g : Nat} {t e : TypeId} {n : Nat}
    (hg : P.globalNamed name = some g) (hty : (P.globals[g]?).map (·.type) = some t) (ht : P.underlying t = some (.array n e)) (he : P.underlying e = some (.int k)) (hce : P.cellsOf e = 1) (hct : P.cellsOf t = n)
    (h : laidMet P l W) {d : DataW Unit} (hd : d = Lib.tabData k zs) (hm : (name, d) ∈ l) : Lib.TabIs P W name k zs := by
  obtain ⟨ps, hl, _⟩ := h
  obtain ⟨g', t', cs, fuel, p, hg', ht', hvar, hd'⟩ := laid_mem hl hm
  obtain rfl := Option.some.inj (hg.symm.trans hg')
  obtain rfl := Option.some.inj (hty.symm.trans ht')
  subst hd
  unfold Lib.TabIs
  rw [hvar, ← Lib.cells_of_tab ht he hce hct hd']
theorem glob_of_laid {W : World} {l : List (String × DataW Unit)} (h : laidMetH Tryz.prog l W) (hh : (l.all fun x => x.2.handleName?.isNone) = true) {d1 d2 d3 : DataW Unit}
    (e1 : d1 = Lib.tabData .u32 first8) (e2 : d2 = Lib.tabData .u32 kAt) (e3 : d3 = Lib.tabData .u64 Lib.pow10Tab)
    (m1 : ("sortes/digest.first", d1) ∈ l) (m2 : ("sortes/digest.constants", d2) ∈ l) (m3 : ("internal/strconv.uint64pow10", d3) ∈ l) : Glob W := by
  rw [MakeChecks.laidMetH_plain _ _ _ hh] at h
  exact ⟨tab_of_laid Tryz.named1 (by kernel_rfl) Tryz.underlying254 Tryz.underlying253 (by kernel_rfl) (by kernel_rfl) h e1 m1,
    tab_of_laid Tryz.named2 (by kernel_rfl) Tryz.underlying272 Tryz.underlying253 (by kernel_rfl) (by kernel_rfl) h e2 m2,
    tab_of_laid Tryz.named3 (by kernel_rfl) Tryz.underlying290 Tryz.underlying200 (by kernel_rfl) (by kernel_rfl) h e3 m3⟩
theorem globA_of_laid {W : World} (hsh : W.ShapedOpen Tryz.prog) (hG : Glob W) : GlobA W :=
  ⟨hG, cell_of_shapedOpen_int (P := Tryz.prog) (g := 2) (t := 3) (zero := #[.int .i64 0]) hsh (of_decide_eq_true (by kernel_rfl)) (by kernel_rfl) rfl (by kernel_rfl) (by kernel_rfl) Tryz.underlying3⟩
end Go.Proofs.YtldkjkjpaiajlaaGreatDoor
