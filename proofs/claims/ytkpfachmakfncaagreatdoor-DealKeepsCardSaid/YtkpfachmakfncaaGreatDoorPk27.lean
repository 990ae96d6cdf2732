/-
  What the row's condition on listed variables gives where the library's readers of numbers are called.
-/
import Derived.Test.YtkpfachmakfncaaGreatDoorPk24
import Derived.Test.YtkpfachmakfncaaGreatDoorPk25
import Derived.Stop.LaidErr
import Derived.Shelf.Vars
namespace Go.Proofs.YtkpfachmakfncaaGreatDoor
open Go.RowKit

theorem star_err : "*" ++ "errors.errorString" = "*errors.errorString" := by decide
theorem Tryz.rowErr (u : TypeId) (h : Tryz.prog.typeName? 3 u = some "*errors.errorString") : u = 152 :=
  typeName_ptr_named (nm := "errors.errorString") (by rw [star_err]; kernel_rfl) (by kernel_rfl) (by decide) u (by rw [star_err]; exact h)
theorem laidMet_drop {P : Program} {w : World} {r : List (String × DataW Unit)} : ∀ {l : List (String × DataW Unit)}, laidMet P (l ++ r) w → laidMet P r w
  | [], h => h
  | _ :: l, h => laidMet_drop (l := l) h.tail
theorem sent_of_laid {n : String} {text : List UInt8} {l : List (String × DataW Unit)} {W : World} {g : Nat} (h : laidMet Tryz.prog l W)
    (hm : ∃ a r, l = a ++ (n, .iface "*errors.errorString" (.ptr (.agg [.lit (.string text)]))) :: r)
    (hg : Tryz.prog.globalNamed n = some g) (ht : (Tryz.prog.globals[g]?).map (·.type) = some 59) : ∃ te pe, W.cell? ⟨g, 0, none⟩ = some (.iface te pe) := by
  obtain ⟨a, r, rfl⟩ := hm
  obtain ⟨a0, s0, hv, _⟩ := laid_sentinel (laidMet_drop h) hg ht Tryz.underlying59 Tryz.rowErr Tryz.underlying152 Tryz.underlying154 rfl rfl Tryz.underlying9 (by kernel_rfl) (by kernel_rfl)
  exact ⟨_, _, by simpa using World.var?_cell hg hv 0⟩
theorem globT_of_laid {W : World} {l : List (String × DataW Unit)} (h : laidMetH Tryz.prog l W) (hh : (l.all fun x => x.2.handleName?.isNone) = true) (hsh : W.ShapedOpen Tryz.prog) (hG : Glob W) {t1 t2 : List UInt8}
    (m1 : ∃ a r, l = a ++ ("strconv.ErrSyntax", .iface "*errors.errorString" (.ptr (.agg [.lit (.string t1)]))) :: r)
    (m2 : ∃ a r, l = a ++ ("strconv.ErrRange", .iface "*errors.errorString" (.ptr (.agg [.lit (.string t2)]))) :: r) : GlobT W := by
  rw [MakeChecks.laidMetH_plain _ _ _ hh] at h
  exact ⟨hG, sent_of_laid h m1 (by kernel_rfl) (by kernel_rfl), sent_of_laid h m2 (by kernel_rfl) (by kernel_rfl),
    cell_of_shapedOpen_int (P := Tryz.prog) (g := 4) (t := 3) (zero := #[.int .i64 0]) hsh (of_decide_eq_true (by kernel_rfl)) (by kernel_rfl) rfl (by kernel_rfl) (by kernel_rfl) Tryz.underlying3⟩
end Go.Proofs.YtkpfachmakfncaaGreatDoor
