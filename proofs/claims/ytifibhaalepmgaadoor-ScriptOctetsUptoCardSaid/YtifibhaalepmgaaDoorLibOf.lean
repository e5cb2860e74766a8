/-
  What the list of PolicyRound's row gives the walks of the readers. No conditions.
-/
import Derived.Test.YtifibhaalepmgaaDoorNumW
import Derived.Test.YtifibhaalepmgaaDoorLaidOf
import Derived.Stop.LaidErr
import Derived.Shelf.Vars
namespace Go.Proofs.YtifibhaalepmgaaDoor
open Go Go.RowKit Go.ChangeShapes Go.WideShapes Go.ChangeAt
set_option linter.unusedVariables false

theorem err_star : "*" ++ "errors.errorString" = "*errors.errorString" := by decide
theorem err_row (u : TypeId) (h : Tryd.prog.typeName? 3 u = some "*errors.errorString") : u = 166 :=
  typeName_ptr_named (nm := "errors.errorString") (by rw [err_star]; kernel_rfl) (by kernel_rfl) (by decide) u (by rw [err_star]; exact h)

theorem max_int {W : World} (h : W.ShapedOpen Tryd.prog) : ∃ m : Int, W.cell? ⟨4, 0, none⟩ = some (.int .i64 m) :=
  cell_of_shapedOpen_int (t := 3) (zero := #[.int .i64 0]) h (of_decide_eq_true (by kernel_rfl)) (by kernel_rfl) rfl (by kernel_rfl) (by kernel_rfl) Tryd.underlying3

theorem sent {W : World} {n : String} {text : List UInt8} {r : List (String × DataW Unit)} {g : Nat} (h : laidMet Tryd.prog ((n, .iface "*errors.errorString" (.ptr (.agg [.lit (.string text)]))) :: r) W)
    (hg : Tryd.prog.globalNamed n = some g) (ht : (Tryd.prog.globals[g]?).map (·.type) = some 59) : ∃ tp p, W.var? Tryd.prog n = some #[.iface tp p] := by
  obtain ⟨a, s, hv, _⟩ := laid_sentinel h hg ht Tryd.underlying59 err_row Tryd.underlying166 Tryd.underlying168 rfl rfl Tryd.underlying9 (by kernel_rfl) (by kernel_rfl)
  exact ⟨_, _, hv⟩

structure LibBut (w : World) : Prop where
  tabs : TabsAt w
  esyn : ∃ tp p, w.var? Tryd.prog "strconv.ErrSyntax" = some #[.iface tp p]
  erng : ∃ tp p, w.var? Tryd.prog "strconv.ErrRange" = some #[.iface tp p]

theorem LibBut.lib {w : World} (h : LibBut w) (hs : w.ShapedOpen Tryd.prog) : LibAt w := ⟨h.tabs, max_int hs, h.esyn, h.erng⟩

theorem laid_round {W : World} (h0 : laidMetH Tryd.prog Rows.policyRoundRow.laid W) : LibBut W := by
  have h : laidMet Tryd.prog Rows.policyRoundRow.laid W := by
    rw [← MakeChecks.laidMetH_plain _ _ _ (by kernel_rfl)]; exact h0
  exact ⟨tabs_of h.tail.tail h.tail.tail.tail.tail.tail.tail.tail, sent (g := 6) h.tail.tail.tail.tail.tail (by kernel_rfl) (by kernel_rfl), sent (g := 7) h.tail.tail.tail.tail (by kernel_rfl) (by kernel_rfl)⟩

end Go.Proofs.YtifibhaalepmgaaDoor
