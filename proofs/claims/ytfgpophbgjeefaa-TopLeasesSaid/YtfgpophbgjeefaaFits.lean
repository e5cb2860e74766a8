/-
  A slice that came in fits its room. No conditions.
-/
import Derived.Test.YtfgpophbgjeefaaPoke
import Derived.Test.YtfgpophbgjeefaaFrame
namespace Go.Proofs.Ytfgpophbgjeefaa
open Go.ChangeShapes Go.WideShapes Go.ChangeAt Go.RowKit

theorem row_fits {H : Type} {enc : TypeId × Value → H} {P : Program} {W : World} {t e : TypeId} {k : IntKind} {base : Nat} {v : Value} {d : DataW H} {p : List MemPlace} (ht : P.underlying t = some (.slice e)) (he : P.underlying e = some (.int k)) (hc : P.cellsOf e = 1)
    (hv : Value.okWide P W .any base t v) (h : DataW.Trod enc P W 0 (fun _ => true) true t v d p) : sliceFits v := by
  obtain ⟨a, len, cap, rfl⟩ := okWide_slice ht hv
  obtain ⟨fuel, hf⟩ := h
  rcases open_ints ht he hc hf with ⟨hcs, hx⟩ | ⟨x, l, c, zs, hcs, _, hl, hm, hz, hx, hcell, hwz⟩
  · simp [Value.cells] at hcs
    obtain ⟨rfl, rfl, rfl⟩ := hcs
    simp [sliceFits]
  · simp [Value.cells] at hcs
    obtain ⟨rfl, rfl, rfl⟩ := hcs
    exact hl

end Go.Proofs.Ytfgpophbgjeefaa
