/-
  What a row's list of variables gives the walks. No conditions.
-/
import Derived.Test.YtifibhaalepmgaaDoorRoomPoliciesW
import Derived.Lib.LaidTab
import Derived.Stop.LaidErr
import Derived.LaidLaws
import Derived.MakeChecks
import Derived.SliceStrings
namespace Go.Proofs.YtifibhaalepmgaaDoor
open Go Go.RowKit Go.ChangeShapes Go.WideShapes Go.ChangeAt
set_option linter.unusedVariables false

theorem tabs_of {W : World} {r1 r2 : List (String × DataW Unit)} (h1 : laidMet Tryd.prog (("internal/strconv.uint64pow10", Rows.laid_internal_strconv_uint64pow10) :: r1) W) (h2 : laidMet Tryd.prog (("strings.asciiSpace", Rows.laid_strings_asciiSpace) :: r2) W) : TabsAt W :=
  ⟨Lib.tabIs_of_head (zs := Lib.pow10Tab) (g := 5) (t := 155) (by kernel_rfl) (by kernel_rfl) Tryd.underlying155 Tryd.underlying91 (by kernel_rfl) (by kernel_rfl)
      (by rw [show Lib.tabData .u64 Lib.pow10Tab = (Rows.laid_internal_strconv_uint64pow10 : DataW Unit) from by kernel_rfl]; exact h1),
   Lib.tabIs_of_head (zs := Lib.asciiSpaceTab) (g := 2) (t := 87) (by kernel_rfl) (by kernel_rfl) Tryd.underlying87 Tryd.underlying5 (by kernel_rfl) (by kernel_rfl)
      (by rw [show Lib.tabData .u8 Lib.asciiSpaceTab = (Rows.laid_strings_asciiSpace : DataW Unit) from by kernel_rfl]; exact h2)⟩

theorem polWords_of {W : World} {n : String} {r : List (String × DataW Unit)} (hg : Tryd.prog.globalNamed n = some 0) (h : laidMet Tryd.prog ((n, Rows.laid_corncrib_cornref1_policyWords) :: r) W) : PolWords W := by
  obtain ⟨ps, ⟨g', t', cs, fuel, p, q, hg', ht', hvar, hd, _, _⟩, _⟩ := h
  obtain rfl := Option.some.inj (hg.symm.trans hg')
  obtain rfl := Option.some.inj ((show (Tryd.prog.globals[0]?).map (·.type) = some 47 by kernel_rfl).symm.trans ht')
  have c9 : Tryd.prog.cellsOf 9 = 1 := by kernel_rfl
  rcases open_strings Tryd.underlying47 Tryd.underlying9 c9 hd with ⟨_, hx⟩ | ⟨a, len, cap, ss, hcs, _, hl, hm, hz, hx, hcell, _⟩
  · exact absurd hx (by simp [Rows.laid_corncrib_cornref1_policyWords])
  · simp only [Rows.laid_corncrib_cornref1_policyWords, Prod.mk.injEq, DataW.slice.injEq] at hx
    obtain ⟨⟨e1, e2⟩, _⟩ := hx
    have hdrop : ss.drop len = [] := by
      have := congrArg List.length e2
      simp [strs] at this
      exact List.drop_eq_nil_of_le (by omega)
    have hle : ss.length ≤ len := by simpa using hdrop
    rw [List.take_of_length_le hle] at e1
    have hlen : ss.length = 6 := by
      have := congrArg List.length e1
      simpa [strs] using this.symm
    obtain ⟨b, o, sp⟩ := a
    have hsp : sp = none := by
      have := hcell 0 (by omega)
      simpa [Addr.add] using World.cell?_spot this
    subst hsp
    have hl6 : len = 6 := by
      split at hz <;> omega
    subst hl6
    refine ⟨b, o, cap, ?_, fun k hk hk5 => ?_⟩
    · have := World.var?_cell hg hvar 0
      obtain ⟨cl⟩ := cs
      simp only at hcs
      subst hcs
      simpa using this
    · have hc := hcell k (by omega)
      have ea : (⟨b, o, none⟩ : Addr).add k = ⟨b, o + k, none⟩ := by unfold Addr.add; split <;> simp_all
      rw [ea] at hc
      rw [hc]
      have hk' : (strs ss : List (DataW Unit))[k]? = some (.lit (.string (word k))) := by
        rw [← e1]
        rcases (show k = 1 ∨ k = 2 ∨ k = 3 ∨ k = 4 ∨ k = 5 by omega) with rfl | rfl | rfl | rfl | rfl <;> rfl
      simp only [strs, List.getElem?_map, Option.map_eq_some_iff] at hk'
      obtain ⟨x, hx, hx2⟩ := hk'
      simp only [DataW.lit.injEq, Lit.string.injEq] at hx2
      rw [List.getD_eq_getElem?_getD, hx]
      simp only [Option.getD_some, Option.some.injEq, Value.string.injEq]
      unfold wordA
      rw [← hx2]

theorem laid_policies {W : World} (h0 : laidMetH Tryd.prog Rows.roomPoliciesRow.laid W) : TabsAt W ∧ PolWords W := by
  have h : laidMet Tryd.prog Rows.roomPoliciesRow.laid W := by
    rw [← MakeChecks.laidMetH_plain _ _ _ (by kernel_rfl)]; exact h0
  exact ⟨tabs_of h.tail.tail h.tail.tail.tail.tail, polWords_of (by kernel_rfl) h.tail.tail.tail.tail.tail⟩

end Go.Proofs.YtifibhaalepmgaaDoor
