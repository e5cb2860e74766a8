/-
  The reference's ReadPolicyOf. Conditions: Go's own variables, and the reference's words, hold what their initialisers lay.
-/
import Derived.Test.YtifibhaalepmgaaDoorWords
import Derived.Test.YtifibhaalepmgaaDoorReadPol
import Derived.LoopN
import Derived.Deep.CutRange
import Derived.IntWalk
import Derived.Deep.DeepCutAuto
namespace Go.Proofs.YtifibhaalepmgaaDoor
open Go.RowKit
set_option linter.unusedVariables false

def polXs : List ByteArray := [⟨#[]⟩, wordA 1, wordA 2, wordA 3, wordA 4, wordA 5]
theorem idx_pol (x : ByteArray) : -1 ≤ Lib.idxOfS polXs x ∧ Lib.idxOfS polXs x ≤ 5 ∧ ((1 ≤ kindOf x.data.toList ∧ Lib.idxOfS polXs x = kindOf x.data.toList) ∨ (kindOf x.data.toList = 0 ∧ Lib.idxOfS polXs x < 1)) := by
  have e : ∀ k, (wordA k = x) = (x.data.toList = word k) := fun k => propext ⟨fun h => by rw [← h]; simp [wordA], fun h => bytes_ext (by rw [h]; simp [wordA])⟩
  have e0 : ((⟨#[]⟩ : ByteArray) = x) = (x.data.toList = []) := propext ⟨fun h => by rw [← h], fun h => bytes_ext (by rw [h])⟩
  unfold kindOf polXs Lib.idxOfS
  simp only [Lib.idxFromS, e, e0]
  by_cases h0 : x.data.toList = []
  · simp [h0, word]
  by_cases h1 : x.data.toList = word 1
  · simp [h1, word]
  · by_cases h2 : x.data.toList = word 2
    · simp [h2, word]
    · by_cases h3 : x.data.toList = word 3
      · simp [h3, word]
      · by_cases h4 : x.data.toList = word 4
        · simp [h4, word]
        · by_cases h5 : x.data.toList = word 5
          · simp [h5, word]
          · simp [h0, h1, h2, h3, h4, h5]

theorem index_pol (gb go gc : Nat) (x : ByteArray) (w : World) (h : ∀ (k : Nat) y, polXs[k]? = some y → w.cell? ⟨gb, go + k, none⟩ = some (.string y)) :
    Calls Tryd.prog 37 #[.slice (some ⟨gb, go, none⟩) polXs.length gc, .string x] w (fun e w' => e = .returned (.int .i64 (Lib.idxOfS polXs x)) ∧ w = w') :=
  (Tryd.slices_Index_string gb go polXs.length gc polXs x w (by decide) (by decide) (fun j hj => h j _ (by
    match j, hj with
    | 0, _ => rfl
    | 1, _ => rfl
    | 2, _ => rfl
    | 3, _ => rfl
    | 4, _ => rfl
    | 5, _ => rfl))).mono fun e w' ⟨he, hw⟩ => ⟨by rw [he]; rfl, hw.symm⟩

end Go.Proofs.YtifibhaalepmgaaDoor
