/-
  Two copies, one behind the other, in plain Lean; what a replacing leaves. No program.
-/
import Derived.Test.YtclpkmplifcfjaaWatchSlicesPaq
namespace Go.Proofs.Ytclpkmplifcfjaa

theorem splice_len {α : Type} (ds T : List α) (f : Nat) (h : f + T.length ≤ ds.length) : (splice ds f T).length = ds.length := by
  simp [splice]; omega

theorem splice2 (ds zs T : List Int) (f : Nat) (h : f + zs.length + T.length ≤ ds.length) :
    (splice (splice ds (f + zs.length) T) f zs).take (f + zs.length + T.length) = ds.take f ++ zs ++ T := by
  apply List.ext_getElem?
  intro i
  simp only [splice, List.getElem?_take, List.getElem?_append, List.getElem?_drop, List.length_take, List.length_append, List.length_drop]
  grind

end Go.Proofs.Ytclpkmplifcfjaa
