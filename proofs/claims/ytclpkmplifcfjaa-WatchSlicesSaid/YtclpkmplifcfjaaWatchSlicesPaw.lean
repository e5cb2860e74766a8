/-
  Classes, ClassList, slices.BinarySearch, ClassOf, ClassFor: what they give, for all arguments. No conditions.
-/
import Derived.Test.YtclpkmplifcfjaaWatchSlicesPae
import Derived.Test.YtclpkmplifcfjaaWatchSlicesPab
namespace Go.Proofs.Ytclpkmplifcfjaa
open Go.RowKit

def lo (k : Nat) : Int := 8 * 2 ^ k
def hi (k : Nat) : Int := 12 * 2 ^ k
def cls (k : Nat) : List Int := (List.range k).flatMap fun i => [lo i, hi i]
/-- The size classes. -/
def classes : List Int := cls 14 ++ [100000]

theorem cls_succ (k : Nat) : cls (k + 1) = cls k ++ [lo k] ++ [hi k] := by simp [cls, List.range_succ]
theorem cls_len (k : Nat) : (cls k).length = 2 * k := by
  induction k with
  | zero => rfl
  | succ k ih => rw [cls_succ]; simp [ih]; omega
theorem lo_bd (k : Nat) (h : k < 14) : 8 ≤ lo k ∧ lo k ≤ 65536 ∧ 12 ≤ hi k ∧ hi k ≤ 98304 ∧ hi k = lo k + lo k / 2 ∧ lo (k + 1) = 2 * lo k ∧ hi (k + 1) = 2 * hi k := by
  have : k = 0 ∨ k = 1 ∨ k = 2 ∨ k = 3 ∨ k = 4 ∨ k = 5 ∨ k = 6 ∨ k = 7 ∨ k = 8 ∨ k = 9 ∨ k = 10 ∨ k = 11 ∨ k = 12 ∨ k = 13 := by omega
  rcases this with rfl | rfl | rfl | rfl | rfl | rfl | rfl | rfl | rfl | rfl | rfl | rfl | rfl | rfl <;> decide
theorem lo_top : lo 14 = 131072 := by decide
theorem hi_top : hi 14 = 196608 := by decide

def OwnPost (zs : List Int) (w : World) : Ending → World → Prop := fun e w' =>
  ∃ v, e = .returned v ∧ w'.ownsRow w.heap.size 3 1 v zs.length (zs.map (Value.int .i64)) ∧ Below w.heap.size w w'

def BsPost (zs : List Int) (t : Int) (w : World) : Ending → World → Prop := fun e w' =>
  ∃ (i : Nat) (b : Bool), e = .returned (.tuple #[.int .i64 i, .bool b]) ∧ i ≤ zs.length ∧ (∀ j, j < i → zs.getD j 0 < t) ∧ (∀ j, i ≤ j → j < zs.length → t ≤ zs.getD j 0) ∧ w = w'

end Go.Proofs.Ytclpkmplifcfjaa
