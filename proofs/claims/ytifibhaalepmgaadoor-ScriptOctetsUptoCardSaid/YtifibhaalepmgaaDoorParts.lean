/-
  A text cut at a byte, plainly. No program.
-/
import Derived.Test.YtifibhaalepmgaaDoorRows
import Derived.Lib.SplitLaws
namespace Go.Proofs.YtifibhaalepmgaaDoor
open Go Go.Lib

def parts (c : UInt8) : List UInt8 → List (List UInt8)
  | [] => [[]]
  | x :: l => if x = c then [] :: parts c l else match parts c l with
    | [] => [[x]]
    | h :: t => (x :: h) :: t

theorem split_parts (c : UInt8) : ∀ s : List UInt8, splitK [c] 0 (count s [c]) s = parts c s
  | [] => by rw [count_miss (by simp [index])]; rfl
  | x :: l => by
    by_cases h : x = c
    · subst h
      have hix : index (x :: l) [x] = ((0 : Nat) : Int) := by rw [index]; simp [List.isPrefixOf]
      rw [count_cons_eq, Nat.add_comm, splitK, hix]
      simp only [parts, if_true]
      rw [← split_parts x l]
      simp
    · have hp : ([c] : List UInt8).isPrefixOf (x :: l) = false := by simp [List.isPrefixOf, Ne.symm h]
      have hix : index (x :: l) [c] = if index l [c] == -1 then -1 else index l [c] + 1 := by rw [index, hp]; simp
      have ih := split_parts c l
      rw [count_cons_ne x c l h]
      simp only [parts, if_neg h]
      rw [← ih]
      by_cases hm : index l [c] = -1
      · rw [count_miss hm]; rfl
      · have hge := index_ge l [c]
        obtain ⟨j, hj⟩ : ∃ j : Nat, index l [c] = j := ⟨(index l [c]).toNat, by omega⟩
        rw [count_hit (by simp) hj, Nat.add_comm 1]
        have e1 : ¬ ((index l [c] == -1) = true) := fun e => hm (beq_iff_eq.1 e)
        have e2 : index (x :: l) [c] = ((j + 1 : Nat) : Int) := by rw [hix, if_neg e1, hj]; omega
        have e3 : ¬ ((((j + 1 : Nat) : Int) == -1) = true) := fun e => by have := beq_iff_eq.1 e; omega
        rw [splitK, splitK, if_neg e1, e2, if_neg e3, hj]
        simp

theorem parts_ne (c : UInt8) (s : List UInt8) : parts c s ≠ [] := by
  cases s with
  | nil => simp [parts]
  | cons x l =>
    unfold parts
    by_cases h : x = c
    · rw [if_pos h]; simp
    · rw [if_neg h]
      cases parts c l <;> simp
theorem parts_one (c : UInt8) : ∀ a : List UInt8, c ∉ a → parts c a = [a]
  | [], _ => rfl
  | x :: a, h => by
    have hx : x ≠ c := fun e => h (by simp [e])
    unfold parts
    rw [if_neg hx, parts_one c a (fun e => h (by simp [e]))]
theorem parts_cut (c : UInt8) (r : List UInt8) : ∀ a : List UInt8, c ∉ a → parts c (a ++ c :: r) = a :: parts c r
  | [], _ => by simp [parts]
  | x :: a, h => by
    have hx : x ≠ c := fun e => h (by simp [e])
    rw [List.cons_append]
    simp only [parts, if_neg hx]
    rw [parts_cut c r a (fun e => h (by simp [e]))]

end Go.Proofs.YtifibhaalepmgaaDoor
