/-
  Plain laws of a fair division: sums at a level, the greatest level, what is given out. No program. No conditions.
  Fair and FairOf: what they give, for all arguments. No conditions.
-/
import Derived.Test.YtidfidknflcioaaTopPolicyPaa
import Derived.Test.YtidfidknflcioaaTopPolicyPae
import Derived.Test.YtidfidknflcioaaTopPolicyPab

namespace Go.Proofs.Ytidfidknflcioaa
section

/-- What all get together at a level. -/
def sumAt (zs : List Int) (L : Int) : Int := (zs.map fun z => min z L).sum
/-- What is given: at most the level, and one more to those that want more, as long as something is left. -/
def dist : List Int → Int → Int → List Int
  | [], _, _ => []
  | z :: zs, L, r => if L < z ∧ 0 < r then (L + 1) :: dist zs L (r - 1) else min z L :: dist zs L r

theorem sumAt_cons (z : Int) (zs : List Int) (L : Int) : sumAt (z :: zs) L = min z L + sumAt zs L := by simp [sumAt]
theorem sumAt_nil (L : Int) : sumAt [] L = 0 := rfl
theorem sumAt_append (a b : List Int) (L : Int) : sumAt (a ++ b) L = sumAt a L + sumAt b L := by simp [sumAt]
theorem take_succ_getD (zs : List Int) (k : Nat) (h : k < zs.length) : zs.take (k + 1) = zs.take k ++ [zs.getD k 0] := by
  rw [List.take_succ_eq_append_getElem h]; simp [h]
theorem sumAt_take (zs : List Int) (L : Int) (k : Nat) (h : k < zs.length) : sumAt (zs.take (k + 1)) L = sumAt (zs.take k) L + min (zs.getD k 0) L := by
  rw [take_succ_getD zs k h, sumAt_append]; simp [sumAt]

theorem sumAt_bd (M : Int) (hM : 0 ≤ M) (L : Int) (hL : 0 ≤ L) : ∀ zs : List Int, (∀ z ∈ zs, 0 ≤ z ∧ z ≤ M) → 0 ≤ sumAt zs L ∧ sumAt zs L ≤ M * zs.length
  | [], _ => by simp [sumAt_nil]
  | z :: zs, h => by
    have ih := sumAt_bd M hM L hL zs (fun x hx => h x (by simp [hx]))
    have hz := h z (by simp)
    rw [sumAt_cons, List.length_cons, Int.natCast_add, Int.mul_add]
    omega
theorem sumAt_mono (L L' : Int) (h : L ≤ L') : ∀ zs : List Int, sumAt zs L ≤ sumAt zs L'
  | [] => by simp [sumAt_nil]
  | z :: zs => by
    have ih := sumAt_mono L L' h zs
    rw [sumAt_cons, sumAt_cons]; omega
theorem sumAt_top (M : Int) : ∀ zs : List Int, (∀ z ∈ zs, z ≤ M) → sumAt zs M = zs.sum
  | [], _ => rfl
  | z :: zs, h => by
    have ih := sumAt_top M zs (fun x hx => h x (by simp [hx]))
    have hz := h z (by simp)
    rw [sumAt_cons, List.sum_cons, ih]; omega

/-- The level that the budget allows, below M. -/
def isLevel (zs : List Int) (b M L : Int) : Prop := 0 ≤ L ∧ L ≤ M ∧ sumAt zs L ≤ b ∧ (L = M ∨ b < sumAt zs (L + 1))

theorem level_unique {zs : List Int} {b M L L' : Int} (h : isLevel zs b M L) (h' : isLevel zs b M L') : L = L' := by
  obtain ⟨h1, h2, h3, h4⟩ := h
  obtain ⟨k1, k2, k3, k4⟩ := h'
  rcases Int.lt_trichotomy L L' with hlt | rfl | hlt
  · rcases h4 with h4 | h4
    · omega
    · have := sumAt_mono (L + 1) L' (by omega) zs; omega
  · rfl
  · rcases k4 with k4 | k4
    · omega
    · have := sumAt_mono (L' + 1) L (by omega) zs; omega
theorem level_top {zs : List Int} {b M L : Int} (h : isLevel zs b M L) (hs : sumAt zs M ≤ b) : L = M := by
  obtain ⟨h1, h2, h3, h4⟩ := h
  rcases h4 with h4 | h4
  · exact h4
  · have := sumAt_mono (L + 1) M
    rcases Int.lt_or_le L M with hl | hl
    · have := this (by omega) zs; omega
    · omega

theorem dist_len : ∀ (zs : List Int) (L r : Int), (dist zs L r).length = zs.length
  | [], _, _ => rfl
  | z :: zs, L, r => by unfold dist; split <;> simp [dist_len zs]
theorem dist_top (M : Int) : ∀ (zs : List Int) (r : Int), (∀ z ∈ zs, z ≤ M) → dist zs M r = zs
  | [], _, _ => rfl
  | z :: zs, r, h => by
    have hz := h z (by simp)
    unfold dist
    rw [if_neg (by omega), dist_top M zs r (fun x hx => h x (by simp [hx]))]
    congr 1; omega

theorem drop_cons (zs : List Int) (k : Nat) (h : k < zs.length) : zs.drop k = zs.getD k 0 :: zs.drop (k + 1) := by
  rw [List.drop_eq_getElem_cons h]; simp [h]
theorem dist_cons (z : Int) (zs : List Int) (L r : Int) : dist (z :: zs) L r = if L < z ∧ 0 < r then (L + 1) :: dist zs L (r - 1) else min z L :: dist zs L r := rfl
theorem dist_step_more {zs acc : List Int} {L r r0 : Int} {k : Nat} (h : k < zs.length) (he : acc ++ dist (zs.drop k) L r = dist zs L r0) (h1 : L < zs.getD k 0) (h2 : 0 < r) :
    (acc ++ [L + 1]) ++ dist (zs.drop (k + 1)) L (r - 1) = dist zs L r0 := by
  rw [drop_cons zs k h, dist_cons] at he
  rw [if_pos ⟨h1, h2⟩] at he
  rw [List.append_assoc]
  exact he
theorem dist_step_less {zs acc : List Int} {L r r0 : Int} {k : Nat} (h : k < zs.length) (he : acc ++ dist (zs.drop k) L r = dist zs L r0) (h1 : ¬ (L < zs.getD k 0 ∧ 0 < r)) :
    (acc ++ [min (zs.getD k 0) L]) ++ dist (zs.drop (k + 1)) L r = dist zs L r0 := by
  rw [drop_cons zs k h, dist_cons] at he
  rw [if_neg h1] at he
  rw [List.append_assoc]
  exact he

/-! What a fair division gives. -/
theorem dist_bd : ∀ (zs : List Int) (L r : Int), 0 ≤ L → (∀ z ∈ zs, 0 ≤ z) → ∀ j, j < zs.length → 0 ≤ (dist zs L r).getD j 0 ∧ (dist zs L r).getD j 0 ≤ zs.getD j 0 ∧ (dist zs L r).getD j 0 ≤ L + 1 ∧ ((dist zs L r).getD j 0 < zs.getD j 0 → L ≤ (dist zs L r).getD j 0)
  | [], _, _, _, _, j, hj => by simp at hj
  | z :: zs, L, r, hL, h, j, hj => by
    have hz := h z (by simp)
    unfold dist
    cases j with
    | zero => split <;> simp <;> omega
    | succ j =>
      have ih := fun r => dist_bd zs L r hL (fun x hx => h x (by simp [hx])) j (by simpa using hj)
      split
      · simpa using ih (r - 1)
      · simpa using ih r
theorem dist_sum : ∀ (zs : List Int) (L r : Int), 0 ≤ r → sumAt zs L + r ≤ sumAt zs (L + 1) → (dist zs L r).sum = sumAt zs L + r
  | [], L, r, h0, h => by simp [sumAt_nil] at h; simp [dist, sumAt_nil]; omega
  | z :: zs, L, r, h0, h => by
    rw [sumAt_cons, sumAt_cons] at h
    rw [sumAt_cons]
    unfold dist
    split
    · next hc =>
      rw [List.sum_cons, dist_sum zs L (r - 1) (by omega) (by omega)]
      omega
    · next hc =>
      rcases Int.lt_or_le L z with hz | hz
      · have hr : r = 0 := by omega
        subst hr
        rw [List.sum_cons, dist_sum zs L 0 (by omega) (by have := sumAt_mono L (L + 1) (by omega) zs; omega)]
        omega
      · rw [List.sum_cons, dist_sum zs L r h0 (by omega)]
        omega

end
end Go.Proofs.Ytidfidknflcioaa

namespace Go.Proofs.Ytidfidknflcioaa
section
open Go.RowKit

/-- The elements of a slice that came in, for a walk: the address is known where there is an element. -/
theorem Reads.open {w : World} {k : IntKind} {v : Value} {zs : List Int} (h : Reads w k v zs) : ∃ a cap, v = .slice a zs.length cap ∧ zs.length ≤ 9223372036854775807 ∧
    ∀ j, j < zs.length → ∃ b o, a = some ⟨b, o, none⟩ ∧ w.cell? ⟨b, o + j, none⟩ = some (.int k (zs.getD j 0)) := by
  obtain ⟨a, cap, rfl, hl, hc⟩ := h
  refine ⟨a, cap, rfl, hl, fun j hj => ?_⟩
  obtain ⟨b, o, ha, hcell⟩ := hc (by intro e; subst e; simp at hj)
  exact ⟨b, o, ha, hcell j hj⟩

def SumPost (r : Int) (w : World) : Ending → World → Prop := fun e w' => e = .returned (.int .i64 r) ∧ w = w'

/-- A list of integers that came in, as the round of a loop reads it. -/
theorem old_cell {w wr : World} {b o : Nat} {v : Value} (hb : Below w.heap.size w wr) (h : w.cell? ⟨b, o, none⟩ = some v) : wr.cell? ⟨b, o, none⟩ = some v :=
  (hb.cell (p := ⟨b, o, none⟩) (World.block_lt_of_cell? w ⟨b, o, none⟩ h)).trans h

/-- A call that gives back a new list of integers and an error. -/
def RetRowB (err : Int) (zs : List Int) (w : World) : Ending → World → Prop := fun e w' =>
  ∃ v, e = .returned (.tuple #[v, .int .i64 err]) ∧ w'.ownsRow w.heap.size 3 1 v zs.length (zs.map (Value.int .i64)) ∧ Below w.heap.size w w'

end
end Go.Proofs.Ytidfidknflcioaa
