/-
  What a call may have turned: 'Touch F w w'': of the blocks that were there at most those in F. No conditions.
  Plain laws of a fair division: sums at a level, the greatest level, what is given out. No program. No conditions.
  Fair and FairOf: what they give, for all arguments. No conditions.
-/
import Derived.Test.YtjogaohnphafgaaTopCompactPaa
import Derived.Maps.Own
import Derived.Maps.OwnSet
import Derived.OneCell

namespace Go.Proofs.Ytjogaohnphafgaa
section
open Go.RowKit

structure Touch (F : Nat → Prop) (w w' : World) : Prop where
  os : w'.os = w.os
  tape : w'.tape = w.tape
  output : w'.output = w.output
  size : w.heap.size ≤ w'.heap.size
  block : ∀ k, k < w.heap.size → ¬ F k → w'.heap[k]? = w.heap[k]?

theorem Touch.refl (F : Nat → Prop) (w : World) : Touch F w w := ⟨rfl, rfl, rfl, Nat.le_refl _, fun _ _ _ => rfl⟩
theorem Touch.trans {F G : Nat → Prop} {a b c : World} (h : Touch F a b) (k : Touch G b c) (hG : ∀ i, G i → F i ∨ a.heap.size ≤ i) : Touch F a c :=
  ⟨k.os.trans h.os, k.tape.trans h.tape, k.output.trans h.output, Nat.le_trans h.size k.size,
    fun i hi hF => (k.block i (Nat.lt_of_lt_of_le hi h.size) (fun g => (hG i g).elim hF (fun x => by omega))).trans (h.block i hi hF)⟩
theorem Touch.then {F : Nat → Prop} {a b c : World} (h : Touch F a b) (k : Touch F b c) : Touch F a c := h.trans k (fun _ x => Or.inl x)
theorem Touch.mono {F G : Nat → Prop} {w w' : World} (h : Touch F w w') (hG : ∀ i, F i → G i) : Touch G w w' := ⟨h.os, h.tape, h.output, h.size, fun k hk hn => h.block k hk (fun x => hn (hG k x))⟩
theorem Touch.alloc {F : Nat → Prop} {a w : World} (h : Touch F a w) (o : Obj) : Touch F a (w.alloc o) :=
  ⟨h.os, h.tape, h.output, Nat.le_trans h.size (by simp), fun k hk hn => (heap_alloc_old w o (Nat.lt_of_lt_of_le hk h.size)).trans (h.block k hk hn)⟩
theorem Touch.drew {F : Nat → Prop} {a w : World} (h : Touch F a w) : Touch F a w.drew := ⟨h.os, h.tape, h.output, h.size, h.block⟩
theorem Touch.drewN {F : Nat → Prop} {a w : World} (h : Touch F a w) (n : Nat) : Touch F a (w.drewN n) := ⟨h.os, h.tape, h.output, h.size, h.block⟩
theorem Touch.setCell {F : Nat → Prop} {a w : World} (h : Touch F a w) {p : Addr} (hp : F p.block ∨ a.heap.size ≤ p.block) (u : Value) : Touch F a (w.setCell p u) :=
  ⟨h.os, h.tape, h.output, by simpa [World.setCell] using h.size, fun k hk hn => (Below.heap_setCell w p u k (fun e => by subst e; rcases hp with x | x; exact hn x; omega)).trans (h.block k hk hn)⟩
theorem Touch.grown {F : Nat → Prop} {a w w' : World} {row : Option Nat} (h : Touch F a w) (hg : w.grownBy w' row) (hr : ∀ k, row = some k → F k ∨ a.heap.size ≤ k) : Touch F a w' :=
  ⟨hg.os.trans h.os, hg.tape.trans h.tape, hg.output.trans h.output, Nat.le_trans h.size hg.size,
    fun k hk hn => (hg.block k (Nat.lt_of_lt_of_le hk h.size) (fun e => (hr k e.symm).elim hn (fun x => by omega))).trans (h.block k hk hn)⟩
theorem Touch.of_below {F : Nat → Prop} {w w' : World} (h : Below w.heap.size w w') : Touch F w w' := ⟨h.os, h.tape, h.output, h.size, fun k hk _ => h.block k hk⟩
theorem Touch.below {F : Nat → Prop} {w w' : World} {B : Nat} (h : Touch F w w') (hB : B ≤ w.heap.size) (hF : ∀ k, F k → B ≤ k) : Below B w w' :=
  ⟨h.os, h.tape, h.output, h.size, fun k hk => h.block k (by omega) (fun x => by have := hF k x; omega)⟩

/-- The blocks of F are as they were. -/
def SameOn (F : Nat → Prop) (w w' : World) : Prop := ∀ k, F k → k < w.heap.size → w'.heap[k]? = w.heap[k]?
theorem Touch.same {F G : Nat → Prop} {w w' : World} (h : Touch G w w') (hd : ∀ k, F k → k < w.heap.size → ¬ G k) : SameOn F w w' := fun k hk hlt => h.block k hlt (hd k hk hlt)
theorem Below.same_on {F : Nat → Prop} {w w' : World} (h : Below w.heap.size w w') : SameOn F w w' := fun k _ hlt => h.block k hlt

/-- A block that is known whole. -/
theorem cell_of {w : World} {b : Nat} {cur : Array Value} {t : TypeId} (h : w.heap[b]? = some (.cells cur t (0, 0))) (j : Nat) : w.cell? ⟨b, j, none⟩ = cur[j]? := cell_of_row w b j cur t (0, 0) h
theorem lt_of {w : World} {b : Nat} {o : Obj} (h : w.heap[b]? = some o) : b < w.heap.size := (Array.getElem?_eq_some_iff.1 h).1
theorem free_of {w : World} {b : Nat} {cur : Array Value} {t : TypeId} (h : w.heap[b]? = some (.cells cur t (0, 0))) (j : Nat) : w.frozen? ⟨b, j, none⟩ = false := by simp [World.frozen?, h]
theorem block_setCell {w : World} {b : Nat} {cur : Array Value} {t : TypeId} (h : w.heap[b]? = some (.cells cur t (0, 0))) (j : Nat) (u : Value) :
    (w.setCell ⟨b, j, none⟩ u).heap[b]? = some (.cells (cur.setIfInBounds j u) t (0, 0)) := by
  simp [World.setCell, Array.getElem?_modify, h]

end
end Go.Proofs.Ytjogaohnphafgaa

namespace Go.Proofs.Ytjogaohnphafgaa
section

/-- What all get together at a level. -/
def sumAt (zs : List Int) (L : Int) : Int := (zs.map fun z => min z L).sum
/-- What is given: at most the level, and one more to those that want more, as long as something is left. -/
def dist : List Int → Int → Int → List Int
  | [], _, _ => []
  | z :: zs, L, r => if L < z ∧ 0 < r then (L + 1) :: dist zs L (r - 1) else min z L :: dist zs L r

theorem sumAt_cons (z : Int) (zs : List Int) (L : Int) : sumAt (z :: zs) L = min z L + sumAt zs L := by simp [sumAt]
theorem sumAt_nil (L : Int) : sumAt [] L = 0 := rfl
theorem sumAt_append (a b : List Int) (L : Int) : sumAt (a ++ b) L = sumAt a L + sumAt b L := by simp [sumAt]
theorem take_succ_getD (zs : List Int) (k : Nat) (h : k < zs.length) : zs.take (k + 1) = zs.take k ++ [zs.getD k 0] := by
  rw [List.take_succ_eq_append_getElem h]; simp [h]
theorem sumAt_take (zs : List Int) (L : Int) (k : Nat) (h : k < zs.length) : sumAt (zs.take (k + 1)) L = sumAt (zs.take k) L + min (zs.getD k 0) L := by
  rw [take_succ_getD zs k h, sumAt_append]; simp [sumAt]

theorem sumAt_bd (M : Int) (hM : 0 ≤ M) (L : Int) (hL : 0 ≤ L) : ∀ zs : List Int, (∀ z ∈ zs, 0 ≤ z ∧ z ≤ M) → 0 ≤ sumAt zs L ∧ sumAt zs L ≤ M * zs.length
  | [], _ => by simp [sumAt_nil]
  | z :: zs, h => by
    have ih := sumAt_bd M hM L hL zs (fun x hx => h x (by simp [hx]))
    have hz := h z (by simp)
    rw [sumAt_cons, List.length_cons, Int.natCast_add, Int.mul_add]
    omega
theorem sumAt_mono (L L' : Int) (h : L ≤ L') : ∀ zs : List Int, sumAt zs L ≤ sumAt zs L'
  | [] => by simp [sumAt_nil]
  | z :: zs => by
    have ih := sumAt_mono L L' h zs
    rw [sumAt_cons, sumAt_cons]; omega
theorem sumAt_top (M : Int) : ∀ zs : List Int, (∀ z ∈ zs, z ≤ M) → sumAt zs M = zs.sum
  | [], _ => rfl
  | z :: zs, h => by
    have ih := sumAt_top M zs (fun x hx => h x (by simp [hx]))
    have hz := h z (by simp)
    rw [sumAt_cons, List.sum_cons, ih]; omega

/-- The level that the budget allows, below M. -/
def isLevel (zs : List Int) (b M L : Int) : Prop := 0 ≤ L ∧ L ≤ M ∧ sumAt zs L ≤ b ∧ (L = M ∨ b < sumAt zs (L + 1))

theorem level_unique {zs : List Int} {b M L L' : Int} (h : isLevel zs b M L) (h' : isLevel zs b M L') : L = L' := by
  obtain ⟨h1, h2, h3, h4⟩ := h
  obtain ⟨k1, k2, k3, k4⟩ := h'
  rcases Int.lt_trichotomy L L' with hlt | rfl | hlt
  · rcases h4 with h4 | h4
    · omega
    · have := sumAt_mono (L + 1) L' (by omega) zs; omega
  · rfl
  · rcases k4 with k4 | k4
    · omega
    · have := sumAt_mono (L' + 1) L (by omega) zs; omega
theorem level_top {zs : List Int} {b M L : Int} (h : isLevel zs b M L) (hs : sumAt zs M ≤ b) : L = M := by
  obtain ⟨h1, h2, h3, h4⟩ := h
  rcases h4 with h4 | h4
  · exact h4
  · have := sumAt_mono (L + 1) M
    rcases Int.lt_or_le L M with hl | hl
    · have := this (by omega) zs; omega
    · omega

theorem dist_len : ∀ (zs : List Int) (L r : Int), (dist zs L r).length = zs.length
  | [], _, _ => rfl
  | z :: zs, L, r => by unfold dist; split <;> simp [dist_len zs]
theorem dist_top (M : Int) : ∀ (zs : List Int) (r : Int), (∀ z ∈ zs, z ≤ M) → dist zs M r = zs
  | [], _, _ => rfl
  | z :: zs, r, h => by
    have hz := h z (by simp)
    unfold dist
    rw [if_neg (by omega), dist_top M zs r (fun x hx => h x (by simp [hx]))]
    congr 1; omega

theorem drop_cons (zs : List Int) (k : Nat) (h : k < zs.length) : zs.drop k = zs.getD k 0 :: zs.drop (k + 1) := by
  rw [List.drop_eq_getElem_cons h]; simp [h]
theorem dist_cons (z : Int) (zs : List Int) (L r : Int) : dist (z :: zs) L r = if L < z ∧ 0 < r then (L + 1) :: dist zs L (r - 1) else min z L :: dist zs L r := rfl
theorem dist_step_more {zs acc : List Int} {L r r0 : Int} {k : Nat} (h : k < zs.length) (he : acc ++ dist (zs.drop k) L r = dist zs L r0) (h1 : L < zs.getD k 0) (h2 : 0 < r) :
    (acc ++ [L + 1]) ++ dist (zs.drop (k + 1)) L (r - 1) = dist zs L r0 := by
  rw [drop_cons zs k h, dist_cons] at he
  rw [if_pos ⟨h1, h2⟩] at he
  rw [List.append_assoc]
  exact he
theorem dist_step_less {zs acc : List Int} {L r r0 : Int} {k : Nat} (h : k < zs.length) (he : acc ++ dist (zs.drop k) L r = dist zs L r0) (h1 : ¬ (L < zs.getD k 0 ∧ 0 < r)) :
    (acc ++ [min (zs.getD k 0) L]) ++ dist (zs.drop (k + 1)) L r = dist zs L r0 := by
  rw [drop_cons zs k h, dist_cons] at he
  rw [if_neg h1] at he
  rw [List.append_assoc]
  exact he

/-! What a fair division gives. -/
theorem dist_bd : ∀ (zs : List Int) (L r : Int), 0 ≤ L → (∀ z ∈ zs, 0 ≤ z) → ∀ j, j < zs.length → 0 ≤ (dist zs L r).getD j 0 ∧ (dist zs L r).getD j 0 ≤ zs.getD j 0 ∧ (dist zs L r).getD j 0 ≤ L + 1 ∧ ((dist zs L r).getD j 0 < zs.getD j 0 → L ≤ (dist zs L r).getD j 0)
  | [], _, _, _, _, j, hj => by simp at hj
  | z :: zs, L, r, hL, h, j, hj => by
    have hz := h z (by simp)
    unfold dist
    cases j with
    | zero => split <;> simp <;> omega
    | succ j =>
      have ih := fun r => dist_bd zs L r hL (fun x hx => h x (by simp [hx])) j (by simpa using hj)
      split
      · simpa using ih (r - 1)
      · simpa using ih r
theorem dist_sum : ∀ (zs : List Int) (L r : Int), 0 ≤ r → sumAt zs L + r ≤ sumAt zs (L + 1) → (dist zs L r).sum = sumAt zs L + r
  | [], L, r, h0, h => by simp [sumAt_nil] at h; simp [dist, sumAt_nil]; omega
  | z :: zs, L, r, h0, h => by
    rw [sumAt_cons, sumAt_cons] at h
    rw [sumAt_cons]
    unfold dist
    split
    · next hc =>
      rw [List.sum_cons, dist_sum zs L (r - 1) (by omega) (by omega)]
      omega
    · next hc =>
      rcases Int.lt_or_le L z with hz | hz
      · have hr : r = 0 := by omega
        subst hr
        rw [List.sum_cons, dist_sum zs L 0 (by omega) (by have := sumAt_mono L (L + 1) (by omega) zs; omega)]
        omega
      · rw [List.sum_cons, dist_sum zs L r h0 (by omega)]
        omega

end
end Go.Proofs.Ytjogaohnphafgaa

namespace Go.Proofs.Ytjogaohnphafgaa
section
open Go.RowKit

/-- The elements of a slice that came in, for a walk: the address is known where there is an element. -/
theorem Reads.open {w : World} {k : IntKind} {v : Value} {zs : List Int} (h : Reads w k v zs) : ∃ a cap, v = .slice a zs.length cap ∧ zs.length ≤ 9223372036854775807 ∧
    ∀ j, j < zs.length → ∃ b o, a = some ⟨b, o, none⟩ ∧ w.cell? ⟨b, o + j, none⟩ = some (.int k (zs.getD j 0)) := by
  obtain ⟨a, cap, rfl, hl, hc⟩ := h
  refine ⟨a, cap, rfl, hl, fun j hj => ?_⟩
  obtain ⟨b, o, ha, hcell⟩ := hc (by intro e; subst e; simp at hj)
  exact ⟨b, o, ha, hcell j hj⟩

def SumPost (r : Int) (w : World) : Ending → World → Prop := fun e w' => e = .returned (.int .i64 r) ∧ w = w'

/-- A list of integers that came in, as the round of a loop reads it. -/
theorem old_cell {w wr : World} {b o : Nat} {v : Value} (hb : Below w.heap.size w wr) (h : w.cell? ⟨b, o, none⟩ = some v) : wr.cell? ⟨b, o, none⟩ = some v :=
  (hb.cell (p := ⟨b, o, none⟩) (World.block_lt_of_cell? w ⟨b, o, none⟩ h)).trans h

/-- A call that gives back a new list of integers and an error. -/
def RetRowB (err : Int) (zs : List Int) (w : World) : Ending → World → Prop := fun e w' =>
  ∃ v, e = .returned (.tuple #[v, .int .i64 err]) ∧ w'.ownsRow w.heap.size 3 1 v zs.length (zs.map (Value.int .i64)) ∧ Below w.heap.size w w'

end
end Go.Proofs.Ytjogaohnphafgaa
