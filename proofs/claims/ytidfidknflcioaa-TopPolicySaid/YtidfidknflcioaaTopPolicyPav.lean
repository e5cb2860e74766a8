/-
  twice: the same memory for the program and for the reference. No conditions but the length's.
  Two copies, one behind the other, in plain Lean; what a replacing leaves. No program.
-/
import Derived.Test.YtidfidknflcioaaTopPolicyPau

namespace Go.Proofs.Ytidfidknflcioaa
section
open Go.RowKit

def bytes (cs : List Int) : Prop := ∀ z ∈ cs, 0 ≤ z ∧ z ≤ 255
theorem bytes_zeros (n : Nat) : bytes (zeros n) := by intro z hz; simp [zeros] at hz; omega
theorem bytes_set {cs : List Int} (h : bytes cs) (k : Nat) (z : Int) (z0 : 0 ≤ z) (z1 : z ≤ 255) : bytes (cs.set k z) := by
  intro y hy
  rcases List.mem_or_eq_of_mem_set hy with h1 | rfl
  · exact h y h1
  · exact ⟨z0, z1⟩

theorem byteRow.cell {w : World} {g : Nat} {cs : List Int} (h : byteRow w g cs) (j : Nat) (hj : j < cs.length) : w.cell? ⟨g, j, none⟩ = some (.int .u8 (cs.getD j 0)) := by
  rw [cell_of h]; simp [List.getD_eq_getElem?_getD, hj]
theorem byteRow.set {w : World} {g : Nat} {cs : List Int} (h : byteRow w g cs) (j : Nat) (z : Int) : byteRow (w.setCell ⟨g, j, none⟩ (.int .u8 z)) g (cs.set j z) := by
  have := block_setCell h j (.int .u8 z)
  unfold byteRow
  rw [this]
  simp [List.map_set]
theorem byteRow.other {w : World} {g g' : Nat} {cs : List Int} (h : byteRow w g cs) (hne : g ≠ g') (j : Nat) (u : Value) : byteRow (w.setCell ⟨g', j, none⟩ u) g cs :=
  (Below.heap_setCell w ⟨g', j, none⟩ u g (fun e => hne e)).trans h

theorem splice_map (cs zs : List Int) : (splice cs 0 zs).map (Value.int .u8) = splice (cs.map (Value.int .u8)) 0 (zs.map (Value.int .u8)) := by simp [splice]
theorem bytes_splice {cs zs : List Int} (h : bytes cs) (hz : bytes zs) : bytes (splice cs 0 zs) := by
  intro z hm
  simp only [splice, List.take_zero, List.nil_append, List.mem_append] at hm
  rcases hm with h1 | h1
  · exact hz z h1
  · exact h z (List.mem_of_mem_drop h1)

theorem copy_src {w W : World} {a : Option Addr} {cap : Nat} {zs : List Int} (hr : Reads w .u8 (.slice a zs.length cap) zs) (hb : Below w.heap.size w W) (g : Nat) :
    0 < (zs.map (Value.int .u8)).length → some (⟨g, 0, none⟩ : Addr) = some ⟨g, 0, none⟩ ∧ ∃ ad, a = some ad ∧ ∀ j v, (zs.map (Value.int .u8))[j]? = some v → W.cell? (ad.add j) = some v :=
  fun h0 => ⟨rfl, (hr.below hb rfl).src rfl h0⟩

/-- Two rows of the call's own that hold the same. -/
def TwicePost (n H : Nat) (w : World) : Ending → World → Prop := fun e w' =>
  ∃ g g' cs, g ≠ g' ∧ w.heap.size ≤ g ∧ w.heap.size ≤ g' ∧ e = .returned (.tuple #[.slice (some ⟨g, 0, none⟩) n H, .slice (some ⟨g', 0, none⟩) n H]) ∧ byteRow w' g cs ∧ byteRow w' g' cs ∧ cs.length = H ∧ bytes cs ∧ Below w.heap.size w w'

end
end Go.Proofs.Ytidfidknflcioaa

namespace Go.Proofs.Ytidfidknflcioaa
section

theorem splice_len {α : Type} (ds T : List α) (f : Nat) (h : f + T.length ≤ ds.length) : (splice ds f T).length = ds.length := by
  simp [splice]; omega

theorem splice2 (ds zs T : List Int) (f : Nat) (h : f + zs.length + T.length ≤ ds.length) :
    (splice (splice ds (f + zs.length) T) f zs).take (f + zs.length + T.length) = ds.take f ++ zs ++ T := by
  apply List.ext_getElem?
  intro i
  simp only [splice, List.getElem?_take, List.getElem?_append, List.getElem?_drop, List.length_take, List.length_append, List.length_drop]
  grind

end
end Go.Proofs.Ytidfidknflcioaa
