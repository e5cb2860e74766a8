/-
  Copied, and the reference's. No conditions.
  twice: the same memory for the program and for the reference. No conditions but the length's.
-/
import Derived.Test.YtbndknbjjdoanaaSharePackedPan

namespace Go.Proofs.Ytbndknbjjdoanaa
section
open Go.RowKit

theorem byteSize : (Try.prog.info? 5).map (·.size) = some 1 := by
  obtain ⟨i0, hi, _, h, _⟩ := info_parts byteInfo0
  rw [hi]; simp [h]

/-- What 'copy' of the list zs reads. -/
theorem Reads.src {w : World} {p : Option Addr} {n m : Nat} {zs : List Int} (h : Reads w .u8 (.slice p n m) zs) (hn : zs.length = n) (h0 : 0 < (zs.map (Value.int .u8)).length) :
    ∃ ad, p = some ad ∧ ∀ j v, (zs.map (Value.int .u8))[j]? = some v → w.cell? (ad.add j) = some v := by
  have hc := h.cells hn
  obtain ⟨a, cap, e, hl, hr⟩ := h
  simp only [Value.slice.injEq] at e
  obtain ⟨rfl, _, _⟩ := e
  obtain ⟨b, o, rfl, _⟩ := hr (by intro e; subst e; simp at h0)
  exact ⟨_, rfl, hc _ rfl⟩

theorem splice_zeros (zs : List Int) (H : Nat) : splice ((zeros H).map (Value.int .u8)) 0 (zs.map (Value.int .u8)) = (zs ++ zeros (H - zs.length)).map (Value.int .u8) := by
  simp [splice, zeros]

def CopyRow (zs : List Int) (H : Nat) (w : World) : Ending → World → Prop := fun e w' =>
  ∃ g, w.heap.size ≤ g ∧ e = .returned (.slice (some ⟨g, 0, none⟩) zs.length H) ∧ byteRow w' g (zs ++ zeros (H - zs.length)) ∧ Below w.heap.size w w'

def copE (n : Nat) (h : Int) : Int := if 100000 < n then 4 else if (0 ≤ h ∧ h ≤ 100000) ∧ (n : Int) ≤ h then 0 else 2
def CopyPost (zs : List Int) (h : Int) (w : World) : Ending → World → Prop := fun e w' => Below w.heap.size w w' ∧
  ((copE zs.length h = 0 ∧ ∃ g, w.heap.size ≤ g ∧ e = .returned (.tuple #[.slice (some ⟨g, 0, none⟩) zs.length h.toNat, .int .i64 0]) ∧ byteRow w' g (zs ++ zeros (h.toNat - zs.length))) ∨
  (copE zs.length h ≠ 0 ∧ e = .returned (.tuple #[.slice none 0 0, .int .i64 (copE zs.length h)])))

end
end Go.Proofs.Ytbndknbjjdoanaa

namespace Go.Proofs.Ytbndknbjjdoanaa
section
open Go.RowKit

def bytes (cs : List Int) : Prop := ∀ z ∈ cs, 0 ≤ z ∧ z ≤ 255
theorem bytes_zeros (n : Nat) : bytes (zeros n) := by intro z hz; simp [zeros] at hz; omega
theorem bytes_set {cs : List Int} (h : bytes cs) (k : Nat) (z : Int) (z0 : 0 ≤ z) (z1 : z ≤ 255) : bytes (cs.set k z) := by
  intro y hy
  rcases List.mem_or_eq_of_mem_set hy with h1 | rfl
  · exact h y h1
  · exact ⟨z0, z1⟩

theorem byteRow.cell {w : World} {g : Nat} {cs : List Int} (h : byteRow w g cs) (j : Nat) (hj : j < cs.length) : w.cell? ⟨g, j, none⟩ = some (.int .u8 (cs.getD j 0)) := by
  rw [cell_of h]; simp [List.getD_eq_getElem?_getD, hj]
theorem byteRow.set {w : World} {g : Nat} {cs : List Int} (h : byteRow w g cs) (j : Nat) (z : Int) : byteRow (w.setCell ⟨g, j, none⟩ (.int .u8 z)) g (cs.set j z) := by
  have := block_setCell h j (.int .u8 z)
  unfold byteRow
  rw [this]
  simp [List.map_set]
theorem byteRow.other {w : World} {g g' : Nat} {cs : List Int} (h : byteRow w g cs) (hne : g ≠ g') (j : Nat) (u : Value) : byteRow (w.setCell ⟨g', j, none⟩ u) g cs :=
  (Below.heap_setCell w ⟨g', j, none⟩ u g (fun e => hne e)).trans h

theorem splice_map (cs zs : List Int) : (splice cs 0 zs).map (Value.int .u8) = splice (cs.map (Value.int .u8)) 0 (zs.map (Value.int .u8)) := by simp [splice]
theorem bytes_splice {cs zs : List Int} (h : bytes cs) (hz : bytes zs) : bytes (splice cs 0 zs) := by
  intro z hm
  simp only [splice, List.take_zero, List.nil_append, List.mem_append] at hm
  rcases hm with h1 | h1
  · exact hz z h1
  · exact h z (List.mem_of_mem_drop h1)

theorem copy_src {w W : World} {a : Option Addr} {cap : Nat} {zs : List Int} (hr : Reads w .u8 (.slice a zs.length cap) zs) (hb : Below w.heap.size w W) (g : Nat) :
    0 < (zs.map (Value.int .u8)).length → some (⟨g, 0, none⟩ : Addr) = some ⟨g, 0, none⟩ ∧ ∃ ad, a = some ad ∧ ∀ j v, (zs.map (Value.int .u8))[j]? = some v → W.cell? (ad.add j) = some v :=
  fun h0 => ⟨rfl, (hr.below hb rfl).src rfl h0⟩

/-- Two rows of the call's own that hold the same. -/
def TwicePost (n H : Nat) (w : World) : Ending → World → Prop := fun e w' =>
  ∃ g g' cs, g ≠ g' ∧ w.heap.size ≤ g ∧ w.heap.size ≤ g' ∧ e = .returned (.tuple #[.slice (some ⟨g, 0, none⟩) n H, .slice (some ⟨g', 0, none⟩) n H]) ∧ byteRow w' g cs ∧ byteRow w' g' cs ∧ cs.length = H ∧ bytes cs ∧ Below w.heap.size w w'

end
end Go.Proofs.Ytbndknbjjdoanaa
