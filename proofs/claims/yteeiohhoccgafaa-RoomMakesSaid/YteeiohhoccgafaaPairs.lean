/-
  What Made, MadeOf, Copied and CopiedOf give, two by two. No conditions.
-/
import Derived.Test.YteeiohhoccgafaaAdd
namespace Go.Proofs.Yteeiohhoccgafaa
open Go.RowKit

def MadeW (n h : Int) (w : World) (x : Value) (w' : World) : Prop :=
  (madeE n h = 0 ∧ x = .slice (some ⟨w.heap.size, 0, none⟩) n.toNat h.toNat ∧ w' = w.alloc (.cells ((zeros h.toNat).map (Value.int .u8)).toArray 5)) ∨
  (madeE n h = 2 ∧ x = .slice none 0 0 ∧ w' = w)
def MadeOut (n h : Int) (w : World) : Ending → World → Prop := fun e w' => ∃ x, e = .returned (.tuple #[x, .int .i64 (madeE n h)]) ∧ MadeW n h w x w'
theorem MadePost.out {n h : Int} {w : World} (e : Ending) (w' : World) (p : MadePost n h w e w') : MadeOut n h w e w' := by
  rcases p with ⟨h1, rfl, rfl⟩ | ⟨h1, rfl, rfl⟩
  · exact ⟨_, by rw [h1], Or.inl ⟨h1, rfl, rfl⟩⟩
  · exact ⟨_, by rw [h1], Or.inr ⟨h1, rfl, rfl⟩⟩

def CopyW (zs : List Int) (h : Int) (w : World) (x : Value) (w' : World) : Prop := Below w.heap.size w w' ∧
  ((copE zs.length h = 0 ∧ ∃ g, w.heap.size ≤ g ∧ x = .slice (some ⟨g, 0, none⟩) zs.length h.toNat ∧ byteRow w' g (zs ++ zeros (h.toNat - zs.length))) ∨
  (copE zs.length h ≠ 0 ∧ x = .slice none 0 0))
def CopyOut (zs : List Int) (h : Int) (w : World) : Ending → World → Prop := fun e w' => ∃ x, e = .returned (.tuple #[x, .int .i64 (copE zs.length h)]) ∧ CopyW zs h w x w'
theorem CopyPost.out {zs : List Int} {h : Int} {w : World} (e : Ending) (w' : World) (p : CopyPost zs h w e w') : CopyOut zs h w e w' := by
  obtain ⟨hb, ⟨h1, g, hg, rfl, hr⟩ | ⟨h1, rfl⟩⟩ := p
  · exact ⟨_, by rw [h1], hb, Or.inl ⟨h1, g, hg, rfl, hr⟩⟩
  · exact ⟨_, rfl, hb, Or.inr ⟨h1, rfl⟩⟩

theorem MadeW.below {n h : Int} {w w' : World} {x : Value} (p : MadeW n h w x w') : Below w.heap.size w w' := by
  rcases p with ⟨_, _, rfl⟩ | ⟨_, _, rfl⟩
  · exact (Below.refl _ _).alloc (Nat.le_refl _) _
  · exact Below.refl _ _

theorem made_pair {n h : Int} {B : Nat} {R : Rel} {w w1 w2 : World} {x y : Value} (hB : B ≤ w.heap.size) (ht : Twins w B R) (h1 : MadeW n h w x w1) (h2 : MadeW n h w1 y w2) :
    ∃ R' : Rel, (∀ b o c p, R b o c p → R' b o c p) ∧ Twins w2 B R' ∧ Pr R' (x, y) := by
  have t2 := (ht.below h1.below).below h2.below
  rcases h1 with ⟨e1, rfl, rfl⟩ | ⟨e1, rfl, rfl⟩
  · rcases h2 with ⟨e2, rfl, rfl⟩ | ⟨e2, _⟩
    · have hlt : n.toNat ≤ h.toNat ∧ h.toNat ≤ 100000 := by
        unfold madeE at e1
        split at e1 <;> omega
      have r1 : byteRow (w.alloc (.cells ((zeros h.toNat).map (Value.int .u8)).toArray 5)) w.heap.size (zeros h.toNat) := heap_alloc_new w _
      have r1' : byteRow ((w.alloc (.cells ((zeros h.toNat).map (Value.int .u8)).toArray 5)).alloc (.cells ((zeros h.toNat).map (Value.int .u8)).toArray 5)) w.heap.size (zeros h.toNat) :=
        (heap_alloc_old _ _ (by simp)).trans r1
      have r2 : byteRow ((w.alloc (.cells ((zeros h.toNat).map (Value.int .u8)).toArray 5)).alloc (.cells ((zeros h.toNat).map (Value.int .u8)).toArray 5)) (w.alloc (.cells ((zeros h.toNat).map (Value.int .u8)).toArray 5)).heap.size (zeros h.toNat) := heap_alloc_new _ _
      have ln : (zeros h.toNat).length = h.toNat := by simp [zeros]
      refine ⟨addR R w.heap.size (w.alloc (.cells ((zeros h.toNat).map (Value.int .u8)).toArray 5)).heap.size (zeros h.toNat).length, fun _ _ _ _ hr => Or.inl hr,
        t2.add (by simp) r1' r2 (bytes_zeros _) hB (Nat.le_trans hB (by simp)) ?_, by rw [ln]; exact Pr.new R _ _ _ _ hlt.1 (by omega)⟩
      intro b o c p hr
      have := ht.lt hr
      simp
      omega
    · omega
  · rcases h2 with ⟨e2, _⟩ | ⟨e2, rfl, rfl⟩
    · omega
    · exact ⟨R, fun _ _ _ _ h => h, t2, Pr.nil R⟩

theorem copy_pair {zs : List Int} {h : Int} {B : Nat} {R : Rel} {w w1 w2 : World} {x y : Value} (hB : B ≤ w.heap.size) (hz : bytes zs) (ht : Twins w B R) (h1 : CopyW zs h w x w1) (h2 : CopyW zs h w1 y w2) :
    ∃ R' : Rel, (∀ b o c p, R b o c p → R' b o c p) ∧ Twins w2 B R' ∧ Pr R' (x, y) := by
  have t2 := (ht.below h1.1).below h2.1
  have hs := h1.1.size
  obtain ⟨b1, ⟨e1, g, hg, rfl, r1⟩ | ⟨e1, rfl⟩⟩ := h1
  · obtain ⟨b2, ⟨e2, g', hg', rfl, r2⟩ | ⟨e2, _⟩⟩ := h2
    · have hlt : zs.length ≤ h.toNat ∧ h.toNat ≤ 100000 := by
        unfold copE at e1
        split at e1
        · omega
        · split at e1 <;> omega
      have glt : g < w1.heap.size := lt_of r1
      have r1' : byteRow w2 g (zs ++ zeros (h.toNat - zs.length)) := (b2.block g glt).trans r1
      have ln : (zs ++ zeros (h.toNat - zs.length)).length = h.toNat := by simp [zeros]; omega
      have hby : bytes (zs ++ zeros (h.toNat - zs.length)) := by
        intro z hz'
        rcases List.mem_append.1 hz' with h' | h'
        · exact hz z h'
        · exact bytes_zeros _ z h'
      refine ⟨addR R g g' (zs ++ zeros (h.toNat - zs.length)).length, fun _ _ _ _ hr => Or.inl hr,
        t2.add (by omega) r1' r2 hby (by omega) (by omega) ?_, by rw [ln]; exact Pr.new R _ _ _ _ hlt.1 (by omega)⟩
      intro b o c p hr
      have := ht.lt hr
      omega
    · exact absurd e1 e2
  · obtain ⟨b2, ⟨e2, _⟩ | ⟨e2, rfl⟩⟩ := h2
    · exact absurd e2 e1
    · exact ⟨R, fun _ _ _ _ h => h, t2, Pr.nil R⟩

end Go.Proofs.Yteeiohhoccgafaa
