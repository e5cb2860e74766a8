/-
  twice: the same memory for the program and for the reference. No conditions but the length's.
-/
import Derived.Test.YteeiohhoccgafaaCopies
namespace Go.Proofs.Yteeiohhoccgafaa
open Go.RowKit

def bytes (cs : List Int) : Prop := ∀ z ∈ cs, 0 ≤ z ∧ z ≤ 255
theorem bytes_zeros (n : Nat) : bytes (zeros n) := by intro z hz; simp [zeros] at hz; omega
theorem bytes_set {cs : List Int} (h : bytes cs) (k : Nat) (z : Int) (z0 : 0 ≤ z) (z1 : z ≤ 255) : bytes (cs.set k z) := by
  intro y hy
  rcases List.mem_or_eq_of_mem_set hy with h1 | rfl
  · exact h y h1
  · exact ⟨z0, z1⟩

theorem byteRow.cell {w : World} {g : Nat} {cs : List Int} (h : byteRow w g cs) (j : Nat) (hj : j < cs.length) : w.cell? ⟨g, j, none⟩ = some (.int .u8 (cs.getD j 0)) := by
  rw [cell_of h]; simp [List.getD_eq_getElem?_getD, hj]
theorem byteRow.set {w : World} {g : Nat} {cs : List Int} (h : byteRow w g cs) (j : Nat) (z : Int) : byteRow (w.setCell ⟨g, j, none⟩ (.int .u8 z)) g (cs.set j z) := by
  have := block_setCell h j (.int .u8 z)
  unfold byteRow
  rw [this]
  simp [List.map_set]
theorem byteRow.other {w : World} {g g' : Nat} {cs : List Int} (h : byteRow w g cs) (hne : g ≠ g') (j : Nat) (u : Value) : byteRow (w.setCell ⟨g', j, none⟩ u) g cs :=
  (Below.heap_setCell w ⟨g', j, none⟩ u g (fun e => hne e)).trans h

theorem splice_map (cs zs : List Int) : (splice cs 0 zs).map (Value.int .u8) = splice (cs.map (Value.int .u8)) 0 (zs.map (Value.int .u8)) := by simp [splice]
theorem bytes_splice {cs zs : List Int} (h : bytes cs) (hz : bytes zs) : bytes (splice cs 0 zs) := by
  intro z hm
  simp only [splice, List.take_zero, List.nil_append, List.mem_append] at hm
  rcases hm with h1 | h1
  · exact hz z h1
  · exact h z (List.mem_of_mem_drop h1)

theorem copy_src {w W : World} {a : Option Addr} {cap : Nat} {zs : List Int} (hr : Reads w .u8 (.slice a zs.length cap) zs) (hb : Below w.heap.size w W) (g : Nat) :
    0 < (zs.map (Value.int .u8)).length → some (⟨g, 0, none⟩ : Addr) = some ⟨g, 0, none⟩ ∧ ∃ ad, a = some ad ∧ ∀ j v, (zs.map (Value.int .u8))[j]? = some v → W.cell? (ad.add j) = some v :=
  fun h0 => ⟨rfl, (hr.below hb rfl).src rfl h0⟩

/-- Two rows of the call's own that hold the same. -/
def TwicePost (n H : Nat) (w : World) : Ending → World → Prop := fun e w' =>
  ∃ g g' cs, g ≠ g' ∧ w.heap.size ≤ g ∧ w.heap.size ≤ g' ∧ e = .returned (.tuple #[.slice (some ⟨g, 0, none⟩) n H, .slice (some ⟨g', 0, none⟩) n H]) ∧ byteRow w' g cs ∧ byteRow w' g' cs ∧ cs.length = H ∧ bytes cs ∧ Below w.heap.size w w'

set_option maxHeartbeats 2000000 in
set_option maxRecDepth 100000 in
theorem twice_any (v : Value) (zs : List Int) (h : Int) (w : World) (hr : Reads w .u8 v zs) (hz : bytes zs) (h1 : (zs.length : Int) ≤ h) (h2 : h ≤ 140737488355200) :
    Calls Try.prog 18 #[v, .int .i64 h] w (TwicePost zs.length h.toNat w) := by
  have HR := Lib.hid hr
  have HZ := Lib.hid hz
  obtain ⟨a, cap, rfl, hl, _⟩ := hr
  have MK := fun w => run_makeBytes w h h (by omega) (Int.le_refl _) (by omega)
  obtain ⟨H, hH⟩ : ∃ H : Nat, (H : Int) = h := ⟨h.toNat, by omega⟩
  subst hH
  simp only [Int.toNat_natCast] at MK ⊢
  go_enter Try.func18, Try.ntmps18
  go_wp2_with fail
  go_region
  · have ra : byteRow ((w.alloc (.cells ((zeros H).map (Value.int .u8)).toArray 5)).alloc (.cells ((zeros H).map (Value.int .u8)).toArray 5)).drew w.heap.size (zeros H) := (heap_alloc_old (w.alloc (.cells ((zeros H).map (Value.int .u8)).toArray 5)) _ (by simp)).trans (heap_alloc_new w _)
    have rb : byteRow ((w.alloc (.cells ((zeros H).map (Value.int .u8)).toArray 5)).alloc (.cells ((zeros H).map (Value.int .u8)).toArray 5)).drew (w.heap.size + 1) (zeros H) := by
      have := heap_alloc_new (w.alloc (.cells ((zeros H).map (Value.int .u8)).toArray 5)) (.cells ((zeros H).map (Value.int .u8)).toArray 5)
      rwa [World.size_alloc] at this
    have B0 : Below w.heap.size w ((w.alloc (.cells ((zeros H).map (Value.int .u8)).toArray 5)).alloc (.cells ((zeros H).map (Value.int .u8)).toArray 5)).drew := by go_grown
    have RA := Lib.hid ra
    have RB := Lib.hid rb
    have HB0 := Lib.hid B0
    clear ra rb B0
    go_wp2_with fail
    go_loopw [17] (fun i wr => ∃ (k : Nat) (cs : List Int), k ≤ H ∧ i = .int .i64 k ∧ cs.length = H ∧ bytes cs ∧ byteRow wr (w.heap.size) cs ∧ byteRow wr (w.heap.size + 1) cs ∧ Below w.heap.size w wr) (fun i _ => H - (intOf i).toNat)
    case atStart => exact ⟨0, zeros H, Nat.zero_le _, rfl, by simp [zeros], bytes_zeros H, RA.out, RB.out, HB0.out⟩
    case round =>
      obtain ⟨k, cs, hk, rfl, hcl, hcb, r1, r2, hbel⟩ := hrel
      have R1 := Lib.hid r1
      have R2 := Lib.hid r2
      have BL := Lib.hid hbel
      have CB := Lib.hid hcb
      clear hcb hbel
      by_cases hlt : k < H
      · have g1 := r1.cell k (by omega)
        have g2 := r2.cell k (by omega)
        have f1 := fun j => free_of r1 j
        have f2 := fun j => free_of r2 j
        have NE : ∀ (W : World) (u : Value), (W.setCell ⟨w.heap.size, k, none⟩ u).cell? ⟨w.heap.size + 1, k, none⟩ = W.cell? ⟨w.heap.size + 1, k, none⟩ := fun W u => World.cell?_setCell_other _ _ _ _ (by simp)
        clear r1 r2
        have z0 := Int.emod_nonneg (200 + (k : Int)) (show (256 : Int) ≠ 0 by decide)
        have z1 := Int.emod_lt_of_pos (200 + (k : Int)) (show (0 : Int) < 256 by decide)
        go_wp2_with fail
        go_roundw
        case rel => exact ⟨k + 1, cs.set k ((200 + (k : Int)) % 256), by omega, by go_num, by simp [hcl], bytes_set CB.out _ _ z0 (by omega), (R1.out.set k _).other (by simp) k _, (R2.out.other (by simp) k _).set k _, (BL.out.setCell (p := ⟨w.heap.size, k, none⟩) (by simp) _).setCell (p := ⟨w.heap.size + 1, k, none⟩) (by simp) _⟩
        case measure => simp [intOf]; omega
      · have HN : Hid ((zs.map (Value.int .u8)).length = Nat.min zs.length H) := Lib.hid (by rw [List.length_map]; exact (Nat.min_eq_left (show zs.length ≤ H by omega)).symm)
        have HFI : Hid (0 + (zs.map (Value.int .u8)).length ≤ (cs.map (Value.int .u8)).length) := Lib.hid (by simp; omega)
        have H1 : Hid (∀ v ∈ zs.map (Value.int .u8), v.oneCell' = true) := Lib.hid (by intro v hv; obtain ⟨z, _, rfl⟩ := List.mem_map.1 hv; rfl)
        have R1r : Hid (wr.heap[w.heap.size]? = some (.cells (cs.map (Value.int .u8)).toArray 5 (0, 0))) := Lib.hid r1
        clear r1 r2
        go_wp2_with (with_reducible refine wpList_copy_at rfl (.tmp 33) (.tmp 34) 28 28 rfl 5 Try.underlying28 byteSize (some ⟨w.heap.size, 0, none⟩) a H H zs.length cap rfl rfl (w.heap.size) 0 (cs.map (Value.int .u8)) 5 R1r.out (zs.map (Value.int .u8)) HN.out (copy_src HR.out BL.out _) HFI.out H1.out ?_)
        intro w1 hg1 ht1
        have bel1 := Lib.hid (BL.out.trans (ht1.below BL.out.size (fun k hk => by omega)))
        have R2' : Hid (w1.heap[w.heap.size + 1]? = some (.cells (cs.map (Value.int .u8)).toArray 5 (0, 0))) := Lib.hid ((ht1.block (w.heap.size + 1) (lt_of R2.out) (by simp)).trans R2.out)
        have G1 := Lib.hid hg1
        clear hg1 ht1
        go_wp2_with (with_reducible refine wpList_copy_at (w := w1) rfl (.tmp 36) (.tmp 37) 28 28 rfl 5 Try.underlying28 byteSize (some ⟨w.heap.size + 1, 0, none⟩) a H H zs.length cap rfl rfl (w.heap.size + 1) 0 (cs.map (Value.int .u8)) 5 R2'.out (zs.map (Value.int .u8)) HN.out (copy_src HR.out bel1.out _) HFI.out H1.out ?_)
        intro w2 hg2 ht2
        have bel2 := Lib.hid (bel1.out.trans (ht2.below bel1.out.size (fun k hk => by omega)))
        have G1' := Lib.hid ((ht2.block (w.heap.size) (lt_of G1.out) (by simp)).trans G1.out)
        have G2 := Lib.hid hg2
        clear hg2 ht2
        go_wp2_with fail
        go_quiet (fail)
        go_wp2_with fail
        go_ret2
        refine ⟨w.heap.size, w.heap.size + 1, splice cs 0 zs, by simp, by omega, by omega, by simp, ?_, ?_, ?_, ?_, bdrewN bel2.out _⟩
        · show _ = _; rw [splice_map]; exact G1'.out
        · show _ = _; rw [splice_map]; exact G2.out
        · rw [length_splice _ _ _ (by omega)]; exact hcl
        · exact bytes_splice CB.out HZ.out
  · have ra : byteRow ((w.alloc (.cells ((zeros H).map (Value.int .u8)).toArray 5)).alloc (.cells ((zeros H).map (Value.int .u8)).toArray 5)).drew w.heap.size (zeros H) := (heap_alloc_old (w.alloc (.cells ((zeros H).map (Value.int .u8)).toArray 5)) _ (by simp)).trans (heap_alloc_new w _)
    have rb : byteRow ((w.alloc (.cells ((zeros H).map (Value.int .u8)).toArray 5)).alloc (.cells ((zeros H).map (Value.int .u8)).toArray 5)).drew (w.heap.size + 1) (zeros H) := by
      have := heap_alloc_new (w.alloc (.cells ((zeros H).map (Value.int .u8)).toArray 5)) (.cells ((zeros H).map (Value.int .u8)).toArray 5)
      rwa [World.size_alloc] at this
    have B0 : Below w.heap.size w ((w.alloc (.cells ((zeros H).map (Value.int .u8)).toArray 5)).alloc (.cells ((zeros H).map (Value.int .u8)).toArray 5)).drew := by go_grown
    have RA := Lib.hid ra
    have RB := Lib.hid rb
    have HB0 := Lib.hid B0
    clear ra rb B0
    go_wp2_with fail
    go_loopw [17] (fun i wr => ∃ (k : Nat) (cs : List Int), k ≤ H ∧ i = .int .i64 k ∧ cs.length = H ∧ bytes cs ∧ byteRow wr (w.heap.size + 1) cs ∧ byteRow wr (w.heap.size) cs ∧ Below w.heap.size w wr) (fun i _ => H - (intOf i).toNat)
    case atStart => exact ⟨0, zeros H, Nat.zero_le _, rfl, by simp [zeros], bytes_zeros H, RB.out, RA.out, HB0.out⟩
    case round =>
      obtain ⟨k, cs, hk, rfl, hcl, hcb, r1, r2, hbel⟩ := hrel
      have R1 := Lib.hid r1
      have R2 := Lib.hid r2
      have BL := Lib.hid hbel
      have CB := Lib.hid hcb
      clear hcb hbel
      by_cases hlt : k < H
      · have g1 := r1.cell k (by omega)
        have g2 := r2.cell k (by omega)
        have f1 := fun j => free_of r1 j
        have f2 := fun j => free_of r2 j
        have NE : ∀ (W : World) (u : Value), (W.setCell ⟨w.heap.size + 1, k, none⟩ u).cell? ⟨w.heap.size, k, none⟩ = W.cell? ⟨w.heap.size, k, none⟩ := fun W u => World.cell?_setCell_other _ _ _ _ (by simp)
        clear r1 r2
        have z0 := Int.emod_nonneg (200 + (k : Int)) (show (256 : Int) ≠ 0 by decide)
        have z1 := Int.emod_lt_of_pos (200 + (k : Int)) (show (0 : Int) < 256 by decide)
        go_wp2_with fail
        go_roundw
        case rel => exact ⟨k + 1, cs.set k ((200 + (k : Int)) % 256), by omega, by go_num, by simp [hcl], bytes_set CB.out _ _ z0 (by omega), (R1.out.set k _).other (by simp) k _, (R2.out.other (by simp) k _).set k _, (BL.out.setCell (p := ⟨w.heap.size + 1, k, none⟩) (by simp) _).setCell (p := ⟨w.heap.size, k, none⟩) (by simp) _⟩
        case measure => simp [intOf]; omega
      · have HN : Hid ((zs.map (Value.int .u8)).length = Nat.min zs.length H) := Lib.hid (by rw [List.length_map]; exact (Nat.min_eq_left (show zs.length ≤ H by omega)).symm)
        have HFI : Hid (0 + (zs.map (Value.int .u8)).length ≤ (cs.map (Value.int .u8)).length) := Lib.hid (by simp; omega)
        have H1 : Hid (∀ v ∈ zs.map (Value.int .u8), v.oneCell' = true) := Lib.hid (by intro v hv; obtain ⟨z, _, rfl⟩ := List.mem_map.1 hv; rfl)
        have R1r : Hid (wr.heap[w.heap.size + 1]? = some (.cells (cs.map (Value.int .u8)).toArray 5 (0, 0))) := Lib.hid r1
        clear r1 r2
        go_wp2_with (with_reducible refine wpList_copy_at rfl (.tmp 33) (.tmp 34) 28 28 rfl 5 Try.underlying28 byteSize (some ⟨w.heap.size + 1, 0, none⟩) a H H zs.length cap rfl rfl (w.heap.size + 1) 0 (cs.map (Value.int .u8)) 5 R1r.out (zs.map (Value.int .u8)) HN.out (copy_src HR.out BL.out _) HFI.out H1.out ?_)
        intro w1 hg1 ht1
        have bel1 := Lib.hid (BL.out.trans (ht1.below BL.out.size (fun k hk => by omega)))
        have R2' : Hid (w1.heap[w.heap.size]? = some (.cells (cs.map (Value.int .u8)).toArray 5 (0, 0))) := Lib.hid ((ht1.block (w.heap.size) (lt_of R2.out) (by simp)).trans R2.out)
        have G1 := Lib.hid hg1
        clear hg1 ht1
        go_wp2_with (with_reducible refine wpList_copy_at (w := w1) rfl (.tmp 36) (.tmp 37) 28 28 rfl 5 Try.underlying28 byteSize (some ⟨w.heap.size, 0, none⟩) a H H zs.length cap rfl rfl (w.heap.size) 0 (cs.map (Value.int .u8)) 5 R2'.out (zs.map (Value.int .u8)) HN.out (copy_src HR.out bel1.out _) HFI.out H1.out ?_)
        intro w2 hg2 ht2
        have bel2 := Lib.hid (bel1.out.trans (ht2.below bel1.out.size (fun k hk => by omega)))
        have G1' := Lib.hid ((ht2.block (w.heap.size + 1) (lt_of G1.out) (by simp)).trans G1.out)
        have G2 := Lib.hid hg2
        clear hg2 ht2
        go_wp2_with fail
        go_quiet (fail)
        go_wp2_with fail
        go_ret2
        refine ⟨w.heap.size + 1, w.heap.size, splice cs 0 zs, by simp, by omega, by omega, by simp, ?_, ?_, ?_, ?_, bdrewN bel2.out _⟩
        · show _ = _; rw [splice_map]; exact G1'.out
        · show _ = _; rw [splice_map]; exact G2.out
        · rw [length_splice _ _ _ (by omega)]; exact hcl
        · exact bytes_splice CB.out HZ.out

end Go.Proofs.Yteeiohhoccgafaa
