/-
  Replace: what it gives for a policy that is right and a slice of the call's own. No conditions beyond the theorems' own.
  octets and put of a ring: what they give. Conditions: numbers in their bounds.
  The shelf's contracts that this seat's proofs use, laid at its own dump in plain words by the kit's lay-shelf and lay-plain. No conditions.
-/
import Derived.Test.YtbndknbjjdoanaaSharePackedPbc
import Derived.Test.YtbndknbjjdoanaaSharePackedPby
import Derived.Shelf.Small.Bits
import Derived.Shelf.Strconv.Itoa0
import Derived.Ground.Names2Prog
import Derived.Shelf.Slices.SearchI
import Derived.Shelf.Slices.Empties
import Derived.Ground.SlbCloneProg
import Derived.Shelf.Bytes.SlClone
import Derived.Shelf.Bytes.SlEqualAll
import Derived.Shelf.Bytes.Small
import Derived.Test.YtbndknbjjdoanaaProg

namespace Go.Proofs.Ytbndknbjjdoanaa
section
open Go.RowKit

theorem Reads.touch {F : Nat → Prop} {w w' : World} {k : IntKind} {v : Value} {zs : List Int} (h : Reads w k v zs) (ht : Touch F w w') (hF : ∀ b o n c, v = .slice (some ⟨b, o, none⟩) n c → ¬ F b) : Reads w' k v zs := by
  obtain ⟨a, cap, rfl, hl, hc⟩ := h
  refine ⟨a, cap, rfl, hl, fun hne => ?_⟩
  obtain ⟨b, o, rfl, h1⟩ := hc hne
  refine ⟨b, o, rfl, fun j hj => ?_⟩
  have h2 := h1 j hj
  have hb : b < w.heap.size := World.block_lt_of_cell? w ⟨b, o + j, none⟩ h2
  have h3 := ht.block b hb (hF b o _ _ rfl)
  unfold World.cell? at h2 ⊢
  rw [h3]
  exact h2

theorem Reads.take {w : World} {k : IntKind} {a : Option Addr} {n c : Nat} {zs : List Int} (h : Reads w k (.slice a n c) zs) (m : Nat) (hm : m ≤ zs.length) : Reads w k (.slice a m c) (zs.take m) := by
  obtain ⟨a', cap, e, hl, hc⟩ := h
  simp only [Value.slice.injEq] at e
  obtain ⟨rfl, rfl, rfl⟩ := e
  have hlm : (zs.take m).length = m := by rw [List.length_take]; omega
  refine ⟨a, c, by rw [hlm], by omega, fun hne => ?_⟩
  have h0 : 0 < m := by
    rcases Nat.eq_zero_or_pos m with h0 | h0
    · subst h0; simp at hne
    · exact h0
  obtain ⟨b, o, rfl, h1⟩ := hc (by intro e; subst e; simp at hm; omega)
  refine ⟨b, o, rfl, fun j hj => ?_⟩
  rw [hlm] at hj
  rw [h1 j (by omega)]
  simp [List.getD_eq_getElem?_getD, hj]

theorem Reads.dropZ {w : World} {k : IntKind} {b o n c : Nat} {zs : List Int} (h : Reads w k (.slice (some ⟨b, o, none⟩) n c) zs) (t : Nat) (ht : t ≤ zs.length) (z : Option Addr) (hz : t < zs.length → z = some ⟨b, o + t, none⟩) (m : Nat) : Reads w k (.slice z (n - t) m) (zs.drop t) := by
  obtain ⟨a', cap, e, hl, hc⟩ := h
  simp only [Value.slice.injEq] at e
  obtain ⟨rfl, rfl, rfl⟩ := e
  have hlm : (zs.drop t).length = zs.length - t := by rw [List.length_drop]
  refine ⟨z, m, by rw [hlm], by omega, fun hne => ?_⟩
  have h0 : t < zs.length := by
    rcases Nat.lt_or_ge t zs.length with h0 | h0
    · exact h0
    · exact absurd (List.drop_eq_nil_of_le h0) hne
  obtain ⟨b', o', e1, h1⟩ := hc (by intro e; subst e; simp at h0)
  simp only [Option.some.injEq, Addr.mk.injEq, and_true] at e1
  obtain ⟨rfl, rfl⟩ := e1
  refine ⟨b, o + t, hz h0, fun j hj => ?_⟩
  rw [hlm] at hj
  rw [Nat.add_assoc, h1 (t + j) (by omega)]
  simp [List.getD_eq_getElem?_getD]

theorem splice_mapF (cs zs : List Int) (F : Nat) : (splice cs F zs).map (Value.int .u8) = splice (cs.map (Value.int .u8)) F (zs.map (Value.int .u8)) := by simp [splice]

theorem bytes_spliceF {cs zs : List Int} {F : Nat} (h : bytes cs) (hz : bytes zs) : bytes (splice cs F zs) := by
  intro z hm
  simp only [splice, List.mem_append] at hm
  rcases hm with hm | hm | hm
  · exact h z (List.mem_of_mem_take hm)
  · exact hz z hm
  · exact h z (List.mem_of_mem_drop hm)

def ReplPost (k s m : Int) (g : Nat) (cs : List Int) (n cap f t : Nat) (zs : List Int) (N : Nat) (w : World) : Ending → World → Prop := fun e w' =>
  ∃ g' ds, e = .returned (.tuple #[.slice (some ⟨g', 0, none⟩) N (growV k s m cap N).toNat, .bool (decide (cap < N)), .int .i64 0]) ∧ byteRow w' g' ds ∧ ds.length = (growV k s m cap N).toNat ∧ bytes ds ∧
    ds.take N = cs.take f ++ zs ++ (cs.take n).drop t ∧ (g' = g ∨ w.heap.size ≤ g') ∧ Touch (fun k => k = g) w w'

end
end Go.Proofs.Ytbndknbjjdoanaa

namespace Go.Proofs.Ytbndknbjjdoanaa
section
open Go.RowKit

theorem cat2 {wB : World} {S1 S2 : Value} {l1 l2 : List Int} (r1 : Reads wB .u8 S1 l1) (r2 : Reads wB .u8 S2 l2) :
    ∀ k (hk : k < [(S1, l1), (S2, l2)].length), (wB.alloc (.cells #[S1, S2] 22)).cell? ⟨wB.heap.size, k, none⟩ = some ([(S1, l1), (S2, l2)][k].1) ∧
      Reads (wB.alloc (.cells #[S1, S2] 22)) .u8 ([(S1, l1), (S2, l2)][k].1) ([(S1, l1), (S2, l2)][k].2) := by
  have W1 : Below wB.heap.size wB (wB.alloc (.cells #[S1, S2] 22)) := (Below.refl wB.heap.size wB).alloc (Nat.le_refl _) _
  have q1 := r1.below W1 rfl
  have q2 := r2.below W1 rfl
  have hn : (wB.alloc (.cells #[S1, S2] 22)).heap[wB.heap.size]? = some (.cells #[S1, S2] 22 (0, 0)) := heap_alloc_new wB _
  intro k hk
  match k, hk with
  | 0, _ => exact ⟨by rw [cell_of hn]; rfl, q1⟩
  | 1, _ => exact ⟨by rw [cell_of hn]; rfl, q2⟩

theorem concat2 {wB : World} {S1 S2 : Value} {l1 l2 : List Int} (r1 : Reads wB .u8 S1 l1) (r2 : Reads wB .u8 S2 l2) (hl : (l1 ++ l2).length ≤ 100000000) :
    Calls Try.prog 16 #[.slice (some ⟨wB.heap.size, 0, none⟩) 2 2] (wB.alloc (.cells #[S1, S2] 22)) (OwnBytes (l1 ++ l2) (wB.alloc (.cells #[S1, S2] 22))) := by
  have e : ([(S1, l1), (S2, l2)].map Prod.snd).flatten = l1 ++ l2 := by simp
  have h := concat_any wB.heap.size [(S1, l1), (S2, l2)] _ (cat2 r1 r2) (by rw [e]; exact hl) (by simp)
  rw [e] at h
  exact h

/-- The memory's octets. -/
def memRow (w : World) (g : Option Nat) (R : Nat) (cs : List Int) : Prop := cs.length = R ∧ match g with | none => R = 0 | some b => byteRow w b cs
theorem memRow.nil {w : World} {g : Option Nat} {R : Nat} {cs : List Int} (h : memRow w g R cs) (hg : g = none) : R = 0 := by subst hg; exact h.2
theorem memRow.keep {w w' : World} {g : Option Nat} {R : Nat} {cs : List Int} (h : memRow w g R cs) (hk : ∀ b, g = some b → w'.heap[b]? = w.heap[b]?) : memRow w' g R cs := by
  refine ⟨h.1, ?_⟩
  cases g with
  | none => exact h.2
  | some b => exact (hk b rfl).trans h.2

/-- Where an octet's cell lies. -/
def cellN (st R n : Nat) : Nat := if R = 0 then 0 else (st + n) % R
theorem cellN_le (st R n : Nat) : cellN st R n ≤ R := by
  unfold cellN; split
  · omega
  · exact Nat.le_of_lt (Nat.mod_lt _ (by omega))

/-- n octets from cell c on. -/
def octL (cs : List Int) (c n : Nat) : List Int := (cs.drop c).take (min (c + n) cs.length - c) ++ cs.take (n - (min (c + n) cs.length - c))
theorem octL_len (cs : List Int) (c n : Nat) (hc : c ≤ cs.length) (hn : n ≤ cs.length) : (octL cs c n).length = n := by
  unfold octL
  simp only [List.length_append, List.length_take, List.length_drop]
  omega

theorem reads_part {w : World} {b : Nat} {cs : List Int} (h : byteRow w b cs) (c k : Nat) (hk : c + k ≤ cs.length) (hl : cs.length ≤ 1000000) (f : Option Addr) (hf : 0 < k → f = some ⟨b, c, none⟩) : Reads w .u8 (.slice f k k) ((cs.drop c).take k) := by
  have hlen : ((cs.drop c).take k).length = k := by rw [List.length_take, List.length_drop]; omega
  refine ⟨f, k, by rw [hlen], by omega, fun hne => ?_⟩
  have h0 : 0 < k := by
    rcases Nat.eq_zero_or_pos k with h0 | h0
    · subst h0; simp at hne
    · exact h0
  refine ⟨b, c, hf h0, fun j hj => ?_⟩
  rw [hlen] at hj
  rw [h.cell (c + j) (by omega)]
  simp [List.getD_eq_getElem?_getD, hj]

end
end Go.Proofs.Ytbndknbjjdoanaa

namespace Go.Proofs
section
open Go.Shelf
def Try.laysSlK4_ren : Go.Shelf.Ren := ⟨fun | 4 => 18 | n => n, fun | 22 => 22 | 4 => 4 | 5 => 5 | n => n, fun | n => n⟩
theorem Try.laysSlK4 : Go.Proofs.SlLaysK.n4 Try.prog Try.laysSlK4_ren := {
  mixed := by kernel_rfl
  f4 := Try.func18.trans (congrArg some (by kernel_rfl))
  t4 := Try.underlying4
  a4 := Try.isAgg4
  z4 := Try.sizeOf4
  v4 := Try.zeroValue4
  t22 := Try.underlying22
  a22 := Try.isAgg22
  z22 := Try.sizeOf22
  v22 := Try.zeroValue22
  t5 := Try.underlying5
  i5 := by kernel_rfl }
open Go.RowKit Go.Lib in
/-- bytes.Clone: "Clone returns a copy of b[:len(b)]. The result may have additional unused capacity.": OF A SLICE THAT IS NOT nil IT RETURNS A SLICE THAT IS NOT nil, OF THE SAME BYTES, IN MEMORY OF THE CALL's OWN: in the how-to's words (6f): 'w'.ownsRow B e 1 v' n cells' · 'Below B w w'', B the heap's size at the call. b AT WHATEVER ADDRESS, its cells as 'open_ints' hands them ('a.add i'; the numbers 'xs'). No byte: no cell is asked for. (LAID: no walk: one application.) -/
theorem Try.bytes_Clone_at (a : Addr) (n c : Nat) (xs : List Int) (w : World) (hx : xs.length = n) (hbig : n ≤ 140737488355328) (hc : ∀ i, i < n → w.cell? (a.add i) = some (.int .u8 (xs.getD i 0))) :
    Calls Try.prog 18 #[.slice (some a) n c] w fun e w' => ∃ v', e = .returned v' ∧ w'.ownsRow w.heap.size 5 1 v' n (xs.map (Value.int .u8)) ∧ v' ≠ .slice none 0 0 ∧ Below w.heap.size w w' := Any.bytes_Clone_at Try.laysSlK4 a n c xs w hx hbig hc
open Go.RowKit Go.Lib in
/-- "Clone(nil) returns nil.": the world is as it was. (LAID: no walk: one application.) -/
theorem Try.bytes_Clone_nil (n c : Nat) (w : World) :
    Calls Try.prog 18 #[.slice none n c] w fun e w' => e = .returned (.slice none 0 0) ∧ w' = w := Any.bytes_Clone_nil Try.laysSlK4 n c w
def Try.laysnb115_ren : Go.Shelf.Ren := ⟨fun | 115 => 15 | n => n, fun | 37 => 22 | 4 => 4 | 9 => 9 | 5 => 5 | n => n, fun | n => n⟩
theorem Try.laysnb115 : Go.Proofs.Lays.nb115 Try.prog Try.laysnb115_ren := {
  mixed := by kernel_rfl
  f115 := Try.func15.trans (congrArg some (by kernel_rfl))
  t4 := Try.underlying4
  a4 := Try.isAgg4
  z4 := Try.sizeOf4
  v4 := Try.zeroValue4
  t9 := Try.underlying9
  a9 := Try.isAgg9
  z9 := Try.sizeOf9
  v9 := Try.zeroValue9
  t37 := Try.underlying22
  a37 := Try.isAgg22
  z37 := Try.sizeOf22
  v37 := Try.zeroValue22
  t5 := Try.underlying5
  a5 := Try.isAgg5
  z5 := Try.sizeOf5
  v5 := Try.zeroValue5 }
/-- bytes.Equal: WHOLE. (LAID: no walk: one application.) -/
theorem Try.bytes_Equal_all (p1 p2 : Option Addr) (n c m d : Nat) (xs ys : List Int) (w : World) (hx : xs.length = n) (hy : ys.length = m) (h1 : Lib.BytesIn w p1 n xs) (h2 : Lib.BytesIn w p2 m ys) :
    Calls Try.prog 15 #[.slice p1 n c, .slice p2 m d] w fun e w' => e = .returned (.bool (Lib.bytesOf xs == Lib.bytesOf ys)) ∧ w' = w := Any.bytes_Equal_all Try.laysnb115 p1 p2 n c m d xs ys w hx hy h1 h2
end
end Go.Proofs
