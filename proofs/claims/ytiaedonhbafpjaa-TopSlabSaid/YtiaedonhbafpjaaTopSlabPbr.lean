/-
  Clone, Grow, Concat, Delete of package slices at []slab.Slot: what they give. No conditions but lengths. (Printed by sg.py.)
-/
import Derived.Test.YtiaedonhbafpjaaTopSlabPar
import Derived.Test.YtiaedonhbafpjaaTopSlabPak
import Derived.Lib.SlicesDelete
import Derived.Shelf.RegionOpenPlain
import Derived.Shelf.Abstract
import Derived.Deep.RegionLaw
namespace Go.Proofs.Ytiaedonhbafpjaa
open Go.RowKit
set_option linter.unusedVariables false

theorem info_slot : (Try.prog.info? 37).map (fun i => (i.zero, i.size, i.bytes)) = some (some (.agg #[.int .i64 0, .int .i64 0, .int .i64 0, .int .i64 0]), 4, 32) := by kernel_rfl
def Own_slot (n : Nat) (xs : List Value) (w : World) : Ending → World → Prop := fun e w' =>
  ∃ v, e = .returned v ∧ w'.ownsRow w.heap.size 37 4 v n xs ∧ Below w.heap.size w w'

/-- The cells, and the number, of the first k of some slices. -/
def cat_slot (els : List (Value × Nat × List Value)) (k : Nat) : List Value := ((els.take k).map (·.2.2)).flatten
def num_slot (els : List (Value × Nat × List Value)) (k : Nat) : Nat := ((els.take k).map (·.2.1)).sum
theorem cat_succ_slot (els : List (Value × Nat × List Value)) (k : Nat) (x : Value × Nat × List Value) (h : els[k]? = some x) : cat_slot els (k + 1) = cat_slot els k ++ x.2.2 ∧ num_slot els (k + 1) = num_slot els k + x.2.1 := by
  unfold cat_slot num_slot
  rw [List.take_add_one, h]
  simp
theorem num_le_slot (els : List (Value × Nat × List Value)) (k : Nat) : num_slot els k ≤ num_slot els els.length := by
  unfold num_slot
  rw [List.take_length, List.map_take]
  conv => rhs; rw [← List.take_append_drop k (els.map (·.2.1)), List.sum_append]
  omega

/-- 'clear' of one element. -/
theorem run_clear_slot (w : World) (ty : TypeId) (b o c : Nat) (hc : ∀ j, j < 4 → (w.cell? ⟨b, o + j, none⟩).isSome = true) (hf : ∀ j, j < 4 → w.frozen? ⟨b, o + j, none⟩ = false) :
    (Builtin.clear_ #[31] ty #[.slice (some ⟨b, o, none⟩) 1 c]).run Try.prog w = .ok (.tuple #[]) (w.setCells b o [.int .i64 0, .int .i64 0, .int .i64 0, .int .i64 0]) := by
  have hst := run_storeCells_cells (P := Try.prog) b o [.int .i64 0, .int .i64 0, .int .i64 0, .int .i64 0] 0 w (by simpa using hc) (by simpa using hf) (by intro v hv; simp at hv; subst hv; rfl)
  simp only [Nat.add_zero] at hst
  have hz : (Builtin.zeroCells ((.agg #[.int .i64 0, .int .i64 0, .int .i64 0, .int .i64 0]) : Value).cells 1).toList = [.int .i64 0, .int .i64 0, .int .i64 0, .int .i64 0] := by kernel_rfl
  simp [Builtin.clear_, run_underlying Try.underlying31, Try.zeroValue37, hz, hst]

def Del_slot (g cap n i : Nat) (xs : List Value) (w : World) : Ending → World → Prop := fun e w' =>
  e = .returned (.slice (some ⟨g, 0, none⟩) (n - 1) cap) ∧ w'.ownsRow 0 37 4 (.slice (some ⟨g, 0, none⟩) (n - 1) cap) (n - 1) (xs.take (i * 4) ++ xs.drop ((i + 1) * 4)) ∧ Touch (fun k => k = g) w w' ∧ w'.heap.size = w.heap.size

set_option maxHeartbeats 4000000 in
set_option maxRecDepth 1000000 in
theorem delete_slot (g cap n : Nat) (i j : Nat) (xs : List Value) (w : World) (hr : w.ownsRow 0 37 4 (.slice (some ⟨g, 0, none⟩) n cap) n xs) (h1 : ∀ u ∈ xs, u.oneCell' = true)
    (hi : i < n) (hj : j = i + 1) (hlen : n ≤ 1000000) :
    Calls Try.prog 12 #[.slice (some ⟨g, 0, none⟩) n cap, .int .i64 i, .int .i64 j] w (Del_slot g cap n i xs w) := by
  obtain ⟨i0, hi0, hz0, hz1, hz2⟩ := info_parts info_slot
  obtain ⟨hxl, hr⟩ := hr
  rcases hr with ⟨hv, _⟩ | ⟨g', cap', cur, hv, _, hg, hn, hcm, hs, ht⟩
  · cases hv
  simp only [Value.slice.injEq, Option.some.injEq, Addr.mk.injEq, and_true, true_and] at hv
  obtain ⟨rfl, rfl⟩ := hv
  have hcm' : cap ≤ 9223372036854775807 := by unfold maxLen at hcm; omega
  have hcell : ∀ t u, xs[t]? = some u → w.drew.cell? ⟨g, t, none⟩ = some u := by
    intro t u hu
    have : w.drew.cell? ⟨g, t, none⟩ = cur[t]? := cell_of (w := w.drew) hg t
    rw [this, ← Array.getElem?_toList]
    rw [← ht] at hu
    have hlt := (List.getElem?_eq_some_iff.1 hu).1
    rw [List.length_take] at hlt
    rw [List.getElem?_take_of_lt (by omega)] at hu
    exact hu
  obtain ⟨news, hnews⟩ : ∃ news, news = xs.drop (j * 4) := ⟨_, rfl⟩
  have hlen2 : news.length = (n - j) * 4 := by rw [hnews, List.length_drop, hxl, Nat.sub_mul]
  obtain ⟨A, hA, hsrc⟩ : ∃ A : Addr, (if cap = j then some (⟨g, 0, none⟩ : Addr) else some ⟨g, j * 4, none⟩) = some A ∧ Hid (∀ t u, news[t]? = some u → w.drew.cell? (A.add t) = some u) := by
    by_cases h : cap = j
    · refine ⟨⟨g, 0, none⟩, by simp [h], Lib.hid fun t u hu => ?_⟩
      have h0 : news.length = 0 := by rw [hlen2]; have : n - j = 0 := by omega
                                      rw [this]
      rw [List.length_eq_zero_iff.1 h0] at hu
      simp at hu
    · refine ⟨⟨g, j * 4, none⟩, by simp [h], Lib.hid fun t u hu => ?_⟩
      rw [Addr.add_lit]
      refine hcell _ _ ?_
      rw [hnews, List.getElem?_drop] at hu
      simpa using hu
  have s1 : Hid (news.length = (n - j) * 4) := Lib.hid hlen2
  have s2 : Hid (∀ u ∈ news, u.oneCell' = true) := Lib.hid (by rw [hnews]; exact fun u hu => h1 u (List.mem_of_mem_drop hu))
  have s3 : Hid (∀ t, t < news.length → (w.drew.cell? ⟨g, 0 + i * 4 + t, none⟩).isSome = true ∧ w.drew.frozen? ⟨g, 0 + i * 4 + t, none⟩ = false) := Lib.hid (by
    intro t ht'
    have : w.drew.cell? ⟨g, 0 + i * 4 + t, none⟩ = cur[0 + i * 4 + t]? := cell_of (w := w.drew) hg _
    refine ⟨?_, free_of (w := w.drew) hg _⟩
    rw [this, Array.getElem?_eq_getElem (by rw [hlen2] at ht'; omega)]
    rfl)
  obtain ⟨W1, hW1⟩ : ∃ W1, W1 = w.drew.setCells g (0 + i * 4) news := ⟨_, rfl⟩
  obtain ⟨cur1, k1, k2, k3⟩ := block_setCells news (0 + i * 4) w.drew cur hg (by rw [hlen2]; omega)
  rw [← hW1] at k1
  have hcl : ∀ ty, (Builtin.clear_ #[31] ty #[.slice (some ⟨g, (n - 1) * 4, none⟩) 1 (cap - (n - 1))]).run Try.prog W1 = .ok (.tuple #[]) (W1.setCells g ((n - 1) * 4) [.int .i64 0, .int .i64 0, .int .i64 0, .int .i64 0]) := fun ty => by
    have h := run_clear_slot W1 ty g ((n - 1) * 4) (cap - (n - 1)) (fun t ht' => by
      rw [cell_of k1, Array.getElem?_eq_getElem (by rw [k2]; omega)]; rfl) (fun t ht' => free_of k1 _)
    simpa using h
  obtain ⟨cur2, m1, m2, m3⟩ := block_setCells [.int .i64 0, .int .i64 0, .int .i64 0, .int .i64 0] ((n - 1) * 4) W1 cur1 k1 (by rw [k2]; simp; omega)
  have FIN : Hid (Del_slot g cap n i xs w (.returned (.slice (some ⟨g, 0, none⟩) (n - 1) cap)) (W1.setCells g ((n - 1) * 4) [.int .i64 0, .int .i64 0, .int .i64 0, .int .i64 0])) := Lib.hid (by
    have e2 : cur.toList.take (0 + i * 4) = xs.take (i * 4) := by
      rw [← ht, List.take_take]; congr 1; omega
    have e4 : (xs.take (i * 4) ++ news).length = (n - 1) * 4 := by
      rw [List.length_append, List.length_take, hlen2, hxl]; omega
    refine ⟨rfl, ⟨?_, Or.inr ⟨g, cap, cur2, rfl, Nat.zero_le _, m1, by omega, hcm, by rw [m2, k2, hs], ?_⟩⟩, ?_, ?_⟩
    · rw [← hj, ← hnews, e4]
    · rw [m3, k3, e2, List.take_left' e4, ← hj, ← hnews, ← e4]
      exact (List.append_assoc _ _ _ ▸ List.take_left)
    · refine ⟨?_, ?_, ?_, ?_, ?_⟩
      · rw [(setCells_rest g _ _ W1).1, hW1, (setCells_rest g _ _ _).1]; rfl
      · rw [(setCells_rest g _ _ W1).2.1, hW1, (setCells_rest g _ _ _).2.1]; rfl
      · rw [(setCells_rest g _ _ W1).2.2, hW1, (setCells_rest g _ _ _).2.2]; rfl
      · rw [size_setCells, hW1, size_setCells]; exact Nat.le_refl _
      · intro k hk hne
        rw [heap_setCells_other g _ _ _ k hne, hW1, heap_setCells_other g _ _ _ k hne]; rfl
    · rw [size_setCells, hW1, size_setCells]; rfl)
  have hW : Hid (W1 = w.drew.setCells g (0 + i * 4) news) := Lib.hid hW1
  have hic : i ≤ cap := by omega
  have hjc : j ≤ cap := by omega
  have e3 : Hid (i + (n - j) = n - 1) := Lib.hid (by omega)
  have hcl2 : ∀ ty, (Builtin.clear_ #[31] ty #[.slice (some ⟨g, (i + (n - j)) * 4, none⟩) (n - (i + (n - j))) (cap - (i + (n - j)))]).run Try.prog W1 = .ok (.tuple #[]) (W1.setCells g ((n - 1) * 4) [.int .i64 0, .int .i64 0, .int .i64 0, .int .i64 0]) := fun ty => by
    rw [show i + (n - j) = n - 1 by omega, show n - (n - 1) = 1 by omega]; exact hcl ty
  have hne : ((i : Int) == (j : Int)) = false := by simp; omega
  have hjl : j ≤ n := by omega
  have hij : i ≤ j := by omega
  have hcne : ¬ (cap = i + (n - j)) := by omega
  have HJ := Lib.hid hj
  have H1 := Lib.hid h1
  clear hcl hW1 hcell hnews hlen2 k1 k2 k3 m1 m2 m3 hs ht hg hj hxl h1
  go_enter Try.func12, Try.ntmps12
  go_wp2_with fail
  have mixed : Try.prog.follows Departure.mixedOrders = true := by kernel_rfl
  go_region_law_o (refine step_append_room rfl (.tmp 22) (.tmp 25) 31 rfl 37 i0 4 Try.underlying31 hi0 hz1 g 0 i cap (by simp [Act.eval, Act.put]) A (n - j) (cap - j) news (by simp [Act.eval, Act.put]) s1.out hsrc.out s2.out (by omega) s3.out ?_; rw [← hW.out])
  go_wp2_with fail
  go_ret
  have h := FIN.out
  rw [← e3.out] at h
  rw [← e3.out]
  exact h

end Go.Proofs.Ytiaedonhbafpjaa
