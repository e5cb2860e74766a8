/-
  slices.Delete of one lease: what it gives. No conditions but lengths.
-/
import Derived.Test.YtljjndifmfhffaaGreatDoorLedgerChecksPaj
import Derived.Test.YtljjndifmfhffaaGreatDoorLedgerChecksPbb
import Derived.Lib.SlicesDelete
import Derived.Shelf.RegionOpenPlain
namespace Go.Proofs.YtljjndifmfhffaaGreatDoor
open Go.RowKit
set_option linter.unusedVariables false

/-- 'clear' of one lease. -/
theorem run_clear_lea (w : World) (ty : TypeId) (b o c : Nat) (hc : ∀ j, j < 4 → (w.cell? ⟨b, o + j, none⟩).isSome = true) (hf : ∀ j, j < 4 → w.frozen? ⟨b, o + j, none⟩ = false) :
    (Builtin.clear_ #[37] ty #[.slice (some ⟨b, o, none⟩) 1 c]).run Tryz.prog w = .ok (.tuple #[]) (w.setCells b o [.int .i64 0, .int .i64 0, .int .i64 0, .int .i64 0]) := by
  have hst := run_storeCells_cells (P := Tryz.prog) b o [.int .i64 0, .int .i64 0, .int .i64 0, .int .i64 0] 0 w (by simpa using hc) (by simpa using hf) (by intro v hv; simp at hv; subst hv; rfl)
  simp only [Nat.add_zero] at hst
  have hz : (Builtin.zeroCells (Value.agg #[.int .i64 0, .int .i64 0, .int .i64 0, .int .i64 0]).cells 1).toList = [.int .i64 0, .int .i64 0, .int .i64 0, .int .i64 0] := by kernel_rfl
  simp [Builtin.clear_, run_underlying Tryz.underlying37, Tryz.zeroValue88, hz, hst]

def DelPost (g cap i : Nat) (ls : List Lea) (w : World) : Ending → World → Prop := fun e w' =>
  e = .returned (.slice (some ⟨g, 0, none⟩) (ls.length - 1) cap) ∧ w'.ownsRow 0 88 4 (.slice (some ⟨g, 0, none⟩) (ls.length - 1) cap) (ls.length - 1) ((ls.eraseIdx i).flatMap Lea.cells) ∧ Touch (fun k => k = g) w w' ∧ w'.heap.size = w.heap.size

set_option maxHeartbeats 4000000 in
set_option maxRecDepth 1000000 in
theorem delete_lea (g cap : Nat) (cur : Array Value) (i j : Nat) (ls : List Lea) (w : World) (hg : w.heap[g]? = some (.cells cur 88 (0, 0))) (hn : ls.length ≤ cap) (hcm : cap ≤ maxLen) (hs : cur.size = cap * 4) (ht : cur.toList.take (ls.length * 4) = ls.flatMap Lea.cells)
    (hi : i < ls.length) (hj : j = i + 1) (hlen : ls.length ≤ 1000000) :
    Calls Tryz.prog 59 #[.slice (some ⟨g, 0, none⟩) ls.length cap, .int .i64 i, .int .i64 j] w (DelPost g cap i ls w) := by
  obtain ⟨i0, hi0, hz0, hz1, hz2⟩ := info_parts infoLea
  have hcm' : cap ≤ 9223372036854775807 := by unfold maxLen at hcm; omega
  have hcell : ∀ t u, (ls.flatMap Lea.cells)[t]? = some u → w.drew.cell? ⟨g, t, none⟩ = some u := by
    intro t u hu
    have : w.drew.cell? ⟨g, t, none⟩ = cur[t]? := cell_of (w := w.drew) hg t
    rw [this, ← Array.getElem?_toList]
    rw [← ht] at hu
    have hlt := (List.getElem?_eq_some_iff.1 hu).1
    rw [List.length_take] at hlt
    rw [List.getElem?_take_of_lt (by omega)] at hu
    exact hu
  obtain ⟨news, hnews⟩ : ∃ news, news = (ls.drop j).flatMap Lea.cells := ⟨_, rfl⟩
  have hlen2 : news.length = (ls.length - j) * 4 := by rw [hnews, lcells_len, List.length_drop]
  obtain ⟨A, hA, hsrc⟩ : ∃ A : Addr, (if cap = j then some (⟨g, 0, none⟩ : Addr) else some ⟨g, j * 4, none⟩) = some A ∧ Hid (∀ t u, news[t]? = some u → w.drew.cell? (A.add t) = some u) := by
    by_cases h : cap = j
    · refine ⟨⟨g, 0, none⟩, by simp [h], Lib.hid fun t u hu => ?_⟩
      have h0 : news.length = 0 := by rw [hlen2]; have : ls.length - j = 0 := by omega
                                      rw [this]
      rw [List.length_eq_zero_iff.1 h0] at hu
      simp at hu
    · refine ⟨⟨g, j * 4, none⟩, by simp [h], Lib.hid fun t u hu => ?_⟩
      rw [Addr.add_lit]
      refine hcell _ _ ?_
      rw [hnews, ← lcells_drop, List.getElem?_drop] at hu
      exact hu
  have s1 : Hid (news.length = (ls.length - j) * 4) := Lib.hid hlen2
  have s2 : Hid (∀ u ∈ news, u.oneCell' = true) := Lib.hid (by rw [hnews]; exact lcells_one _)
  have s3 : Hid (∀ t, t < news.length → (w.drew.cell? ⟨g, 0 + i * 4 + t, none⟩).isSome = true ∧ w.drew.frozen? ⟨g, 0 + i * 4 + t, none⟩ = false) := Lib.hid (by
    intro t ht'
    have : w.drew.cell? ⟨g, 0 + i * 4 + t, none⟩ = cur[0 + i * 4 + t]? := cell_of (w := w.drew) hg _
    refine ⟨?_, free_of (w := w.drew) hg _⟩
    rw [this, Array.getElem?_eq_getElem (by rw [hlen2] at ht'; omega)]
    rfl)
  obtain ⟨W1, hW1⟩ : ∃ W1, W1 = w.drew.setCells g (0 + i * 4) news := ⟨_, rfl⟩
  obtain ⟨cur1, k1, k2, k3⟩ := block_setCells news (0 + i * 4) w.drew cur hg (by rw [hlen2]; omega)
  rw [← hW1] at k1
  have hcl : ∀ ty, (Builtin.clear_ #[37] ty #[.slice (some ⟨g, (ls.length - 1) * 4, none⟩) 1 (cap - (ls.length - 1))]).run Tryz.prog W1 = .ok (.tuple #[]) (W1.setCells g ((ls.length - 1) * 4) [.int .i64 0, .int .i64 0, .int .i64 0, .int .i64 0]) := fun ty =>
    run_clear_lea W1 ty g _ _ (fun t ht' => by
      rw [cell_of k1, Array.getElem?_eq_getElem (by rw [k2]; omega)]; rfl) (fun t ht' => free_of k1 _)
  obtain ⟨cur2, m1, m2, m3⟩ := block_setCells [.int .i64 0, .int .i64 0, .int .i64 0, .int .i64 0] ((ls.length - 1) * 4) W1 cur1 k1 (by rw [k2]; simp; omega)
  have FIN : Hid (DelPost g cap i ls w (.returned (.slice (some ⟨g, 0, none⟩) (ls.length - 1) cap)) (W1.setCells g ((ls.length - 1) * 4) [.int .i64 0, .int .i64 0, .int .i64 0, .int .i64 0])) := Lib.hid (by
    refine ⟨rfl, ⟨?_, Or.inr ⟨g, cap, cur2, rfl, Nat.zero_le _, m1, by omega, hcm, by rw [m2, k2, hs], ?_⟩⟩, ?_, ?_⟩
    · rw [lcells_len, List.length_eraseIdx_of_lt hi]
    · rw [m3, k3, List.eraseIdx_eq_take_drop_succ, List.flatMap_append, ← hj, ← hnews]
      have e2 : cur.toList.take (0 + i * 4) = (ls.take i).flatMap Lea.cells := by
        rw [← lcells_take, ← ht, List.take_take]; congr 1; omega
      have e4 : ((ls.take i).flatMap Lea.cells ++ news).length = (ls.length - 1) * 4 := by
        rw [List.length_append, lcells_len, List.length_take, hlen2]; omega
      rw [e2, List.take_left' e4, ← e4]
      exact (List.append_assoc _ _ _ ▸ List.take_left)
    · refine ⟨?_, ?_, ?_, ?_, ?_⟩
      · rw [(setCells_rest g _ _ W1).1, hW1, (setCells_rest g _ _ _).1]; rfl
      · rw [(setCells_rest g _ _ W1).2.1, hW1, (setCells_rest g _ _ _).2.1]; rfl
      · rw [(setCells_rest g _ _ W1).2.2, hW1, (setCells_rest g _ _ _).2.2]; rfl
      · rw [size_setCells, hW1, size_setCells]; exact Nat.le_refl _
      · intro k hk hne
        rw [heap_setCells_other g _ _ _ k hne, hW1, heap_setCells_other g _ _ _ k hne]; rfl
    · rw [size_setCells, hW1, size_setCells]; rfl)
  have hW : Hid (W1 = w.drew.setCells g (0 + i * 4) news) := Lib.hid hW1
  have hic : i ≤ cap := by omega
  have hjc : j ≤ cap := by omega
  have e3 : Hid (i + (ls.length - j) = ls.length - 1) := Lib.hid (by omega)
  have hcl2 : ∀ ty, (Builtin.clear_ #[37] ty #[.slice (some ⟨g, (i + (ls.length - j)) * 4, none⟩) (ls.length - (i + (ls.length - j))) (cap - (i + (ls.length - j)))]).run Tryz.prog W1 = .ok (.tuple #[]) (W1.setCells g ((ls.length - 1) * 4) [.int .i64 0, .int .i64 0, .int .i64 0, .int .i64 0]) := fun ty => by
    rw [show i + (ls.length - j) = ls.length - 1 by omega, show ls.length - (ls.length - 1) = 1 by omega]; exact hcl ty
  have hne : ((i : Int) == (j : Int)) = false := by simp; omega
  have hjl : j ≤ ls.length := by omega
  have hij : i ≤ j := by omega
  have hcne : ¬ (cap = i + (ls.length - j)) := by omega
  have HJ := Lib.hid hj
  clear hcl hW1 hcell hnews hlen2 k1 k2 k3 m1 m2 m3 hs ht hg hj
  go_enter Tryz.func59, Tryz.ntmps59
  go_wp2_with fail
  have mixed : Tryz.prog.follows Departure.mixedOrders = true := by kernel_rfl
  go_region_law_o (refine step_append_room rfl (.tmp 22) (.tmp 25) 37 rfl 88 i0 4 Tryz.underlying37 hi0 hz1 g 0 i cap (by simp [Act.eval, Act.put]) A (ls.length - j) (cap - j) news (by simp [Act.eval, Act.put]) s1.out hsrc.out s2.out (by omega) s3.out ?_; rw [← hW.out])
  go_wp2_with fail
  go_ret
  have h := FIN.out
  rw [← e3.out] at h
  rw [← e3.out]
  exact h

end Go.Proofs.YtljjndifmfhffaaGreatDoor
