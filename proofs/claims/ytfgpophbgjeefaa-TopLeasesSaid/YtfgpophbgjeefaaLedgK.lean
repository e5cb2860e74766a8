/-
  slices.Clone and slices.DeleteFunc over leases. No conditions but lengths.
-/
import Derived.Test.YtfgpophbgjeefaaLedgJ
namespace Go.Proofs.Ytfgpophbgjeefaa
open Go.RowKit
set_option linter.unusedVariables false

def OwnLeas (ls : List Lea) (w : World) : Ending → World → Prop := fun e w' =>
  ∃ v, e = .returned v ∧ w'.ownsRow w.heap.size 42 4 v ls.length (ls.flatMap Lea.cells) ∧ Below w.heap.size w w'

set_option maxHeartbeats 1000000 in
set_option maxRecDepth 100000 in
theorem clone_lea (v : Value) (B : Nat) (ls : List Lea) (w : World) (hr : w.ownsRow B 42 4 v ls.length (ls.flatMap Lea.cells)) (hmax : ls.length ≤ 1000000) :
    Calls Try.prog 29 #[v] w (OwnLeas ls w) := by
  obtain ⟨i0, hi0, hz0, hz1, hz2⟩ := info_parts infoLea
  have hq := fun (w : World) (a : Option Addr) (n c : Nat) => Lib.run_eql_slice_nil (P := Try.prog) w 39 42 a n c 0 0 Try.underlying39
  rcases hr.2 with ⟨rfl, h0⟩ | ⟨g, cap, cur, rfl, hb, hg, hn, hcm, hs, ht⟩
  · have hz : ls = [] := by cases ls with | nil => rfl | cons x xs => simp at h0
    subst hz
    clear hr
    go_enter Try.func29, Try.ntmps29
    go_wp2_with fail
    go_ret
    exact ⟨_, rfl, World.ownsRow_nil _ _ _ _, Below.refl _ _⟩
  · have hc := hr.cells (g := g) rfl
    have HN : Hid (∀ j u, (ls.flatMap Lea.cells)[j]? = some u → (w.alloc (.cells #[] 42)).cell? ((⟨g, 0, none⟩ : Addr).add j) = some u) := Lib.hid (fun j u hj => by
      have h1 := hc j u hj
      have hlt : ((⟨g, 0, none⟩ : Addr).add j).block < w.heap.size := World.block_lt_of_cell? w _ h1
      exact (((Below.refl w.heap.size w).alloc (Nat.le_refl _) _).cell hlt).trans h1)
    have HM : Hid (World.ownsRow (w.alloc (.cells #[] 42)) w.heap.size 42 4 (.slice (some ⟨w.heap.size, 0, none⟩) 0 0) 0 []) := World.ownsRow_made w #[] 0 (Nat.le_refl _) (by unfold maxLen; omega) rfl
    have HL : Hid ((ls.flatMap Lea.cells).length = ls.length * 4) := Lib.hid (lcells_len ls)
    have H1 := Lib.hid (lcells_one ls)
    clear hc hr hg hs ht
    go_enter Try.func29, Try.ntmps29
    go_wp2_with (at_builtin; go_must (refine wpList_append_own _ rfl (.tmp 5) (.tmp 6) 39 rfl w.heap.size 42 i0 (.agg #[.int .i64 0, .int .i64 0, .int .i64 0, .int .i64 0]) 4 32 Try.underlying39 hi0 hz0 hz1 hz2 rfl (by decide) _ 0 [] rfl HM.out ⟨g, 0, none⟩ ls.length cap (ls.flatMap Lea.cells) rfl HL.out HN.out H1.out (by unfold maxLen; omega) (by omega) (by simp) ?_))
    intro v' w1 hown hgr _
    have hb : Below w.heap.size w w1 := ((Below.refl w.heap.size w).alloc (Nat.le_refl _) _).grown hgr (by simp) (fun q hq => by simp [Value.ownBlock] at hq; omega)
    go_wp2_with fail
    go_ret
    exact ⟨_, rfl, by simpa using hown, hb⟩

/-! Pass's first closure. -/
set_option maxHeartbeats 1000000 in
set_option maxRecDepth 100000 in
theorem passW (bx : Nat) (now : Int) (x : Lea) (W : World) (h : W.cell? ⟨bx, 0, none⟩ = some (.int .i64 now)) :
    Calls Try.prog 30 #[.agg #[.int .i64 x.no, .int .i64 x.owner, .int .i64 x.amount, .int .i64 x.untl], .pointer (some ⟨bx, 0, none⟩)] W fun e w' => e = .returned (.bool (decide (now < x.untl))) ∧ Below W.heap.size W w' := by
  obtain ⟨a1, a2, a3, a4⟩ := x
  have hlt : bx < W.heap.size := World.block_lt_of_cell? W ⟨bx, 0, none⟩ h
  have h' : (W.alloc (.cells #[.int .i64 a1, .int .i64 a2, .int .i64 a3, .int .i64 a4] 42)).cell? ⟨bx, 0, none⟩ = some (.int .i64 now) := Lib.cell?_alloc_some _ h
  clear h
  go_enter Try.func30, Try.ntmps30
  go_wp2_with fail
  go_ret
  exact ⟨rfl, (Below.refl _ _).alloc (Nat.le_refl _) _⟩

/-- 'clear' of some leases. -/
theorem run_clear_leas (w : World) (ty : TypeId) (b o n c : Nat) (hn : 0 < n) (hc : ∀ j, j < n * 4 → (w.cell? ⟨b, o + j, none⟩).isSome = true) (hf : ∀ j, j < n * 4 → w.frozen? ⟨b, o + j, none⟩ = false) :
    ∃ zs : List Value, zs.length = n * 4 ∧ (Builtin.clear_ #[39] ty #[.slice (some ⟨b, o, none⟩) n c]).run Try.prog w = .ok (.tuple #[]) (w.setCells b o zs) := by
  refine ⟨(Builtin.zeroCells (Value.agg #[.int .i64 0, .int .i64 0, .int .i64 0, .int .i64 0]).cells n).toList, ?_, ?_⟩
  · rw [Array.length_toList, size_zeroCells]; rfl
  · have hlen : (Builtin.zeroCells (Value.agg #[.int .i64 0, .int .i64 0, .int .i64 0, .int .i64 0]).cells n).toList.length = n * 4 := by rw [Array.length_toList, size_zeroCells]; rfl
    have hone : ∀ v ∈ (Builtin.zeroCells (Value.agg #[.int .i64 0, .int .i64 0, .int .i64 0, .int .i64 0]).cells n).toList, v.oneCell' = true := by
      intro v hv
      simp only [Builtin.zeroCells, Array.toList_map, List.mem_map] at hv
      obtain ⟨i, _, rfl⟩ := hv
      have h4 : i % (Value.agg #[.int .i64 0, .int .i64 0, .int .i64 0, .int .i64 0]).cells.size < 4 := Nat.mod_lt _ (by decide)
      generalize i % (Value.agg #[.int .i64 0, .int .i64 0, .int .i64 0, .int .i64 0]).cells.size = r at h4
      match r, h4 with
      | 0, _ => rfl
      | 1, _ => rfl
      | 2, _ => rfl
      | 3, _ => rfl
    have hst := run_storeCells_cells (P := Try.prog) b o _ 0 w (by simpa [hlen] using hc) (by simpa [hlen] using hf) hone
    simp only [Nat.add_zero] at hst
    obtain ⟨m, rfl⟩ : ∃ m, n = m + 1 := ⟨n - 1, by omega⟩
    simp [Builtin.clear_, run_underlying Try.underlying39, Try.zeroValue42, hst]

end Go.Proofs.Ytfgpophbgjeefaa
