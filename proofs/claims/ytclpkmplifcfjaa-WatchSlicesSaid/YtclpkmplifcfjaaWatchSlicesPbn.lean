/-
  visit where no slice leads to another. Conditions: the map is empty.
-/
import Derived.Maps.Keyed
import Derived.MapKept
import Derived.Test.YtclpkmplifcfjaaWatchSlicesPbm
namespace Go.Proofs.Ytclpkmplifcfjaa
open Go.RowKit Go.Shelf
set_option linter.unusedVariables false

theorem look0 (w : World) (mb c : Nat) (k : Int) (h : w.heap[mb]? = some (.map #[] c)) (h1 : 0 ≤ k) (h2 : k ≤ 1000000) : (Instr.lookup 64 (.map (some mb)) (.int .i64 k) false).run Try.prog w = .ok (.slice none 0 0) w := by
  have hz : (zeroValue 35).run Try.prog w = .ok (.slice none 0 0) w := by kernel_rfl
  have hkey := Maps.keyOf_int_mk (P := Try.prog) (k := 3) Try.underlying3 (a := k) (WalkArith.wf_i64 (by omega))
  have K := Maps.int_keyed Try.underlying3
  have hf : (Instr.findKey 3 (.int .i64 k) []).run Try.prog w = .ok none w := by
    rcases K.find w hkey [] (fun e he => by cases he) with ⟨h1, _⟩ | ⟨j, e, _, h2, _⟩
    · exact h1
    · cases h2
  simp [Instr.lookup, run_underlying Try.underlying64, MapKept.run_getObj_map h, K.check w _ hkey, hf, hz, Result.andThen]

set_option maxHeartbeats 1000000 in
set_option maxRecDepth 100000 in
theorem visit_any (Bo Bl Bv g n cap mb c k : Nat) (w : World) (hn : n ≤ 1000) (hk : k < n) (h1 : w.cell? ⟨Bo, 0, none⟩ = some (.slice (some ⟨g, 0, none⟩) n cap)) (h2 : w.cell? ⟨g, k, none⟩ = some (.int .i64 (-1))) (h3 : w.frozen? ⟨g, k, none⟩ = false)
    (h4 : (w.setCell ⟨g, k, none⟩ (.int .i64 k)).cell? ⟨Bl, 0, none⟩ = some (.map (some mb))) (h5 : (w.setCell ⟨g, k, none⟩ (.int .i64 k)).heap[mb]? = some (.map #[] c)) :
    Calls Try.prog 26 #[.int .i64 k, .int .i64 k, .pointer (some ⟨Bo, 0, none⟩), .pointer (some ⟨Bl, 0, none⟩), .pointer (some ⟨Bv, 0, none⟩)] w (fun e w' => e = .returned (.tuple #[]) ∧ w' = w.setCell ⟨g, k, none⟩ (.int .i64 k)) := by
  have lk := look0 _ mb c k h5 (by omega) (by omega)
  clear h5
  go_enter Try.func26, Try.ntmps26
  go_wp2_with fail
  go_loopw [22] (fun i wr => i = .int .i64 0 ∧ wr = w.setCell ⟨g, k, none⟩ (.int .i64 k)) (fun _ _ => 0)
  case atStart => exact ⟨rfl, rfl⟩
  case round =>
    obtain ⟨rfl, rfl⟩ := hrel
    go_wp2_with fail
    go_end0
    exact ⟨rfl, rfl⟩

end Go.Proofs.Ytclpkmplifcfjaa
