/-
  slices.Equal at entries: the same entries are equal. No conditions.
-/
import Derived.Test.YtifibhaalepmgaaDoorEntMem
namespace Go.Proofs.YtifibhaalepmgaaDoor
open Go.RowKit
set_option linter.unusedVariables false

set_option maxHeartbeats 2000000 in
set_option maxRecDepth 100000 in
theorem equal_ents (v1 v2 : Value) (L : List En) (w : World) (h1 : EnsIn w v1 L) (h2 : EnsIn w v2 L) :
    Calls Tryd.prog 23 #[v1, v2] w (EqPost true w) := by
  obtain ⟨a1, c1, rfl, hl1, hc1⟩ := h1
  obtain ⟨a2, c2, rfl, hl2, hc2⟩ := h2
  have HC1 := Lib.hid hc1
  have HC2 := Lib.hid hc2
  clear hc1 hc2
  go_enter Tryd.func23, Tryd.ntmps23
  go_wp2_with fail
  go_loopg [13] L.length (fun g s13 wr => ∃ k q : Nat, k ≤ L.length ∧ L.length - k ≤ g ∧ s13 = .int .i64 k ∧ wr = w.drewN q)
  case atStart => exact ⟨0, 0, Nat.zero_le _, by omega, rfl, rfl⟩
  case round =>
    obtain ⟨k, q, hk, hg, rfl, rfl⟩ := hrel
    by_cases hlt : k < L.length
    · obtain ⟨b1, o1, rfl, p0, p1, p2, p3, p4, p5⟩ := HC1.out k hlt
      obtain ⟨b2, o2, rfl, q0, q1, q2, q3, q4, q5⟩ := HC2.out k hlt
      generalize L.getD k En.zero = e at *
      go_wp2_with fail
      go_region
      go_wp2
      go_roundg (L.length - (k + 1))
      case measure => omega
      case rel => exact ⟨k + 1, q + 1, by omega, by omega, by go_num, rfl⟩
    · have : k = L.length := by omega
      subst this
      go_wp2
      go_ret
      exact ⟨rfl, q, rfl⟩

end Go.Proofs.YtifibhaalepmgaaDoor
