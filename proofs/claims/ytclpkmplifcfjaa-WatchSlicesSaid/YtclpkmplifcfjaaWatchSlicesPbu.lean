/-
  slices.Equal of rows of spans and of pairs that are the same. No conditions.
-/
import Derived.Test.YtclpkmplifcfjaaWatchSlicesPbt
namespace Go.Proofs.Ytclpkmplifcfjaa
open Go.RowKit
set_option linter.unusedVariables false

/-- A slice of pairs of numbers, wherever it begins. -/
def PrIn (w : World) (v : Value) (L : List (Nat × Nat)) : Prop :=
  ∃ a cap, v = .slice a L.length cap ∧ ∀ k p, L[k]? = some p → ∃ b o, a = some ⟨b, o, none⟩ ∧ w.cell? ⟨b, o + k * 2, none⟩ = some (.int .i64 (p.1 : Int)) ∧ w.cell? ⟨b, o + k * 2 + 1, none⟩ = some (.int .i64 (p.2 : Int))
theorem prIn_row {w : World} {B e : Nat} {v : Value} {ps : List (Nat × Nat)} (h : w.ownsRow B e 2 v ps.length (spCells ps)) : PrIn w v ps := by
  obtain ⟨a, c, rfl⟩ := wrow_sh h
  refine ⟨a, c, rfl, fun k p hk => ?_⟩
  obtain ⟨q1, q2⟩ := spCells_get ps k p hk
  obtain ⟨g, rfl, c1, _⟩ := wrow_cell h q1
  obtain ⟨g', hg', c2, _⟩ := wrow_cell h q2
  simp only [Option.some.injEq, Addr.mk.injEq, and_true] at hg'
  subst hg'
  exact ⟨g, 0, rfl, by rw [Nat.zero_add]; exact c1, by rw [Nat.zero_add]; exact c2⟩

set_option maxHeartbeats 2000000 in
set_option maxRecDepth 100000 in
theorem equal_spans (v1 v2 : Value) (L : List (Nat × Nat)) (w : World) (hl : L.length ≤ 1000000) (h1 : PrIn w v1 L) (h2 : PrIn w v2 L) :
    Calls Try.prog 16 #[v1, v2] w (EqPost true w) := by
  obtain ⟨a1, c1, rfl, hc1⟩ := h1
  obtain ⟨a2, c2, rfl, hc2⟩ := h2
  have HC1 := Lib.hid hc1
  have HC2 := Lib.hid hc2
  clear hc1 hc2
  go_enter Try.func16, Try.ntmps16
  go_wp2_with fail
  go_loopg [13] L.length (fun g s13 wr => ∃ k q : Nat, k ≤ L.length ∧ L.length - k ≤ g ∧ s13 = .int .i64 k ∧ wr = w.drewN q)
  case atStart => exact ⟨0, 0, Nat.zero_le _, by omega, rfl, rfl⟩
  case round =>
    obtain ⟨k, q, hk, hg, rfl, rfl⟩ := hrel
    by_cases hlt : k < L.length
    · obtain ⟨e, he⟩ : ∃ e, L[k]? = some e := ⟨_, List.getElem?_eq_getElem hlt⟩
      obtain ⟨b1, o1, rfl, p0, p1⟩ := HC1.out k e he
      obtain ⟨b2, o2, rfl, q0, q1⟩ := HC2.out k e he
      obtain ⟨e1, e2⟩ := e
      clear he
      go_wp2_with fail
      go_region
      go_wp2
      go_roundg (L.length - (k + 1))
      case measure => omega
      case rel => exact ⟨k + 1, q + 1, by omega, by omega, by go_num, rfl⟩
    · have : k = L.length := by omega
      subst this
      go_wp2
      go_ret
      exact ⟨rfl, q, rfl⟩

set_option maxHeartbeats 2000000 in
set_option maxRecDepth 100000 in
theorem equal_pairs (v1 v2 : Value) (L : List (Nat × Nat)) (w : World) (hl : L.length ≤ 1000000) (h1 : PrIn w v1 L) (h2 : PrIn w v2 L) :
    Calls Try.prog 19 #[v1, v2] w (EqPost true w) := by
  obtain ⟨a1, c1, rfl, hc1⟩ := h1
  obtain ⟨a2, c2, rfl, hc2⟩ := h2
  have HC1 := Lib.hid hc1
  have HC2 := Lib.hid hc2
  clear hc1 hc2
  go_enter Try.func19, Try.ntmps19
  go_wp2_with fail
  go_loopg [13] L.length (fun g s13 wr => ∃ k q : Nat, k ≤ L.length ∧ L.length - k ≤ g ∧ s13 = .int .i64 k ∧ wr = w.drewN q)
  case atStart => exact ⟨0, 0, Nat.zero_le _, by omega, rfl, rfl⟩
  case round =>
    obtain ⟨k, q, hk, hg, rfl, rfl⟩ := hrel
    by_cases hlt : k < L.length
    · obtain ⟨e, he⟩ : ∃ e, L[k]? = some e := ⟨_, List.getElem?_eq_getElem hlt⟩
      obtain ⟨b1, o1, rfl, p0, p1⟩ := HC1.out k e he
      obtain ⟨b2, o2, rfl, q0, q1⟩ := HC2.out k e he
      obtain ⟨e1, e2⟩ := e
      clear he
      go_wp2_with fail
      go_region
      go_wp2
      go_roundg (L.length - (k + 1))
      case measure => omega
      case rel => exact ⟨k + 1, q + 1, by omega, by omega, by go_num, rfl⟩
    · have : k = L.length := by omega
      subst this
      go_wp2
      go_ret
      exact ⟨rfl, q, rfl⟩

end Go.Proofs.Ytclpkmplifcfjaa
