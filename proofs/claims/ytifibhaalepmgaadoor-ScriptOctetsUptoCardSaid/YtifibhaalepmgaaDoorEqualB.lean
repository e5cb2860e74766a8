/-
  slices.Equal at []byte. No conditions.
-/
import Derived.Test.YtifibhaalepmgaaDoorFair
namespace Go.Proofs.YtifibhaalepmgaaDoor
open Go.RowKit

set_option maxHeartbeats 1000000 in
set_option maxRecDepth 100000 in
/-- slices.Equal at []byte. -/
theorem equal_byte (v1 v2 : Value) (xs ys : List Int) (w : World) (h1 : Reads w .u8 v1 xs) (h2 : Reads w .u8 v2 ys) :
    Calls Tryd.prog 15 #[v1, v2] w (EqPost (decide (xs = ys)) w) := by
  obtain ⟨a1, c1, rfl, hl1, hc1⟩ := h1
  obtain ⟨a2, c2, rfl, hl2, hc2⟩ := h2
  by_cases hlen : xs.length = ys.length
  · by_cases hz : xs = []
    · subst hz
      have hy : ys = [] := by cases ys <;> simp_all
      subst hy
      go_enter Tryd.func15, Tryd.ntmps15
      go_wp2
      go_loopg [13] 0 (fun _ s13 wr => s13 = .int .i64 0 ∧ wr = w)
      case atStart => exact ⟨rfl, rfl⟩
      case round =>
        obtain ⟨rfl, rfl⟩ := hrel
        go_wp2
        go_ret
        exact ⟨rfl, 0, rfl⟩
    · have hy : ys ≠ [] := by intro e; subst e; simp at hlen; exact hz hlen
      obtain ⟨b1, o1, rfl, hd1⟩ := hc1 hz
      obtain ⟨b2, o2, rfl, hd2⟩ := hc2 hy
      clear hc1 hc2
      rw [← hlen] at hd2 hl2 ⊢
      generalize hn : xs.length = n at *
      have Hn := Lib.hid hn
      have Hl := Lib.hid hlen
      clear hn hlen hz hy
      have HC1 := Lib.hid hd1
      have HC2 := Lib.hid hd2
      clear hd1 hd2
      go_enter Tryd.func15, Tryd.ntmps15
      go_wp2
      go_loopg [13] n (fun g s13 wr => ∃ k q : Nat, k ≤ n ∧ n - k ≤ g ∧ s13 = .int .i64 k ∧ wr = w.drewN q ∧ ∀ j, j < k → xs.getD j 0 = ys.getD j 0)
      case atStart => exact ⟨0, 0, Nat.zero_le _, by omega, rfl, rfl, fun j hj => absurd hj (Nat.not_lt_zero _)⟩
      case round =>
        obtain ⟨k, q, hk, hg, rfl, rfl, heq⟩ := hrel
        have A := Lib.hid heq
        clear heq
        by_cases hlt : k < n
        · have g1 : w.cell? ⟨b1, o1 + k, none⟩ = some (.int .u8 (xs.getD k 0)) := HC1.out k (by omega)
          have g2 : w.cell? ⟨b2, o2 + k, none⟩ = some (.int .u8 (ys.getD k 0)) := HC2.out k (by omega)
          generalize hxk : xs.getD k 0 = x at g1
          generalize hyk : ys.getD k 0 = y at g2
          have B1 := Lib.hid hxk
          have B2 := Lib.hid hyk
          clear hxk hyk
          by_cases hxy : x = y
          · subst hxy
            go_wp2_with fail
            go_region
            go_wp2
            go_roundg (n - (k + 1))
            case measure => omega
            case rel =>
              refine ⟨k + 1, q + 1, by omega, by omega, by go_num, rfl, fun j hj => ?_⟩
              by_cases e : j = k
              · subst e
                rw [B1.out, B2.out]
              · exact A.out j (by omega)
          · go_wp2_with fail
            go_region
            go_wp2
            go_ret
            exact ⟨ret_bool (take_ne_of k (by rw [B1.out, B2.out]; exact hxy)).symm, q + 1, rfl⟩
        · have : k = n := by omega
          subst this
          go_wp2
          go_ret
          exact ⟨ret_bool (decide_eq_true (eq_of_all (xs := xs) (ys := ys) (Hn.out.trans Hl.out) (fun j hj => A.out j (by rw [Hn.out] at hj; exact hj)))).symm, q, rfl⟩
  · have hnm' : ¬ (xs.length : Int) = (ys.length : Int) := by omega
    have Hl := Lib.hid hlen
    clear hlen hc1 hc2
    go_enter Tryd.func15, Tryd.ntmps15
    go_wp2
    go_ret
    exact ⟨ret_bool (by simp; intro e; subst e; exact Hl.out rfl), 0, rfl⟩

end Go.Proofs.YtifibhaalepmgaaDoor
