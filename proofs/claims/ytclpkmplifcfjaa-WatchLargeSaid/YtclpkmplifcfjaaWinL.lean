/-
  The law's list: nil slices, then one. Plain.
-/
import Derived.Test.YtclpkmplifcfjaaWinG
namespace Go.Proofs.Ytclpkmplifcfjaa
open Go.RowKit
set_option linter.unusedVariables false

def lawXs (g n : Nat) (a : Option Addr) (many : Nat) : List (Wn × Option Addr) := (List.range many).map fun i => if i + 1 = many then ((⟨g, 0, n, n⟩ : Wn), a) else W0
theorem lawXs_len (g n : Nat) (a : Option Addr) (many : Nat) : (lawXs g n a many).length = many := by simp [lawXs]
theorem lawXs_get {g n : Nat} {a : Option Addr} {many i : Nat} (h : i < many) : (lawXs g n a many).getD i W0 = if i + 1 = many then ((⟨g, 0, n, n⟩ : Wn), a) else W0 := by
  simp [lawXs, List.getD_eq_getElem?_getD, h]
theorem ov_nil (y : Wn) : ov (W0).1 y = (0, 0, 0) := by
  have h1 : app W0.1 y = -1 := by unfold app; rw [if_neg]; intro h; exact absurd h.1 (by decide)
  have h2 : app y W0.1 = -1 := by
    unfold app
    rw [if_neg]
    rintro ⟨_, _, h3, h4⟩
    have e1 : W0.1.o = 0 := rfl
    have e2 : W0.1.n = 0 := rfl
    omega
  unfold ov
  rw [h1, h2]
  rfl
theorem law_pairs (g n : Nat) (a : Option Addr) (many : Nat) : pairsL (meetB (lawXs g n a many)) (lawXs g n a many).length (lawXs g n a many).length = [] := by
  rw [lawXs_len]
  unfold pairsL
  rw [List.flatMap_eq_nil_iff]
  intro i hi
  have hi := List.mem_range.1 hi
  unfold pairsI
  rw [List.map_eq_nil_iff, List.filter_eq_nil_iff]
  intro k hk
  have hk := List.mem_range.1 hk
  by_cases h : i < k
  · have : meetB (lawXs g n a many) i k = false := by
      unfold meetB
      rw [lawXs_get hi, if_neg (by omega), ov_nil]
      rfl
    rw [this]
    simp
  · simp [h]
theorem law_mem {g n : Nat} {a : Option Addr} {many : Nat} {x : Wn × Option Addr} (h : x ∈ lawXs g n a many) : x = W0 ∨ (0 < many ∧ x = ((⟨g, 0, n, n⟩ : Wn), a)) := by
  obtain ⟨i, hi, rfl⟩ := List.mem_map.1 h
  have := List.mem_range.1 hi
  split
  · exact Or.inr ⟨by omega, rfl⟩
  · exact Or.inl rfl
theorem law_chk (g n : Nat) (a : Option Addr) (many : Nat) : chkL (lawXs g n a many) = if 100 < many ∨ (0 < many ∧ 2000 < n) then 4 else 0 := by
  unfold chkL
  rw [lawXs_len]
  by_cases h1 : 100 < many
  · rw [if_pos h1, if_pos (Or.inl h1)]
  · rw [if_neg h1]
    by_cases h2 : 0 < many ∧ 2000 < n
    · rw [if_pos (Or.inr h2), if_pos]
      refine List.any_eq_true.2 ⟨((⟨g, 0, n, n⟩ : Wn), a), List.mem_map.2 ⟨many - 1, List.mem_range.2 (by omega), by rw [if_pos (by omega)]⟩, by simpa using h2.2⟩
    · rw [if_neg (show ¬ (100 < many ∨ 0 < many ∧ 2000 < n) from fun h => h.elim h1 h2)]
      have hb : ¬ bigB (lawXs g n a many) = true := fun hb => by
        obtain ⟨x, hx, hn⟩ := List.any_eq_true.1 hb
        rcases law_mem hx with rfl | ⟨hm, rfl⟩
        · exact absurd hn (by decide)
        · simp only [decide_eq_true_eq] at hn
          exact h2 ⟨hm, hn⟩
      rw [if_neg hb]

end Go.Proofs.Ytclpkmplifcfjaa
