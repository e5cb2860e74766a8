/-
  What PolicyText writes ReadPolicy reads, plainly. No program.
-/
import Derived.Test.YtifibhaalepmgaaDoorReadPol
namespace Go.Proofs.YtifibhaalepmgaaDoor
open Go Go.Lib

theorem nDigits_le : ∀ (n u : Nat), u < 10 ^ (n + 1) → nDigits u ≤ n + 1
  | 0, u, h => by rw [nDigits_small (by simpa using h)]; omega
  | n + 1, u, h => by
    by_cases h1 : u < 10
    · rw [nDigits_small h1]; omega
    · rw [nDigits_big h1]
      have := nDigits_le n (u / 10) (by rw [Nat.pow_succ] at h; omega)
      omega
theorem small_itoa (n : Int) (h0 : 0 ≤ n) (h1 : n ≤ 100000) : (trimD (itoa n)).length ≤ 9 := by
  have e : itoa n = decDigits n.toNat := by unfold itoa; rw [if_neg (by omega)]
  rw [e, trimD_digits (decDigits_all _), decDigits_length]
  have := nDigits_le 5 n.toNat (by have : (10 : Nat) ^ 6 = 1000000 := rfl; omega)
  omega
theorem itoa_no_blank (n : Int) (h0 : 0 ≤ n) : (32 : UInt8) ∉ itoa n := by
  have e : itoa n = decDigits n.toNat := by unfold itoa; rw [if_neg (by omega)]
  rw [e]
  intro h
  have := List.all_eq_true.1 (decDigits_all n.toNat) 32 h
  simp [digitB] at this
theorem itoa_small_len (n : Int) (h0 : 0 ≤ n) (h1 : n ≤ 100000) : (itoa n).length ≤ 9 := by
  have e : itoa n = decDigits n.toNat := by unfold itoa; rw [if_neg (by omega)]
  have := small_itoa n h0 h1
  rw [e] at this ⊢
  rwa [trimD_digits (decDigits_all _)] at this
theorem word_no_blank (k : Int) : (32 : UInt8) ∉ word k := by
  unfold word
  split
  · decide
  · split
    · decide
    · split
      · decide
      · split <;> decide
theorem word_len (k : Int) : (word k).length ≤ 6 := by
  unfold word
  split
  · decide
  · split
    · decide
    · split
      · decide
      · split <;> decide
theorem kindOf_word (k : Int) (h : 1 ≤ k ∧ k ≤ 5) : kindOf (word k) = k := by
  rcases (show k = 1 ∨ k = 2 ∨ k = 3 ∨ k = 4 ∨ k = 5 by omega) with rfl | rfl | rfl | rfl | rfl <;> decide

theorem readPol_text (k s m : Int) (h : polErr k s m = 0) : readPol (polText k s m) = (k, s, m, 0) := by
  have h0 := h
  unfold polErr at h
  by_cases hk : 1 ≤ k ∧ k ≤ 5
  case neg => rw [if_neg hk] at h; omega
  rw [if_pos hk] at h
  by_cases hc : (k = 2 → 1 ≤ s ∧ s ≤ 100000) ∧ (¬ k = 2 → s = 0) ∧ (0 ≤ m ∧ m ≤ 100000)
  case neg => rw [if_neg hc] at h; omega
  obtain ⟨c1, c2, c3, c4⟩ := hc
  have lm := itoa_small_len m c3 c4
  have lw := word_len k
  have pm := progNum_itoa m (small_itoa m c3 c4)
  by_cases hk2 : k = 2
  · have hs := c1 hk2
    have ls := itoa_small_len s (by omega) hs.2
    have ps := progNum_itoa s (small_itoa s (by omega) hs.2)
    have e : polText k s m = word k ++ 32 :: (itoa s ++ 32 :: itoa m) := by
      unfold polText; rw [if_pos h0, if_pos hk2]; simp
    unfold readPol
    rw [e, if_neg (by simp only [List.length_append, List.length_cons]; omega), parts_cut 32 _ _ (word_no_blank k), parts_cut 32 _ _ (itoa_no_blank s (by omega)), parts_one 32 _ (itoa_no_blank m c3)]
    show (if kindOf (word k) = 2 then (match progNum (itoa s), progNum (itoa m) with | some s, some m => chkPol 2 s m | _, _ => synPol) else synPol) = _
    rw [if_pos (by rw [kindOf_word k hk]; exact hk2), ps, pm]
    show chkPol 2 s m = _
    unfold chkPol
    rw [hk2] at h0
    rw [if_pos h0, hk2]
  · have hs := c2 hk2
    have e : polText k s m = word k ++ 32 :: itoa m := by
      unfold polText; rw [if_pos h0, if_neg hk2]; simp
    unfold readPol
    rw [e, if_neg (by simp only [List.length_append, List.length_cons]; omega), parts_cut 32 _ _ (word_no_blank k), parts_one 32 _ (itoa_no_blank m c3)]
    show (if 1 ≤ kindOf (word k) ∧ kindOf (word k) ≠ 2 then (match progNum (itoa m) with | some m => chkPol (kindOf (word k)) 0 m | none => synPol) else synPol) = _
    rw [kindOf_word k hk, if_pos ⟨hk.1, hk2⟩, pm]
    show chkPol k 0 m = _
    unfold chkPol
    rw [hs] at h0
    rw [if_pos h0, hs]

end Go.Proofs.YtifibhaalepmgaaDoor
