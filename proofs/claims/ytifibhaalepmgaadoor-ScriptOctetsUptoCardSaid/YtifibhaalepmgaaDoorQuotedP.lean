/-
  The reference's reader of octets, plainly: what is known at a place. No program.
-/
import Derived.Test.YtifibhaalepmgaaDoorHexU
namespace Go.Proofs.YtifibhaalepmgaaDoor
open Go
set_option linter.unusedVariables false

theorem u8_of {z : UInt8} {n : Nat} (h : z.toNat = n) (hn : n < 256) : z = UInt8.ofNat n := UInt8.toNat_inj.1 (by rw [h, UInt8.toNat_ofNat']; omega)
theorem esc_kinds (z : UInt8) : ((z = 34 ∨ z = 92) ∧ esc z = [92, z]) ∨ (z ≠ 34 ∧ z ≠ 92 ∧ esc z = [z]) ∨ (z ≠ 34 ∧ z ≠ 92 ∧ esc z = 92 :: 120 :: hex2 z) := by
  unfold esc
  by_cases h : z.toNat = 34 ∨ z.toNat = 92
  · left
    rw [if_pos h]
    refine ⟨?_, rfl⟩
    rcases h with h | h
    · exact Or.inl (u8_of (n := 34) h (by decide))
    · exact Or.inr (u8_of (n := 92) h (by decide))
  · have n1 : z ≠ 34 := fun e => h (Or.inl (by rw [e]; rfl))
    have n2 : z ≠ 92 := fun e => h (Or.inr (by rw [e]; rfl))
    rw [if_neg h]
    by_cases h2 : 32 ≤ z.toNat ∧ z.toNat ≤ 126
    · rw [if_pos h2]; exact Or.inr (Or.inl ⟨n1, n2, rfl⟩)
    · rw [if_neg h2]; exact Or.inr (Or.inr ⟨n1, n2, rfl⟩)

/-- What is read so far is the beginning of all that could have been written so. -/
def At (L : List UInt8) (k : Nat) (bs : List UInt8) : Prop := ∀ bs0 tail, L = quoteL bs0 ++ tail → ∃ c, bs0 = bs ++ c ∧ k = 1 + (bs.flatMap esc).length
def NotQ (L : List UInt8) : Prop := ∀ bs0 tail, L ≠ quoteL bs0 ++ tail

theorem At.zero (L : List UInt8) : At L 1 [] := fun bs0 tail _ => ⟨bs0, rfl, rfl⟩
/-- The rest from the place on. -/
theorem At.drop {L : List UInt8} {k : Nat} {bs : List UInt8} (h : At L k bs) {bs0 tail : List UInt8} (e : L = quoteL bs0 ++ tail) : ∃ c, bs0 = bs ++ c ∧ k = 1 + (bs.flatMap esc).length ∧ L.drop k = c.flatMap esc ++ 34 :: tail := by
  obtain ⟨c, hc, hk⟩ := h bs0 tail e
  refine ⟨c, hc, hk, ?_⟩
  subst hc
  have : L = (34 :: bs.flatMap esc) ++ (c.flatMap esc ++ 34 :: tail) := by rw [e]; simp [quoteL]
  rw [this, List.drop_append_of_le_length (by simp only [List.length_cons]; omega), List.drop_of_length_le (by simp only [List.length_cons]; omega)]
  rfl
theorem at_char (L : List UInt8) (k j : Nat) : L.getD (k + j) 0 = (L.drop k).getD j 0 := by
  rw [List.getD_eq_getElem?_getD, List.getD_eq_getElem?_getD, List.getElem?_drop]
theorem drop_len {L r : List UInt8} {k : Nat} (h : L.drop k = r) : k + r.length = max k L.length := by
  have := congrArg List.length h
  rw [List.length_drop] at this
  omega

theorem At.plain {L : List UInt8} {k : Nat} {bs : List UInt8} (h : At L k bs) (h1 : L.getD k 0 ≠ 34) (h2 : L.getD k 0 ≠ 92) : At L (k + 1) (bs ++ [L.getD k 0]) := fun bs0 tail e => by
  obtain ⟨c, hc, hk, hd⟩ := h.drop e
  have h0 := at_char L k 0
  rw [Nat.add_zero, hd] at h0
  cases c with
  | nil => exact absurd h0 h1
  | cons z c =>
    rcases esc_kinds z with ⟨_, ez⟩ | ⟨_, _, ez⟩ | ⟨_, _, ez⟩
    · rw [List.flatMap_cons, ez] at h0; exact absurd h0 h2
    · rw [List.flatMap_cons, ez] at h0
      have hz : L.getD k 0 = z := h0
      rw [hz]
      refine ⟨c, by simp [hc], ?_⟩
      simp [ez, hk]; omega
    · rw [List.flatMap_cons, ez] at h0; exact absurd h0 h2
theorem At.two {L : List UInt8} {k : Nat} {bs : List UInt8} (h : At L k bs) (h1 : L.getD k 0 = 92) (h2 : L.getD (k + 1) 0 = 34 ∨ L.getD (k + 1) 0 = 92) : At L (k + 2) (bs ++ [L.getD (k + 1) 0]) := fun bs0 tail e => by
  obtain ⟨c, hc, hk, hd⟩ := h.drop e
  have h0 := at_char L k 0
  have h3 := at_char L k 1
  rw [Nat.add_zero, hd, h1] at h0
  rw [hd] at h3
  cases c with
  | nil =>
    change (92 : UInt8) = 34 at h0
    exact absurd h0 (by decide)
  | cons z c =>
    rcases esc_kinds z with ⟨_, ez⟩ | ⟨_, n2, ez⟩ | ⟨_, _, ez⟩
    · rw [List.flatMap_cons, ez] at h3
      have hz : L.getD (k + 1) 0 = z := h3
      rw [hz]
      refine ⟨c, by simp [hc], ?_⟩
      simp [ez, hk]; omega
    · rw [List.flatMap_cons, ez] at h0; exact absurd h0.symm n2
    · rw [List.flatMap_cons, ez] at h3
      have hz : L.getD (k + 1) 0 = 120 := h3
      rw [hz] at h2
      exact absurd h2 (by decide)
theorem At.hex {L : List UInt8} {k : Nat} {bs : List UInt8} (h : At L k bs) (h1 : L.getD k 0 = 92) (h2 : L.getD (k + 1) 0 = 120) {bs0 tail : List UInt8} (e : L = quoteL bs0 ++ tail) :
    ∃ z c, bs0 = bs ++ z :: c ∧ k = 1 + (bs.flatMap esc).length ∧ esc z = 92 :: 120 :: hex2 z ∧ [L.getD (k + 2) 0, L.getD (k + 3) 0] = hex2 z := by
  obtain ⟨c, hc, hk, hd⟩ := h.drop e
  have h0 := at_char L k 0
  have h3 := at_char L k 1
  rw [Nat.add_zero, hd, h1] at h0
  rw [hd, h2] at h3
  cases c with
  | nil =>
    change (92 : UInt8) = 34 at h0
    exact absurd h0 (by decide)
  | cons z c =>
    rcases esc_kinds z with ⟨hz, ez⟩ | ⟨_, n2, ez⟩ | ⟨_, _, ez⟩
    · rw [List.flatMap_cons, ez] at h3
      have hz2 : 120 = z := h3
      rw [← hz2] at hz
      exact absurd hz (by decide)
    · rw [List.flatMap_cons, ez] at h0; exact absurd h0.symm n2
    · refine ⟨z, c, hc, hk, ez, ?_⟩
      rw [at_char L k 2, at_char L k 3, hd, List.flatMap_cons, ez]
      rfl
theorem At.four {L : List UInt8} {k : Nat} {bs : List UInt8} {n : Int} (h : At L k bs) (h1 : L.getD k 0 = 92) (h2 : L.getD (k + 1) 0 = 120) (hn : ∀ c : UInt8, [L.getD (k + 2) 0, L.getD (k + 3) 0] = hex2 c → n = c.toNat) : At L (k + 4) (bs ++ [UInt8.ofNat n.toNat]) := fun bs0 tail e => by
  obtain ⟨z, c, hc, hk, ez, hx⟩ := h.hex h1 h2 e
  have hz : UInt8.ofNat n.toNat = z := by rw [hn z hx]; simp
  rw [hz]
  refine ⟨c, by simp [hc], ?_⟩
  simp [ez, hk, hex2]; omega
theorem At.noHex {L : List UInt8} {k : Nat} {bs : List UInt8} (h : At L k bs) (h1 : L.getD k 0 = 92) (h2 : L.getD (k + 1) 0 = 120) (hn : ∀ c : UInt8, [L.getD (k + 2) 0, L.getD (k + 3) 0] ≠ hex2 c) : NotQ L := fun bs0 tail e => by
  obtain ⟨z, c, _, _, _, hx⟩ := h.hex h1 h2 e
  exact hn z hx
theorem At.default {L : List UInt8} {k : Nat} {bs : List UInt8} (h : At L k bs) (h1 : L.getD k 0 = 92) (h2 : ¬ (k + 1 < L.length ∧ (L.getD (k + 1) 0 = 34 ∨ L.getD (k + 1) 0 = 92))) (h3 : ¬ (k + 3 < L.length ∧ L.getD (k + 1) 0 = 120)) : NotQ L := fun bs0 tail e => by
  obtain ⟨c, hc, hk, hd⟩ := h.drop e
  have h0 := at_char L k 0
  have h4 := at_char L k 1
  have hl := drop_len hd
  rw [Nat.add_zero, hd, h1] at h0
  rw [hd] at h4
  cases c with
  | nil =>
    change (92 : UInt8) = 34 at h0
    exact absurd h0 (by decide)
  | cons z c =>
    rcases esc_kinds z with ⟨hz, ez⟩ | ⟨_, n2, ez⟩ | ⟨_, _, ez⟩
    · rw [List.flatMap_cons, ez] at h4 hl
      have hz2 : L.getD (k + 1) 0 = z := h4
      refine h2 ⟨?_, by rw [hz2]; exact hz⟩
      simp at hl; omega
    · rw [List.flatMap_cons, ez] at h0; exact absurd h0.symm n2
    · rw [List.flatMap_cons, ez] at h4 hl
      refine h3 ⟨?_, h4⟩
      simp [hex2] at hl; omega
theorem At.over {L : List UInt8} {k : Nat} {bs : List UInt8} (h : At L k bs) (hk : L.length ≤ k) : NotQ L := fun bs0 tail e => by
  obtain ⟨c, _, _, hd⟩ := h.drop e
  rw [List.drop_of_length_le hk] at hd
  simp at hd
theorem At.close {L : List UInt8} {k : Nat} {bs : List UInt8} (h : At L k bs) (h1 : L.getD k 0 = 34) (hq : quoteL bs ≠ L.take (k + 1)) : NotQ L := fun bs0 tail e => by
  obtain ⟨c, hc, hk, hd⟩ := h.drop e
  have h0 := at_char L k 0
  rw [Nat.add_zero, hd, h1] at h0
  cases c with
  | nil =>
    rw [List.append_nil] at hc
    subst hc
    refine hq ?_
    rw [e, List.take_append_of_le_length (by simp only [quoteL, List.length_append, List.length_cons, List.length_nil]; omega), List.take_of_length_le (by simp only [quoteL, List.length_append, List.length_cons, List.length_nil]; omega)]
  | cons z c =>
    rcases esc_kinds z with ⟨_, ez⟩ | ⟨n1, _, ez⟩ | ⟨_, _, ez⟩
    · rw [List.flatMap_cons, ez] at h0
      change (34 : UInt8) = 92 at h0
      exact absurd h0 (by decide)
    · rw [List.flatMap_cons, ez] at h0; exact absurd h0.symm n1
    · rw [List.flatMap_cons, ez] at h0
      change (34 : UInt8) = 92 at h0
      exact absurd h0 (by decide)
theorem first_not {L : List UInt8} (h : L.getD 0 0 ≠ 34) : NotQ L := fun bs0 tail e => h (by rw [e]; rfl)

end Go.Proofs.YtifibhaalepmgaaDoor
