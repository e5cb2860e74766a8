/-
  quotedEnd and unquote, in plain Lean. No program.
-/
import Derived.Test.YtifibhaalepmgaaDoorQuoteP
import Derived.Shelf.Small.Strs
namespace Go.Proofs.YtifibhaalepmgaaDoor

def qEnd : Nat → List UInt8 → Nat → Int
  | 0, _, _ => -1
  | f + 1, s, i => if i < s.length then (if (s.getD i 0).toNat = 92 then qEnd f s (i + 2) else if (s.getD i 0).toNat = 34 then (i + 1 : Nat) else qEnd f s (i + 1)) else -1

/-- Where the fuel does not matter. -/
theorem qEnd_out (f : Nat) (s : List UInt8) (i : Nat) (h : s.length ≤ i) : qEnd f s i = -1 := by
  cases f with
  | zero => rfl
  | succ f => unfold qEnd; rw [if_neg (by omega)]

def hexv (c : UInt8) : Int := Lib.indexByte hexs c
def hexByte (a b : UInt8) : UInt8 := if hexv b = -1 then 255 else ((16 * hexv a + hexv b) % 256).toNat.toUInt8

def unq : Nat → List UInt8 → Nat → List UInt8
  | 0, _, _ => []
  | f + 1, s, i => if i + 1 < s.length then
      (if (s.getD i 0).toNat = 92 then
        (if (s.getD (i + 1) 0).toNat = 120 ∧ i + 3 < s.length then hexByte (s.getD (i + 2) 0) (s.getD (i + 3) 0) :: unq f s (i + 4)
         else s.getD (i + 1) 0 :: unq f s (i + 2))
      else s.getD i 0 :: unq f s (i + 1)) else []

theorem getD_at (p : List UInt8) (x : UInt8) (r : List UInt8) (j : Nat) (h : j = p.length) : (p ++ x :: r).getD j 0 = x := by
  subst h; simp [List.getD_eq_getElem?_getD]

theorem esc_cases (c : UInt8) : ((c.toNat = 34 ∨ c.toNat = 92) ∧ esc c = [92, c]) ∨ (c.toNat ≠ 34 ∧ c.toNat ≠ 92 ∧ esc c = [c]) ∨ (esc c = [92, 120, hexd (c.toNat / 16), hexd (c.toNat % 16)]) := by
  unfold esc
  by_cases h : c.toNat = 34 ∨ c.toNat = 92
  · left; rw [if_pos h]; exact ⟨h, rfl⟩
  · rw [if_neg h]
    by_cases h2 : 32 ≤ c.toNat ∧ c.toNat ≤ 126
    · right; left; rw [if_pos h2]; exact ⟨fun e => h (Or.inl e), fun e => h (Or.inr e), rfl⟩
    · right; right; rw [if_neg h2]

theorem hexd_at : ∀ n, n < 16 → (hexd n).toNat ≠ 92 ∧ (hexd n).toNat ≠ 34 ∧ hexv (hexd n) = n := by
  intro n h
  match n, h with
  | 0, _ | 1, _ | 2, _ | 3, _ | 4, _ | 5, _ | 6, _ | 7, _ | 8, _ | 9, _ | 10, _ | 11, _ | 12, _ | 13, _ | 14, _ | 15, _ => decide
  | n + 16, h => omega

theorem hexByte_back (c : UInt8) : hexByte (hexd (c.toNat / 16)) (hexd (c.toNat % 16)) = c := by
  have hc := c.toNat_lt
  have h1 := (hexd_at (c.toNat / 16) (by omega)).2.2
  have h2 := (hexd_at (c.toNat % 16) (by omega)).2.2
  unfold hexByte
  rw [h1, h2, if_neg (by omega)]
  have e : ((16 * ((c.toNat / 16 : Nat) : Int) + ((c.toNat % 16 : Nat) : Int)) % 256).toNat = c.toNat := by omega
  rw [e]
  simp

theorem qEnd_esc (bs : List UInt8) : ∀ (f : Nat) (p : List UInt8), 4 * bs.length + 1 ≤ f → qEnd f (p ++ (bs.flatMap esc ++ [34])) p.length = ((p ++ (bs.flatMap esc ++ [34])).length : Int) := by
  induction bs with
  | nil =>
    intro f p hf
    obtain ⟨f, rfl⟩ : ∃ g, f = g + 1 := ⟨f - 1, by omega⟩
    unfold qEnd
    rw [List.flatMap_nil, List.nil_append, getD_at p 34 [] _ rfl, if_pos (by simp), if_neg (by decide), if_pos (by decide)]
    simp
  | cons c bs ih =>
    intro f p hf
    simp only [List.length_cons] at hf
    rw [List.flatMap_cons]
    generalize hX : bs.flatMap esc = X at ih ⊢
    rcases esc_cases c with ⟨_, e⟩ | ⟨h1, h2, e⟩ | e
    · rw [e]
      obtain ⟨f, rfl⟩ : ∃ g, f = g + 1 := ⟨f - 1, by omega⟩
      have := ih f (p ++ [92, c]) (by omega)
      unfold qEnd
      rw [if_pos (by simp), show p ++ ([92, c] ++ X ++ [34]) = p ++ 92 :: (c :: X ++ [34]) from by simp, getD_at p 92 _ _ rfl, if_pos (by decide)]
      simpa using this
    · rw [e]
      obtain ⟨f, rfl⟩ : ∃ g, f = g + 1 := ⟨f - 1, by omega⟩
      have := ih f (p ++ [c]) (by omega)
      unfold qEnd
      rw [if_pos (by simp), show p ++ ([c] ++ X ++ [34]) = p ++ c :: (X ++ [34]) from by simp, getD_at p c _ _ rfl, if_neg h2, if_neg h1]
      simpa using this
    · rw [e]
      have hc := c.toNat_lt
      obtain ⟨a1, a2, _⟩ := hexd_at (c.toNat / 16) (by omega)
      obtain ⟨b1, b2, _⟩ := hexd_at (c.toNat % 16) (by omega)
      generalize hexd (c.toNat / 16) = x at *
      generalize hexd (c.toNat % 16) = y at *
      obtain ⟨f, rfl⟩ : ∃ g, f = g + 3 := ⟨f - 3, by omega⟩
      have := ih f (p ++ [92, 120, x, y]) (by omega)
      unfold qEnd
      rw [if_pos (by simp), show p ++ ([92, 120, x, y] ++ X ++ [34]) = p ++ 92 :: (120 :: x :: y :: X ++ [34]) from by simp, getD_at p 92 _ _ rfl, if_pos (by decide)]
      unfold qEnd
      rw [if_pos (by simp), show p ++ 92 :: (120 :: x :: y :: X ++ [34]) = (p ++ [92, 120]) ++ x :: (y :: X ++ [34]) from by simp, getD_at _ x _ _ (by simp), if_neg a1, if_neg a2]
      unfold qEnd
      rw [if_pos (by simp; omega), show (p ++ [92, 120]) ++ x :: (y :: X ++ [34]) = (p ++ [92, 120, x]) ++ y :: (X ++ [34]) from by simp, getD_at _ y _ _ (by simp), if_neg b1, if_neg b2]
      simpa using this

theorem unq_esc (bs : List UInt8) : ∀ (f : Nat) (p : List UInt8), bs.length + 1 ≤ f → unq f (p ++ (bs.flatMap esc ++ [34])) p.length = bs := by
  induction bs with
  | nil =>
    intro f p hf
    obtain ⟨f, rfl⟩ : ∃ g, f = g + 1 := ⟨f - 1, by omega⟩
    unfold unq
    rw [if_neg (by simp)]
  | cons c bs ih =>
    intro f p hf
    simp only [List.length_cons] at hf
    rw [List.flatMap_cons]
    generalize hX : bs.flatMap esc = X at ih ⊢
    obtain ⟨f, rfl⟩ : ∃ g, f = g + 1 := ⟨f - 1, by omega⟩
    rcases esc_cases c with ⟨h, e⟩ | ⟨h1, h2, e⟩ | e
    · rw [e]
      have := ih f (p ++ [92, c]) (by omega)
      unfold unq
      rw [if_pos (by simp), show p ++ ([92, c] ++ X ++ [34]) = p ++ 92 :: (c :: X ++ [34]) from by simp, getD_at p 92 _ _ rfl, if_pos (by decide)]
      rw [show p ++ 92 :: (c :: X ++ [34]) = (p ++ [92]) ++ c :: (X ++ [34]) from by simp, getD_at _ c _ _ (by simp), if_neg (by omega)]
      congr 1
      simpa using this
    · rw [e]
      have := ih f (p ++ [c]) (by omega)
      unfold unq
      rw [if_pos (by simp), show p ++ ([c] ++ X ++ [34]) = p ++ c :: (X ++ [34]) from by simp, getD_at p c _ _ rfl, if_neg h2]
      congr 1
      simpa using this
    · rw [e]
      have hb := hexByte_back c
      generalize hexd (c.toNat / 16) = x at *
      generalize hexd (c.toNat % 16) = y at *
      have := ih f (p ++ [92, 120, x, y]) (by omega)
      unfold unq
      rw [if_pos (by simp), show p ++ ([92, 120, x, y] ++ X ++ [34]) = p ++ 92 :: (120 :: x :: y :: X ++ [34]) from by simp, getD_at p 92 _ _ rfl, if_pos (by decide)]
      rw [show p ++ 92 :: (120 :: x :: y :: X ++ [34]) = (p ++ [92]) ++ 120 :: (x :: y :: X ++ [34]) from by simp, getD_at _ 120 _ _ (by simp), if_pos (by constructor; decide; simp)]
      rw [show (p ++ [92]) ++ 120 :: (x :: y :: X ++ [34]) = (p ++ [92, 120]) ++ x :: (y :: X ++ [34]) from by simp, getD_at _ x _ _ (by simp)]
      rw [show (p ++ [92, 120]) ++ x :: (y :: X ++ [34]) = (p ++ [92, 120, x]) ++ y :: (X ++ [34]) from by simp, getD_at _ y _ _ (by simp), hb]
      congr 1
      simpa using this

theorem quoteL_end (bs : List UInt8) (f : Nat) (hf : 4 * bs.length + 1 ≤ f) : qEnd f (quoteL bs) 1 = (quoteL bs).length := qEnd_esc bs f [34] hf
theorem quoteL_back (bs : List UInt8) (f : Nat) (hf : bs.length + 1 ≤ f) : unq f (quoteL bs) 1 = bs := unq_esc bs f [34] hf

end Go.Proofs.YtifibhaalepmgaaDoor
