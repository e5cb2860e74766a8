/-
  The walk of OctetsRound: of bytes that are not too many. No other conditions.
-/
import Derived.Test.YtifibhaalepmgaaDoorOctets
import Derived.Test.YtifibhaalepmgaaDoorFrame
import Derived.Test.YtifibhaalepmgaaDoorEqualB
namespace Go.Proofs.YtifibhaalepmgaaDoor
open Go.RowKit

theorem quoteL_len (bs : List UInt8) : bs.length + 2 ≤ (quoteL bs).length ∧ (quoteL bs).length ≤ 4 * bs.length + 2 := by
  have h := flat_len bs
  have g : bs.length ≤ (bs.flatMap esc).length := by
    clear h
    induction bs with
    | nil => simp
    | cons c bs ih => have := (esc_len c).1; simp only [List.flatMap_cons, List.length_append, List.length_cons]; omega
  simp only [quoteL, List.length_append, List.length_cons, List.length_nil]
  omega

/-- The fuel of unq does not matter once it is enough. -/
theorem quote_size (bs : List UInt8) : (⟨(quoteL bs).toArray⟩ : ByteArray).size = (quoteL bs).length := rfl

theorem qEnd_fuel (s : List UInt8) : ∀ (f g i : Nat), s.length ≤ f + i → s.length ≤ g + i → qEnd f s i = qEnd g s i := by
  intro f
  induction f with
  | zero => intro g i h1 _; rw [qEnd_out g s i (by omega)]; rfl
  | succ f ih =>
    intro g i h1 h2
    cases g with
    | zero => rw [qEnd_out (f + 1) s i (by omega)]; rfl
    | succ g =>
      unfold qEnd
      by_cases hi : i < s.length
      · rw [if_pos hi, if_pos hi, ih g (i + 2) (by omega) (by omega), ih g (i + 1) (by omega) (by omega)]
      · rw [if_neg hi, if_neg hi]

theorem unq_out (f : Nat) (s : List UInt8) (i : Nat) (h : s.length ≤ i + 1) : unq f s i = [] := by
  cases f with
  | zero => rfl
  | succ f => unfold unq; rw [if_neg (by omega)]

theorem unq_fuel (s : List UInt8) : ∀ (f g i : Nat), s.length ≤ f + i + 1 → s.length ≤ g + i + 1 → unq f s i = unq g s i := by
  intro f
  induction f with
  | zero => intro g i h1 _; rw [unq_out g s i (by omega)]; rfl
  | succ f ih =>
    intro g i h1 h2
    cases g with
    | zero => rw [unq_out (f + 1) s i (by omega)]; rfl
    | succ g =>
      unfold unq
      by_cases hi : i + 1 < s.length
      · rw [if_pos hi, if_pos hi, ih g (i + 4) (by omega) (by omega), ih g (i + 2) (by omega) (by omega), ih g (i + 1) (by omega) (by omega)]
      · rw [if_neg hi, if_neg hi]

theorem unqL_back (bs : List UInt8) : unqL ⟨(quoteL bs).toArray⟩ = bs := by
  have h := quoteL_back bs ((quoteL bs).length + bs.length + 1) (by omega)
  have hl := (quoteL_len bs).1
  exact (unq_fuel (quoteL bs) (quoteL bs).length ((quoteL bs).length + bs.length + 1) 1 (by omega) (by omega)).trans h

theorem octE_quote (bs : List UInt8) : octE ⟨(quoteL bs).toArray⟩ = if 200000 < (quoteL bs).length then 4 else 0 := by
  have hl := (quoteL_len bs).1
  unfold octE
  rw [unqL_back]
  show (if 200000 < (quoteL bs).length then (4 : Int) else if (quoteL bs).length = 0 then 8 else if (quoteL bs).getD 0 0 ≠ 34 then 8 else if qEnd (quoteL bs).length (quoteL bs) 1 ≠ ((quoteL bs).length : Int) then 8 else if quoteL bs ≠ quoteL bs then 8 else 0) = _
  have e1 : (quoteL bs).getD 0 0 = 34 := by simp [quoteL]
  have e2 : qEnd (quoteL bs).length (quoteL bs) 1 = ((quoteL bs).length : Int) :=
    (qEnd_fuel _ _ ((quoteL bs).length + 4 * bs.length + 1) _ (by omega) (by omega)).trans (quoteL_end bs _ (by omega))
  rw [e1, e2, if_neg (show ¬ (quoteL bs).length = 0 by omega), if_neg (show ¬ ((34 : UInt8) ≠ 34) from fun h => h rfl), if_neg (show ¬ (((quoteL bs).length : Int) ≠ (quoteL bs).length) from fun h => h rfl), if_neg (show ¬ (quoteL bs ≠ quoteL bs) from fun h => h rfl)]

theorem ints_back (zs : List Int) (h : ∀ z ∈ zs, (Lit.int .u8 z).wf = true) : ints (zs.map fun z => z.toNat.toUInt8) = zs := by
  unfold ints
  rw [List.map_map]
  conv => rhs; rw [← List.map_id zs]
  apply List.map_congr_left
  intro z hz
  obtain ⟨h1, h2⟩ := range_u8 (h z hz)
  have : (z.toNat.toUInt8).toNat = z.toNat := by simp; omega
  simp only [Function.comp, id]
  rw [this]
  omega

end Go.Proofs.YtifibhaalepmgaaDoor
