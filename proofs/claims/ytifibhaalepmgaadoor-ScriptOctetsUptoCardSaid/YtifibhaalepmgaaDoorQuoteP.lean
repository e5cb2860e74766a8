/-
  What Quote writes of bytes, in plain Lean. No program.
-/
import Derived.Test.YtifibhaalepmgaaDoorBuilder
namespace Go.Proofs.YtifibhaalepmgaaDoor

def hexs : List UInt8 := [48, 49, 50, 51, 52, 53, 54, 55, 56, 57, 97, 98, 99, 100, 101, 102]
def hexd (n : Nat) : UInt8 := hexs.getD n 0

/-- How a byte is written. -/
def esc (c : UInt8) : List UInt8 :=
  if c.toNat = 34 ∨ c.toNat = 92 then [92, c] else if 32 ≤ c.toNat ∧ c.toNat ≤ 126 then [c] else [92, 120, hexd (c.toNat / 16), hexd (c.toNat % 16)]

def quoteL (bs : List UInt8) : List UInt8 := 34 :: bs.flatMap esc ++ [34]

theorem esc_len (c : UInt8) : 1 ≤ (esc c).length ∧ (esc c).length ≤ 4 := by unfold esc; split; · simp
                                                                            split <;> simp
theorem flat_len (bs : List UInt8) : (bs.flatMap esc).length ≤ 4 * bs.length := by
  induction bs with
  | nil => simp
  | cons c bs ih => have := (esc_len c).2; simp only [List.flatMap_cons, List.length_append, List.length_cons]; omega
theorem quoteL_ne (bs : List UInt8) : quoteL bs ≠ [] := by simp [quoteL]
theorem take_esc (bs : List UInt8) (k : Nat) (h : k < bs.length) : (bs.take (k + 1)).flatMap esc = (bs.take k).flatMap esc ++ esc (bs.getD k 0) := by
  rw [List.take_add_one, List.getElem?_eq_getElem h, List.flatMap_append]
  simp [List.getD_eq_getElem?_getD, h]

end Go.Proofs.YtifibhaalepmgaaDoor
