/-
  The reference's ReadEntriesOf: its parts. Conditions: Go's own variables, and the reference's words, hold what their initialisers lay.
-/
import Derived.Test.YtifibhaalepmgaaDoorReadEnts
import Derived.Test.YtifibhaalepmgaaDoorWords
import Derived.Test.YtifibhaalepmgaaDoorEqualE
namespace Go.Proofs.YtifibhaalepmgaaDoor
open Go Go.RowKit
set_option linter.unusedVariables false

def entXs : List ByteArray := ⟨#[]⟩ :: ewordsA
theorem index_ent (gb go gc : Nat) (x : ByteArray) (w : World) (h : ∀ (k : Nat) y, entXs[k]? = some y → w.cell? ⟨gb, go + k, none⟩ = some (.string y)) :
    Calls Tryd.prog 37 #[.slice (some ⟨gb, go, none⟩) 12 gc, .string x] w (fun e w' => e = .returned (.int .i64 (Lib.idxOfS entXs x)) ∧ w = w') :=
  (Tryd.slices_Index_string gb go 12 gc entXs x w (by decide) (by decide) (fun j hj => h j _ (by
    rw [List.getD_eq_getElem?_getD, List.getElem?_eq_getElem hj]; rfl))).mono fun e w' ⟨he, hw⟩ => ⟨by rw [he]; rfl, hw.symm⟩

/-- What Cut gives. -/
def CutPost (r : ByteArray) (w : World) : Ending → World → Prop := fun e w' => ∃ (l t : ByteArray) (f : Bool), e = .returned (.tuple #[.string l, .string t, .bool f]) ∧ l.data.toList = (Lib.cut r.data.toList [10]).1 ∧ t.data.toList = (Lib.cut r.data.toList [10]).2.1 ∧ f = (Lib.cut r.data.toList [10]).2.2 ∧ l.size ≤ r.size ∧ (f = true → t.size + 1 ≤ r.size) ∧ Below w.heap.size w w'
theorem cut_sizes (s : List UInt8) : (Lib.cut s [10]).1.length ≤ s.length ∧ ((Lib.cut s [10]).2.2 = true → (Lib.cut s [10]).2.1.length + 1 ≤ s.length) := by
  by_cases h : (10 : UInt8) ∈ s
  · obtain ⟨a, r, rfl, ha⟩ := mem_cut h
    rw [cut_hit ha]
    simp
  · rw [cut_miss h]
    simp
theorem cut_line (r : ByteArray) (w : World) (hs : r.size ≤ 1000000) (hl : LibAt w) :
    Calls Tryd.prog 46 #[.string r, .string { data := #[10] }] w (CutPost r w) := by
  obtain ⟨m, hm⟩ := hl.maxl
  refine (Tryd.strings_Cut r { data := #[10] } m w (by omega) hm).mono fun e w' ⟨he, n, hw⟩ => ?_
  subst hw
  have hc := cut_sizes r.data.toList
  replace he : e = .returned (.tuple #[.string ⟨(Lib.cut r.data.toList [10]).1.toArray⟩, .string ⟨(Lib.cut r.data.toList [10]).2.1.toArray⟩, .bool (Lib.cut r.data.toList [10]).2.2]) := he
  have f : ∀ l : List UInt8, (⟨l.toArray⟩ : ByteArray).size = l.length := fun l => by simp [ByteArray.size]
  have el : r.data.toList.length = r.size := Array.length_toList
  refine ⟨_, _, _, he, rfl, rfl, rfl, ?_, fun h => ?_, bdrewN (Below.refl _ w) n⟩
  · rw [f]; have := hc.1; omega
  · rw [f]; have := hc.2 h; omega

/-- The entry's cells while it is read. -/
def pcells (K : Int) (acc : List Int) : Array Value := ((K :: (acc ++ List.replicate (5 - acc.length) 0)).map (Value.int .i64)).toArray
theorem pcells_set (K n : Int) : ∀ (acc : List Int), acc.length < 5 → (pcells K acc).setIfInBounds (acc.length + 1) (.int .i64 n) = pcells K (acc ++ [n])
  | [], _ => rfl
  | [_], _ => rfl
  | [_, _], _ => rfl
  | [_, _, _], _ => rfl
  | [_, _, _, _], _ => rfl
  | _ :: _ :: _ :: _ :: _ :: _, h => by simp at h; omega
theorem pcells_at (K : Int) : ∀ (acc : List Int), acc.length < 5 → (pcells K acc)[acc.length + 1]? = some (.int .i64 0)
  | [], _ => rfl
  | [_], _ => rfl
  | [_, _], _ => rfl
  | [_, _, _], _ => rfl
  | [_, _, _, _], _ => rfl
  | _ :: _ :: _ :: _ :: _ :: _, h => by simp at h; omega

theorem own_lt {w : World} {B size n k : Nat} {e : TypeId} {v : Value} {xs : List Value} (h : w.ownsRow B e size v n xs) (hk : v.ownBlock = some k) : k < w.heap.size := by
  obtain ⟨cur, hcur⟩ := row_blk h hk
  exact lt_of hcur
theorem own_set {w : World} {B size n P j : Nat} {e : TypeId} {v x : Value} {xs : List Value} (h : w.ownsRow B e size v n xs) (hP : v.ownBlock ≠ some P) : (w.setCell ⟨P, j, none⟩ x).ownsRow B e size v n xs :=
  h.kept (row := some P) ⟨rfl, rfl, rfl, by simp, fun k _ hne => Below.heap_setCell _ _ _ k (fun e => hne (by rw [e]))⟩ (Or.inr hP)

def strLen : Value → Nat
  | .string b => b.size
  | _ => 0

end Go.Proofs.YtifibhaalepmgaaDoor
