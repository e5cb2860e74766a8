/-
  readEntry, plainly and in memory. Conditions: Go's own variables hold what their initialisers lay.
-/
import Derived.Test.YtifibhaalepmgaaDoorEntText
import Derived.Test.YtifibhaalepmgaaDoorReadPol
namespace Go.Proofs.YtifibhaalepmgaaDoor
open Go Go.RowKit
set_option linter.unusedVariables false

def readNums : List (List UInt8) → Option (List Int)
  | [] => some []
  | q :: r => match progNum q with
    | none => none
    | some n => (readNums r).map (n :: ·)
theorem lineEn_nums {l w : List UInt8} {qs : List (List UInt8)} (h : parts 32 l = w :: qs) (h5 : qs.length = 5) (hk : 1 ≤ kindE ⟨w.toArray⟩) :
    lineEn l = match readNums qs with | some [a, b, c, d, e] => some ⟨kindE ⟨w.toArray⟩, a, b, c, d, e⟩ | _ => none := by
  match qs, h5 with
  | [a, b, c, d, e], _ =>
    unfold lineEn
    rw [h]
    simp only
    rw [if_pos hk]
    simp only [readNums]
    cases progNum a with
    | none => rfl
    | some a =>
      cases progNum b with
      | none => rfl
      | some b =>
        cases progNum c with
        | none => rfl
        | some c =>
          cases progNum d with
          | none => rfl
          | some d =>
            cases progNum e with
            | none => rfl
            | some e => rfl
theorem lineEn_short {l w : List UInt8} {qs : List (List UInt8)} (h : parts 32 l = w :: qs) (h5 : qs.length ≠ 5) : lineEn l = none := by
  unfold lineEn
  rw [h]
  match qs, h5 with
  | [], _ => rfl
  | [_], _ => rfl
  | [_, _], _ => rfl
  | [_, _, _], _ => rfl
  | [_, _, _, _], _ => rfl
  | [_, _, _, _, _], h => exact absurd rfl h
  | _ :: _ :: _ :: _ :: _ :: _ :: _, _ => rfl
theorem lineEn_kind {l w : List UInt8} {qs : List (List UInt8)} (h : parts 32 l = w :: qs) (hk : ¬ 1 ≤ kindE ⟨w.toArray⟩) : lineEn l = none := by
  by_cases h5 : qs.length = 5
  · match qs, h5 with
    | [a, b, c, d, e], _ =>
      unfold lineEn
      rw [h]
      simp only
      rw [if_neg hk]
  · exact lineEn_short h h5
theorem readNums_step (qs : List (List UInt8)) (m : Nat) (h : m < qs.length) : readNums (qs.drop m) = match progNum (qs.getD m []) with | none => none | some n => (readNums (qs.drop (m + 1))).map (n :: ·) := by
  rw [List.drop_eq_getElem_cons h, List.getD_eq_getElem?_getD, List.getElem?_eq_getElem h]
  rfl

/-- What was read so far, and what is left. -/
def Sofar (qs : List (List UInt8)) (m : Nat) (acc : List Int) : Prop := readNums qs = (readNums (qs.drop m)).map (acc ++ ·)
theorem Sofar.zero (qs : List (List UInt8)) : Sofar qs 0 [] := by unfold Sofar; simp
theorem Sofar.step {qs : List (List UInt8)} {m : Nat} {acc : List Int} {n : Int} (h : Sofar qs m acc) (hm : m < qs.length) (hn : progNum (qs.getD m []) = some n) : Sofar qs (m + 1) (acc ++ [n]) := by
  unfold Sofar at *
  rw [h, readNums_step qs m hm, hn]
  simp [Function.comp_def]
theorem Sofar.bad {qs : List (List UInt8)} {m : Nat} {acc : List Int} (h : Sofar qs m acc) (hm : m < qs.length) (hn : progNum (qs.getD m []) = none) : readNums qs = none := by
  unfold Sofar at h
  rw [h, readNums_step qs m hm, hn]
  rfl
theorem Sofar.all {qs : List (List UInt8)} {acc : List Int} (h : Sofar qs qs.length acc) : readNums qs = some acc := by
  unfold Sofar at h
  rw [h, List.drop_length]
  simp [readNums]

theorem res6 {W : World} {b : Nat} {x0 x1 x2 x3 x4 x5 a0 a1 a2 a3 a4 a5 : Value} {t : TypeId} (h : W.heap[b]? = some (.cells #[x0, x1, x2, x3, x4, x5] t (0, 0))) :
    (W.setCell ⟨b, 0, none⟩ a0).cell? ⟨b, 0, none⟩ = some a0 ∧ ((W.setCell ⟨b, 0, none⟩ a0).setCell ⟨b, 1, none⟩ a1).cell? ⟨b, 1, none⟩ = some a1 ∧ (((W.setCell ⟨b, 0, none⟩ a0).setCell ⟨b, 1, none⟩ a1).setCell ⟨b, 2, none⟩ a2).cell? ⟨b, 2, none⟩ = some a2 ∧
    ((((W.setCell ⟨b, 0, none⟩ a0).setCell ⟨b, 1, none⟩ a1).setCell ⟨b, 2, none⟩ a2).setCell ⟨b, 3, none⟩ a3).cell? ⟨b, 3, none⟩ = some a3 ∧ (((((W.setCell ⟨b, 0, none⟩ a0).setCell ⟨b, 1, none⟩ a1).setCell ⟨b, 2, none⟩ a2).setCell ⟨b, 3, none⟩ a3).setCell ⟨b, 4, none⟩ a4).cell? ⟨b, 4, none⟩ = some a4 ∧
    ((((((W.setCell ⟨b, 0, none⟩ a0).setCell ⟨b, 1, none⟩ a1).setCell ⟨b, 2, none⟩ a2).setCell ⟨b, 3, none⟩ a3).setCell ⟨b, 4, none⟩ a4).setCell ⟨b, 5, none⟩ a5).cell? ⟨b, 5, none⟩ = some a5 := by
  have s0 : (W.setCell ⟨b, 0, none⟩ a0).heap[b]? = some (.cells #[a0, x1, x2, x3, x4, x5] t (0, 0)) := by rw [block_setCell h]; rfl
  have s1 : ((W.setCell ⟨b, 0, none⟩ a0).setCell ⟨b, 1, none⟩ a1).heap[b]? = some (.cells #[a0, a1, x2, x3, x4, x5] t (0, 0)) := by rw [block_setCell s0]; rfl
  have s2 : (((W.setCell ⟨b, 0, none⟩ a0).setCell ⟨b, 1, none⟩ a1).setCell ⟨b, 2, none⟩ a2).heap[b]? = some (.cells #[a0, a1, a2, x3, x4, x5] t (0, 0)) := by rw [block_setCell s1]; rfl
  have s3 : ((((W.setCell ⟨b, 0, none⟩ a0).setCell ⟨b, 1, none⟩ a1).setCell ⟨b, 2, none⟩ a2).setCell ⟨b, 3, none⟩ a3).heap[b]? = some (.cells #[a0, a1, a2, a3, x4, x5] t (0, 0)) := by rw [block_setCell s2]; rfl
  have s4 : (((((W.setCell ⟨b, 0, none⟩ a0).setCell ⟨b, 1, none⟩ a1).setCell ⟨b, 2, none⟩ a2).setCell ⟨b, 3, none⟩ a3).setCell ⟨b, 4, none⟩ a4).heap[b]? = some (.cells #[a0, a1, a2, a3, a4, x5] t (0, 0)) := by rw [block_setCell s3]; rfl
  have s5 : ((((((W.setCell ⟨b, 0, none⟩ a0).setCell ⟨b, 1, none⟩ a1).setCell ⟨b, 2, none⟩ a2).setCell ⟨b, 3, none⟩ a3).setCell ⟨b, 4, none⟩ a4).setCell ⟨b, 5, none⟩ a5).heap[b]? = some (.cells #[a0, a1, a2, a3, a4, a5] t (0, 0)) := by rw [block_setCell s4]; rfl
  exact ⟨(cell_of s0 0).trans rfl, (cell_of s1 1).trans rfl, (cell_of s2 2).trans rfl, (cell_of s3 3).trans rfl, (cell_of s4 4).trans rfl, (cell_of s5 5).trans rfl⟩
theorem six_below {B b : Nat} {w W : World} {a0 a1 a2 a3 a4 a5 : Value} (h : Below B w W) (hb : B ≤ b) :
    Below B w ((((((W.setCell ⟨b, 0, none⟩ a0).setCell ⟨b, 1, none⟩ a1).setCell ⟨b, 2, none⟩ a2).setCell ⟨b, 3, none⟩ a3).setCell ⟨b, 4, none⟩ a4).setCell ⟨b, 5, none⟩ a5) :=
  (((((h.setCell (p := ⟨b, 0, none⟩) hb _).setCell (p := ⟨b, 1, none⟩) hb _).setCell (p := ⟨b, 2, none⟩) hb _).setCell (p := ⟨b, 3, none⟩) hb _).setCell (p := ⟨b, 4, none⟩) hb _).setCell (p := ⟨b, 5, none⟩) hb _

def LinePost (r : Option En) (w : World) : Ending → World → Prop := fun e w' => e = .returned (.tuple #[.agg #[.int .i64 (r.getD En.zero).k, .int .i64 (r.getD En.zero).o, .int .i64 (r.getD En.zero).p, .int .i64 (r.getD En.zero).a, .int .i64 (r.getD En.zero).l, .int .i64 (r.getD En.zero).u], .bool r.isSome]) ∧ Below w.heap.size w w'

theorem kindE_at (x : ByteArray) : kindE ⟨x.data.toList.toArray⟩ = kindE x := rfl

end Go.Proofs.YtifibhaalepmgaaDoor
