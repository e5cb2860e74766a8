/-
  ReadPolicy: what it reads. Conditions: Go's own variables hold what their initialisers lay.
-/
import Derived.Test.YtifibhaalepmgaaDoorDigW
namespace Go.Proofs.YtifibhaalepmgaaDoor
open Go.RowKit
set_option linter.unusedVariables false

def kindOf (l : List UInt8) : Int := if l = word 1 then 1 else if l = word 2 then 2 else if l = word 3 then 3 else if l = word 4 then 4 else if l = word 5 then 5 else 0
def chkPol (k s m : Int) : Int × Int × Int × Int := if polErr k s m = 0 then (k, s, m, 0) else (0, 0, 0, polErr k s m)
def synPol : Int × Int × Int × Int := (0, 0, 0, 8)
/-- What is read of a policy's parts. -/
def partsPol : List (List UInt8) → Int × Int × Int × Int
  | [a, b] => if 1 ≤ kindOf a ∧ kindOf a ≠ 2 then (match progNum b with | some m => chkPol (kindOf a) 0 m | none => synPol) else synPol
  | [a, b, c] => if kindOf a = 2 then (match progNum b, progNum c with | some s, some m => chkPol 2 s m | _, _ => synPol) else synPol
  | _ => synPol
def readPol (l : List UInt8) : Int × Int × Int × Int := if 200000 < l.length then (0, 0, 0, 4) else partsPol (parts 32 l)

def ReadIs (r : Int × Int × Int × Int) (w : World) : Ending → World → Prop := fun e w' => e = .returned (.tuple #[.agg #[.int .i64 r.1, .int .i64 r.2.1, .int .i64 r.2.2.1], .int .i64 r.2.2.2]) ∧ Below w.heap.size w w'

theorem kindOf_range (l : List UInt8) : 0 ≤ kindOf l ∧ kindOf l ≤ 5 := by
  unfold kindOf
  split
  · omega
  · split
    · omega
    · split
      · omega
      · split
        · omega
        · split <;> omega

def wordsL : List ByteArray := [wordA 1, wordA 2, wordA 3, wordA 4, wordA 5]
theorem bytes_ext {a b : ByteArray} (h : a.data.toList = b.data.toList) : a = b := by
  cases a; cases b; simpa using h
theorem idx_words (x : ByteArray) : Lib.idxOfS wordsL x = kindOf x.data.toList - 1 := by
  have e : ∀ k, (wordA k = x) = (x.data.toList = word k) := fun k => propext ⟨fun h => by rw [← h]; simp [wordA], fun h => bytes_ext (by rw [h]; simp [wordA])⟩
  unfold kindOf wordsL Lib.idxOfS
  simp only [Lib.idxFromS, e]
  by_cases h1 : x.data.toList = word 1
  · simp [h1]
  · by_cases h2 : x.data.toList = word 2
    · simp [h2, word]
    · by_cases h3 : x.data.toList = word 3
      · simp [h3, word]
      · by_cases h4 : x.data.toList = word 4
        · simp [h4, word]
        · by_cases h5 : x.data.toList = word 5
          · simp [h5, word]
          · simp [h1, h2, h3, h4, h5]

/-- A new slice of strings. -/
def NewStrs (xs : List ByteArray) (w : World) : Ending → World → Prop := fun e w' => ∃ B, e = .returned (.slice (some ⟨B, 0, none⟩) xs.length xs.length) ∧ w.heap.size ≤ B ∧ w'.heap[B]? = some (.cells (xs.map Value.string).toArray 9 (0, 0)) ∧ Below w.heap.size w w'
theorem fields_new (w : World) (ht : TabsAt w) : Calls Tryd.prog 26 #[.string { data := #[101, 120, 97, 99, 116, 32, 115, 116, 101, 112, 115, 32, 104, 97, 108, 102, 32, 100, 111, 117, 98, 108, 101, 32, 115, 111, 114, 116, 101, 100] }] w (NewStrs wordsL w) :=
  (fields_any w ht).mono fun e w' ⟨he, hw⟩ => by
    subst hw
    exact ⟨_, he, Nat.le_refl _, heap_alloc_new w _, (Below.refl _ _).alloc (Nat.le_refl _) _⟩
def SplitPost (s : ByteArray) (w : World) : Ending → World → Prop := fun e w' => ∃ ps : List ByteArray, ps.map (·.data.toList) = parts 32 s.data.toList ∧ (∀ p ∈ ps, p.size ≤ s.size) ∧ NewStrs ps w e w'

theorem parts_le (c : UInt8) : ∀ (s : List UInt8) (p : List UInt8), p ∈ parts c s → p.length ≤ s.length
  | [], p, h => by simp [parts] at h; subst h; simp
  | x :: l, p, h => by
    have ih := parts_le c l
    unfold parts at h
    by_cases hx : x = c
    · rw [if_pos hx] at h
      rcases List.mem_cons.1 h with rfl | h
      · simp
      · have := ih p h; simp; omega
    · rw [if_neg hx] at h
      cases hp : parts c l with
      | nil => rw [hp] at h; simp at h; subst h; simp
      | cons a t =>
        rw [hp] at h ih
        rcases List.mem_cons.1 h with rfl | h
        · have := ih a (by simp); simp; omega
        · have := ih p (by simp [h]); simp; omega

theorem split_any (s : ByteArray) (w : World) (hs : s.size ≤ 1000000) (hl : LibAt w) :
    Calls Tryd.prog 36 #[.string s, .string { data := #[32] }] w (SplitPost s w) := by
  obtain ⟨m, hm⟩ := hl.maxl
  refine (Tryd.strings_Split s { data := #[32] } m w (by omega) hm (by decide)).mono fun e w' ⟨he, hw⟩ => ?_
  subst hw
  have e1 : (Lib.splitB { data := #[32] } 0 (Lib.countB s { data := #[32] }) s).map (·.data.toList) = parts 32 s.data.toList := by
    rw [Lib.splitB_data]
    exact split_parts 32 s.data.toList
  have e2 := Lib.splitB_all { data := #[32] } (by decide) 0 _ s rfl
  refine ⟨_, e1, fun p hp => ?_, w.heap.size, by rw [e2]; exact he, Nat.le_refl _, heap_alloc_new w _, (Below.refl _ _).alloc (Nat.le_refl _) _⟩
  have := parts_le 32 s.data.toList p.data.toList (by rw [← e1]; exact List.mem_map.2 ⟨p, hp, rfl⟩)
  have e : ∀ b : ByteArray, b.data.toList.length = b.size := fun b => Array.length_toList
  rwa [e, e] at this

theorem index_words (B : Nat) (x : ByteArray) (w : World) (h : w.heap[B]? = some (.cells (wordsL.map Value.string).toArray 9 (0, 0))) :
    Calls Tryd.prog 37 #[.slice (some ⟨B, 0, none⟩) wordsL.length wordsL.length, .string x] w (fun e w' => e = .returned (.int .i64 (kindOf x.data.toList - 1)) ∧ w = w') :=
  (Tryd.slices_Index_string B 0 wordsL.length wordsL.length wordsL x w (by decide) (by decide) (fun j hj => by
    rw [Nat.zero_add, cell_of h]
    match j, hj with
    | 0, _ => rfl
    | 1, _ => rfl
    | 2, _ => rfl
    | 3, _ => rfl
    | 4, _ => rfl)).mono fun e w' ⟨he, hw⟩ => ⟨by rw [he, ← idx_words]; rfl, hw.symm⟩

end Go.Proofs.YtifibhaalepmgaaDoor
