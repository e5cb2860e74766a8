/-
  A text cut at a byte, plainly. No program.
  The readers of a number: number and Digits. Conditions: Go's own variables hold what their initialisers lay.
  The reference's reader of a number: Digits. Conditions: Go's own variables hold what their initialisers lay.
  ReadPolicy: what it reads. Conditions: Go's own variables hold what their initialisers lay.
  What PolicyText writes ReadPolicy reads, plainly. No program.
-/
import Derived.Test.YtljjndifmfhffaaGreatDoorRows
import Derived.Lib.SplitLaws
import Derived.Test.YtljjndifmfhffaaGreatDoorLedgerChecksPbr
import Derived.Shelf.Strings.SlTrimAscii

namespace Go.Proofs.YtljjndifmfhffaaGreatDoor
section
open Go Go.Lib

def parts (c : UInt8) : List UInt8 → List (List UInt8)
  | [] => [[]]
  | x :: l => if x = c then [] :: parts c l else match parts c l with
    | [] => [[x]]
    | h :: t => (x :: h) :: t

theorem split_parts (c : UInt8) : ∀ s : List UInt8, splitK [c] 0 (count s [c]) s = parts c s
  | [] => by rw [count_miss (by simp [index])]; rfl
  | x :: l => by
    by_cases h : x = c
    · subst h
      have hix : index (x :: l) [x] = ((0 : Nat) : Int) := by rw [index]; simp [List.isPrefixOf]
      rw [count_cons_eq, Nat.add_comm, splitK, hix]
      simp only [parts, if_true]
      rw [← split_parts x l]
      simp
    · have hp : ([c] : List UInt8).isPrefixOf (x :: l) = false := by simp [List.isPrefixOf, Ne.symm h]
      have hix : index (x :: l) [c] = if index l [c] == -1 then -1 else index l [c] + 1 := by rw [index, hp]; simp
      have ih := split_parts c l
      rw [count_cons_ne x c l h]
      simp only [parts, if_neg h]
      rw [← ih]
      by_cases hm : index l [c] = -1
      · rw [count_miss hm]; rfl
      · have hge := index_ge l [c]
        obtain ⟨j, hj⟩ : ∃ j : Nat, index l [c] = j := ⟨(index l [c]).toNat, by omega⟩
        rw [count_hit (by simp) hj, Nat.add_comm 1]
        have e1 : ¬ ((index l [c] == -1) = true) := fun e => hm (beq_iff_eq.1 e)
        have e2 : index (x :: l) [c] = ((j + 1 : Nat) : Int) := by rw [hix, if_neg e1, hj]; omega
        have e3 : ¬ ((((j + 1 : Nat) : Int) == -1) = true) := fun e => by have := beq_iff_eq.1 e; omega
        rw [splitK, splitK, if_neg e1, e2, if_neg e3, hj]
        simp

theorem parts_ne (c : UInt8) (s : List UInt8) : parts c s ≠ [] := by
  cases s with
  | nil => simp [parts]
  | cons x l =>
    unfold parts
    by_cases h : x = c
    · rw [if_pos h]; simp
    · rw [if_neg h]
      cases parts c l <;> simp
theorem parts_one (c : UInt8) : ∀ a : List UInt8, c ∉ a → parts c a = [a]
  | [], _ => rfl
  | x :: a, h => by
    have hx : x ≠ c := fun e => h (by simp [e])
    unfold parts
    rw [if_neg hx, parts_one c a (fun e => h (by simp [e]))]
theorem parts_cut (c : UInt8) (r : List UInt8) : ∀ a : List UInt8, c ∉ a → parts c (a ++ c :: r) = a :: parts c r
  | [], _ => by simp [parts]
  | x :: a, h => by
    have hx : x ≠ c := fun e => h (by simp [e])
    rw [List.cons_append]
    simp only [parts, if_neg hx]
    rw [parts_cut c r a (fun e => h (by simp [e]))]

end
end Go.Proofs.YtljjndifmfhffaaGreatDoor

namespace Go.Proofs.YtljjndifmfhffaaGreatDoor
section
open Go.RowKit
set_option linter.unusedVariables false

theorem var_below {n : String} {cs : Array Value} {w w' : World} (h : w.var? Tryz.prog n = some cs) (hb : Below w.heap.size w w') : w'.var? Tryz.prog n = some cs := by
  cases hg : Tryz.prog.globalNamed n with
  | none => unfold World.var? at h; rw [hg] at h; cases h
  | some g =>
    have hlt : g < w.heap.size := by
      unfold World.var? at h
      rw [hg] at h
      simp only [Option.bind_some] at h
      rcases Nat.lt_or_ge g w.heap.size with x | x
      · exact x
      · rw [Array.getElem?_eq_none x] at h; cases h
    exact var?_below hb hg hlt h
def BadPost (w : World) : Ending → World → Prop := fun e w' => ∃ n t p, e = .returned (.tuple #[.int .i64 n, .iface t (.pointer (some p))]) ∧ Below w.heap.size w w'
theorem trimPrefix_D (s : List UInt8) : Lib.trimPrefix s [45] = trimD s := by
  cases s with
  | nil => rfl
  | cons c r =>
    unfold Lib.trimPrefix Lib.hasPrefix trimD
    by_cases h : c = 45
    · subst h; simp [List.isPrefixOf]
    · simp [List.isPrefixOf, h, Ne.symm h]

def trimA (s : ByteArray) : ByteArray := ⟨(trimD s.data.toList).toArray⟩
theorem trimA_size (s : ByteArray) : (trimA s).size = (trimD s.data.toList).length := by simp [trimA, ByteArray.size]
theorem str_ne {x s : ByteArray} (h : x.data.toList ≠ s.data.toList) : (x.toList == s.toList) = false := by
  rw [ByteArray.toList_eq, ByteArray.toList_eq]
  simpa using h
theorem str_eq {x s : ByteArray} (h : x.data.toList = s.data.toList) : (x.toList == s.toList) = true := by
  rw [ByteArray.toList_eq, ByteArray.toList_eq]
  simpa using h

/-- A number read, or not. -/
def NumPost (s : ByteArray) (w : World) : Ending → World → Prop := fun e w' => ∃ n : Int, e = .returned (.tuple #[.int .i64 n, .bool (progNum s.data.toList).isSome]) ∧ (∀ v, progNum s.data.toList = some v → n = v) ∧ Below w.heap.size w w'

end
end Go.Proofs.YtljjndifmfhffaaGreatDoor

namespace Go.Proofs.YtljjndifmfhffaaGreatDoor
section
open Go.RowKit
set_option linter.unusedVariables false

theorem trimD_le (s : List UInt8) : (trimD s).length ≤ s.length := by
  unfold trimD
  cases s with
  | nil => simp
  | cons c r => by_cases hc : c = 45 <;> simp [hc]
theorem num_none {s : List UInt8} (h : refBad s) : progNum s = none := by
  cases hx : progNum s with
  | none => rfl
  | some n =>
    exfalso
    unfold progNum at hx
    cases ha : Lib.atoiAll s with
    | ok v =>
      rw [ha] at hx
      simp only at hx
      by_cases hc : Lib.itoa v = s ∧ (trimD s).length ≤ 9
      · have := itoa_fine v (by rw [hc.1]; exact hc.2)
        rw [hc.1] at this
        exact this h
      · rw [if_neg hc] at hx; cases hx
    | range => rw [ha] at hx; cases hx
    | _ => rw [ha] at hx; cases hx
theorem num_fine {s : List UInt8} (h : ¬ refBad s) : (∀ v, Lib.atoiAll s = .ok v → progNum s = some v) ∧ ((∀ v, Lib.atoiAll s ≠ .ok v) → progNum s = none) := by
  have h2 : (trimD s).length ≤ 9 := by
    by_cases x : (trimD s).length ≤ 9
    · exact x
    · exact absurd (Or.inr (Or.inl (by omega))) h
  refine ⟨fun v hv => ?_, fun hv => ?_⟩
  · unfold progNum
    rw [hv]
    simp [fine_itoa h hv, h2]
  · unfold progNum
    cases ha : Lib.atoiAll s with
    | ok v => exact absurd ha (hv v)
    | range => rfl
    | _ => rfl

def digs : ByteArray := { data := #[48, 49, 50, 51, 52, 53, 54, 55, 56, 57] }
theorem digs_has (c : UInt8) : digs.data.toList.contains c = digitB c := by
  have h : ∀ n : Fin 256, digs.data.toList.contains (UInt8.ofNat n.val) = digitB (UInt8.ofNat n.val) := by decide +kernel
  have := h ⟨c.toNat, c.toNat_lt⟩
  simpa using this
theorem dropWhile_nil {p : UInt8 → Bool} : ∀ {l : List UInt8}, l.dropWhile p = [] ↔ l.all p = true
  | [] => by simp
  | x :: l => by
    rw [List.dropWhile_cons]
    by_cases h : p x = true
    · rw [if_pos h, dropWhile_nil, List.all_cons, h, Bool.true_and]
    · rw [if_neg h]; simp [h]
theorem dropWhile_head {p : UInt8 → Bool} : ∀ {l : List UInt8} {x : UInt8} {r : List UInt8}, l.dropWhile p = x :: r → p x = false
  | [], _, _, h => by simp at h
  | y :: l, x, r, h => by
    rw [List.dropWhile_cons] at h
    by_cases hy : p y = true
    · rw [if_pos hy] at h; exact dropWhile_head h
    · rw [if_neg hy] at h
      simp only [List.cons.injEq] at h
      rw [← h.1]; simpa using hy
theorem trimS_nil (l : List UInt8) : Lib.trimS l digs.data.toList = [] ↔ l.all digitB = true := by
  have e : (fun c => digs.data.toList.contains c) = digitB := funext digs_has
  unfold Lib.trimS Lib.trimLeftS Lib.trimRightS
  rw [show (digs.data.toList.contains ·) = digitB from e]
  constructor
  · intro h
    have h1 := dropWhile_nil.1 h
    cases hx : l.reverse.dropWhile digitB with
    | nil =>
      have := dropWhile_nil.1 hx
      simpa using this
    | cons x r =>
      have h2 := dropWhile_head hx
      rw [hx] at h1
      simp [h2] at h1
  · intro h
    have : l.reverse.dropWhile digitB = [] := dropWhile_nil.2 (by simpa using h)
    rw [this]
    rfl

def digA (s : ByteArray) : ByteArray := ⟨(Lib.trimS s.data.toList digs.data.toList).toArray⟩
/-- What Atoi gives, with the number that is read. -/
def AtoPost (s : ByteArray) (w : World) : Ending → World → Prop := fun e w' => ∃ n ev, e = .returned (.tuple #[.int .i64 n, ev]) ∧ ((∃ v, n = v ∧ ev = .nilIface ∧ progNum s.data.toList = some v) ∨ (∃ t q, ev = .iface t (.pointer (some q)) ∧ progNum s.data.toList = none)) ∧ Below w.heap.size w w'
theorem num_bad (s : ByteArray) (w : World) (h : refBad s.data.toList) (w' : World) (hb : Below w.heap.size w w') : NumPost s w (.returned (.tuple #[.int .i64 0, .bool false])) w' := by
  have e := num_none h
  exact ⟨0, by rw [e]; rfl, (fun v hv => by rw [e] at hv; cases hv), hb⟩

end
end Go.Proofs.YtljjndifmfhffaaGreatDoor

namespace Go.Proofs.YtljjndifmfhffaaGreatDoor
section
open Go.RowKit
set_option linter.unusedVariables false

def kindOf (l : List UInt8) : Int := if l = word 1 then 1 else if l = word 2 then 2 else if l = word 3 then 3 else if l = word 4 then 4 else if l = word 5 then 5 else 0
def chkPol (k s m : Int) : Int × Int × Int × Int := if polErr k s m = 0 then (k, s, m, 0) else (0, 0, 0, polErr k s m)
def synPol : Int × Int × Int × Int := (0, 0, 0, 8)
/-- What is read of a policy's parts. -/
def partsPol : List (List UInt8) → Int × Int × Int × Int
  | [a, b] => if 1 ≤ kindOf a ∧ kindOf a ≠ 2 then (match progNum b with | some m => chkPol (kindOf a) 0 m | none => synPol) else synPol
  | [a, b, c] => if kindOf a = 2 then (match progNum b, progNum c with | some s, some m => chkPol 2 s m | _, _ => synPol) else synPol
  | _ => synPol
def readPol (l : List UInt8) : Int × Int × Int × Int := if 200000 < l.length then (0, 0, 0, 4) else partsPol (parts 32 l)

def ReadIs (r : Int × Int × Int × Int) (w : World) : Ending → World → Prop := fun e w' => e = .returned (.tuple #[.agg #[.int .i64 r.1, .int .i64 r.2.1, .int .i64 r.2.2.1], .int .i64 r.2.2.2]) ∧ Below w.heap.size w w'

theorem kindOf_range (l : List UInt8) : 0 ≤ kindOf l ∧ kindOf l ≤ 5 := by
  unfold kindOf
  split
  · omega
  · split
    · omega
    · split
      · omega
      · split
        · omega
        · split <;> omega

def wordsL : List ByteArray := [wordA 1, wordA 2, wordA 3, wordA 4, wordA 5]
theorem bytes_ext {a b : ByteArray} (h : a.data.toList = b.data.toList) : a = b := by
  cases a; cases b; simpa using h
theorem idx_words (x : ByteArray) : Lib.idxOfS wordsL x = kindOf x.data.toList - 1 := by
  have e : ∀ k, (wordA k = x) = (x.data.toList = word k) := fun k => propext ⟨fun h => by rw [← h]; simp [wordA], fun h => bytes_ext (by rw [h]; simp [wordA])⟩
  unfold kindOf wordsL Lib.idxOfS
  simp only [Lib.idxFromS, e]
  by_cases h1 : x.data.toList = word 1
  · simp [h1]
  · by_cases h2 : x.data.toList = word 2
    · simp [h2, word]
    · by_cases h3 : x.data.toList = word 3
      · simp [h3, word]
      · by_cases h4 : x.data.toList = word 4
        · simp [h4, word]
        · by_cases h5 : x.data.toList = word 5
          · simp [h5, word]
          · simp [h1, h2, h3, h4, h5]

/-- A new slice of strings. -/
def NewStrs (xs : List ByteArray) (w : World) : Ending → World → Prop := fun e w' => ∃ B, e = .returned (.slice (some ⟨B, 0, none⟩) xs.length xs.length) ∧ w.heap.size ≤ B ∧ w'.heap[B]? = some (.cells (xs.map Value.string).toArray 9 (0, 0)) ∧ Below w.heap.size w w'
theorem fields_new (w : World) (ht : TabsAt w) : Calls Tryz.prog 17 #[.string { data := #[101, 120, 97, 99, 116, 32, 115, 116, 101, 112, 115, 32, 104, 97, 108, 102, 32, 100, 111, 117, 98, 108, 101, 32, 115, 111, 114, 116, 101, 100] }] w (NewStrs wordsL w) :=
  (fields_any w ht).mono fun e w' ⟨he, hw⟩ => by
    subst hw
    exact ⟨_, he, Nat.le_refl _, heap_alloc_new w _, (Below.refl _ _).alloc (Nat.le_refl _) _⟩
def SplitPost (s : ByteArray) (w : World) : Ending → World → Prop := fun e w' => ∃ ps : List ByteArray, ps.map (·.data.toList) = parts 32 s.data.toList ∧ (∀ p ∈ ps, p.size ≤ s.size) ∧ NewStrs ps w e w'

theorem parts_le (c : UInt8) : ∀ (s : List UInt8) (p : List UInt8), p ∈ parts c s → p.length ≤ s.length
  | [], p, h => by simp [parts] at h; subst h; simp
  | x :: l, p, h => by
    have ih := parts_le c l
    unfold parts at h
    by_cases hx : x = c
    · rw [if_pos hx] at h
      rcases List.mem_cons.1 h with rfl | h
      · simp
      · have := ih p h; simp; omega
    · rw [if_neg hx] at h
      cases hp : parts c l with
      | nil => rw [hp] at h; simp at h; subst h; simp
      | cons a t =>
        rw [hp] at h ih
        rcases List.mem_cons.1 h with rfl | h
        · have := ih a (by simp); simp; omega
        · have := ih p (by simp [h]); simp; omega

end
end Go.Proofs.YtljjndifmfhffaaGreatDoor

namespace Go.Proofs.YtljjndifmfhffaaGreatDoor
section
open Go Go.Lib

theorem nDigits_le : ∀ (n u : Nat), u < 10 ^ (n + 1) → nDigits u ≤ n + 1
  | 0, u, h => by rw [nDigits_small (by simpa using h)]; omega
  | n + 1, u, h => by
    by_cases h1 : u < 10
    · rw [nDigits_small h1]; omega
    · rw [nDigits_big h1]
      have := nDigits_le n (u / 10) (by rw [Nat.pow_succ] at h; omega)
      omega
theorem small_itoa (n : Int) (h0 : 0 ≤ n) (h1 : n ≤ 100000) : (trimD (itoa n)).length ≤ 9 := by
  have e : itoa n = decDigits n.toNat := by unfold itoa; rw [if_neg (by omega)]
  rw [e, trimD_digits (decDigits_all _), decDigits_length]
  have := nDigits_le 5 n.toNat (by have : (10 : Nat) ^ 6 = 1000000 := rfl; omega)
  omega
theorem itoa_no_blank (n : Int) (h0 : 0 ≤ n) : (32 : UInt8) ∉ itoa n := by
  have e : itoa n = decDigits n.toNat := by unfold itoa; rw [if_neg (by omega)]
  rw [e]
  intro h
  have := List.all_eq_true.1 (decDigits_all n.toNat) 32 h
  simp [digitB] at this
theorem itoa_small_len (n : Int) (h0 : 0 ≤ n) (h1 : n ≤ 100000) : (itoa n).length ≤ 9 := by
  have e : itoa n = decDigits n.toNat := by unfold itoa; rw [if_neg (by omega)]
  have := small_itoa n h0 h1
  rw [e] at this ⊢
  rwa [trimD_digits (decDigits_all _)] at this
theorem word_no_blank (k : Int) : (32 : UInt8) ∉ word k := by
  unfold word
  split
  · decide
  · split
    · decide
    · split
      · decide
      · split <;> decide
theorem word_len (k : Int) : (word k).length ≤ 6 := by
  unfold word
  split
  · decide
  · split
    · decide
    · split
      · decide
      · split <;> decide
theorem kindOf_word (k : Int) (h : 1 ≤ k ∧ k ≤ 5) : kindOf (word k) = k := by
  rcases (show k = 1 ∨ k = 2 ∨ k = 3 ∨ k = 4 ∨ k = 5 by omega) with rfl | rfl | rfl | rfl | rfl <;> decide

theorem readPol_text (k s m : Int) (h : polErr k s m = 0) : readPol (polText k s m) = (k, s, m, 0) := by
  have h0 := h
  unfold polErr at h
  by_cases hk : 1 ≤ k ∧ k ≤ 5
  case neg => rw [if_neg hk] at h; omega
  rw [if_pos hk] at h
  by_cases hc : (k = 2 → 1 ≤ s ∧ s ≤ 100000) ∧ (¬ k = 2 → s = 0) ∧ (0 ≤ m ∧ m ≤ 100000)
  case neg => rw [if_neg hc] at h; omega
  obtain ⟨c1, c2, c3, c4⟩ := hc
  have lm := itoa_small_len m c3 c4
  have lw := word_len k
  have pm := progNum_itoa m (small_itoa m c3 c4)
  by_cases hk2 : k = 2
  · have hs := c1 hk2
    have ls := itoa_small_len s (by omega) hs.2
    have ps := progNum_itoa s (small_itoa s (by omega) hs.2)
    have e : polText k s m = word k ++ 32 :: (itoa s ++ 32 :: itoa m) := by
      unfold polText; rw [if_pos h0, if_pos hk2]; simp
    unfold readPol
    rw [e, if_neg (by simp only [List.length_append, List.length_cons]; omega), parts_cut 32 _ _ (word_no_blank k), parts_cut 32 _ _ (itoa_no_blank s (by omega)), parts_one 32 _ (itoa_no_blank m c3)]
    show (if kindOf (word k) = 2 then (match progNum (itoa s), progNum (itoa m) with | some s, some m => chkPol 2 s m | _, _ => synPol) else synPol) = _
    rw [if_pos (by rw [kindOf_word k hk]; exact hk2), ps, pm]
    show chkPol 2 s m = _
    unfold chkPol
    rw [hk2] at h0
    rw [if_pos h0, hk2]
  · have hs := c2 hk2
    have e : polText k s m = word k ++ 32 :: itoa m := by
      unfold polText; rw [if_pos h0, if_neg hk2]; simp
    unfold readPol
    rw [e, if_neg (by simp only [List.length_append, List.length_cons]; omega), parts_cut 32 _ _ (word_no_blank k), parts_one 32 _ (itoa_no_blank m c3)]
    show (if 1 ≤ kindOf (word k) ∧ kindOf (word k) ≠ 2 then (match progNum (itoa m) with | some m => chkPol (kindOf (word k)) 0 m | none => synPol) else synPol) = _
    rw [kindOf_word k hk, if_pos ⟨hk.1, hk2⟩, pm]
    show chkPol k 0 m = _
    unfold chkPol
    rw [hs] at h0
    rw [if_pos h0, hs]

end
end Go.Proofs.YtljjndifmfhffaaGreatDoor
