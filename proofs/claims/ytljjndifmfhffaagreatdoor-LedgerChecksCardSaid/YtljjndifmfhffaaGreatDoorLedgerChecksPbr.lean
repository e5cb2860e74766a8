/-
  The error of a policy: CheckPolicy, PolicyFault and PolicyError are one function. No conditions.
  PolicyText and PolicyString: the text of a policy. Conditions: Go's own tables, and the reference's words, hold what their initialisers lay.
  Decimal numerals, plainly: what the program's reader of a number takes is what the reference's takes. No program.
-/
import Derived.Test.YtljjndifmfhffaaGreatDoorLedgerChecksPaa
import Derived.Test.YtljjndifmfhffaaGreatDoorLedgerChecksPaz
import Derived.Test.YtljjndifmfhffaaGreatDoorLedgerChecksPal
import Derived.Lib.AppendIntMem
import Derived.Lib.ItoaLen
import Derived.WalkSmall
import Derived.Test.YtljjndifmfhffaaGreatDoorRows
import Derived.Lib.AtoiTie
import Derived.Lib.ItoaNum

namespace Go.Proofs.YtljjndifmfhffaaGreatDoor
section
open Go.RowKit

/-- The error of a policy. -/
def polErr (k s m : Int) : Int :=
  if 1 ≤ k ∧ k ≤ 5 then (if (k = 2 → 1 ≤ s ∧ s ≤ 100000) ∧ (¬ k = 2 → s = 0) ∧ (0 ≤ m ∧ m ≤ 100000) then 0 else 2) else 10

theorem polErr_kind {k s m : Int} (h : ¬ (1 ≤ k ∧ k ≤ 5)) : polErr k s m = 10 := by unfold polErr; rw [if_neg h]
theorem polErr_bad {k s m : Int} (h : 1 ≤ k ∧ k ≤ 5) (h2 : ¬ ((k = 2 → 1 ≤ s ∧ s ≤ 100000) ∧ (¬ k = 2 → s = 0) ∧ (0 ≤ m ∧ m ≤ 100000))) : polErr k s m = 2 := by
  unfold polErr; rw [if_pos h, if_neg h2]
theorem polErr_ok {k s m : Int} (h : 1 ≤ k ∧ k ≤ 5) (h2 : (k = 2 → 1 ≤ s ∧ s ≤ 100000) ∧ (¬ k = 2 → s = 0) ∧ (0 ≤ m ∧ m ≤ 100000)) : polErr k s m = 0 := by
  unfold polErr; rw [if_pos h, if_pos h2]

def polV (k s m : Int) : Value := .agg #[.int .i64 k, .int .i64 s, .int .i64 m]
def ErrPost (err : Int) (w w2 : World) : Ending → World → Prop := fun e w' => e = .returned (.int .i64 err) ∧ w2 = w' ∧ w = w

end
end Go.Proofs.YtljjndifmfhffaaGreatDoor

namespace Go.Proofs.YtljjndifmfhffaaGreatDoor
section
open Go.RowKit
set_option linter.unusedVariables false

/-- Go's own tables that are read here. -/
def TabsAt (w : World) : Prop := Lib.TabIs Tryz.prog w "internal/strconv.uint64pow10" .u64 Lib.pow10Tab ∧ Lib.TabIs Tryz.prog w "strings.asciiSpace" .u8 Lib.asciiSpaceTab
theorem TabIs_below {n : String} {k : IntKind} {zs : List Int} {w w' : World} {B : Nat} (h : Lib.TabIs Tryz.prog w n k zs) (hb : Below B w w') (hB : B = w.heap.size) : Lib.TabIs Tryz.prog w' n k zs := by
  subst hB
  unfold Lib.TabIs at *
  cases hg : Tryz.prog.globalNamed n with
  | none => unfold World.var? at h; rw [hg] at h; cases h
  | some g =>
    have hlt : g < w.heap.size := by
      unfold World.var? at h
      rw [hg] at h
      simp only [Option.bind_some] at h
      rcases Nat.lt_or_ge g w.heap.size with x | x
      · exact x
      · rw [Array.getElem?_eq_none x] at h; cases h
    exact var?_below hb hg hlt h
theorem TabsAt.below {w w' : World} (h : TabsAt w) (hb : Below w.heap.size w w') : TabsAt w' := ⟨TabIs_below h.1 hb rfl, TabIs_below h.2 hb rfl⟩

/-- The kinds' words. -/
def word (k : Int) : List UInt8 := if k = 1 then [101, 120, 97, 99, 116] else if k = 2 then [115, 116, 101, 112, 115] else if k = 3 then [104, 97, 108, 102] else if k = 4 then [100, 111, 117, 98, 108, 101] else [115, 111, 114, 116, 101, 100]
def wordA (k : Int) : ByteArray := ⟨(word k).toArray⟩
theorem itoa_any (n : Int) (w : World) (h0 : -9223372036854775808 ≤ n) (h1 : n ≤ 9223372036854775807) (ht : TabsAt w) :
    Calls Tryz.prog 19 #[.int .i64 n] w (fun e w' => ∃ x : ByteArray, e = .returned (.string x) ∧ x.data.toList = Lib.itoa n ∧ x.size ≤ 21 ∧ Below w.heap.size w w') :=
  (Tryz.strconv_Itoa n h0 h1 w ht.1).mono fun e w' ⟨he, k, os, hw⟩ => ⟨_, he, by simp, by have := Lib.itoa_length_le n h0 h1; simpa [ByteArray.size] using this, by subst hw; exact Lib.below_grow _ _ (Nat.le_refl _) _ _⟩
theorem wordA_size (k : Int) : (wordA k).size ≤ 6 := by
  unfold wordA word
  split
  · decide
  · split
    · decide
    · split
      · decide
      · split <;> decide

def wordsB : ByteArray := { data := #[101, 120, 97, 99, 116, 32, 115, 116, 101, 112, 115, 32, 104, 97, 108, 102, 32, 100, 111, 117, 98, 108, 101, 32, 115, 111, 114, 116, 101, 100] }

theorem words_fields : Lib.fields wordsB.data.toList = [word 1, word 2, word 3, word 4, word 5] := by kernel_rfl

theorem fields_any (w : World) (ht : TabsAt w) :
    Calls Tryz.prog 17 #[.string wordsB] w (fun e w' => e = .returned (.slice (some ⟨w.heap.size, 0, none⟩) 5 5) ∧ w' = w.alloc (.cells #[.string (wordA 1), .string (wordA 2), .string (wordA 3), .string (wordA 4), .string (wordA 5)] 9)) := by
  have h := Tryz.strings_Fields_laid wordsB w (by decide) (fun _ b hb => of_decide_eq_true (List.all_eq_true.1 (show (wordsB.data.toList.all fun b => decide (b.toNat < 128)) = true by decide) b (List.mem_of_getElem? hb))) ht.2
  rw [words_fields] at h
  exact h

/-- The text of a policy; empty where it is none. -/
def polText (k s m : Int) : List UInt8 := if polErr k s m = 0 then word k ++ (if k = 2 then 32 :: Lib.itoa s else []) ++ 32 :: Lib.itoa m else []
def TextPost (k s m : Int) (w : World) : Ending → World → Prop := fun e w' => ∃ x : ByteArray, e = .returned (.tuple #[.string x, .int .i64 (polErr k s m)]) ∧ x.data.toList = polText k s m ∧ Below w.heap.size w w'

theorem box_keep {w w' : World} {o : Obj} (hb : Below (w.heap.size + 1) (w.alloc o) w') : w'.heap[w.heap.size]? = some o :=
  (hb.block w.heap.size (by simp)).trans (heap_alloc_new w o)

end
end Go.Proofs.YtljjndifmfhffaaGreatDoor

namespace Go.Proofs.YtljjndifmfhffaaGreatDoor
section
open Go Go.Lib

theorem digitVal_some {c : UInt8} {d : Nat} (h : digitVal c = some d) : c = UInt8.ofNat (48 + d) ∧ d < 10 := by
  obtain ⟨h1, h2, h3⟩ := digitVal_eq h
  constructor
  · apply UInt8.toNat_inj.1
    rw [UInt8.toNat_ofNat']
    omega
  · omega
theorem digitVal_of {d : Nat} (h : d < 10) : digitVal (UInt8.ofNat (48 + d)) = some d := by
  have : ∀ d : Fin 10, digitVal (UInt8.ofNat (48 + d.val)) = some d.val := by decide
  exact this ⟨d, h⟩

theorem decFrom_snoc (l : List UInt8) (c : UInt8) : ∀ a, decFrom a (l ++ [c]) = (decFrom a l).bind fun n => (digitVal c).map fun d => n * 10 + d := by
  induction l with
  | nil => intro a; simp only [List.nil_append, decFrom]; cases digitVal c <;> rfl
  | cons b l ih =>
    intro a
    simp only [List.cons_append, decFrom]
    cases digitVal b with
    | none => rfl
    | some d => exact ih _

theorem decFrom_decDigits (u : Nat) : decFrom 0 (decDigits u) = some u := by
  induction u using Nat.strongRecOn with
  | _ u ih =>
    rw [decDigits]
    by_cases h : u < 10
    · rw [dif_pos h]
      simp only [decFrom, digitVal_of h, Nat.zero_mul, Nat.zero_add]
    · rw [dif_neg h, decFrom_snoc, ih (u / 10) (by omega), digitVal_of (by omega)]
      simp
      omega
theorem decDigits_ne (u : Nat) : decDigits u ≠ [] := by
  rw [decDigits]
  by_cases h : u < 10
  · rw [dif_pos h]; simp
  · rw [dif_neg h]; simp
theorem decNat_decDigits (u : Nat) : decNat (decDigits u) = some u := by
  unfold decNat
  rw [if_neg (by simpa using decDigits_ne u)]
  exact decFrom_decDigits u

/-- Digits, at least one, no 0 ahead of others. -/
def canon (l : List UInt8) : Prop := ∃ u, decNat l = some u ∧ (1 < l.length → l.head? ≠ some 48)

theorem canon_digits : ∀ (n : Nat) (l : List UInt8) (u : Nat), l.length = n → decNat l = some u → (1 < l.length → l.head? ≠ some 48) → l = decDigits u := by
  intro n
  induction n with
  | zero =>
    intro l u hl h _
    have : l = [] := List.eq_nil_of_length_eq_zero hl
    subst this
    simp [decNat] at h
  | succ n ih =>
    intro l u hl h hh
    obtain ⟨l', c, rfl⟩ : ∃ l' c, l = l' ++ [c] := ⟨l.dropLast, l.getLast (by intro e; subst e; simp at hl), (List.dropLast_concat_getLast _).symm⟩
    have hl' : l'.length = n := by simpa using hl
    unfold decNat at h
    rw [if_neg (by simp), decFrom_snoc] at h
    cases hv : decFrom 0 l' with
    | none => rw [hv] at h; cases h
    | some v =>
      rw [hv] at h
      simp only [Option.bind_some] at h
      cases hd : digitVal c with
      | none => rw [hd] at h; cases h
      | some d =>
        rw [hd] at h
        simp only [Option.map_some, Option.some.injEq] at h
        obtain ⟨hc, hd10⟩ := digitVal_some hd
        by_cases h0 : l' = []
        · subst h0
          simp only [decFrom, Option.some.injEq] at hv
          subst hv
          rw [← h, decDigits, dif_pos (by omega), hc]
          simp
        · have hpos : 0 < l'.length := List.length_pos_iff.2 h0
          have hhd : l'.head? ≠ some 48 := by
            have := hh (by simp; omega)
            cases l' with
            | nil => exact absurd rfl h0
            | cons b t => simpa using this
          have hlv := ih l' v hl' (by unfold decNat; rw [if_neg (by simpa using h0)]; exact hv) (fun _ => hhd)
          have hv1 : v ≠ 0 := by
            intro e
            subst e
            rw [decDigits, dif_pos (by omega)] at hlv
            rw [hlv] at hhd
            exact hhd rfl
          rw [← h, decDigits, dif_neg (by omega), show (v * 10 + d) / 10 = v by omega, show (v * 10 + d) % 10 = d by omega, ← hlv, hc]

theorem decDigits_head (u : Nat) (h : 1 < (decDigits u).length) : (decDigits u).head? ≠ some 48 := by
  induction u using Nat.strongRecOn with
  | _ u ih =>
    rw [decDigits] at h ⊢
    by_cases h1 : u < 10
    · rw [dif_pos h1] at h; simp at h
    · rw [dif_neg h1] at h ⊢
      have hne := decDigits_ne (u / 10)
      have e : (decDigits (u / 10) ++ [UInt8.ofNat (48 + u % 10)]).head? = (decDigits (u / 10)).head? := by
        cases hx : decDigits (u / 10) with
        | nil => exact absurd hx hne
        | cons a t => rfl
      rw [e]
      by_cases h2 : 1 < (decDigits (u / 10)).length
      · exact ih (u / 10) (by omega) h2
      · intro hc
        by_cases h3 : u / 10 < 10
        · rw [decDigits, dif_pos h3] at hc
          simp only [List.head?_cons, Option.some.injEq] at hc
          have hall : ∀ d : Fin 10, UInt8.ofNat (48 + d.val) = 48 → d.val = 0 := by decide
          have := hall ⟨u / 10, h3⟩ hc
          simp at this
          omega
        · rw [decDigits, dif_neg h3] at h2
          have := List.length_pos_iff.2 (decDigits_ne (u / 10 / 10))
          rw [List.length_append, List.length_singleton] at h2
          omega

def trimD (s : List UInt8) : List UInt8 := match s with | c :: r => if c = 45 then r else c :: r | [] => []

/-- The program's reader: strconv's, and the numeral has to be that of strconv. -/
def progNum (s : List UInt8) : Option Int := match atoiAll s with
  | .ok n => if itoa n = s ∧ (trimD s).length ≤ 9 then some n else none
  | _ => none
def digitB (c : UInt8) : Bool := 48 ≤ c.toNat && c.toNat ≤ 57
/-- The reference's reader. -/
def refBad (s : List UInt8) : Prop := trimD s = [] ∨ 9 < (trimD s).length ∨ ¬ (trimD s).all digitB = true ∨ (1 < (trimD s).length ∧ (trimD s).head? = some 48) ∨ (trimD s = [48] ∧ s ≠ [48])

theorem decFrom_all : ∀ (l : List UInt8) (a : Nat), (∃ u, decFrom a l = some u) ↔ l.all digitB = true
  | [], a => by simp [decFrom]
  | c :: l, a => by
    simp only [decFrom, List.all_cons, Bool.and_eq_true]
    cases h : digitVal c with
    | none =>
      have : digitB c = false := by
        unfold digitVal at h
        unfold digitB
        by_cases hc : 48 ≤ c.toNat ∧ c.toNat ≤ 57
        · rw [if_pos hc] at h; cases h
        · rw [Bool.and_eq_false_iff, decide_eq_false_iff_not, decide_eq_false_iff_not]
          omega
      simp [this]
    | some d =>
      obtain ⟨hc, hd⟩ := digitVal_some h
      have : digitB c = true := by
        have hall : ∀ d : Fin 10, digitB (UInt8.ofNat (48 + d.val)) = true := by decide
        rw [hc]; exact hall ⟨d, hd⟩
      simp only [this, true_and]
      exact decFrom_all l _
theorem decNat_all (l : List UInt8) : (∃ u, decNat l = some u) ↔ l ≠ [] ∧ l.all digitB = true := by
  unfold decNat
  by_cases h : l = []
  · subst h; simp
  · rw [if_neg (by simpa using h)]
    simp only [h, not_false_eq_true, true_and, ne_eq]
    exact decFrom_all l 0

theorem decDigits_all (u : Nat) : (decDigits u).all digitB = true := ((decNat_all _).1 ⟨u, decNat_decDigits u⟩).2
theorem decDigits_zero : decDigits 0 = [48] := by rw [decDigits, dif_pos (by omega)]; rfl
theorem decDigits_not0 {u : Nat} (h : u ≠ 0) : decDigits u ≠ [48] := by
  intro e
  have := decNat_decDigits u
  rw [e, ← decDigits_zero, decNat_decDigits] at this
  exact h (by simpa using this.symm)
theorem trimD_digits {s : List UInt8} (h : s.all digitB = true) : trimD s = s := by
  cases s with
  | nil => rfl
  | cons c r =>
    unfold trimD
    by_cases hc : c = 45
    · subst hc; simp [digitB] at h
    · simp [hc]
theorem trimD_len (s : List UInt8) : s.length ≤ (trimD s).length + 1 := by
  unfold trimD
  cases s with
  | nil => simp
  | cons c r => by_cases hc : c = 45 <;> simp [hc]

/-- An int's numeral, of at most nine digits, is let by the reference, too. -/
theorem itoa_fine (n : Int) (h : (trimD (itoa n)).length ≤ 9) : ¬ refBad (itoa n) := by
  unfold itoa at *
  by_cases hn : n < 0
  · rw [if_pos hn] at h ⊢
    have e : trimD (45 :: decDigits n.natAbs) = decDigits n.natAbs := rfl
    rw [e] at h
    unfold refBad
    rw [e]
    have h0 : n.natAbs ≠ 0 := by omega
    rintro (x | x | x | x | x)
    · exact decDigits_ne _ x
    · omega
    · exact x (decDigits_all _)
    · exact decDigits_head _ x.1 x.2
    · exact decDigits_not0 h0 x.1
  · rw [if_neg hn] at h ⊢
    have e := trimD_digits (decDigits_all n.toNat)
    rw [e] at h
    unfold refBad
    rw [e]
    rintro (x | x | x | x | x)
    · exact decDigits_ne _ x
    · omega
    · exact x (decDigits_all _)
    · exact decDigits_head _ x.1 x.2
    · exact x.2 x.1

/-- What the reference lets by is the numeral of what it reads. -/
theorem fine_itoa {s : List UInt8} {n : Int} (h : ¬ refBad s) (ha : atoiAll s = .ok n) : itoa n = s := by
  have h1 : trimD s ≠ [] := fun x => h (Or.inl x)
  have h2 : (trimD s).length ≤ 9 := by
    by_cases x : (trimD s).length ≤ 9
    · exact x
    · exact absurd (Or.inr (Or.inl (by omega))) h
  have h3 : (trimD s).all digitB = true := by
    by_cases x : (trimD s).all digitB = true
    · exact x
    · exact absurd (Or.inr (Or.inr (Or.inl x))) h
  have h4 : 1 < (trimD s).length → (trimD s).head? ≠ some 48 := fun x y => h (Or.inr (Or.inr (Or.inr (Or.inl ⟨x, y⟩))))
  have h5 : trimD s = [48] → s = [48] := fun x => by
    by_cases y : s = [48]
    · exact y
    · exact absurd (Or.inr (Or.inr (Or.inr (Or.inr ⟨x, y⟩)))) h
  have hl := trimD_len s
  rw [atoiAll_short s (by omega)] at ha
  cases hx : atoi s with
  | none => rw [hx] at ha; cases ha
  | some m =>
    rw [hx] at ha
    obtain rfl : m = n := by simpa [NumEnd.ofOption] using ha
    clear ha
    cases s with
    | nil => exact absurd rfl h1
    | cons c r =>
      by_cases hc : c = 45
      · subst hc
        have e : trimD (45 :: r) = r := rfl
        rw [e] at h1 h2 h3 h4 h5
        simp only [atoi, beq_self_eq_true, if_true] at hx
        cases hd : decNat r with
        | none => rw [hd] at hx; cases hx
        | some u =>
          rw [hd] at hx
          simp only [Option.map_some, Option.some.injEq] at hx
          have hr := canon_digits _ r u rfl hd h4
          have hu : u ≠ 0 := by
            intro x
            subst x
            rw [decDigits_zero] at hr
            have := h5 hr
            simp at this
          unfold itoa
          rw [if_pos (by omega), show m.natAbs = u by omega, ← hr]
      · have e : trimD (c :: r) = c :: r := by unfold trimD; simp [hc]
        rw [e] at h1 h2 h3 h4 h5
        have hc43 : c ≠ 43 := by intro x; subst x; simp [digitB] at h3
        simp only [atoi, beq_iff_eq, hc, hc43, if_false] at hx
        cases hd : decNat (c :: r) with
        | none => rw [hd] at hx; cases hx
        | some u =>
          rw [hd] at hx
          simp only [Option.map_some, Option.some.injEq] at hx
          have hr := canon_digits _ _ u rfl hd h4
          unfold itoa
          rw [if_neg (by omega), show m.toNat = u by omega, ← hr]

/-- Both readers are one. -/
theorem num_same (s : List UInt8) [Decidable (refBad s)] : progNum s = if refBad s then none else match atoiAll s with | .ok n => some n | _ => none := by
  unfold progNum
  cases ha : atoiAll s with
  | ok n =>
    simp only
    by_cases hb : refBad s
    · rw [if_pos hb]
      by_cases hx : itoa n = s ∧ (trimD s).length ≤ 9
      · exact absurd (hx.1 ▸ hb) (itoa_fine n (by rw [hx.1]; exact hx.2))
      · rw [if_neg hx]
    · have hx : (trimD s).length ≤ 9 := by
        by_cases x : (trimD s).length ≤ 9
        · exact x
        · exact absurd (Or.inr (Or.inl (by omega))) hb
      rw [if_neg hb, if_pos ⟨fine_itoa hb ha, hx⟩]
  | range => by_cases hb : refBad s <;> simp [hb]
  | _ => by_cases hb : refBad s <;> simp [hb]

/-- The numeral of an int reads back. -/
theorem atoiAll_itoa (n : Int) (h : (trimD (itoa n)).length ≤ 9) : atoiAll (itoa n) = .ok n := by
  have hl := trimD_len (itoa n)
  rw [atoiAll_short _ (by omega)]
  have : atoi (itoa n) = some n := by
    unfold itoa
    by_cases hn : n < 0
    · rw [if_pos hn]
      simp only [atoi, beq_self_eq_true, if_true, decNat_decDigits, Option.map_some, Option.some.injEq]
      omega
    · rw [if_neg hn]
      have hall := decDigits_all n.toNat
      have hne := decDigits_ne n.toNat
      have hd := decNat_decDigits n.toNat
      cases hx : decDigits n.toNat with
      | nil => exact absurd hx hne
      | cons c r =>
        rw [hx] at hall hd
        have hc : c ≠ 45 := by intro x; subst x; simp [digitB] at hall
        have hc43 : c ≠ 43 := by intro x; subst x; simp [digitB] at hall
        simp only [atoi, beq_iff_eq, hc, hc43, if_false, hd, Option.map_some, Option.some.injEq]
        omega
  rw [this]
  rfl
theorem progNum_itoa (n : Int) (h : (trimD (itoa n)).length ≤ 9) : progNum (itoa n) = some n := by
  unfold progNum
  rw [atoiAll_itoa n h]
  simp [h]

end
end Go.Proofs.YtljjndifmfhffaaGreatDoor
