/-
  The entries' text: what it is, what is read of it. Plain: no program in sight.
  Entries in memory. No conditions.
-/
import Derived.Test.YtljjndifmfhffaaGreatDoorLedgerChecksPbs
import Derived.Test.YtljjndifmfhffaaGreatDoorLedgerChecksPaa

namespace Go.Proofs.YtljjndifmfhffaaGreatDoor
section
open Go Go.Lib
set_option linter.unusedVariables false

/-- An entry. -/
structure En where
  k : Int
  o : Int
  p : Int
  a : Int
  l : Int
  u : Int
def En.nums (e : En) : List Int := [e.o, e.p, e.a, e.l, e.u]
def En.cells (e : En) : List Value := [.int .i64 e.k, .int .i64 e.o, .int .i64 e.p, .int .i64 e.a, .int .i64 e.l, .int .i64 e.u]
def En.zero : En := ⟨0, 0, 0, 0, 0, 0⟩
def inB (n : Int) : Prop := 0 ≤ n ∧ n ≤ 10000000
instance (n : Int) : Decidable (inB n) := inferInstanceAs (Decidable (_ ∧ _))
def numsErr : List Int → Int
  | [] => 0
  | n :: r => if inB n then numsErr r else 2
def enErr (e : En) : Int := if 1 ≤ e.k ∧ e.k ≤ 11 then numsErr e.nums else 10
def ensErr : List En → Int
  | [] => 0
  | e :: r => if enErr e = 0 then ensErr r else enErr e
def listErr (L : List En) : Int := if 5000 < L.length then 4 else ensErr L

def ewordsA : List ByteArray := [⟨#[111, 112, 101, 110, 101, 100]⟩, ⟨#[115, 104, 117, 116]⟩, ⟨#[116, 97, 107, 101, 110]⟩, ⟨#[103, 105, 118, 101, 110]⟩, ⟨#[112, 97, 105, 100]⟩, ⟨#[108, 105, 109, 105, 116, 101, 100]⟩, ⟨#[98, 117, 100, 103, 101, 116, 101, 100]⟩, ⟨#[108, 101, 116]⟩, ⟨#[114, 101, 110, 101, 119, 101, 100]⟩, ⟨#[101, 110, 100, 101, 100]⟩, ⟨#[112, 97, 115, 115, 101, 100]⟩]
def ewordA (k : Int) : ByteArray := ewordsA.getD (k - 1).toNat ByteArray.empty
def eword (k : Int) : List UInt8 := (ewordA k).data.toList
def numsText (l : List Int) : List UInt8 := l.flatMap fun n => 32 :: itoa n
def lineText (e : En) : List UInt8 := eword e.k ++ numsText e.nums
def ensText (L : List En) : List UInt8 := L.flatMap fun e => lineText e ++ [10]

def kindE (x : ByteArray) : Int := idxOfS ewordsA x + 1
def lineEn (l : List UInt8) : Option En :=
  match parts 32 l with
  | [w, a, b, c, d, e] => if 1 ≤ kindE ⟨w.toArray⟩ then (match progNum a, progNum b, progNum c, progNum d, progNum e with | some a, some b, some c, some d, some e => some ⟨kindE ⟨w.toArray⟩, a, b, c, d, e⟩ | _, _, _, _, _ => none) else none
  | _ => none
def linesEn : List (List UInt8) → Option (List En)
  | [] => some []
  | x :: r => match lineEn x with
    | none => none
    | some e => (linesEn r).map (e :: ·)
def restEn (s : List UInt8) : Option (List En) := if s = [] then some [] else if s.getLast? = some 10 then linesEn (parts 10 s.dropLast) else none
def endEn : Option (List En) → List En × Int
  | none => ([], 8)
  | some L => if listErr L = 0 then (L, 0) else ([], listErr L)
def readEns (s : List UInt8) : List En × Int := if 5000 < s.count 10 ∨ 500000 < s.length then ([], 4) else endEn (restEn s)

/- The words. -/
theorem idx_range (x : ByteArray) : ∀ (zs : List ByteArray) (i : Nat), idxFromS zs x i = -1 ∨ ((i : Int) ≤ idxFromS zs x i ∧ idxFromS zs x i < i + zs.length)
  | [], _ => Or.inl rfl
  | z :: zs, i => by
    unfold idxFromS
    by_cases h : z = x
    · rw [if_pos h]; right; simp; omega
    · rw [if_neg h]
      rcases idx_range x zs (i + 1) with y | y
      · exact Or.inl y
      · right; simp at y ⊢; omega
theorem idx_next (x : ByteArray) : ∀ (zs : List ByteArray) (i : Nat), idxFromS zs x (i + 1) = if idxFromS zs x i = -1 then -1 else idxFromS zs x i + 1
  | [], _ => rfl
  | z :: zs, i => by
    unfold idxFromS
    by_cases h : z = x
    · rw [if_pos h, if_pos h, if_neg (by omega)]; omega
    · rw [if_neg h, if_neg h, idx_next x zs (i + 1)]
theorem kindE_range (x : ByteArray) : 0 ≤ kindE x ∧ kindE x ≤ 11 := by
  unfold kindE idxOfS
  have := idx_range x ewordsA 0
  have e : ewordsA.length = 11 := rfl
  rw [e] at this
  omega
theorem kindE_word (k : Int) (h : 1 ≤ k ∧ k ≤ 11) : kindE (ewordA k) = k := by
  obtain ⟨h1, h2⟩ := h
  have : ∀ j : Fin 11, kindE (ewordA ((j.val : Int) + 1)) = (j.val : Int) + 1 := by decide +kernel
  have := this ⟨(k - 1).toNat, by omega⟩
  rwa [show (((k - 1).toNat : Nat) : Int) + 1 = k by omega] at this
/-- The reference's list has one word more ahead. -/
theorem kindE_ref (x : ByteArray) : -1 ≤ idxOfS (⟨#[]⟩ :: ewordsA) x ∧ idxOfS (⟨#[]⟩ :: ewordsA) x ≤ 11 ∧ ((1 ≤ kindE x ∧ idxOfS (⟨#[]⟩ :: ewordsA) x = kindE x) ∨ (kindE x = 0 ∧ idxOfS (⟨#[]⟩ :: ewordsA) x < 1)) := by
  have hr := kindE_range x
  have e : idxOfS (⟨#[]⟩ :: ewordsA) x = if (⟨#[]⟩ : ByteArray) = x then 0 else (if idxFromS ewordsA x 0 = -1 then -1 else idxFromS ewordsA x 0 + 1) := by
    unfold idxOfS
    rw [idxFromS]
    by_cases h : (⟨#[]⟩ : ByteArray) = x
    · rw [if_pos h, if_pos h]; rfl
    · rw [if_neg h, if_neg h, idx_next]
  by_cases h : (⟨#[]⟩ : ByteArray) = x
  · rw [e, if_pos h]
    have : kindE x = 0 := by rw [← h]; decide +kernel
    omega
  · rw [e, if_neg h]
    unfold kindE idxOfS at hr ⊢
    have := idx_range x ewordsA 0
    have e : ewordsA.length = 11 := rfl
    rw [e] at this
    split <;> omega

/- Cut and the rest. -/
theorem mem_cut {c : UInt8} : ∀ {s : List UInt8}, c ∈ s → ∃ a r, s = a ++ c :: r ∧ c ∉ a
  | [], h => by simp at h
  | x :: l, h => by
    by_cases hx : x = c
    · exact ⟨[], l, by simp [hx], by simp⟩
    · obtain ⟨a, r, e, ha⟩ := mem_cut (s := l) (by simpa [Ne.symm hx] using h)
      exact ⟨x :: a, r, by simp [e], by simp [ha, Ne.symm hx]⟩
theorem index_miss {c : UInt8} : ∀ {s : List UInt8}, c ∉ s → index s [c] = -1
  | [], _ => by simp [index]
  | x :: l, h => by
    have hx : c ≠ x := fun e => h (by simp [e])
    have hp : ([c] : List UInt8).isPrefixOf (x :: l) = false := by simp [List.isPrefixOf, hx]
    rw [index, hp, index_miss (s := l) (fun e => h (by simp [e]))]
    simp
theorem index_hit {c : UInt8} (r : List UInt8) : ∀ {a : List UInt8}, c ∉ a → index (a ++ c :: r) [c] = a.length
  | [], _ => by rw [List.nil_append, index]; simp [List.isPrefixOf]
  | x :: l, h => by
    have hx : c ≠ x := fun e => h (by simp [e])
    have hp : ([c] : List UInt8).isPrefixOf (x :: (l ++ c :: r)) = false := by simp [List.isPrefixOf, hx]
    have hl : c ∉ l := fun e => h (by simp [e])
    have ih := index_hit r (a := l) hl
    rw [List.cons_append, index, hp, ih]
    simp only [Bool.false_eq_true, if_false]
    rw [if_neg (by simp)]
    simp
theorem cut_miss {c : UInt8} {s : List UInt8} (h : c ∉ s) : cut s [c] = (s, [], false) := by
  unfold cut
  rw [index_miss h, if_neg (by omega)]
theorem cut_hit {c : UInt8} {a r : List UInt8} (h : c ∉ a) : cut (a ++ c :: r) [c] = (a, r, true) := by
  unfold cut
  rw [index_hit r h, if_pos (by omega)]
  simp
theorem restEn_nil : restEn [] = some [] := rfl
theorem last_app {a r : List UInt8} {c : UInt8} (hr : r ≠ []) : (a ++ c :: r).getLast? = r.getLast? := by
  rw [List.getLast?_append, List.getLast?_cons]
  cases h : r.getLast? with
  | none => exact absurd (List.getLast?_eq_none_iff.1 h) hr
  | some x => rfl
theorem restEn_step (s : List UInt8) (hs : s ≠ []) : restEn s = if (cut s [10]).2.2 = true then (match lineEn (cut s [10]).1 with | none => none | some e => (restEn (cut s [10]).2.1).map (e :: ·)) else none := by
  by_cases h : (10 : UInt8) ∈ s
  · obtain ⟨a, r, rfl, ha⟩ := mem_cut h
    rw [cut_hit ha]
    simp only [if_true]
    unfold restEn
    rw [if_neg hs]
    by_cases hr : r = []
    · subst hr
      rw [if_pos (by simp), if_pos rfl, List.dropLast_concat, parts_one _ _ ha]
      rfl
    · rw [if_neg hr, last_app hr]
      by_cases hl : r.getLast? = some 10
      · rw [if_pos hl, if_pos hl, List.dropLast_append_of_ne_nil (by simp), List.dropLast_cons_of_ne_nil hr, parts_cut _ _ _ ha]
        rfl
      · rw [if_neg hl, if_neg hl]
        cases lineEn a <;> rfl
  · rw [cut_miss h]
    simp only [Bool.false_eq_true, if_false]
    unfold restEn
    rw [if_neg hs, if_neg]
    intro hl
    exact h (List.mem_of_getLast? hl)

/- Back. -/
theorem numsErr_ok : ∀ {l : List Int}, numsErr l = 0 ↔ ∀ n ∈ l, inB n
  | [] => by simp [numsErr]
  | n :: r => by
    unfold numsErr
    by_cases h : inB n
    · rw [if_pos h, numsErr_ok]; simp [h]
    · rw [if_neg h]; simp [h]
theorem enErr_ok {e : En} : enErr e = 0 ↔ (1 ≤ e.k ∧ e.k ≤ 11) ∧ ∀ n ∈ e.nums, inB n := by
  unfold enErr
  by_cases h : 1 ≤ e.k ∧ e.k ≤ 11
  · rw [if_pos h, numsErr_ok]; simp [h]
  · rw [if_neg h]; simp [h]
theorem itoa_B {n : Int} (h : inB n) : (trimD (itoa n)).length ≤ 9 ∧ (itoa n).length ≤ 9 ∧ ∀ c ∈ itoa n, digitB c = true := by
  obtain ⟨h0, h1⟩ := h
  have e : itoa n = decDigits n.toNat := by unfold itoa; rw [if_neg (by omega)]
  rw [e, trimD_digits (decDigits_all _), decDigits_length]
  have := nDigits_le 7 n.toNat (by have : (10 : Nat) ^ 8 = 100000000 := rfl; omega)
  exact ⟨by omega, by omega, List.all_eq_true.1 (decDigits_all _)⟩
theorem blank_itoa {n : Int} (h : inB n) : (32 : UInt8) ∉ itoa n := fun x => by have := (itoa_B h).2.2 _ x; simp [digitB] at this
theorem line_itoa {n : Int} (h : inB n) : (10 : UInt8) ∉ itoa n := fun x => by have := (itoa_B h).2.2 _ x; simp [digitB] at this
theorem eword_plain (k : Int) : (32 : UInt8) ∉ eword k ∧ (10 : UInt8) ∉ eword k ∧ (eword k).length ≤ 8 := by
  have h : ∀ j : Fin 12, (32 : UInt8) ∉ (ewordsA.getD j.val ByteArray.empty).data.toList ∧ (10 : UInt8) ∉ (ewordsA.getD j.val ByteArray.empty).data.toList ∧ ((ewordsA.getD j.val ByteArray.empty).data.toList).length ≤ 8 := by decide +kernel
  unfold eword ewordA
  by_cases hk : (k - 1).toNat < 11
  · exact h ⟨(k - 1).toNat, by omega⟩
  · have e : ewordsA.getD (k - 1).toNat ByteArray.empty = ByteArray.empty := by
      have : ewordsA.length = 11 := rfl
      rw [List.getD_eq_getElem?_getD, List.getElem?_eq_none (by omega)]; rfl
    rw [e]
    exact h 11
theorem line_plain {e : En} (h : enErr e = 0) : (10 : UInt8) ∉ lineText e ∧ (lineText e).length ≤ 58 := by
  obtain ⟨_, hn⟩ := enErr_ok.1 h
  have hw := eword_plain e.k
  have f : ∀ n ∈ e.nums, (10 : UInt8) ∉ itoa n ∧ (itoa n).length ≤ 9 := fun n hm => ⟨line_itoa (hn n hm), (itoa_B (hn n hm)).2.1⟩
  unfold lineText numsText
  simp only [En.nums, List.mem_cons, List.not_mem_nil, or_false, forall_eq_or_imp, forall_eq] at f ⊢
  obtain ⟨⟨a1, b1⟩, ⟨a2, b2⟩, ⟨a3, b3⟩, ⟨a4, b4⟩, ⟨a5, b5⟩⟩ := f
  refine ⟨?_, ?_⟩
  · simp [hw.2.1, a1, a2, a3, a4, a5]
  · simp; omega
theorem parts_line {e : En} (h : enErr e = 0) : parts 32 (lineText e) = [eword e.k, itoa e.o, itoa e.p, itoa e.a, itoa e.l, itoa e.u] := by
  obtain ⟨_, hn⟩ := enErr_ok.1 h
  have f : ∀ n ∈ e.nums, (32 : UInt8) ∉ itoa n := fun n hm => blank_itoa (hn n hm)
  simp only [En.nums, List.mem_cons, List.not_mem_nil, or_false, forall_eq_or_imp, forall_eq] at f
  obtain ⟨a1, a2, a3, a4, a5⟩ := f
  have e1 : lineText e = eword e.k ++ 32 :: (itoa e.o ++ 32 :: (itoa e.p ++ 32 :: (itoa e.a ++ 32 :: (itoa e.l ++ 32 :: itoa e.u)))) := by
    simp [lineText, numsText, En.nums]
  rw [e1, parts_cut _ _ _ (eword_plain e.k).1, parts_cut _ _ _ a1, parts_cut _ _ _ a2, parts_cut _ _ _ a3, parts_cut _ _ _ a4, parts_one _ _ a5]
theorem lineEn_text {e : En} (h : enErr e = 0) : lineEn (lineText e) = some e := by
  obtain ⟨hk, hn⟩ := enErr_ok.1 h
  have f : ∀ n ∈ e.nums, progNum (itoa n) = some n := fun n hm => progNum_itoa n (itoa_B (hn n hm)).1
  simp only [En.nums, List.mem_cons, List.not_mem_nil, or_false, forall_eq_or_imp, forall_eq] at f
  obtain ⟨a1, a2, a3, a4, a5⟩ := f
  have ek : (⟨(eword e.k).toArray⟩ : ByteArray) = ewordA e.k := bytes_ext (by simp [eword])
  unfold lineEn
  rw [parts_line h]
  simp only [a1, a2, a3, a4, a5, ek, kindE_word _ hk]
  rw [if_pos hk.1]
theorem restEn_text : ∀ (L : List En), ensErr L = 0 → restEn (ensText L) = some L
  | [], _ => rfl
  | e :: r, h => by
    have he : enErr e = 0 := by
      unfold ensErr at h
      by_cases x : enErr e = 0
      · exact x
      · rw [if_neg x] at h; exact h
    have hr : ensErr r = 0 := by unfold ensErr at h; rwa [if_pos he] at h
    have e1 : ensText (e :: r) = lineText e ++ 10 :: ensText r := by simp [ensText]
    rw [e1, restEn_step _ (by simp), cut_hit (line_plain he).1]
    simp only [if_true, lineEn_text he, restEn_text r hr]
    rfl
theorem text_size : ∀ (L : List En), ensErr L = 0 → (ensText L).count 10 = L.length ∧ (ensText L).length ≤ 59 * L.length
  | [], _ => by simp [ensText]
  | e :: r, h => by
    have he : enErr e = 0 := by
      unfold ensErr at h
      by_cases x : enErr e = 0
      · exact x
      · rw [if_neg x] at h; exact h
    have hr : ensErr r = 0 := by unfold ensErr at h; rwa [if_pos he] at h
    have e1 : ensText (e :: r) = lineText e ++ 10 :: ensText r := by simp [ensText]
    have ih := text_size r hr
    have hl := line_plain he
    rw [e1]
    rw [List.count_append, List.count_cons_self, List.count_eq_zero_of_not_mem hl.1, ih.1]
    simp only [List.length_append, List.length_cons]
    omega
theorem readEns_text (L : List En) (h : listErr L = 0) : readEns (ensText L) = (L, 0) := by
  have h1 : ¬ 5000 < L.length := fun x => by unfold listErr at h; rw [if_pos x] at h; omega
  have h2 : ensErr L = 0 := by unfold listErr at h; rwa [if_neg h1] at h
  have ht := text_size L h2
  unfold readEns
  rw [if_neg (by omega), restEn_text L h2]
  unfold endEn
  simp only
  rw [if_pos h]

end
end Go.Proofs.YtljjndifmfhffaaGreatDoor

namespace Go.Proofs.YtljjndifmfhffaaGreatDoor
section
open Go.RowKit
set_option linter.unusedVariables false

/-- An entry's six cells. -/
def cells6 (w : World) (b x : Nat) (e : En) : Prop :=
  w.cell? ⟨b, x, none⟩ = some (.int .i64 e.k) ∧ w.cell? ⟨b, x + 1, none⟩ = some (.int .i64 e.o) ∧ w.cell? ⟨b, x + 2, none⟩ = some (.int .i64 e.p) ∧ w.cell? ⟨b, x + 3, none⟩ = some (.int .i64 e.a) ∧ w.cell? ⟨b, x + 4, none⟩ = some (.int .i64 e.l) ∧ w.cell? ⟨b, x + 5, none⟩ = some (.int .i64 e.u)
/-- A slice of entries. -/
def EnsIn (w : World) (v : Value) (L : List En) : Prop :=
  ∃ a cap, v = .slice a L.length cap ∧ L.length ≤ 9223372036854775807 ∧ ∀ k, k < L.length → ∃ b o, a = some ⟨b, o, none⟩ ∧ cells6 w b (o + k * 6) (L.getD k En.zero)

theorem EnsIn.nil (w : World) : EnsIn w (.slice none 0 0) [] := ⟨none, 0, rfl, by simp, fun k h => by simp at h⟩
theorem cells6.below {w w' : World} {b x : Nat} {e : En} (h : cells6 w b x e) (hb : Below w.heap.size w w') : cells6 w' b x e := by
  obtain ⟨h0, h1, h2, h3, h4, h5⟩ := h
  have hlt := World.block_lt_of_cell? w _ h0
  have f : ∀ j, w'.cell? ⟨b, j, none⟩ = w.cell? ⟨b, j, none⟩ := fun j => hb.cell (p := ⟨b, j, none⟩) hlt
  exact ⟨(f _).trans h0, (f _).trans h1, (f _).trans h2, (f _).trans h3, (f _).trans h4, (f _).trans h5⟩
theorem EnsIn.below {w w' : World} {v : Value} {L : List En} (h : EnsIn w v L) (hb : Below w.heap.size w w') : EnsIn w' v L := by
  obtain ⟨a, cap, rfl, hl, hc⟩ := h
  refine ⟨a, cap, rfl, hl, fun k hk => ?_⟩
  obtain ⟨b, o, ha, hcell⟩ := hc k hk
  exact ⟨b, o, ha, hcell.below hb⟩

def ensCells (L : List En) : List Value := L.flatMap En.cells
theorem ensCells_len : ∀ L : List En, (ensCells L).length = L.length * 6
  | [] => rfl
  | e :: r => by
    have := ensCells_len r
    simp only [ensCells, List.flatMap_cons, List.length_append, List.length_cons] at this ⊢
    rw [this]
    have : e.cells.length = 6 := rfl
    omega
theorem ensCells_at : ∀ (L : List En) (k j : Nat), k < L.length → j < 6 → (ensCells L)[k * 6 + j]? = some ((L.getD k En.zero).cells.getD j (.int .i64 0))
  | [], k, _, h, _ => by simp at h
  | e :: r, 0, j, _, hj => by
    have e6 : e.cells.length = 6 := rfl
    simp only [ensCells, List.flatMap_cons, Nat.zero_mul, Nat.zero_add]
    rw [List.getElem?_append_left (by omega)]
    rcases (show j = 0 ∨ j = 1 ∨ j = 2 ∨ j = 3 ∨ j = 4 ∨ j = 5 by omega) with rfl | rfl | rfl | rfl | rfl | rfl <;> rfl
  | e :: r, k + 1, j, hk, hj => by
    have e6 : e.cells.length = 6 := rfl
    simp only [ensCells, List.flatMap_cons]
    rw [List.getElem?_append_right (by omega), show (k + 1) * 6 + j - e.cells.length = k * 6 + j by omega]
    have := ensCells_at r k j (by simpa using hk) hj
    simpa [ensCells] using this

theorem EnsIn.own {w : World} {base : Nat} {e : TypeId} {v : Value} {L : List En} (h : w.ownsRow base e 6 v L.length (ensCells L)) (hl : L.length ≤ 9223372036854775807) : EnsIn w v L := by
  rcases h.2 with ⟨rfl, h0⟩ | ⟨g, cap, cur, rfl, hb, hg, hn, hc, hs, ht⟩
  · have : L = [] := by cases L with | nil => rfl | cons x l => simp at h0
    subst this
    exact EnsIn.nil w
  · refine ⟨some ⟨g, 0, none⟩, cap, rfl, hl, fun k hk => ⟨g, 0, rfl, ?_⟩⟩
    have f : ∀ j, j < 6 → w.cell? ⟨g, 0 + k * 6 + j, none⟩ = some ((L.getD k En.zero).cells.getD j (.int .i64 0)) := fun j hj => by
      have hx := ensCells_at L k j hk hj
      have := h.cells (g := g) rfl (k * 6 + j) _ hx
      have ea : (⟨g, 0, none⟩ : Addr).add (k * 6 + j) = ⟨g, 0 + k * 6 + j, none⟩ := by unfold Addr.add; split <;> simp_all
      rwa [ea] at this
    exact ⟨f 0 (by omega), f 1 (by omega), f 2 (by omega), f 3 (by omega), f 4 (by omega), f 5 (by omega)⟩

/-- Two blocks made one after the other. -/
theorem tower2 (w : World) (o1 o2 : Obj) : ((w.alloc o1).alloc o2).heap[w.heap.size]? = some o1 ∧ ((w.alloc o1).alloc o2).heap[w.heap.size + 1]? = some o2 ∧ (∀ k, k < w.heap.size → ((w.alloc o1).alloc o2).heap[k]? = w.heap[k]?) ∧
    w.heap.size + 2 ≤ ((w.alloc o1).alloc o2).heap.size ∧ (∀ {b : Nat} {w0 : World}, Below b w0 w → b ≤ w.heap.size → Below b w0 ((w.alloc o1).alloc o2)) := by
  have h1 := heap_alloc_new w o1
  have h2 := heap_alloc_new (w.alloc o1) o2
  rw [World.size_alloc] at h2
  exact ⟨(heap_alloc_old _ _ (by simp)).trans h1, h2, fun k hk => (heap_alloc_old _ _ (by simp; omega)).trans (heap_alloc_old _ _ hk), by simp, fun hb hle => (hb.alloc hle _).alloc (by simp; omega) _⟩

/- The errors, from a place on. -/
theorem ensErr_step (L : List En) (k : Nat) (h : k < L.length) : ensErr (L.drop k) = if enErr (L.getD k En.zero) = 0 then ensErr (L.drop (k + 1)) else enErr (L.getD k En.zero) := by
  rw [List.drop_eq_getElem_cons h, List.getD_eq_getElem?_getD, List.getElem?_eq_getElem h]
  rfl
theorem numsErr_step (l : List Int) (k : Nat) (h : k < l.length) : numsErr (l.drop k) = if inB (l.getD k 0) then numsErr (l.drop (k + 1)) else 2 := by
  rw [List.drop_eq_getElem_cons h, List.getD_eq_getElem?_getD, List.getElem?_eq_getElem h]
  rfl

end
end Go.Proofs.YtljjndifmfhffaaGreatDoor
