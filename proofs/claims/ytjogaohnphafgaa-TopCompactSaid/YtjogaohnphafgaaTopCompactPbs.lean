/-
  The beginning of a row over a heap and its book: awakeRoom, book, held, a new heap. No conditions.
  How a row reads as a map's element. No conditions.
-/
import Derived.Test.YtjogaohnphafgaaTopCompactPbr
import Derived.Test.YtjogaohnphafgaaTopCompactPah
import Derived.Test.YtjogaohnphafgaaTopCompactPaj
import Derived.Maps.Own
import Derived.Test.YtjogaohnphafgaaTopCompactPaa

namespace Go.Proofs.Ytjogaohnphafgaa
section
open Go.RowKit
set_option linter.unusedVariables false

/-- The book of the statements: one account, number 1, with the greatest budget. -/
def bigStB : BookSt := openSt (newSt 10000000) 1 10000000
def BigPostB (w : World) : Ending → World → Prop := fun e w' =>
  ∃ p, e = .returned (.pointer (some ⟨p, 0, none⟩)) ∧ BookAt w' (fun k => w.heap.size ≤ k) p bigStB 1 ∧ Below w.heap.size w w'

set_option maxHeartbeats 1000000 in
set_option maxRecDepth 100000 in
theorem bigBookB_any (w : World) : Calls Try.prog 5 #[] w (BigPostB w) := by
  go_enter Try.func5, Try.ntmps5
  go_wp2_with fail
  refine (newBook_ok _ _ (by omega) (by omega)).mono ?_
  rintro e w1 ⟨p, rfl, hb, hbel⟩
  have O := Lib.hid (open_new p 1 10000000 w1 _ _ 0 hb (by simp [newSt]) (by unfold maxLen; omega) (by omega) ⟨by omega, by omega⟩ rfl)
  have hsz := hbel.size
  clear hb
  go_wp2_with fail
  refine O.out.mono ?_
  rintro e w2 ⟨rfl, hb2, ht2⟩
  go_wp2_with fail
  go_ret
  refine ⟨p, rfl, hb2.wider (fun k hk => by rcases hk with hk | hk <;> omega), ?_⟩
  exact hbel.trans (ht2.below hsz (fun k hk => hk))

set_option maxHeartbeats 1000000 in
set_option maxRecDepth 100000 in
theorem awakeRoomB_any (w : World) : Calls Try.prog 4 #[] w (LawPost w) := by
  go_enter Try.func4, Try.ntmps4
  go_wp2_with fail
  refine (classOf_bad _ _ (by omega)).mono ?_
  rintro e w1 ⟨rfl, hb⟩
  go_wp2_with fail
  go_ret
  exact ⟨rfl, hb⟩

theorem heldB_any (p : Nat) (w : World) (F : Nat → Prop) (st : BookSt) (N : Nat) (hb : BookAt w F p st N) : Calls Try.prog 20 #[.pointer (some ⟨p, 0, none⟩)] w (fun e w' => e = .returned (.int .i64 (heldV st 1)) ∧ w' = w) := by
  have HH := Lib.hid (held_any p 1 w F st N hb)
  clear hb
  go_enter Try.func20, Try.ntmps20
  go_wp2_with fail
  refine HH.out.mono ?_
  rintro e w1 ⟨rfl, rfl⟩
  go_wp2_with fail
  go_ret
  exact ⟨rfl, rfl⟩
theorem HB.held {w : World} {hp bp : Nat} {S : HpSt} {vm vb vh : Value} {vhs : List Value} {F G : Nat → Prop} {M : Nat} {b : BookSt} (h : HB w hp bp S vm vb vh vhs F G M b) : Calls Try.prog 20 #[.pointer (some ⟨bp, 0, none⟩)] w (fun e w' => e = .returned (.int .i64 (S.mem.length : Int)) ∧ w' = w) := by
  have h1 := heldB_any bp w G b 1 h.bk.bk
  have e : heldV b 1 = (S.mem.length : Int) := by
    unfold heldV
    rw [if_pos (by omega), h.bk.acc]
  rw [e] at h1
  exact h1

/-- A heap without memory. -/
def newH (k s m : Int) : HpSt := ⟨k, s, m, false, [], [], 0, 0, []⟩
def NhPost (w : World) (bp : Nat) (G : Nat → Prop) (k s m : Int) : Ending → World → Prop := fun e w' =>
  Below w.heap.size w w' ∧ ((∃ er : Int, er ≠ 0 ∧ e = .returned (.tuple #[.pointer none, .int .i64 er])) ∨
    ∃ hp F G', polErr k s m = 0 ∧ e = .returned (.tuple #[.pointer (some ⟨hp, 0, none⟩), .int .i64 0]) ∧ HB w' hp bp (newH k s m) (.slice none 0 0) (.slice none 0 0) (.slice none 0 0) [] F G' 10000000 bigStB ∧ (∀ k, F k → w.heap.size ≤ k) ∧ ∀ k, G' k → G k)
theorem newHB_any (bp : Nat) (k s m : Int) (w : World) (G : Nat → Prop) (hb : BookAt w G bp bigStB 1) :
    Calls Try.prog 6 #[.pointer (some ⟨bp, 0, none⟩), .int .i64 1, .agg #[.int .i64 k, .int .i64 s, .int .i64 m]] w (NhPost w bp G k s m) := by
  refine (newHeap_any bp 1 k s m w G bigStB 1 hb).mono ?_
  rintro e w' ⟨hbl, ⟨h1, h2⟩ | ⟨h1, h, h2, h3, h4⟩⟩
  · exact ⟨hbl, Or.inl ⟨_, h1, h2⟩⟩
  · have hpe : polErr k s m = 0 := by
      unfold newErr at h1
      by_cases h0 : polErr k s m = 0
      · exact h0
      · rw [if_neg h0] at h1
        exact h1
    refine ⟨hbl, Or.inr ⟨h, fun k => k = h, fun k => G k ∧ k < w.heap.size, hpe, h2, ?_, fun k hk => by omega, fun k hk => hk.1⟩⟩
    have hbk := (hb.narrowK).same (fun k hk hl => hbl.block k hl)
    have nil : ∀ (e size : Nat), w'.ownsRow 0 e size (.slice none 0 0) 0 [] := fun e size => World.ownsRow_nil _ _ _ _
    refine ⟨⟨h4, rfl, ⟨nil _ _, fun k hk => (by cases hk)⟩, fun z hz => (by cases hz), Or.inl ⟨rfl, rfl⟩, ⟨nil _ _, fun k hk => (by cases hk)⟩, ⟨nil _ _, fun k hk => (by cases hk)⟩, ⟨rfl, fun i v l hv _ => by simp at hv⟩, List.Pairwise.nil, fun x hx => (by cases hx), ⟨by simp [newH], by simp [newH], by simp [newH], by simp [newH], by simp [newH]⟩⟩, ⟨hbk, rfl, rfl, rfl, by decide, by show 0 ≤ 10000000 ∧ 10000000 ≤ 10000000; omega, fun k hk => Nat.lt_of_lt_of_le hk.2 hbl.size⟩, fun k hk hg => ?_, fun k hk => by rw [hk]; exact lt_of h4⟩
    subst hk
    have := hg.2
    omega

end
end Go.Proofs.Ytjogaohnphafgaa

namespace Go.Proofs.Ytjogaohnphafgaa
section
open Go.RowKit
set_option linter.unusedVariables false

/-! How a row reads as a map's element. -/
def rowElem : Value → Option (DataW Unit × List MemPlace)
  | .slice none 0 0 => some (.nil, [])
  | .slice (some ⟨g, 0, none⟩) n c => some (.agg [.lit (.int .i64 g), .lit (.int .i64 n), .lit (.int .i64 c)], [])
  | _ => none
def rowD : Option (Nat × Nat × Nat) → DataW Unit
  | none => .nil
  | some (g, n, c) => .agg [.lit (.int .i64 g), .lit (.int .i64 n), .lit (.int .i64 c)]
def rowOf : Option (Nat × Nat × Nat) → Value
  | none => .slice none 0 0
  | some (g, n, c) => .slice (some ⟨g, 0, none⟩) n c
theorem rowElem_of (o : Option (Nat × Nat × Nat)) : rowElem (rowOf o) = some (rowD o, []) := by
  rcases o with _ | ⟨g, n, c⟩ <;> rfl
theorem rowElem_inv {v : Value} {o : Option (Nat × Nat × Nat)} {ps : List MemPlace} (h : rowElem v = some (rowD o, ps)) : v = rowOf o := by
  unfold rowElem at h
  split at h
  · rcases o with _ | ⟨g, n, c⟩
    · rfl
    · simp [rowD] at h
  · next g' n' c' =>
    rcases o with _ | ⟨g, n, c⟩
    · simp [rowD] at h
    · simp only [rowD, Option.some.injEq, Prod.mk.injEq, DataW.agg.injEq, List.cons.injEq, DataW.lit.injEq, Lit.int.injEq, true_and, and_true] at h
      obtain ⟨⟨h1, h2, h3⟩, _⟩ := h
      have e1 : g' = g := by omega
      have e2 : n' = n := by omega
      have e3 : c' = c := by omega
      subst e1; subst e2; subst e3
      rfl
  · cases h

/-- What is read of a key, beside what stands for none. -/
def rowZ (o : Option (Option (Nat × Nat × Nat))) (z : DataW Unit) : DataW Unit := match o with
  | none => z
  | some o => rowD o

end
end Go.Proofs.Ytjogaohnphafgaa
