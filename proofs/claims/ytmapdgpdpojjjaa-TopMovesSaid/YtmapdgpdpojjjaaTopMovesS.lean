/-
  TopMoves: what holds of the ring, the look and the book between two rounds. No conditions.
-/
import Derived.Test.YtmapdgpdpojjjaaTopMovesP
namespace Go.Proofs.Ytmapdgpdpojjjaa
open Go.RowKit
set_option linter.unusedVariables false

theorem putL_keep (cs zs : List Int) (R len : Nat) (f0 : Int) (hcl : cs.length = R) (h1 : 1 ≤ len) (h2 : len + zs.length ≤ R) (hd : cs.take 1 = [f0]) : (putL cs (cellN 0 R len) zs).take 1 = [f0] := by
  by_cases h : len < R
  · have e : cellN 0 R len = len := by unfold cellN; rw [if_neg (by omega), Nat.zero_add, Nat.mod_eq_of_lt h]
    rw [e]
    have d : putD cs.length len zs.length = zs.length := by unfold putD; omega
    unfold putL
    rw [d, List.take_of_length_le (Nat.le_refl _), List.drop_of_length_le (Nat.le_refl _)]
    cases cs with
    | nil => simp at hd
    | cons c cs =>
      obtain ⟨n, rfl⟩ : ∃ n, len = n + 1 := ⟨len - 1, by omega⟩
      simp only [List.take_succ_cons, List.take_zero] at hd
      simp [splice, hd]
  · have hz : zs = [] := List.eq_nil_of_length_eq_zero (by omega)
    subst hz
    have e : cellN 0 R len = 0 := by unfold cellN; rw [if_neg (by omega), Nat.zero_add, show len = R by simp at h2; omega, Nat.mod_self]
    rw [e]
    simpa [putL, splice] using hd

theorem putL_head (cs zs : List Int) (R : Nat) (f0 : Int) (hcl : cs.length = R) (h2 : zs.length ≤ R) (hd : zs.take 1 = [f0]) : (putL cs (cellN 0 R 0) zs).take 1 = [f0] := by
  have hz : 0 < zs.length := by cases zs with | nil => simp at hd | cons _ _ => simp
  have e : cellN 0 R 0 = 0 := by unfold cellN; rw [if_neg (by omega), Nat.zero_add, Nat.zero_mod]
  rw [e]
  have d : putD cs.length 0 zs.length = zs.length := by unfold putD; omega
  unfold putL
  rw [d, List.take_of_length_le (Nat.le_refl _), List.drop_of_length_le (Nat.le_refl _)]
  simp only [splice, List.take_zero, List.nil_append, List.length_nil, Nat.add_zero, List.drop_zero]
  rw [List.take_append_of_le_length hz, hd]

theorem octL_head (cs : List Int) (R len : Nat) (f0 : Int) (hcl : cs.length = R) (h1 : 1 ≤ len) (h2 : len ≤ R) (hd : cs.take 1 = [f0]) : (octL cs (cellN 0 R 0) len).take 1 = [f0] := by
  have e : cellN 0 R 0 = 0 := by unfold cellN; rw [if_neg (by omega), Nat.zero_add, Nat.zero_mod]
  rw [e]
  unfold octL
  have d : min (0 + len) cs.length - 0 = len := by omega
  rw [d, List.drop_zero, List.take_append_of_le_length (by rw [List.length_take]; omega), List.take_take, show min 1 len = 1 by omega, hd]

/-- Ring and book, behind the first Write. -/
structure TmSt (w0 w : World) (r bp : Nat) (k s m f0 : Int) (g R len : Nat) (cs : List Int) (bst : BookSt) (G : Nat → Prop) : Prop where
  ring : ringAt w r bp 1 k s m (memOf (some g) R) 0 (len : Nat)
  row : byteRow w g cs
  cl : cs.length = R
  rle : R ≤ 100000
  len1 : 1 ≤ len
  len2 : len ≤ R
  hd : cs.take 1 = [f0]
  pol : polErr k s m = 0
  book : BookAt w G bp bst 1
  sound : Sound bst 1 10000000 R 0
  bud : bst.budget = 10000000
  tot : bst.total = R
  ngr : ¬ G r
  ngg : ¬ G g
  gr : g ≠ r
  far : ∀ k, G k → w0.heap.size ≤ k
  rfar : w0.heap.size ≤ r
  gfar : w0.heap.size ≤ g
  bel : Below w0.heap.size w0 w

theorem change_free {bst : BookSt} {R V : Nat} (hb : bst.budget = 10000000) (ht : bst.total = R) (hR : R ≤ 100000) (hV : V ≤ 100000) : changeE bst 10000000 R 0 R V = 0 := by
  unfold changeE
  rw [if_neg (by omega), if_neg (by rw [hb, ht]; omega)]

theorem change_st {bst : BookSt} {R V : Nat} (hs : Sound bst 1 10000000 R 0) (hb : bst.budget = 10000000) (ht : bst.total = R) (hR : R ≤ 100000) (hV : V ≤ 100000) (hne : V ≠ R) :
    Sound (changeSt bst 1 10000000 R 0 R V) 1 10000000 V 0 ∧ (changeSt bst 1 10000000 R 0 R V).budget = 10000000 ∧ (changeSt bst 1 10000000 R 0 R V).total = V := by
  have e : changeSt bst 1 10000000 R 0 R V = { heldSt bst 1 10000000 R 0 ((V : Int) - R) with entries := trimE (bst.entries ++ [holdEnt 1 ((V : Int) - R)]) } := by
    unfold changeSt
    rw [if_pos ⟨change_free hb ht hR hV, by omega⟩]
  rw [e]
  refine ⟨⟨?_, by omega, by omega, by omega, by omega, ?_, ?_, ?_⟩, hb, ?_⟩
  · show (if (1 : Int) = 1 then some ((10000000 : Int), (R : Int) + ((V : Int) - R), (0 : Int)) else bst.acc 1) = some (10000000, (V : Int), 0)
    rw [if_pos rfl]
    have : (R : Int) + ((V : Int) - R) = V := by omega
    rw [this]
  · show 0 ≤ bst.budget ∧ bst.budget ≤ 1000000000
    rw [hb]; omega
  · show 0 ≤ bst.total + ((V : Int) - R) ∧ bst.total + ((V : Int) - R) ≤ 1000000000
    rw [ht]; omega
  · exact trimE_len _ (by have := hs.en; simp; omega)
  · show bst.total + ((V : Int) - R) = V
    rw [ht]; omega

/-- What a Write leaves. -/
def TmWrote (w0 : World) (r bp : Nat) (k s m f0 : Int) (g R : Nat) (bst : BookSt) (G : Nat → Prop) (len : Nat) (cs : List Int) (w : World) : Ending → World → Prop := fun e w' =>
  (∃ err : Int, err ≠ 0 ∧ e = .returned (.tuple #[.bool false, .int .i64 err]) ∧ ∃ G', TmSt w0 w' r bp k s m f0 g R len cs bst G' ∧ (∀ k, G' k → G k ∨ w.heap.size ≤ k) ∧ Touch G w w') ∨
  (e = .returned (.tuple #[.bool false, .int .i64 0]) ∧ ∃ len' cs', TmSt w0 w' r bp k s m f0 g R len' cs' bst G ∧ Touch (fun k => k = r ∨ k = g) w w') ∨
  (e = .returned (.tuple #[.bool true, .int .i64 0]) ∧ ∃ g' R' len' cs' bst' G', TmSt w0 w' r bp k s m f0 g' R' len' cs' bst' G' ∧ R' ≠ R ∧ w.heap.size ≤ g' ∧ (∀ k, G' k → G k ∨ w.heap.size ≤ k) ∧ Touch (fun k => G k ∨ k = r) w w')

theorem tm_write (w0 w : World) (r bp : Nat) (k s m f0 : Int) (g R len : Nat) (cs : List Int) (bst : BookSt) (G : Nat → Prop) (h : TmSt w0 w r bp k s m f0 g R len cs bst G) (v : Value) (zs : List Int) (hv : Reads w .u8 v zs) (hn : zs.length ≤ 140737488351232) :
    Calls Try.prog 9 #[.pointer (some ⟨r, 0, none⟩), v] w (TmWrote w0 r bp k s m f0 g R bst G len cs w) := by
  refine (write_any r bp 1 k s m (some g) R cs 0 len v zs w G bst 1 10000000 R 0 h.ring ⟨h.cl, h.row⟩ h.rle (by omega) h.len2 h.pol hv hn (Or.inl (by simp)) h.book h.sound h.ngr).mono ?_
  intro e w' hp
  have glt := lt_of h.row
  have rlt := lt_of h.ring
  have hsz := h.bel.size
  have hfar : ∀ {G' : Nat → Prop}, (∀ k, G' k → G k ∨ w.heap.size ≤ k) → ∀ k, G' k → w0.heap.size ≤ k := fun hG k hk => (hG k hk).elim (h.far k) (fun x => by omega)
  rcases hp with ⟨err, he, rfl, hr, ht, G', hb, hG, hr', _⟩ | ⟨hE, hV, rfl, hr, hm, ht⟩ | ⟨V, hW, hV, hVR, hE, rfl, g', G', hg', hGg, hGr, hG, hb, hr, hrow, ht⟩
  · refine Or.inl ⟨err, he, rfl, G', ⟨hr, (ht.block g glt h.ngg).trans h.row, h.cl, h.rle, h.len1, h.len2, h.hd, h.pol, hb, h.sound, h.bud, h.tot, hr', fun x => (hG g x).elim h.ngg (fun y => by omega), h.gr, hfar hG, h.rfar, h.gfar, ?_⟩, hG, ht⟩
    exact h.bel.trans (ht.below hsz h.far)
  · obtain ⟨_, V, hV', _, hNV, _⟩ := wants_ok h.pol h.rle hE
    have hVR : V = R := by rw [hV] at hV'; omega
    subst hVR
    refine Or.inr (Or.inl ⟨rfl, len + zs.length, _, ⟨hr, hm.2, ?_, h.rle, by have := h.len1; omega, hNV, ?_, h.pol, ?_, h.sound, h.bud, h.tot, h.ngr, h.ngg, h.gr, h.far, h.rfar, h.gfar, ?_⟩, ht.mono (fun k hk => hk.imp id (fun x => by cases x; rfl))⟩)
    · exact hm.1
    · exact putL_keep _ _ _ _ _ h.cl h.len1 hNV h.hd
    · exact h.book.same (ht.same (fun k hk _ x => x.elim (fun e => h.ngr (e ▸ hk)) (fun e => by cases e; exact h.ngg hk)))
    · exact h.bel.trans (ht.below hsz (fun k hk => hk.elim (fun e => by have := h.rfar; omega) (fun e => by cases e; exact h.gfar)))
  · obtain ⟨_, V', hV', _, hNV, hV2⟩ := wants_ok h.pol h.rle hW
    obtain rfl : V' = V := by rw [hV] at hV'; omega
    obtain ⟨hs', hb', ht'⟩ := change_st h.sound h.bud h.tot h.rle hV2 hVR
    have hol : (octL cs (cellN 0 R 0) len).length = len := octL_len _ _ _ (by rw [h.cl]; exact cellN_le _ _ _) (by rw [h.cl]; exact h.len2)
    have hcl : (octL cs (cellN 0 R 0) len ++ zeros (V' - len)).length = V' := by rw [List.length_append, hol]; simp [zeros]; omega
    refine Or.inr (Or.inr ⟨rfl, g', V', len + zs.length, _, _, G', ⟨hr, hrow, ?_, hV2, by have := h.len1; omega, hNV, ?_, h.pol, hb, hs', hb', ht', hGr, hGg, by omega, hfar hG, h.rfar, by omega, ?_⟩, hVR, hg', hG, ht⟩)
    · rw [putL_len _ _ _ (by rw [hcl]; exact cellN_le _ _ _) (by rw [hcl]; omega)]; exact hcl
    · refine putL_keep _ _ V' len f0 hcl h.len1 hNV ?_
      rw [List.take_append_of_le_length (by rw [hol]; exact h.len1)]
      exact octL_head cs R len f0 h.cl h.len1 h.len2 h.hd
    · exact h.bel.trans (ht.below hsz (fun k hk => hk.elim (h.far k) (fun e => by have := h.rfar; omega)))

/-- The first Write, onto a ring without memory. -/
def TmFirst (w0 : World) (r bp : Nat) (k s m f0 : Int) (w : World) : Ending → World → Prop := fun e w' => Below w0.heap.size w0 w' ∧
  ((∃ err : Int, err ≠ 0 ∧ e = .returned (.tuple #[.bool false, .int .i64 err])) ∨
   (e = .returned (.tuple #[.bool true, .int .i64 0]) ∧ ∃ g R len cs bst G, TmSt w0 w' r bp k s m f0 g R len cs bst G))

theorem tm_first (w0 w : World) (r bp : Nat) (k s m f0 : Int) (bst : BookSt) (G : Nat → Prop) (hr : ringAt w r bp 1 k s m (memOf none 0) 0 0) (hp : polErr k s m = 0) (hb : BookAt w G bp bst 1) (hs : Sound bst 1 10000000 (0 : Nat) 0) (hbu : bst.budget = 10000000) (hto : bst.total = (0 : Nat)) (hGr : ¬ G r) (hfar : ∀ k, G k → w0.heap.size ≤ k) (hrf : w0.heap.size ≤ r) (hbel : Below w0.heap.size w0 w)
    (v : Value) (zs : List Int) (hv : Reads w .u8 v zs) (hn : zs.length ≤ 140737488351232) (hz : zs.take 1 = [f0]) :
    Calls Try.prog 9 #[.pointer (some ⟨r, 0, none⟩), v] w (TmFirst w0 r bp k s m f0 w) := by
  have hz0 : 0 < zs.length := by cases zs with | nil => simp at hz | cons _ _ => simp
  refine (write_any r bp 1 k s m none 0 [] 0 0 v zs w G bst 1 10000000 (0 : Nat) 0 hr ⟨rfl, rfl⟩ (by omega) (by omega) (by omega) hp hv hn (Or.inr (by intro e; subst e; simp at hz0)) hb hs hGr).mono ?_
  intro e w' hpo
  have rlt := lt_of hr
  have hsz := hbel.size
  rcases hpo with ⟨err, he, rfl, _, ht, G', _, hG, _⟩ | ⟨hE, hV, _⟩ | ⟨V, hW, hV, hVR, hE, rfl, g', G', hg', hGg, hGr', hG, hb', hr', hrow, ht⟩
  · exact ⟨hbel.trans (ht.below hsz hfar), Or.inl ⟨err, he, rfl⟩⟩
  · obtain ⟨_, V, hV', _, hNV, _⟩ := wants_ok hp (by omega) hE
    rw [hV] at hV'
    omega
  · obtain ⟨_, V', hV', _, hNV, hV2⟩ := wants_ok hp (by omega) hW
    obtain rfl : V' = V := by rw [hV] at hV'; omega
    obtain ⟨hs', hbu', hto'⟩ := change_st hs hbu hto (by omega) hV2 hVR
    have hcl : (octL [] (cellN 0 0 0) 0 ++ zeros (V' - 0)).length = V' := by simp [octL, zeros]
    have hB : Below w0.heap.size w0 w' := hbel.trans (ht.below hsz (fun k hk => hk.elim (hfar k) (fun e => by omega)))
    refine ⟨hB, Or.inr ⟨rfl, g', V', 0 + zs.length, _, _, G', ⟨hr', hrow, ?_, hV2, by omega, hNV, ?_, hp, hb', hs', hbu', hto', hGr', hGg, by omega, fun k hk => (hG k hk).elim (hfar k) (fun x => by omega), hrf, by omega, hB⟩⟩⟩
    · rw [putL_len _ _ _ (by rw [hcl]; exact cellN_le _ _ _) (by rw [hcl]; omega)]; exact hcl
    · exact putL_head _ _ V' f0 hcl (by omega) hz

end Go.Proofs.Ytmapdgpdpojjjaa
