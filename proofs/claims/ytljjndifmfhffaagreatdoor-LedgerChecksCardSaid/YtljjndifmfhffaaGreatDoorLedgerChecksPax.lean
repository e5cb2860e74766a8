/-
  The book's Shut, SetLimit, SetBudget, Pay, until, Leased, Total: what they give. No conditions but those of the book's own state.
-/
import Derived.Test.YtljjndifmfhffaaGreatDoorLedgerChecksPaw
namespace Go.Proofs.YtljjndifmfhffaaGreatDoor
open Go.RowKit
set_option linter.unusedVariables false

set_option maxHeartbeats 2000000 in
set_option maxRecDepth 100000 in
theorem limit_ok (p : Nat) (o n l h s : Int) (w : World) (F : Nat → Prop) (st : BookSt) (N : Nat) (hb : BookAt w F p st N) (g : Good st) (hc : chkE o [n] = 0) (ha : st.acc o = some (l, h, s)) :
    Calls Tryz.prog 28 #[.pointer (some ⟨p, 0, none⟩), .int .i64 o, .int .i64 n] w (OpPost (if n < h + s then 12 else 0) F p (if n < h + s then st else (st.put o (some (n, h, s))).note ⟨6, o, 0, n, 0, 0⟩) N w) := by
  have B1 : Below w.heap.size w (w.alloc (.cells #[.int .i64 n] 3)) := (Below.refl _ _).alloc (Nat.le_refl _) _
  have FIN := Lib.hid (fun q => bad_fin hb (bdrewN B1 q))
  obtain ⟨mb, blk, lv, ev, D, hm⟩ := hb
  obtain ⟨b, hbk, hblk, hFb, hpb⟩ := hm.found ha
  have hm1 := hm.same (Below.same_on B1)
  have A := account_any p o _ [n] _ F st N mb blk lv ev D (reads_one w n 3) hc hm1
  rw [hbk] at A
  have HA := Lib.hid A
  have hblk1 := (B1.block b (lt_of hblk)).trans hblk
  have h0 := g.s0 ha
  obtain ⟨a1, a2, a3, a4, a5⟩ := g.own o l h s ha
  have HCN := Lib.hid (counts_any b l h s _ hblk1 (by omega) (by omega))
  have c0 : (w.alloc (.cells #[.int .i64 n] 3)).cell? ⟨b, 0, none⟩ = some (.int .i64 l) := by rw [cell_of hblk1]; rfl
  have f0 : (w.alloc (.cells #[.int .i64 n] 3)).frozen? ⟨b, 0, none⟩ = false := free_of hblk1 0
  have NT := Lib.hid (fun q => note_any p ⟨6, o, 0, n, 0, 0⟩ (((w.alloc (.cells #[.int .i64 n] 3)).drewN q).setCell ⟨b, 0, none⟩ (.int .i64 n)) F (st.put o (some (n, h, s))) N
    ⟨mb, blk, lv, ev, D, (hm1.same (Below.same_on (bdrewN (Below.refl _ _) q))).acct hbk n h s _ rfl rfl rfl ((Below.heap_setCell _ _ _ p (Ne.symm hpb)).trans hm1.self) (by rw [block_setCell (show ((w.alloc (.cells #[.int .i64 n] 3)).drewN q).heap[b]? = _ from hblk1)]; rfl) (fun k h1 h2 h3 => Below.heap_setCell _ _ _ k h3)⟩ g.ents)
  have TT := Lib.hid (fun q => ((Touch.of_below (F := F) B1).drewN q).setCell (p := ⟨b, 0, none⟩) (Or.inl hFb) (.int .i64 n))
  generalize hcs : h + s = cs at *
  clear A hm hm1 hblk hblk1 ha hbk B1 hc a1 a2 a3 a4 a5 h0 g
  by_cases hlt : n < cs
  · rw [if_pos hlt, if_pos hlt]
    clear NT TT
    go_enter Tryz.func28, Tryz.ntmps28
    go_wp2_with fail
    refine HA.out.mono ?_
    rintro e w1 ⟨rfl, rfl⟩
    unfold ptrOf
    go_wp2_with fail
    refine HCN.out.mono ?_
    rintro e w2 ⟨rfl, q, rfl⟩
    go_wp2_with fail
    go_ret
    exact ⟨rfl, (FIN.out q).1, (FIN.out q).2⟩
  · rw [if_neg hlt, if_neg hlt]
    go_enter Tryz.func28, Tryz.ntmps28
    go_wp2_with fail
    refine HA.out.mono ?_
    rintro e w1 ⟨rfl, rfl⟩
    unfold ptrOf
    go_wp2_with fail
    refine HCN.out.mono ?_
    rintro e w2 ⟨rfl, q, rfl⟩
    go_wp2_with fail
    refine (NT.out q).mono ?_
    rintro e w3 ⟨rfl, hb3, ht3⟩
    have HP := Lib.hid (OpPost.mk (err := 0) (TT.out q) ht3 hb3 (fun k hk => Or.inl hk))
    clear hb3 ht3
    go_wp2_with fail
    go_ret
    exact HP.out
theorem limit_all (p : Nat) (o n : Int) (w : World) (F : Nat → Prop) (st : BookSt) (N : Nat) (hb : BookAt w F p st N) (g : Good st) :
    Calls Tryz.prog 28 #[.pointer (some ⟨p, 0, none⟩), .int .i64 o, .int .i64 n] w (OpPost (limR st o n).1 F p (limR st o n).2 N w) := by
  unfold limR
  rcases chkE_vals o [n] with hc | hc
  · rw [if_pos hc]
    cases ha : st.acc o with
    | none => exact limit_err p o n w F st N hb 7 (Or.inr ⟨hc, ha, rfl⟩)
    | some a =>
      obtain ⟨l, h, s⟩ := a
      have := limit_ok p o n l h s w F st N hb g hc ha
      simp only
      split <;> simp_all
  · rw [if_neg (by rw [hc]; decide)]
    exact limit_err p o n w F st N hb 2 (Or.inl ⟨hc, rfl⟩)

/-! Shut. -/
theorem shut_mem {w w1 : World} {F : Nat → Prop} {p : Nat} {st : BookSt} {N mb : Nat} {blk : Int → Option Nat} {lv ev : Value} {D : DataW Unit} (h : BookMem w F p st N mb blk lv ev D) (o : Int)
    (hm : w1.ownsMap Tryz.prog 3 ptrElem mb N (D.del (.int .i64 o))) (hg : w.grownBy w1 (some mb)) :
    BookMem w1 F p (st.put o none) N mb (fun x => if x = o then none else blk x) lv ev (D.del (.int .i64 o)) ∧ Touch F w w1 := by
  have hk : ∀ k, k < w.heap.size → k ≠ mb → w1.heap[k]? = w.heap[k]? := fun k hk hne => hg.block k hk (fun e => hne (by simpa using e))
  have notmb : ∀ b cur t, w.heap[b]? = some (.cells cur t (0, 0)) → b ≠ mb := by
    intro b cur t hb e
    subst e
    obtain ⟨xs, clock, hx, _⟩ := h.map
    rw [hb] at hx; simp at hx
  refine ⟨⟨(hk p (lt_of h.self) (notmb _ _ _ h.self)).trans h.self, h.fp, hm, h.fmap, ?_, ?_, ?_, ?_, ?_, h.flea, ?_, h.fent⟩, ?_⟩
  · intro x z
    by_cases hx : x = o
    · subst hx
      rw [Maps.atKey_del_same, if_pos rfl]
      rfl
    · rw [Maps.atKey_del_other (lit_ne hx), if_neg hx]
      exact h.look x z
  · intro x
    rw [put_acc]
    by_cases hx : x = o
    · simp [hx]
    · simp only [if_neg hx]; exact h.anone x
  · intro x b hb
    by_cases hx : x = o
    · simp [hx] at hb
    · simp only [if_neg hx] at hb
      obtain ⟨l', x', s', h1, h2, h3⟩ := h.asome x b hb
      exact ⟨l', x', s', by rw [put_acc, if_neg hx]; exact h1, (hk b (lt_of h2) (notmb _ _ _ h2)).trans h2, h3⟩
  · intro x y b hx hy
    by_cases ex : x = o
    · simp [ex] at hx
    · by_cases ey : y = o
      · simp [ey] at hy
      · simp only [if_neg ex, if_neg ey] at hx hy
        exact h.inj x y b hx hy
  · refine ownsRow_same h.lrow (fun k hk' => ?_)
    obtain ⟨cur, hc⟩ := row_block h.lrow hk'
    exact hk k (lt_of hc) (notmb _ _ _ hc)
  · refine ownsRow_same h.erow (fun k hk' => ?_)
    obtain ⟨cur, hc⟩ := row_block h.erow hk'
    exact hk k (lt_of hc) (notmb _ _ _ hc)
  · exact (Touch.refl F w).grown hg (fun k hk => by simp only [Option.some.injEq] at hk; subst hk; exact Or.inl h.fmap)

set_option maxHeartbeats 2000000 in
set_option maxRecDepth 100000 in
theorem shut_ok (p : Nat) (o l h s : Int) (w : World) (F : Nat → Prop) (st : BookSt) (N : Nat) (hb : BookAt w F p st N) (g : Good st) (hc : chkE o [] = 0) (ha : st.acc o = some (l, h, s)) :
    Calls Tryz.prog 24 #[.pointer (some ⟨p, 0, none⟩), .int .i64 o] w (OpPost (if 0 < h + s then 11 else 0) F p (if 0 < h + s then st else (st.put o none).note ⟨2, o, 0, 0, 0, 0⟩) N w) := by
  have hwf : (Lit.int .i64 o).wf = true := WalkArith.wf_i64 (by have := (chkE_zero hc).1; omega)
  have B1 : Below w.heap.size w w := Below.refl _ _
  have FIN := Lib.hid (fun q => bad_fin hb (bdrewN B1 q))
  obtain ⟨mb, blk, lv, ev, D, hm⟩ := hb
  obtain ⟨b, hbk, hblk, hFb, hpb⟩ := hm.found ha
  have A := account_any p o _ [] _ F st N mb blk lv ev D (reads_nil w) hc hm
  rw [hbk] at A
  have HA := Lib.hid A
  have h0 := g.s0 ha
  obtain ⟨a1, a2, a3, a4, a5⟩ := g.own o l h s ha
  have HCN := Lib.hid (counts_any b l h s _ hblk (by omega) (by omega))
  have c4 : w.cell? ⟨p, 4, none⟩ = some (.map (some mb)) := by rw [cell_of hm.self]; rfl
  have HM := Lib.hid (fun q => hm.same (w' := w.drewN q) (Below.same_on (bdrewN (Below.refl _ _) q)))
  have GE := g.ents
  generalize hcs : h + s = cs at *
  clear A hm hblk ha hbk B1 hc a1 a2 a3 a4 a5 h0 g
  by_cases hlt : 0 < cs
  · rw [if_pos hlt, if_pos hlt]
    go_enter Tryz.func24, Tryz.ntmps24
    go_wp2_with fail
    refine HA.out.mono ?_
    rintro e w1 ⟨rfl, rfl⟩
    unfold ptrOf
    go_wp2_with fail
    refine HCN.out.mono ?_
    rintro e w2 ⟨rfl, q, rfl⟩
    go_wp2_with fail
    go_ret
    exact ⟨rfl, (FIN.out q).1, (FIN.out q).2⟩
  · rw [if_neg hlt, if_neg hlt]
    go_enter Tryz.func24, Tryz.ntmps24
    go_wp2_with fail
    refine HA.out.mono ?_
    rintro e w1 ⟨rfl, rfl⟩
    unfold ptrOf
    go_wp2_with fail
    refine HCN.out.mono ?_
    rintro e w2 ⟨rfl, q, rfl⟩
    go_wp2_with (at_delete; go_must (refine wpList_delete_own _ rfl _ _ 36 3 rfl 79 intKey Tryz.underlying36 ptrElem mb N D rfl (by exact (HM.out q).map) (.int .i64 o) (.int .i64 o) rfl (Maps.keyOf_int_mk Tryz.underlying3 hwf) ?_))
    intro w1 hown1 hturn1
    obtain ⟨h1, h2⟩ := shut_mem (HM.out q) o hown1 hturn1.grown
    have NT := Lib.hid (note_any p ⟨2, o, 0, 0, 0, 0⟩ w1 _ _ _ ⟨mb, _, lv, ev, _, h1⟩ GE)
    have HT := Lib.hid (((Touch.refl F w).drewN q).then h2)
    clear hown1 hturn1 h1 h2 c4
    go_wp2_with fail
    refine NT.out.mono ?_
    rintro e w3 ⟨rfl, hb3, ht3⟩
    have HP := Lib.hid (OpPost.mk (err := 0) HT.out ht3 hb3 (fun k hk => Or.inl hk))
    clear hb3 ht3
    go_wp2_with fail
    go_ret
    exact HP.out
theorem shut_all (p : Nat) (o : Int) (w : World) (F : Nat → Prop) (st : BookSt) (N : Nat) (hb : BookAt w F p st N) (g : Good st) :
    Calls Tryz.prog 24 #[.pointer (some ⟨p, 0, none⟩), .int .i64 o] w (OpPost (shutR st o).1 F p (shutR st o).2 N w) := by
  unfold shutR
  rcases chkE_vals o [] with hc | hc
  · rw [if_pos hc]
    cases ha : st.acc o with
    | none => exact shut_err p o w F st N hb 7 (Or.inr ⟨hc, ha, rfl⟩)
    | some a =>
      obtain ⟨l, h, s⟩ := a
      have := shut_ok p o l h s w F st N hb g hc ha
      simp only
      split <;> simp_all
  · rw [if_neg (by rw [hc]; decide)]
    exact shut_err p o w F st N hb 2 (Or.inl ⟨hc, rfl⟩)

/-! SetBudget. -/
set_option maxHeartbeats 2000000 in
set_option maxRecDepth 100000 in
theorem budget_all (p : Nat) (b : Int) (w : World) (F : Nat → Prop) (st : BookSt) (N : Nat) (hb : BookAt w F p st N) (g : Good st) :
    Calls Tryz.prog 29 #[.pointer (some ⟨p, 0, none⟩), .int .i64 b] w (OpPost (budR st b).1 F p (budR st b).2 N w) := by
  unfold budR
  have FIN := Lib.hid (bad_fin hb (Below.refl _ w))
  obtain ⟨mb, blk, lv, ev, D, hm⟩ := hb
  by_cases hin : 0 ≤ b ∧ b ≤ 10000000
  · rw [if_pos hin]
    obtain ⟨h1, h2⟩ := hin
    have d1 : w.cell? ⟨p, 1, none⟩ = some (.int .i64 st.total) := by rw [cell_of hm.self]; rfl
    have d0 : w.cell? ⟨p, 0, none⟩ = some (.int .i64 st.budget) := by rw [cell_of hm.self]; rfl
    have f0 : w.frozen? ⟨p, 0, none⟩ = false := free_of hm.self 0
    have NT := Lib.hid (note_any p ⟨7, 0, 0, b, 0, 0⟩ (w.setCell ⟨p, 0, none⟩ (.int .i64 b)) F { st with budget := b } N ⟨mb, blk, lv, ev, D, hm.turn _ (by rw [block_setCell hm.self]; rfl) (fun o c hc => by
      obtain ⟨l, x, s, h1, h2, h3⟩ := hm.asome o c hc
      exact ⟨l, x, s, h1, (Below.heap_setCell _ _ _ c (by rintro rfl; rw [hm.self] at h2; simp [bookCells] at h2)).trans h2⟩) (fun o => Iff.rfl) rfl rfl (fun k h1 h2 h3 => Below.heap_setCell _ _ _ k h2)⟩ g.ents)
    have TT := Lib.hid ((Touch.refl F w).setCell (p := ⟨p, 0, none⟩) (Or.inl hm.fp) (.int .i64 b))
    have HNE : Hid (budR st b = budR st b) := Lib.hid rfl
    by_cases hlt : b < st.total
    · rw [if_pos hlt]
      generalize ht : st.total = tt at d1 hlt
      have HW1 := Lib.hid (within_ledger_yes b 0 10000000 w h1 h2)
      clear hm NT TT HNE g h1 h2
      go_enter Tryz.func29, Tryz.ntmps29
      go_wp2_with fail
      refine HW1.out.mono ?_
      rintro e w' ⟨rfl, rfl⟩
      go_wp2_with fail
      go_ret
      exact ⟨rfl, FIN.out.1, FIN.out.2⟩
    · rw [if_neg hlt]
      generalize ht : st.total = tt at d1 hlt
      have HW1 := Lib.hid (within_ledger_yes b 0 10000000 w h1 h2)
      have HTT := Lib.hid ht
      clear hm HNE g h1 h2 ht
      go_enter Tryz.func29, Tryz.ntmps29
      go_wp2_with fail
      refine HW1.out.mono ?_
      rintro e w' ⟨rfl, rfl⟩
      go_wp2_with fail
      refine NT.out.mono ?_
      rintro e w3 ⟨rfl, hb3, ht3⟩
      have HP := Lib.hid (OpPost.mk (err := 0) TT.out ht3 hb3 (fun k hk => Or.inl hk))
      clear hb3 ht3
      go_wp2_with fail
      go_ret
      have hx := HTT.out
      subst hx
      exact HP.out
  · rw [if_neg hin]
    have HW1 := Lib.hid (within_ledger_no b 0 10000000 w hin)
    clear hm g hin
    go_enter Tryz.func29, Tryz.ntmps29
    go_wp2_with fail
    refine HW1.out.mono ?_
    rintro e w' ⟨rfl, rfl⟩
    go_wp2_with fail
    go_ret
    exact ⟨rfl, FIN.out.1, FIN.out.2⟩

/-! until, Leased, Total. -/
set_option maxHeartbeats 1000000 in
set_option maxRecDepth 100000 in
theorem until_any (p : Nat) (u : Int) (w : World) (F : Nat → Prop) (st : BookSt) (N : Nat) (hb : BookAt w F p st N) :
    Calls Tryz.prog 57 #[.pointer (some ⟨p, 0, none⟩), .int .i64 u] w (fun e w' => e = .returned (.int .i64 (untilE st u)) ∧ w = w') := by
  obtain ⟨mb, blk, lv, ev, D, hm⟩ := hb
  have d2 : w.cell? ⟨p, 2, none⟩ = some (.int .i64 st.time) := by rw [cell_of hm.self]; rfl
  clear hm
  unfold untilE
  generalize st.time = tm at *
  by_cases hin : 0 ≤ u ∧ u ≤ 1000000
  · rw [if_pos hin]
    obtain ⟨h1, h2⟩ := hin
    have HW1 := Lib.hid (within_ledger_yes u 0 1000000 w h1 h2)
    clear h1 h2
    by_cases hlt : u ≤ tm
    · rw [if_pos hlt]
      go_enter Tryz.func57, Tryz.ntmps57
      go_wp2_with fail
      refine HW1.out.mono ?_
      rintro e w' ⟨rfl, rfl⟩
      go_wp2_with fail
      go_ret
      exact ⟨rfl, rfl⟩
    · rw [if_neg hlt]
      go_enter Tryz.func57, Tryz.ntmps57
      go_wp2_with fail
      refine HW1.out.mono ?_
      rintro e w' ⟨rfl, rfl⟩
      go_wp2_with fail
      go_ret
      exact ⟨rfl, rfl⟩
  · rw [if_neg hin]
    have HW1 := Lib.hid (within_ledger_no u 0 1000000 w hin)
    clear hin
    go_enter Tryz.func57, Tryz.ntmps57
    go_wp2_with fail
    refine HW1.out.mono ?_
    rintro e w' ⟨rfl, rfl⟩
    go_wp2_with fail
    go_ret
    exact ⟨rfl, rfl⟩
def leasedV (st : BookSt) (o : Int) : Int := if 1 ≤ o ∧ o ≤ 40 then (match st.acc o with | some (_, _, s) => s | none => 0) else 0
end Go.Proofs.YtljjndifmfhffaaGreatDoor
