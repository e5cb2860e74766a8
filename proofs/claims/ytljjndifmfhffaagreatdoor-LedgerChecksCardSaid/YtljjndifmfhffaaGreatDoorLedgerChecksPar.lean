/-
  The reference's book: note. No conditions but the list's length.
  The reference's book: hold. No conditions.
-/
import Derived.Test.YtljjndifmfhffaaGreatDoorLedgerChecksPaq

namespace Go.Proofs.YtljjndifmfhffaaGreatDoor
section
open Go.RowKit Go.Maps
set_option linter.unusedVariables false

theorem noteR_mem {w w' : World} {F : Nat → Prop} {p : Nat} {st : BookSt} {es : List Ent} {wh : Bool} {N mb : Nat} {lv ev : Value} {D : DataW Unit} (h : RefMem w F p st es wh N mb lv ev D) (en : Ent) (o : Obj) (g off cap : Nat)
    (hrow : OffRow w' 33 6 (.slice (some ⟨g, off, none⟩) (es.length + 1) cap) (es.length + 1) (es.flatMap Ent.cells ++ en.cells))
    (hgr : (w.alloc o).drew.grownBy w' ev.ownBlock) (hpl : ev.ownBlock = some g ∨ w.heap.size + 1 ≤ g) :
    RefMem (w'.setCell ⟨p, 6, none⟩ (.slice (some ⟨g, off, none⟩) (es.length + 1) cap)) (fun k => F k ∨ w.heap.size ≤ k) p st (es ++ [en]) wh N mb lv (.slice (some ⟨g, off, none⟩) (es.length + 1) cap) D ∧
      Touch F w (w'.setCell ⟨p, 6, none⟩ (.slice (some ⟨g, off, none⟩) (es.length + 1) cap)) := by
  have hp := lt_of h.self
  have blk' : ∀ k, k < w.heap.size → ev.ownBlock ≠ some k → w'.heap[k]? = w.heap[k]? := fun k hk hne =>
    (hgr.block k (by simp; omega) (fun e => hne e.symm)).trans (heap_alloc_old w _ hk)
  have hp' := (blk' p hp h.pe).trans h.self
  have hgp : g ≠ p := by
    rcases hpl with e | e
    · intro x; subst x; exact h.pe e
    · omega
  refine ⟨h.ents _ _ ?_ ?_ ?_ ?_, ?_⟩
  · rw [block_setCell hp']; rfl
  · intro k hk hne hne2
    rw [Below.heap_setCell _ _ _ _ hne]
    exact blk' k hk hne2
  · have := hrow.same (w' := w'.setCell ⟨p, 6, none⟩ (.slice (some ⟨g, off, none⟩) (es.length + 1) cap)) (fun k hk => Below.heap_setCell _ _ _ _ (by simp [Value.ownBlock] at hk; subst hk; exact hgp))
    simpa [List.flatMap_append] using this
  · intro k hk
    simp only [Value.ownBlock, Option.some.injEq] at hk
    subst hk
    rcases hpl with e | e
    · exact Or.inl (h.fent _ e)
    · exact Or.inr (by omega)
  · refine Touch.setCell ?_ (Or.inl h.fp) _
    exact ((Touch.refl F w).alloc o).drew.grown hgr (fun k hk => Or.inl (h.fent k hk))

theorem noteR_cut {w W : World} {F : Nat → Prop} {p : Nat} {st : BookSt} {es : List Ent} {wh : Bool} {N mb : Nat} {lv : Value} {D : DataW Unit} {g off cap n : Nat} (h : RefMem W (fun k => F k ∨ w.heap.size ≤ k) p st es wh N mb lv (.slice (some ⟨g, off, none⟩) n cap) D) (ht : Touch F w W) (hn : es.length = n) (k : Nat) (hk : k ≤ n) :
    RefAt (W.setCell ⟨p, 6, none⟩ (.slice (some ⟨g, off + k * 6, none⟩) (n - k) (cap - k))) (fun k => F k ∨ w.heap.size ≤ k) p st (es.drop k) wh N ∧ Touch F w (W.setCell ⟨p, 6, none⟩ (.slice (some ⟨g, off + k * 6, none⟩) (n - k) (cap - k))) := by
  have hgp : g ≠ p := fun e => h.pe (by simp [Value.ownBlock, e])
  refine ⟨⟨mb, lv, _, D, (h.ents (W := W.setCell ⟨p, 6, none⟩ (.slice (some ⟨g, off + k * 6, none⟩) (n - k) (cap - k))) (.slice (some ⟨g, off + k * 6, none⟩) (n - k) (cap - k)) (es.drop k) ?_ ?_ ?_ ?_).wider (G := fun k => F k ∨ w.heap.size ≤ k) ?_⟩, Touch.setCell ht h.fp _⟩
  · rw [block_setCell h.self]; rfl
  · intro k hk hne hne2
    exact Below.heap_setCell _ _ _ _ hne
  · have he := h.erow
    rw [hn] at he
    have := (he.drop hk).same (w' := W.setCell ⟨p, 6, none⟩ (.slice (some ⟨g, off + k * 6, none⟩) (n - k) (cap - k))) (fun k hk => Below.heap_setCell _ _ _ _ (by simp [Value.ownBlock] at hk; subst hk; exact hgp))
    rw [drop_cells] at this
    rw [List.length_drop, hn]
    exact this
  · intro k hk
    simp only [Value.ownBlock, Option.some.injEq] at hk
    subst hk
    exact Or.inl (h.fent _ rfl)
  · rintro k (h1 | h1)
    · exact h1
    · exact Or.inr (Nat.le_trans ht.size h1)

set_option maxHeartbeats 4000000 in
set_option maxRecDepth 100000 in
theorem noteR_any (p : Nat) (en : Ent) (w : World) (F : Nat → Prop) (st : BookSt) (es : List Ent) (wh : Bool) (hb : RefAt w F p st es wh 40) (hn : es.length ≤ 9999) (hn5 : wh = false → es.length ≤ 5000) :
    Calls Tryz.prog 68 #[.pointer (some ⟨p, 0, none⟩), .agg #[.int .i64 en.kind, .int .i64 en.owner, .int .i64 en.other, .int .i64 en.amount, .int .i64 en.lease, .int .i64 en.untl]] w
      (RefDone F p st (noteE wh es en) wh w) := by
  obtain ⟨i0, hi0, hz0, hz1, hz2⟩ := info_parts infoEnt
  obtain ⟨mb, lv, ev, D, hm⟩ := hb
  obtain ⟨en1, en2, en3, en4, en5, en6⟩ := en
  have hp := lt_of hm.self
  have c6 : w.cell? ⟨p, 6, none⟩ = some ev := by rw [cell_of hm.self]; rfl
  have HM := Lib.hid hm
  have ONE : ∀ u ∈ [Value.int .i64 en1, .int .i64 en2, .int .i64 en3, .int .i64 en4, .int .i64 en5, .int .i64 en6], u.oneCell' = true := by
    intro u hu
    simp at hu
    rcases hu with rfl | rfl | rfl | rfl | rfl | rfl <;> rfl
  have same : ∀ w', (w.alloc (.cells #[.int .i64 en1, .int .i64 en2, .int .i64 en3, .int .i64 en4, .int .i64 en5, .int .i64 en6] 33)).drew.grownBy w' ev.ownBlock → w'.heap[p]? = some (.cells (refCells st wh mb lv ev) 46 (0, 0)) := by
    intro w' hg
    have h1 := hg.block p (by simp; omega) (fun e => hm.pe e.symm)
    exact h1.trans ((heap_alloc_old w _ hp).trans hm.self)
  have PC : ∀ w', (w.alloc (.cells #[.int .i64 en1, .int .i64 en2, .int .i64 en3, .int .i64 en4, .int .i64 en5, .int .i64 en6] 33)).drew.grownBy w' ev.ownBlock → w'.cell? ⟨p, 6, none⟩ = some ev := fun w' h => by rw [cell_of (same w' h)]; rfl
  have PF : ∀ w', (w.alloc (.cells #[.int .i64 en1, .int .i64 en2, .int .i64 en3, .int .i64 en4, .int .i64 en5, .int .i64 en6] 33)).drew.grownBy w' ev.ownBlock → w'.frozen? ⟨p, 6, none⟩ = false := fun w' h => free_of (same w' h) 6
  have SAME := Lib.hid same
  have HN5 := Lib.hid hn5
  clear hm same hn5
  go_enter Tryz.func68, Tryz.ntmps68
  go_wp2_with fail
  go_region_law ((go_loud (refine step_append_off rfl (.tmp 8) (.tmp 10) 22 rfl 33 i0 (.agg #[.int .i64 0, .int .i64 0, .int .i64 0, .int .i64 0, .int .i64 0, .int .i64 0]) 6 48 Tryz.underlying22 hi0 hz0 hz1 hz2 rfl (by decide) ev es.length (es.flatMap Ent.cells) (w.alloc (.cells #[.int .i64 en1, .int .i64 en2, .int .i64 en3, .int .i64 en4, .int .i64 en5, .int .i64 en6] 33)).drew _ [.int .i64 en1, .int .i64 en2, .int .i64 en3, .int .i64 en4, .int .i64 en5, .int .i64 en6] rfl (by exact HM.out.erow.same (fun k hk => by obtain ⟨cur, hc⟩ := HM.out.erow.block hk; exact heap_alloc_old w _ (lt_of hc))) (by simp [Act.eval]) rfl ONE (by unfold maxLen; omega) (by omega) ?_); intro g off cap w' hrow hgr hpl hsz; have d6 := PC w' hgr; have f6 := PF w' hgr))
  all_goals
    obtain ⟨h1, h2⟩ := noteR_mem HM.out ⟨en1, en2, en3, en4, en5, en6⟩ _ g off cap hrow hgr (hpl.imp id (fun x => by simpa using x))
    have H1 := Lib.hid h1
    have H2 := Lib.hid h2
    have hcap : es.length + 1 ≤ cap := by
      rcases hrow.2 with ⟨e, _⟩ | ⟨g', off', cap', cur, e, _, h1, _⟩
      · cases e
      · simp only [Value.slice.injEq] at e
        omega
    have hself : (w'.setCell ⟨p, 6, none⟩ (.slice (some ⟨g, off, none⟩) (es.length + 1) cap)).heap[p]? = some (.cells (refCells st wh mb lv (.slice (some ⟨g, off, none⟩) (es.length + 1) cap)) 46 (0, 0)) := h1.self
    have d5 : (w'.setCell ⟨p, 6, none⟩ (.slice (some ⟨g, off, none⟩) (es.length + 1) cap)).cell? ⟨p, 5, none⟩ = some (.bool wh) := by rw [cell_of hself]; rfl
    have d7 : (w'.setCell ⟨p, 6, none⟩ (.slice (some ⟨g, off, none⟩) (es.length + 1) cap)).cell? ⟨p, 6, none⟩ = some (.slice (some ⟨g, off, none⟩) (es.length + 1) cap) := by rw [cell_of hself]; rfl
    have f7 : (w'.setCell ⟨p, 6, none⟩ (.slice (some ⟨g, off, none⟩) (es.length + 1) cap)).frozen? ⟨p, 6, none⟩ = false := free_of hself 6
    clear h1 h2 hself hrow hgr hpl PC PF
    cases wh with
    | true =>
      go_wp2_with fail
      go_end0
      exact ⟨rfl, ⟨mb, lv, _, D, H1.out⟩, H2.out⟩
    | false =>
      have hn6 := HN5.out rfl
      have HNE : Hid (noteE false es ⟨en1, en2, en3, en4, en5, en6⟩ = (es ++ [(⟨en1, en2, en3, en4, en5, en6⟩ : Ent)]).drop (es.length + 1 - 5000)) := Lib.hid (by simp only [noteE, last5, Bool.false_eq_true, if_false, List.length_append, List.length_singleton])
      have HL : Hid ((es ++ [(⟨en1, en2, en3, en4, en5, en6⟩ : Ent)]).length = es.length + 1) := Lib.hid (by rw [List.length_append]; rfl)
      by_cases h5 : es.length = 5000
      · have hw1 : IntKind.i64.wrap ((es.length : Int) + 1 - 5000) = 1 := by rw [h5]; decide
        have hc1 : ¬ cap = 1 := by omega
        have hk1 : (1 : Int) ≤ (es.length : Int) + 1 := by omega
        have HZ : Hid (es.length + 1 - 5000 = 1) := Lib.hid (by omega)
        clear h5 hn6 hn HN5
        go_wp2_with fail
        go_region_law (fail)
        all_goals
          go_wp2_with fail
          go_end0
          obtain ⟨r1, r2⟩ := noteR_cut H1.out H2.out HL.out 1 (by omega)
          exact ⟨rfl, by rw [HNE.out, HZ.out]; exact r1.same (fun _ _ _ => rfl), r2.drew⟩
      · have HZ : Hid (es.length + 1 - 5000 = 0) := Lib.hid (by omega)
        have hn7 : es.length ≤ 4999 := by omega
        obtain ⟨X, hw1, hX⟩ : ∃ X : Int, IntKind.i64.wrap ((es.length : Int) + 1 - 5000) = X ∧ (if (0 : Int) < X then X else 0) = 0 := ⟨_, IntWalk.i64_in _ (by omega), if_neg (by omega)⟩
        have hx0 : (0 : Int) ≤ (es.length : Int) + 1 := by omega
        have hc1 : ¬ cap = 0 := by omega
        clear h5 hn6 hn HN5
        go_wp2_with fail
        go_region_law (fail)
        all_goals
          go_wp2_with fail
          go_end0
          obtain ⟨r1, r2⟩ := noteR_cut H1.out H2.out HL.out 0 (by omega)
          exact ⟨rfl, by rw [HNE.out, HZ.out]; exact r1.same (fun _ _ _ => rfl), r2.drew⟩

end
end Go.Proofs.YtljjndifmfhffaaGreatDoor

namespace Go.Proofs.YtljjndifmfhffaaGreatDoor
section
open Go.RowKit Go.Maps
set_option linter.unusedVariables false

/-- An account put into the map, in the world behind a new block and a draw. -/
theorem RefMem.putRun {w W : World} {F : Nat → Prop} {p : Nat} {st : BookSt} {es : List Ent} {wh : Bool} {mb : Nat} {lv ev : Value} {D : DataW Unit} (hm : RefMem w F p st es wh 40 mb lv ev D) (B : Below w.heap.size w W) (o l x s : Int) (ho : 1 ≤ o ∧ o ≤ 40) :
    ∃ w1, (Instr.mapUpdate 44 (.map (some mb)) (.int .i64 o) (.agg #[.int .i64 l, .int .i64 x])).run Tryz.prog W = .ok () w1 ∧
      RefAt w1 (fun k => F k ∨ w.heap.size ≤ k) p (st.put o (some (l, x, s))) es wh 40 ∧ Touch F w w1 := by
  have hwf : (Lit.int .i64 o).wf = true := WalkArith.wf_i64 (by omega)
  have hm1 := hm.same (Below.same_on B)
  obtain ⟨w1, h1, h2, h3⟩ := hm1.map.update (t := 44) intKey Tryz.underlying44 (by unfold maxLen; omega) (Maps.keyOf_int_mk Tryz.underlying3 hwf) (val := .agg #[.int .i64 l, .int .i64 x]) (d := .agg [.lit (.int .i64 l), .lit (.int .i64 x)]) (ps := []) rfl
  obtain ⟨r1, r2⟩ := hm1.putAcc o l x s ho h2 h3
  exact ⟨w1, h1, r1.wider (fun k hk => Or.inl hk), (Touch.of_below B).then r2⟩

set_option maxHeartbeats 2000000 in
set_option maxRecDepth 100000 in
theorem holdR_any (p : Nat) (o by_ l h s : Int) (w : World) (F : Nat → Prop) (st : BookSt) (es : List Ent) (wh : Bool) (hb : RefAt w F p st es wh 40) (ho : 1 ≤ o ∧ o ≤ 40) (ha : st.acc o = some (l, h, s)) (hr : -1000000000 ≤ h + by_ ∧ h + by_ ≤ 1000000000) :
    Calls Tryz.prog 70 #[.pointer (some ⟨p, 0, none⟩), .int .i64 o, .int .i64 by_] w (RefDone F p (st.put o (some (l, h + by_, s))) es wh w) := by
  obtain ⟨mb, lv, ev, D, hm⟩ := hb
  have c1 : w.cell? ⟨p, 1, none⟩ = some (.map (some mb)) := by rw [cell_of hm.self]; rfl
  have LK := ref_lookup hm o ho ha
  have HM := Lib.hid hm
  obtain ⟨w1, hrun, hp1, hp2⟩ := hm.putRun (W := (w.alloc (.cells #[.int .i64 l, .int .i64 (h + by_)] 99)).drew) (bdrewN ((Below.refl _ w).alloc (Nat.le_refl _) _) 1) o l (h + by_) s ho
  have HP1 := Lib.hid hp1
  have HP2 := Lib.hid hp2
  have c2 : (w.alloc (.cells #[.int .i64 l, .int .i64 (h + by_)] 99)).cell? ⟨p, 1, none⟩ = some (.map (some mb)) := old_cell ((Below.refl _ w).alloc (Nat.le_refl _) _) c1
  clear hm hp1 hp2
  go_enter Tryz.func70, Tryz.ntmps70
  go_wp2_with fail
  go_upto_region 2 with fail
  go_region_law (fail)
  all_goals
    go_wp2_with fail
    go_end0
    exact ⟨rfl, HP1.out, HP2.out⟩

end
end Go.Proofs.YtljjndifmfhffaaGreatDoor
