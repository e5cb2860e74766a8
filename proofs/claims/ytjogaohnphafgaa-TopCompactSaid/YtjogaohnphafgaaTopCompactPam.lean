/-
  note: what it gives, whatever is in the list. No conditions but the list's length.
-/
import Derived.Test.YtjogaohnphafgaaTopCompactPal
namespace Go.Proofs.Ytjogaohnphafgaa
open Go.RowKit

theorem cells_len (es : List Ent) : (es.flatMap Ent.cells).length = es.length * 6 := by
  induction es with
  | nil => rfl
  | cons e es ih => rw [List.flatMap_cons, List.length_append, ih, List.length_cons]; simp [Ent.cells]; omega
theorem drop_cells (es : List Ent) (k : Nat) : (es.flatMap Ent.cells).drop (k * 6) = (es.drop k).flatMap Ent.cells := by
  induction k generalizing es with
  | zero => simp
  | succ k ih =>
    cases es with
    | nil => simp
    | cons e es =>
      rw [List.flatMap_cons, List.drop_succ_cons, ← ih es, Nat.add_mul, Nat.one_mul, Nat.add_comm, ← List.drop_drop]
      congr 1

theorem row_base6 {B : Nat} {v : Value} {n sz : Nat} {xs : List Value} {e : TypeId} {W : World} (h : W.ownsRow B e sz v n xs) {k : Nat} (hk : v.ownBlock = some k) : B ≤ k := by
  rcases h.2 with ⟨rfl, _⟩ | ⟨g, cap, cur, rfl, hb, _⟩
  · simp [Value.ownBlock] at hk
  · simp [Value.ownBlock] at hk; omega
theorem ownsRow_sh {W : World} {B e n sz : Nat} {v : Value} {xs : List Value} (h : W.ownsRow B e sz v n xs) : ∃ a c, v = .slice a n c ∧ n ≤ c ∧ c ≤ maxLen := by
  rcases h.2 with ⟨rfl, rfl⟩ | ⟨g, cap, cur, rfl, _, _, h1, h2, _⟩
  · exact ⟨_, _, rfl, Nat.le_refl _, Nat.zero_le _⟩
  · exact ⟨_, _, rfl, h1, h2⟩
theorem row_zero {B : Nat} {v : Value} {n sz : Nat} {xs : List Value} {e : TypeId} {W : World} (h : W.ownsRow B e sz v n xs) : W.ownsRow 0 e sz v n xs := by
  refine ⟨h.1, ?_⟩
  rcases h.2 with h0 | ⟨g, cap, cur, rfl, hb, rest⟩
  · exact Or.inl h0
  · exact Or.inr ⟨g, cap, cur, rfl, Nat.zero_le _, rest⟩

def OwnEnts (xs : List Value) (m : Nat) (w : World) : Ending → World → Prop := fun e w' =>
  ∃ v, e = .returned v ∧ w'.ownsRow w.heap.size 101 6 v m xs ∧ Below w.heap.size w w'

set_option maxHeartbeats 1000000 in
set_option maxRecDepth 100000 in
theorem clone_ents (ad : Addr) (m c : Nat) (es : List Ent) (w : World) (hm : es.length = m) (hc : ∀ j u, (es.flatMap Ent.cells)[j]? = some u → w.cell? (ad.add j) = some u) (hmax : m ≤ 1000000) :
    Calls Try.prog 58 #[.slice (some ad) m c] w (OwnEnts (es.flatMap Ent.cells) m w) := by
  obtain ⟨i0, hi0, hz0, hz1, hz2⟩ := info_parts infoEnt
  have hq := fun (w : World) (a : Option Addr) (n c : Nat) => Lib.run_eql_slice_nil (P := Try.prog) w 92 101 a n c 0 0 Try.underlying92
  have HN : Hid (∀ j u, (es.flatMap Ent.cells)[j]? = some u → (w.alloc (.cells #[] 101)).cell? (ad.add j) = some u) := Lib.hid (fun j u hj => by
    have h1 := hc j u hj
    have hlt : (ad.add j).block < w.heap.size := World.block_lt_of_cell? w _ h1
    exact (((Below.refl w.heap.size w).alloc (Nat.le_refl _) _).cell hlt).trans h1)
  have HM : Hid (World.ownsRow (w.alloc (.cells #[] 101)) w.heap.size 101 6 (.slice (some ⟨w.heap.size, 0, none⟩) 0 0) 0 []) := World.ownsRow_made w #[] 0 (Nat.le_refl _) (by unfold maxLen; omega) rfl
  have HL : Hid ((es.flatMap Ent.cells).length = m * 6) := Lib.hid (by rw [cells_len, hm])
  have ONE : ∀ u ∈ es.flatMap Ent.cells, u.oneCell' = true := by
    intro u hu
    obtain ⟨e, _, he⟩ := List.mem_flatMap.1 hu
    simp [Ent.cells] at he
    rcases he with rfl | rfl | rfl | rfl | rfl | rfl <;> rfl
  have H1 := Lib.hid ONE
  clear hc ONE
  go_enter Try.func58, Try.ntmps58
  go_wp2_with (at_builtin; go_must (refine wpList_append_own _ rfl (.tmp 5) (.tmp 6) 92 rfl w.heap.size 101 i0 (.agg #[.int .i64 0, .int .i64 0, .int .i64 0, .int .i64 0, .int .i64 0, .int .i64 0]) 6 48 Try.underlying92 hi0 hz0 hz1 hz2 rfl (by decide) _ 0 [] rfl HM.out ad m c (es.flatMap Ent.cells) rfl HL.out HN.out H1.out (by unfold maxLen; omega) (by omega) (by simp) ?_))
  intro v' w1 hown hg _
  have hb : Below w.heap.size w w1 := ((Below.refl w.heap.size w).alloc (Nat.le_refl _) _).grown hg (by simp) (fun q hq => by simp [Value.ownBlock] at hq; omega)
  go_wp2_with fail
  go_ret
  exact ⟨_, rfl, by simpa using hown, hb⟩

set_option maxHeartbeats 4000000 in
set_option maxRecDepth 100000 in
theorem note_full (p : Nat) (en : Ent) (w : World) (F : Nat → Prop) (st : BookSt) (N : Nat) (hb : BookAt w F p st N) (hn : st.entries.length = 10000) :
    Calls Try.prog 46 #[.pointer (some ⟨p, 0, none⟩), .agg #[.int .i64 en.kind, .int .i64 en.owner, .int .i64 en.other, .int .i64 en.amount, .int .i64 en.lease, .int .i64 en.untl]] w
      (NotePost F p { st with entries := (st.entries ++ [en]).drop 5001 } N w) := by
  obtain ⟨i0, hi0, hz0, hz1, hz2⟩ := info_parts infoEnt
  obtain ⟨mb, blk, lv, ev, D, hm⟩ := hb
  obtain ⟨en1, en2, en3, en4, en5, en6⟩ := en
  have hp := lt_of hm.self
  have c6 : w.cell? ⟨p, 6, none⟩ = some ev := by rw [cell_of hm.self]; rfl
  have HM := Lib.hid hm
  have ONE : ∀ u ∈ [Value.int .i64 en1, .int .i64 en2, .int .i64 en3, .int .i64 en4, .int .i64 en5, .int .i64 en6], u.oneCell' = true := by
    intro u hu
    simp at hu
    rcases hu with rfl | rfl | rfl | rfl | rfl | rfl <;> rfl
  have same : ∀ w', (w.alloc (.cells #[.int .i64 en1, .int .i64 en2, .int .i64 en3, .int .i64 en4, .int .i64 en5, .int .i64 en6] 101)).drew.grownBy w' ev.ownBlock → w'.heap[p]? = some (.cells (bookCells st mb lv ev) 94 (0, 0)) := by
    intro w' hg
    have h1 := hg.block p (by simp; omega) (fun e => hm.pe e.symm)
    exact h1.trans ((heap_alloc_old w _ hp).trans hm.self)
  have PC : ∀ w', (w.alloc (.cells #[.int .i64 en1, .int .i64 en2, .int .i64 en3, .int .i64 en4, .int .i64 en5, .int .i64 en6] 101)).drew.grownBy w' ev.ownBlock → w'.cell? ⟨p, 6, none⟩ = some ev := fun w' h => by rw [cell_of (same w' h)]; rfl
  have PF : ∀ w', (w.alloc (.cells #[.int .i64 en1, .int .i64 en2, .int .i64 en3, .int .i64 en4, .int .i64 en5, .int .i64 en6] 101)).drew.grownBy w' ev.ownBlock → w'.frozen? ⟨p, 6, none⟩ = false := fun w' h => free_of (same w' h) 6
  have SAME := Lib.hid same
  clear hm same
  go_enter Try.func46, Try.ntmps46
  go_wp2_with fail
  go_region_law ((go_loud (refine step_append_new rfl (.tmp 9) (.tmp 11) 92 rfl 0 101 i0 (.agg #[.int .i64 0, .int .i64 0, .int .i64 0, .int .i64 0, .int .i64 0, .int .i64 0]) 6 48 Try.underlying92 hi0 hz0 hz1 hz2 rfl (by decide) ev st.entries.length (st.entries.flatMap Ent.cells) (w.alloc (.cells #[.int .i64 en1, .int .i64 en2, .int .i64 en3, .int .i64 en4, .int .i64 en5, .int .i64 en6] 101)).drew _ [.int .i64 en1, .int .i64 en2, .int .i64 en3, .int .i64 en4, .int .i64 en5, .int .i64 en6] rfl (by exact HM.out.erow.alloc _) (by simp [Act.eval]) rfl ONE (by unfold maxLen; omega) (by omega) (by omega) ?_); intro g cap w' hrow hgr hpl hsz; have d6 := PC w' hgr; have f6 := PF w' hgr))
  all_goals
    have hcap : 10001 ≤ cap := by
      rcases hrow.2 with ⟨e, _⟩ | ⟨g', cap', cur, e, _, _, h1, _⟩
      · cases e
      · simp only [Value.slice.injEq] at e
        omega
    obtain ⟨h1, h2⟩ := note_mem HM.out ⟨en1, en2, en3, en4, en5, en6⟩ _ g cap hrow hgr (hpl.imp id (fun x => by simpa using x))
    simp only [hn, Nat.reduceAdd] at h1 h2
    have H1 := Lib.hid h1
    have H2 := Lib.hid h2
    have hcell : ∀ j u, (((st.entries ++ [(⟨en1, en2, en3, en4, en5, en6⟩ : Ent)]).drop 5001).flatMap Ent.cells)[j]? = some u → (w'.setCell ⟨p, 6, none⟩ (.slice (some ⟨g, 0, none⟩) 10001 cap)).cell? ((⟨g, 30006, none⟩ : Addr).add j) = some u := by
      intro j u hj
      have e1 : (⟨g, 30006, none⟩ : Addr).add j = ⟨g, 30006 + j, none⟩ := by unfold Addr.add; split <;> simp_all
      rw [e1]
      have hc := h1.erow.cells (g := g) rfl (30006 + j) u (by rw [← drop_cells, List.getElem?_drop] at hj; exact hj)
      have e2 : (⟨g, 0, none⟩ : Addr).add (30006 + j) = ⟨g, 30006 + j, none⟩ := by unfold Addr.add; split <;> simp_all
      rwa [e2] at hc
    have HCELL := Lib.hid hcell
    have d7 : (w'.setCell ⟨p, 6, none⟩ (.slice (some ⟨g, 0, none⟩) 10001 cap)).cell? ⟨p, 6, none⟩ = some (.slice (some ⟨g, 0, none⟩) 10001 cap) := by rw [cell_of h1.self]; rfl
    have f7 : (w'.setCell ⟨p, 6, none⟩ (.slice (some ⟨g, 0, none⟩) 10001 cap)).frozen? ⟨p, 6, none⟩ = false := free_of h1.self 6
    have LL : ((st.entries ++ [(⟨en1, en2, en3, en4, en5, en6⟩ : Ent)]).drop 5001).length = 5000 := by simp; omega
    have HLL := Lib.hid LL
    clear h1 h2 hcell hrow hgr hpl
    go_wp2_with fail
    refine (clone_ents ⟨g, 30006, none⟩ 5000 (cap - 5001) ((st.entries ++ [(⟨en1, en2, en3, en4, en5, en6⟩ : Ent)]).drop 5001) _ HLL.out HCELL.out (by omega)).mono ?_
    rintro e w2 ⟨v2, rfl, ho2, hb2⟩
    obtain ⟨a2, c2, hv2e, _, _⟩ := ownsRow_sh ho2
    subst hv2e
    have hp2 := (hb2.block p (lt_of H1.out.self)).trans H1.out.self
    have d8 : w2.cell? ⟨p, 6, none⟩ = some (.slice (some ⟨g, 0, none⟩) 10001 cap) := by rw [cell_of hp2]; rfl
    have f8 : w2.frozen? ⟨p, 6, none⟩ = false := free_of hp2 6
    have HP2 := Lib.hid hp2
    have HO2 := Lib.hid ho2
    have HB2 := Lib.hid hb2
    clear hp2 ho2 hb2 d7 f7
    go_wp2_with fail
    go_end0
    refine ⟨rfl, ⟨mb, blk, lv, .slice a2 5000 c2, D, ?_⟩, ?_⟩
    · have hv2 : (Value.slice a2 5000 c2).ownBlock ≠ some p := fun e => by
        have := row_base6 HO2.out e
        have := lt_of H1.out.self
        omega
      have hs2 := H2.out.size
      refine BookMem.wider (H1.out.entries (W := w2.setCell ⟨p, 6, none⟩ (.slice a2 5000 c2)) (.slice a2 5000 c2) ((st.entries ++ [(⟨en1, en2, en3, en4, en5, en6⟩ : Ent)]).drop 5001) ?_ ?_ ?_ ?_) ?_
      · rw [block_setCell HP2.out]; rfl
      · intro k hk hne hne2
        rw [Below.heap_setCell _ _ _ _ hne]
        exact HB2.out.block k hk
      · have := ownsRow_setCell_other HO2.out (a := ⟨p, 6, none⟩) (by simpa using fun e => hv2 e) (.slice a2 5000 c2)
        rw [HLL.out]
        exact row_zero this
      · intro k hk
        exact Or.inr (row_base6 HO2.out hk)
      · rintro k (h | h)
        · exact h
        · exact Or.inr (by omega)
    · have hs2 := H2.out.size
      refine Touch.setCell ?_ (Or.inl HM.out.fp) _
      exact H2.out.then (Touch.of_below HB2.out)

end Go.Proofs.Ytjogaohnphafgaa
