/-
  note: what it gives, whatever is in the list. No conditions but the list's length.
  The book's Open and Held. No conditions.
-/
import Derived.Test.YtfnmjlnpfoclbaaGreatQueueRunsPae
import Derived.Test.YtfnmjlnpfoclbaaGreatQueueRunsPac

namespace Go.Proofs.YtfnmjlnpfoclbaaGreat
section
open Go.RowKit

theorem cells_len (es : List Ent) : (es.flatMap Ent.cells).length = es.length * 6 := by
  induction es with
  | nil => rfl
  | cons e es ih => rw [List.flatMap_cons, List.length_append, ih, List.length_cons]; simp [Ent.cells]; omega
theorem drop_cells (es : List Ent) (k : Nat) : (es.flatMap Ent.cells).drop (k * 6) = (es.drop k).flatMap Ent.cells := by
  induction k generalizing es with
  | zero => simp
  | succ k ih =>
    cases es with
    | nil => simp
    | cons e es =>
      rw [List.flatMap_cons, List.drop_succ_cons, ← ih es, Nat.add_mul, Nat.one_mul, Nat.add_comm, ← List.drop_drop]
      congr 1

theorem row_base6 {B : Nat} {v : Value} {n sz : Nat} {xs : List Value} {e : TypeId} {W : World} (h : W.ownsRow B e sz v n xs) {k : Nat} (hk : v.ownBlock = some k) : B ≤ k := by
  rcases h.2 with ⟨rfl, _⟩ | ⟨g, cap, cur, rfl, hb, _⟩
  · simp [Value.ownBlock] at hk
  · simp [Value.ownBlock] at hk; omega
theorem ownsRow_sh {W : World} {B e n sz : Nat} {v : Value} {xs : List Value} (h : W.ownsRow B e sz v n xs) : ∃ a c, v = .slice a n c ∧ n ≤ c ∧ c ≤ maxLen := by
  rcases h.2 with ⟨rfl, rfl⟩ | ⟨g, cap, cur, rfl, _, _, h1, h2, _⟩
  · exact ⟨_, _, rfl, Nat.le_refl _, Nat.zero_le _⟩
  · exact ⟨_, _, rfl, h1, h2⟩
theorem row_zero {B : Nat} {v : Value} {n sz : Nat} {xs : List Value} {e : TypeId} {W : World} (h : W.ownsRow B e sz v n xs) : W.ownsRow 0 e sz v n xs := by
  refine ⟨h.1, ?_⟩
  rcases h.2 with h0 | ⟨g, cap, cur, rfl, hb, rest⟩
  · exact Or.inl h0
  · exact Or.inr ⟨g, cap, cur, rfl, Nat.zero_le _, rest⟩

def OwnEnts (xs : List Value) (m : Nat) (w : World) : Ending → World → Prop := fun e w' =>
  ∃ v, e = .returned v ∧ w'.ownsRow w.heap.size 61 6 v m xs ∧ Below w.heap.size w w'

set_option maxHeartbeats 1000000 in
set_option maxRecDepth 100000 in
theorem clone_ents (ad : Addr) (m c : Nat) (es : List Ent) (w : World) (hm : es.length = m) (hc : ∀ j u, (es.flatMap Ent.cells)[j]? = some u → w.cell? (ad.add j) = some u) (hmax : m ≤ 1000000) :
    Calls Tryz.prog 53 #[.slice (some ad) m c] w (OwnEnts (es.flatMap Ent.cells) m w) := by
  obtain ⟨i0, hi0, hz0, hz1, hz2⟩ := info_parts infoEnt
  have hq := fun (w : World) (a : Option Addr) (n c : Nat) => Lib.run_eql_slice_nil (P := Tryz.prog) w 59 61 a n c 0 0 Tryz.underlying59
  have HN : Hid (∀ j u, (es.flatMap Ent.cells)[j]? = some u → (w.alloc (.cells #[] 61)).cell? (ad.add j) = some u) := Lib.hid (fun j u hj => by
    have h1 := hc j u hj
    have hlt : (ad.add j).block < w.heap.size := World.block_lt_of_cell? w _ h1
    exact (((Below.refl w.heap.size w).alloc (Nat.le_refl _) _).cell hlt).trans h1)
  have HM : Hid (World.ownsRow (w.alloc (.cells #[] 61)) w.heap.size 61 6 (.slice (some ⟨w.heap.size, 0, none⟩) 0 0) 0 []) := World.ownsRow_made w #[] 0 (Nat.le_refl _) (by unfold maxLen; omega) rfl
  have HL : Hid ((es.flatMap Ent.cells).length = m * 6) := Lib.hid (by rw [cells_len, hm])
  have ONE : ∀ u ∈ es.flatMap Ent.cells, u.oneCell' = true := by
    intro u hu
    obtain ⟨e, _, he⟩ := List.mem_flatMap.1 hu
    simp [Ent.cells] at he
    rcases he with rfl | rfl | rfl | rfl | rfl | rfl <;> rfl
  have H1 := Lib.hid ONE
  clear hc ONE
  go_enter Tryz.func53, Tryz.ntmps53
  go_wp2_with (at_builtin; go_must (refine wpList_append_own _ rfl (.tmp 5) (.tmp 6) 59 rfl w.heap.size 61 i0 (.agg #[.int .i64 0, .int .i64 0, .int .i64 0, .int .i64 0, .int .i64 0, .int .i64 0]) 6 48 Tryz.underlying59 hi0 hz0 hz1 hz2 rfl (by decide) _ 0 [] rfl HM.out ad m c (es.flatMap Ent.cells) rfl HL.out HN.out H1.out (by unfold maxLen; omega) (by omega) (by simp) ?_))
  intro v' w1 hown hg _
  have hb : Below w.heap.size w w1 := ((Below.refl w.heap.size w).alloc (Nat.le_refl _) _).grown hg (by simp) (fun q hq => by simp [Value.ownBlock] at hq; omega)
  go_wp2_with fail
  go_ret
  exact ⟨_, rfl, by simpa using hown, hb⟩

set_option maxHeartbeats 4000000 in
set_option maxRecDepth 100000 in
theorem note_full (p : Nat) (en : Ent) (w : World) (F : Nat → Prop) (st : BookSt) (N : Nat) (hb : BookAt w F p st N) (hn : st.entries.length = 10000) :
    Calls Tryz.prog 57 #[.pointer (some ⟨p, 0, none⟩), .agg #[.int .i64 en.kind, .int .i64 en.owner, .int .i64 en.other, .int .i64 en.amount, .int .i64 en.lease, .int .i64 en.untl]] w
      (NotePost F p { st with entries := (st.entries ++ [en]).drop 5001 } N w) := by
  obtain ⟨i0, hi0, hz0, hz1, hz2⟩ := info_parts infoEnt
  obtain ⟨mb, blk, lv, ev, D, hm⟩ := hb
  obtain ⟨en1, en2, en3, en4, en5, en6⟩ := en
  have hp := lt_of hm.self
  have c6 : w.cell? ⟨p, 6, none⟩ = some ev := by rw [cell_of hm.self]; rfl
  have HM := Lib.hid hm
  have ONE : ∀ u ∈ [Value.int .i64 en1, .int .i64 en2, .int .i64 en3, .int .i64 en4, .int .i64 en5, .int .i64 en6], u.oneCell' = true := by
    intro u hu
    simp at hu
    rcases hu with rfl | rfl | rfl | rfl | rfl | rfl <;> rfl
  have same : ∀ w', (w.alloc (.cells #[.int .i64 en1, .int .i64 en2, .int .i64 en3, .int .i64 en4, .int .i64 en5, .int .i64 en6] 61)).drew.grownBy w' ev.ownBlock → w'.heap[p]? = some (.cells (bookCells st mb lv ev) 107 (0, 0)) := by
    intro w' hg
    have h1 := hg.block p (by simp; omega) (fun e => hm.pe e.symm)
    exact h1.trans ((heap_alloc_old w _ hp).trans hm.self)
  have PC : ∀ w', (w.alloc (.cells #[.int .i64 en1, .int .i64 en2, .int .i64 en3, .int .i64 en4, .int .i64 en5, .int .i64 en6] 61)).drew.grownBy w' ev.ownBlock → w'.cell? ⟨p, 6, none⟩ = some ev := fun w' h => by rw [cell_of (same w' h)]; rfl
  have PF : ∀ w', (w.alloc (.cells #[.int .i64 en1, .int .i64 en2, .int .i64 en3, .int .i64 en4, .int .i64 en5, .int .i64 en6] 61)).drew.grownBy w' ev.ownBlock → w'.frozen? ⟨p, 6, none⟩ = false := fun w' h => free_of (same w' h) 6
  have SAME := Lib.hid same
  clear hm same
  go_enter Tryz.func57, Tryz.ntmps57
  go_wp2_with fail
  go_region_law ((go_loud (refine step_append_new rfl (.tmp 9) (.tmp 11) 59 rfl 0 61 i0 (.agg #[.int .i64 0, .int .i64 0, .int .i64 0, .int .i64 0, .int .i64 0, .int .i64 0]) 6 48 Tryz.underlying59 hi0 hz0 hz1 hz2 rfl (by decide) ev st.entries.length (st.entries.flatMap Ent.cells) (w.alloc (.cells #[.int .i64 en1, .int .i64 en2, .int .i64 en3, .int .i64 en4, .int .i64 en5, .int .i64 en6] 61)).drew _ [.int .i64 en1, .int .i64 en2, .int .i64 en3, .int .i64 en4, .int .i64 en5, .int .i64 en6] rfl (by exact HM.out.erow.alloc _) (by simp [Act.eval]) rfl ONE (by unfold maxLen; omega) (by omega) (by omega) ?_); intro g cap w' hrow hgr hpl hsz; have d6 := PC w' hgr; have f6 := PF w' hgr))
  all_goals
    have hcap : 10001 ≤ cap := by
      rcases hrow.2 with ⟨e, _⟩ | ⟨g', cap', cur, e, _, _, h1, _⟩
      · cases e
      · simp only [Value.slice.injEq] at e
        omega
    obtain ⟨h1, h2⟩ := note_mem HM.out ⟨en1, en2, en3, en4, en5, en6⟩ _ g cap hrow hgr (hpl.imp id (fun x => by simpa using x))
    simp only [hn, Nat.reduceAdd] at h1 h2
    have H1 := Lib.hid h1
    have H2 := Lib.hid h2
    have hcell : ∀ j u, (((st.entries ++ [(⟨en1, en2, en3, en4, en5, en6⟩ : Ent)]).drop 5001).flatMap Ent.cells)[j]? = some u → (w'.setCell ⟨p, 6, none⟩ (.slice (some ⟨g, 0, none⟩) 10001 cap)).cell? ((⟨g, 30006, none⟩ : Addr).add j) = some u := by
      intro j u hj
      have e1 : (⟨g, 30006, none⟩ : Addr).add j = ⟨g, 30006 + j, none⟩ := by unfold Addr.add; split <;> simp_all
      rw [e1]
      have hc := h1.erow.cells (g := g) rfl (30006 + j) u (by rw [← drop_cells, List.getElem?_drop] at hj; exact hj)
      have e2 : (⟨g, 0, none⟩ : Addr).add (30006 + j) = ⟨g, 30006 + j, none⟩ := by unfold Addr.add; split <;> simp_all
      rwa [e2] at hc
    have HCELL := Lib.hid hcell
    have d7 : (w'.setCell ⟨p, 6, none⟩ (.slice (some ⟨g, 0, none⟩) 10001 cap)).cell? ⟨p, 6, none⟩ = some (.slice (some ⟨g, 0, none⟩) 10001 cap) := by rw [cell_of h1.self]; rfl
    have f7 : (w'.setCell ⟨p, 6, none⟩ (.slice (some ⟨g, 0, none⟩) 10001 cap)).frozen? ⟨p, 6, none⟩ = false := free_of h1.self 6
    have LL : ((st.entries ++ [(⟨en1, en2, en3, en4, en5, en6⟩ : Ent)]).drop 5001).length = 5000 := by simp; omega
    have HLL := Lib.hid LL
    clear h1 h2 hcell hrow hgr hpl
    go_wp2_with fail
    refine (clone_ents ⟨g, 30006, none⟩ 5000 (cap - 5001) ((st.entries ++ [(⟨en1, en2, en3, en4, en5, en6⟩ : Ent)]).drop 5001) _ HLL.out HCELL.out (by omega)).mono ?_
    rintro e w2 ⟨v2, rfl, ho2, hb2⟩
    obtain ⟨a2, c2, hv2e, _, _⟩ := ownsRow_sh ho2
    subst hv2e
    have hp2 := (hb2.block p (lt_of H1.out.self)).trans H1.out.self
    have d8 : w2.cell? ⟨p, 6, none⟩ = some (.slice (some ⟨g, 0, none⟩) 10001 cap) := by rw [cell_of hp2]; rfl
    have f8 : w2.frozen? ⟨p, 6, none⟩ = false := free_of hp2 6
    have HP2 := Lib.hid hp2
    have HO2 := Lib.hid ho2
    have HB2 := Lib.hid hb2
    clear hp2 ho2 hb2 d7 f7
    go_wp2_with fail
    go_end0
    refine ⟨rfl, ⟨mb, blk, lv, .slice a2 5000 c2, D, ?_⟩, ?_⟩
    · have hv2 : (Value.slice a2 5000 c2).ownBlock ≠ some p := fun e => by
        have := row_base6 HO2.out e
        have := lt_of H1.out.self
        omega
      have hs2 := H2.out.size
      refine BookMem.wider (H1.out.entries (W := w2.setCell ⟨p, 6, none⟩ (.slice a2 5000 c2)) (.slice a2 5000 c2) ((st.entries ++ [(⟨en1, en2, en3, en4, en5, en6⟩ : Ent)]).drop 5001) ?_ ?_ ?_ ?_) ?_
      · rw [block_setCell HP2.out]; rfl
      · intro k hk hne hne2
        rw [Below.heap_setCell _ _ _ _ hne]
        exact HB2.out.block k hk
      · have := ownsRow_setCell_other HO2.out (a := ⟨p, 6, none⟩) (by simpa using fun e => hv2 e) (.slice a2 5000 c2)
        rw [HLL.out]
        exact row_zero this
      · intro k hk
        exact Or.inr (row_base6 HO2.out hk)
      · rintro k (h | h)
        · exact h
        · exact Or.inr (by omega)
    · have hs2 := H2.out.size
      refine Touch.setCell ?_ (Or.inl HM.out.fp) _
      exact H2.out.then (Touch.of_below HB2.out)

end
end Go.Proofs.YtfnmjlnpfoclbaaGreat

namespace Go.Proofs.YtfnmjlnpfoclbaaGreat
section
open Go.RowKit

/-- What Open leaves. -/
def openSt (st : BookSt) (o l : Int) : BookSt := { st with acc := fun x => if x = o then some (l, 0, 0) else st.acc x, entries := st.entries ++ [⟨1, o, 0, l, 0, 0⟩] }

def OpPost (err : Int) (F : Nat → Prop) (p : Nat) (st : BookSt) (N : Nat) (w : World) : Ending → World → Prop := fun e w' =>
  e = .returned (.int .i64 err) ∧ BookAt w' (fun k => F k ∨ w.heap.size ≤ k) p st N ∧ Touch F w w'

theorem reads_one (w : World) (x : Int) (t : TypeId) : Reads (w.alloc (.cells #[.int .i64 x] t)) .i64 (.slice (some ⟨w.heap.size, 0, none⟩) 1 1) [x] := by
  refine ⟨some ⟨w.heap.size, 0, none⟩, 1, rfl, by simp, fun _ => ⟨w.heap.size, 0, rfl, fun j hj => ?_⟩⟩
  have : j = 0 := by simpa using hj
  subst this
  rw [cell_of_row _ _ _ _ _ _ (heap_alloc_new w _)]
  rfl

theorem lit_ne {x o : Int} (h : x ≠ o) : (Lit.int .i64 x) ≠ (Lit.int .i64 o) := by simp [h]

theorem open_mem {w w1 : World} {F : Nat → Prop} {p : Nat} {st : BookSt} {N mb : Nat} {blk : Int → Option Nat} {lv ev : Value} {D : DataW Unit} (h : BookMem w F p st N mb blk lv ev D) (o l : Int)
    (hm : w1.ownsMap Tryz.prog 3 ptrElem mb (N + 1) (D.put (.int .i64 o) (.lit (.int .i64 (w.heap.size : Int)))))
    (hg : (w.alloc (.cells #[.int .i64 l, .int .i64 0, .int .i64 0] 112)).grownBy w1 (some mb)) :
    BookMem w1 (fun k => F k ∨ w.heap.size ≤ k) p { st with acc := fun x => if x = o then some (l, 0, 0) else st.acc x } (N + 1) mb (fun x => if x = o then some w.heap.size else blk x) lv ev (D.put (.int .i64 o) (.lit (.int .i64 (w.heap.size : Int)))) ∧ Touch F w w1 := by
  have hk : ∀ k, k < w.heap.size → k ≠ mb → w1.heap[k]? = w.heap[k]? := fun k hk hne => (hg.block k (by simp; omega) (fun e => hne (by simpa using e))).trans (heap_alloc_old w _ hk)
  have notmb : ∀ b cur t, w.heap[b]? = some (.cells cur t (0, 0)) → b ≠ mb := by
    intro b cur t hb e
    subst e
    obtain ⟨xs, clock, hx, _⟩ := h.map
    rw [hb] at hx; simp at hx
  have hmap : Maps.IsMap D := by obtain ⟨_, _, _, _, _, hD⟩ := h.map; exact ⟨_, hD⟩
  refine ⟨⟨(hk p (lt_of h.self) (notmb _ _ _ h.self)).trans h.self, Or.inl h.fp, hm, Or.inl h.fmap, ?_, ?_, ?_, ?_, ?_, fun k hk => Or.inl (h.flea k hk), ?_, fun k hk => Or.inl (h.fent k hk)⟩, ?_⟩
  · intro x z
    by_cases hx : x = o
    · subst hx
      rw [Maps.atKey_put_same hmap (by simp [WideAt.IsKeyLit]), if_pos rfl]
      rfl
    · rw [Maps.atKey_put_other (lit_ne hx), if_neg hx]
      exact h.look x z
  · intro x
    by_cases hx : x = o
    · simp [hx]
    · simp only [if_neg hx]; exact h.anone x
  · intro x b hb
    by_cases hx : x = o
    · subst hx
      have hb' : some w.heap.size = some b := by simpa using hb
      cases hb'
      refine ⟨l, 0, 0, by simp, ?_, Or.inr (Nat.le_refl _)⟩
      rw [hg.block w.heap.size (by simp) (fun e => ?_)]
      · exact heap_alloc_new w _
      · have := h.map.lt; simp only [Option.some.injEq] at e; omega
    · simp only [if_neg hx] at hb ⊢
      obtain ⟨l', x', s', h1, h2, h3⟩ := h.asome x b hb
      exact ⟨l', x', s', h1, (hk b (lt_of h2) (notmb _ _ _ h2)).trans h2, Or.inl h3⟩
  · intro x y b hx hy
    by_cases ex : x = o
    · by_cases ey : y = o
      · rw [ex, ey]
      · simp only [if_pos ex, if_neg ey, Option.some.injEq] at hx hy
        obtain ⟨_, _, _, _, h2, _⟩ := h.asome y b hy
        have := lt_of h2
        omega
    · by_cases ey : y = o
      · simp only [if_neg ex, if_pos ey, Option.some.injEq] at hx hy
        obtain ⟨_, _, _, _, h2, _⟩ := h.asome x b hx
        have := lt_of h2
        omega
      · simp only [if_neg ex, if_neg ey] at hx hy
        exact h.inj x y b hx hy
  · refine ownsRow_same h.lrow (fun k hk' => ?_)
    obtain ⟨cur, hc⟩ := row_block h.lrow hk'
    exact hk k (lt_of hc) (notmb _ _ _ hc)
  · refine ownsRow_same h.erow (fun k hk' => ?_)
    obtain ⟨cur, hc⟩ := row_block h.erow hk'
    exact hk k (lt_of hc) (notmb _ _ _ hc)
  · exact ((Touch.refl F w).alloc _).grown hg (fun k hk => by simp only [Option.some.injEq] at hk; subst hk; exact Or.inl h.fmap)

set_option maxHeartbeats 4000000 in
set_option maxRecDepth 100000 in
theorem open_new (p : Nat) (o l : Int) (w : World) (F : Nat → Prop) (st : BookSt) (N : Nat) (hb : BookAt w F p st N) (hn : st.entries.length ≤ 9999) (hN : N < maxLen) (ho : 1 ≤ o ∧ o ≤ 40) (hl : 0 ≤ l ∧ l ≤ 10000000) (hno : st.acc o = none) :
    Calls Tryz.prog 21 #[.pointer (some ⟨p, 0, none⟩), .int .i64 o, .int .i64 l] w (OpPost 0 F p (openSt st o l) (N + 1) w) := by
  obtain ⟨mb, blk, lv, ev, D, hm⟩ := hb
  have hwf : (Lit.int .i64 o).wf = true := WalkArith.wf_i64 (by omega)
  have C := check_any o _ [l] _ (reads_one w l 3)
  rw [show chkE o [l] = 0 from by unfold chkE; rw [if_pos ⟨ho, fun z hz => by simp at hz; subst hz; exact hl⟩]] at C
  have HC := Lib.hid C
  have hmw := hm.same (Below.same_on (Below.alloc (Below.refl _ w) (Nat.le_refl _) (.cells #[.int .i64 l] 3)))
  have L := book_lookup hmw o ho
  have hbn : blk o = none := (hm.anone o).2 hno
  rw [hbn] at L
  unfold ptrOf at L
  have c4 : (w.alloc (.cells #[.int .i64 l] 3)).cell? ⟨p, 4, none⟩ = some (.map (some mb)) := by rw [cell_of hmw.self]; rfl
  have HM := Lib.hid hm
  have HW := Lib.hid hmw
  have hp := lt_of hm.self
  clear C hm hmw hno ho hl
  go_enter Tryz.func21, Tryz.ntmps21
  go_wp2_with fail
  refine HC.out.mono ?_
  rintro e w' ⟨rfl, rfl⟩
  go_wp2_with (at_mapUpdate; go_must (refine wpList_mapUpdate_own _ rfl _ _ _ 105 rfl 3 110 intKey Tryz.underlying105 ptrElem mb N D rfl (by exact HW.out.map.alloc _) hN (.int .i64 o) (.pointer (some ⟨w.heap.size + 1, 0, none⟩)) (.int .i64 o) rfl rfl (Maps.keyOf_int_mk Tryz.underlying3 hwf) (.lit (.int .i64 (w.heap.size + 1 : Nat))) [] rfl ?_))
  intro w1 hown1 hg1
  have hsz : (w.alloc (.cells #[.int .i64 l] 3)).heap.size = w.heap.size + 1 := by simp
  obtain ⟨h1, h2⟩ := open_mem HW.out o l (by rw [hsz]; exact hown1) hg1
  have NT := Lib.hid (note_few p ⟨1, o, 0, l, 0, 0⟩ w1 _ _ _ ⟨mb, _, lv, ev, _, h1⟩ hn)
  clear hown1 hg1 L c4
  go_wp2_with fail
  refine NT.out.mono ?_
  rintro e w2 ⟨rfl, hb2, ht2⟩
  go_wp2_with fail
  go_ret
  refine ⟨rfl, hb2.wider ?_, ?_⟩
  · intro k hk
    rcases hk with (hk | hk) | hk
    · exact Or.inl hk
    · right; rw [hsz] at hk; omega
    · right; have := h2.size; rw [hsz] at this; omega
  · have t1 : Touch F w w1 := ((Touch.refl F w).alloc _).then h2
    refine t1.trans ht2 ?_
    intro i hi
    rcases hi with hi | hi
    · exact Or.inl hi
    · right; rw [hsz] at hi; omega

/-- What Held gives. -/
def heldV (st : BookSt) (o : Int) : Int := if 1 ≤ o ∧ o ≤ 40 then (match st.acc o with | some (_, h, _) => h | none => 0) else 0
def heldE (st : BookSt) (o : Int) : Int := if 1 ≤ o ∧ o ≤ 40 then (match st.acc o with | some _ => 0 | none => 7) else 2
def SamePost2 (r err : Int) (w : World) : Ending → World → Prop := fun e w' => e = .returned (.tuple #[.int .i64 r, .int .i64 err]) ∧ w = w'

theorem reads_nil (w : World) : Reads w .i64 (.slice none 0 0) [] := ⟨none, 0, rfl, by simp, fun h => absurd rfl h⟩

set_option maxHeartbeats 1000000 in
set_option maxRecDepth 100000 in
theorem held_any (p : Nat) (o : Int) (w : World) (F : Nat → Prop) (st : BookSt) (N : Nat) (hb : BookAt w F p st N) :
    Calls Tryz.prog 25 #[.pointer (some ⟨p, 0, none⟩), .int .i64 o] w (SamePost2 (heldV st o) (heldE st o) w) := by
  obtain ⟨mb, blk, lv, ev, D, hm⟩ := hb
  by_cases ho : 1 ≤ o ∧ o ≤ 40
  · have he : chkE o [] = 0 := by unfold chkE; rw [if_pos ⟨ho, by simp⟩]
    have C := account_any p o _ [] w F st N mb blk lv ev D (reads_nil w) he hm
    cases hk : blk o with
    | none =>
      have hv : heldV st o = 0 := by unfold heldV; rw [if_pos ho, (hm.anone o).1 hk]
      have hee : heldE st o = 7 := by unfold heldE; rw [if_pos ho, (hm.anone o).1 hk]
      rw [hv, hee]
      rw [hk] at C
      have HC := Lib.hid C
      clear C hm he hv hee hk ho
      go_enter Tryz.func25, Tryz.ntmps25
      go_wp2_with fail
      refine HC.out.mono ?_
      rintro e w' ⟨rfl, rfl⟩
      go_wp2_with fail
      go_ret2
      exact ⟨rfl, rfl⟩
    | some ab =>
      obtain ⟨l, h, s, h1, h2, h3⟩ := hm.asome o ab hk
      have hv : heldV st o = h := by unfold heldV; rw [if_pos ho, h1]
      have hee : heldE st o = 0 := by unfold heldE; rw [if_pos ho, h1]
      rw [hv, hee]
      rw [hk] at C
      have c1 : w.cell? ⟨ab, 1, none⟩ = some (.int .i64 h) := by rw [cell_of h2]; rfl
      have HC := Lib.hid C
      clear C hm he hv hee hk ho h1 h2 h3
      go_enter Tryz.func25, Tryz.ntmps25
      go_wp2_with fail
      refine HC.out.mono ?_
      rintro e w' ⟨rfl, rfl⟩
      unfold ptrOf
      go_wp2_with fail
      go_ret2
      exact ⟨rfl, rfl⟩
  · have he : chkE o [] ≠ 0 := by unfold chkE; rw [if_neg (fun x => ho x.1)]; decide
    have C := account_err p o _ [] w (reads_nil w) he
    have hv : heldV st o = 0 := by unfold heldV; rw [if_neg ho]
    have hee : heldE st o = 2 := by unfold heldE; rw [if_neg ho]
    rw [hv, hee]
    have HC := Lib.hid C
    clear C hm he hv hee ho
    go_enter Tryz.func25, Tryz.ntmps25
    go_wp2_with fail
    refine HC.out.mono ?_
    rintro e w' ⟨rfl, rfl⟩
    go_wp2_with fail
    go_ret2
    exact ⟨rfl, rfl⟩

end
end Go.Proofs.YtfnmjlnpfoclbaaGreat
