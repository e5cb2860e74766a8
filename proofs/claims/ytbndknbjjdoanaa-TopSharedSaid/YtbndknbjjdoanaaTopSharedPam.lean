/-
  note: what it gives, whatever is in the list. No conditions but the list's length.
  counts, left, hold, Change: what they give. Conditions: numbers that are not too large.
  Change: what it gives. Conditions: numbers that are not too large.
-/
import Derived.Test.YtbndknbjjdoanaaTopSharedPal
import Derived.Test.YtbndknbjjdoanaaTopSharedPae
import Derived.Test.YtbndknbjjdoanaaTopSharedPag

namespace Go.Proofs.Ytbndknbjjdoanaa
section
open Go.RowKit

theorem cells_len (es : List Ent) : (es.flatMap Ent.cells).length = es.length * 6 := by
  induction es with
  | nil => rfl
  | cons e es ih => rw [List.flatMap_cons, List.length_append, ih, List.length_cons]; simp [Ent.cells]; omega
theorem drop_cells (es : List Ent) (k : Nat) : (es.flatMap Ent.cells).drop (k * 6) = (es.drop k).flatMap Ent.cells := by
  induction k generalizing es with
  | zero => simp
  | succ k ih =>
    cases es with
    | nil => simp
    | cons e es =>
      rw [List.flatMap_cons, List.drop_succ_cons, ← ih es, Nat.add_mul, Nat.one_mul, Nat.add_comm, ← List.drop_drop]
      congr 1

theorem row_base6 {B : Nat} {v : Value} {n sz : Nat} {xs : List Value} {e : TypeId} {W : World} (h : W.ownsRow B e sz v n xs) {k : Nat} (hk : v.ownBlock = some k) : B ≤ k := by
  rcases h.2 with ⟨rfl, _⟩ | ⟨g, cap, cur, rfl, hb, _⟩
  · simp [Value.ownBlock] at hk
  · simp [Value.ownBlock] at hk; omega
theorem ownsRow_sh {W : World} {B e n sz : Nat} {v : Value} {xs : List Value} (h : W.ownsRow B e sz v n xs) : ∃ a c, v = .slice a n c ∧ n ≤ c ∧ c ≤ maxLen := by
  rcases h.2 with ⟨rfl, rfl⟩ | ⟨g, cap, cur, rfl, _, _, h1, h2, _⟩
  · exact ⟨_, _, rfl, Nat.le_refl _, Nat.zero_le _⟩
  · exact ⟨_, _, rfl, h1, h2⟩
theorem row_zero {B : Nat} {v : Value} {n sz : Nat} {xs : List Value} {e : TypeId} {W : World} (h : W.ownsRow B e sz v n xs) : W.ownsRow 0 e sz v n xs := by
  refine ⟨h.1, ?_⟩
  rcases h.2 with h0 | ⟨g, cap, cur, rfl, hb, rest⟩
  · exact Or.inl h0
  · exact Or.inr ⟨g, cap, cur, rfl, Nat.zero_le _, rest⟩

def OwnEnts (xs : List Value) (m : Nat) (w : World) : Ending → World → Prop := fun e w' =>
  ∃ v, e = .returned v ∧ w'.ownsRow w.heap.size 106 6 v m xs ∧ Below w.heap.size w w'

set_option maxHeartbeats 1000000 in
set_option maxRecDepth 100000 in
theorem clone_ents (ad : Addr) (m c : Nat) (es : List Ent) (w : World) (hm : es.length = m) (hc : ∀ j u, (es.flatMap Ent.cells)[j]? = some u → w.cell? (ad.add j) = some u) (hmax : m ≤ 1000000) :
    Calls Try.prog 69 #[.slice (some ad) m c] w (OwnEnts (es.flatMap Ent.cells) m w) := by
  obtain ⟨i0, hi0, hz0, hz1, hz2⟩ := info_parts infoEnt
  have hq := fun (w : World) (a : Option Addr) (n c : Nat) => Lib.run_eql_slice_nil (P := Try.prog) w 97 106 a n c 0 0 Try.underlying97
  have HN : Hid (∀ j u, (es.flatMap Ent.cells)[j]? = some u → (w.alloc (.cells #[] 106)).cell? (ad.add j) = some u) := Lib.hid (fun j u hj => by
    have h1 := hc j u hj
    have hlt : (ad.add j).block < w.heap.size := World.block_lt_of_cell? w _ h1
    exact (((Below.refl w.heap.size w).alloc (Nat.le_refl _) _).cell hlt).trans h1)
  have HM : Hid (World.ownsRow (w.alloc (.cells #[] 106)) w.heap.size 106 6 (.slice (some ⟨w.heap.size, 0, none⟩) 0 0) 0 []) := World.ownsRow_made w #[] 0 (Nat.le_refl _) (by unfold maxLen; omega) rfl
  have HL : Hid ((es.flatMap Ent.cells).length = m * 6) := Lib.hid (by rw [cells_len, hm])
  have ONE : ∀ u ∈ es.flatMap Ent.cells, u.oneCell' = true := by
    intro u hu
    obtain ⟨e, _, he⟩ := List.mem_flatMap.1 hu
    simp [Ent.cells] at he
    rcases he with rfl | rfl | rfl | rfl | rfl | rfl <;> rfl
  have H1 := Lib.hid ONE
  clear hc ONE
  go_enter Try.func69, Try.ntmps69
  go_wp2_with (at_builtin; go_must (refine wpList_append_own _ rfl (.tmp 5) (.tmp 6) 97 rfl w.heap.size 106 i0 (.agg #[.int .i64 0, .int .i64 0, .int .i64 0, .int .i64 0, .int .i64 0, .int .i64 0]) 6 48 Try.underlying97 hi0 hz0 hz1 hz2 rfl (by decide) _ 0 [] rfl HM.out ad m c (es.flatMap Ent.cells) rfl HL.out HN.out H1.out (by unfold maxLen; omega) (by omega) (by simp) ?_))
  intro v' w1 hown hg _
  have hb : Below w.heap.size w w1 := ((Below.refl w.heap.size w).alloc (Nat.le_refl _) _).grown hg (by simp) (fun q hq => by simp [Value.ownBlock] at hq; omega)
  go_wp2_with fail
  go_ret
  exact ⟨_, rfl, by simpa using hown, hb⟩

set_option maxHeartbeats 4000000 in
set_option maxRecDepth 100000 in
theorem note_full (p : Nat) (en : Ent) (w : World) (F : Nat → Prop) (st : BookSt) (N : Nat) (hb : BookAt w F p st N) (hn : st.entries.length = 10000) :
    Calls Try.prog 58 #[.pointer (some ⟨p, 0, none⟩), .agg #[.int .i64 en.kind, .int .i64 en.owner, .int .i64 en.other, .int .i64 en.amount, .int .i64 en.lease, .int .i64 en.untl]] w
      (NotePost F p { st with entries := (st.entries ++ [en]).drop 5001 } N w) := by
  obtain ⟨i0, hi0, hz0, hz1, hz2⟩ := info_parts infoEnt
  obtain ⟨mb, blk, lv, ev, D, hm⟩ := hb
  obtain ⟨en1, en2, en3, en4, en5, en6⟩ := en
  have hp := lt_of hm.self
  have c6 : w.cell? ⟨p, 6, none⟩ = some ev := by rw [cell_of hm.self]; rfl
  have HM := Lib.hid hm
  have ONE : ∀ u ∈ [Value.int .i64 en1, .int .i64 en2, .int .i64 en3, .int .i64 en4, .int .i64 en5, .int .i64 en6], u.oneCell' = true := by
    intro u hu
    simp at hu
    rcases hu with rfl | rfl | rfl | rfl | rfl | rfl <;> rfl
  have same : ∀ w', (w.alloc (.cells #[.int .i64 en1, .int .i64 en2, .int .i64 en3, .int .i64 en4, .int .i64 en5, .int .i64 en6] 106)).drew.grownBy w' ev.ownBlock → w'.heap[p]? = some (.cells (bookCells st mb lv ev) 99 (0, 0)) := by
    intro w' hg
    have h1 := hg.block p (by simp; omega) (fun e => hm.pe e.symm)
    exact h1.trans ((heap_alloc_old w _ hp).trans hm.self)
  have PC : ∀ w', (w.alloc (.cells #[.int .i64 en1, .int .i64 en2, .int .i64 en3, .int .i64 en4, .int .i64 en5, .int .i64 en6] 106)).drew.grownBy w' ev.ownBlock → w'.cell? ⟨p, 6, none⟩ = some ev := fun w' h => by rw [cell_of (same w' h)]; rfl
  have PF : ∀ w', (w.alloc (.cells #[.int .i64 en1, .int .i64 en2, .int .i64 en3, .int .i64 en4, .int .i64 en5, .int .i64 en6] 106)).drew.grownBy w' ev.ownBlock → w'.frozen? ⟨p, 6, none⟩ = false := fun w' h => free_of (same w' h) 6
  have SAME := Lib.hid same
  clear hm same
  go_enter Try.func58, Try.ntmps58
  go_wp2_with fail
  go_region_law ((go_loud (refine step_append_new rfl (.tmp 9) (.tmp 11) 97 rfl 0 106 i0 (.agg #[.int .i64 0, .int .i64 0, .int .i64 0, .int .i64 0, .int .i64 0, .int .i64 0]) 6 48 Try.underlying97 hi0 hz0 hz1 hz2 rfl (by decide) ev st.entries.length (st.entries.flatMap Ent.cells) (w.alloc (.cells #[.int .i64 en1, .int .i64 en2, .int .i64 en3, .int .i64 en4, .int .i64 en5, .int .i64 en6] 106)).drew _ [.int .i64 en1, .int .i64 en2, .int .i64 en3, .int .i64 en4, .int .i64 en5, .int .i64 en6] rfl (by exact HM.out.erow.alloc _) (by simp [Act.eval]) rfl ONE (by unfold maxLen; omega) (by omega) (by omega) ?_); intro g cap w' hrow hgr hpl hsz; have d6 := PC w' hgr; have f6 := PF w' hgr))
  all_goals
    have hcap : 10001 ≤ cap := by
      rcases hrow.2 with ⟨e, _⟩ | ⟨g', cap', cur, e, _, _, h1, _⟩
      · cases e
      · simp only [Value.slice.injEq] at e
        omega
    obtain ⟨h1, h2⟩ := note_mem HM.out ⟨en1, en2, en3, en4, en5, en6⟩ _ g cap hrow hgr (hpl.imp id (fun x => by simpa using x))
    simp only [hn, Nat.reduceAdd] at h1 h2
    have H1 := Lib.hid h1
    have H2 := Lib.hid h2
    have hcell : ∀ j u, (((st.entries ++ [(⟨en1, en2, en3, en4, en5, en6⟩ : Ent)]).drop 5001).flatMap Ent.cells)[j]? = some u → (w'.setCell ⟨p, 6, none⟩ (.slice (some ⟨g, 0, none⟩) 10001 cap)).cell? ((⟨g, 30006, none⟩ : Addr).add j) = some u := by
      intro j u hj
      have e1 : (⟨g, 30006, none⟩ : Addr).add j = ⟨g, 30006 + j, none⟩ := by unfold Addr.add; split <;> simp_all
      rw [e1]
      have hc := h1.erow.cells (g := g) rfl (30006 + j) u (by rw [← drop_cells, List.getElem?_drop] at hj; exact hj)
      have e2 : (⟨g, 0, none⟩ : Addr).add (30006 + j) = ⟨g, 30006 + j, none⟩ := by unfold Addr.add; split <;> simp_all
      rwa [e2] at hc
    have HCELL := Lib.hid hcell
    have d7 : (w'.setCell ⟨p, 6, none⟩ (.slice (some ⟨g, 0, none⟩) 10001 cap)).cell? ⟨p, 6, none⟩ = some (.slice (some ⟨g, 0, none⟩) 10001 cap) := by rw [cell_of h1.self]; rfl
    have f7 : (w'.setCell ⟨p, 6, none⟩ (.slice (some ⟨g, 0, none⟩) 10001 cap)).frozen? ⟨p, 6, none⟩ = false := free_of h1.self 6
    have LL : ((st.entries ++ [(⟨en1, en2, en3, en4, en5, en6⟩ : Ent)]).drop 5001).length = 5000 := by simp; omega
    have HLL := Lib.hid LL
    clear h1 h2 hcell hrow hgr hpl
    go_wp2_with fail
    refine (clone_ents ⟨g, 30006, none⟩ 5000 (cap - 5001) ((st.entries ++ [(⟨en1, en2, en3, en4, en5, en6⟩ : Ent)]).drop 5001) _ HLL.out HCELL.out (by omega)).mono ?_
    rintro e w2 ⟨v2, rfl, ho2, hb2⟩
    obtain ⟨a2, c2, hv2e, _, _⟩ := ownsRow_sh ho2
    subst hv2e
    have hp2 := (hb2.block p (lt_of H1.out.self)).trans H1.out.self
    have d8 : w2.cell? ⟨p, 6, none⟩ = some (.slice (some ⟨g, 0, none⟩) 10001 cap) := by rw [cell_of hp2]; rfl
    have f8 : w2.frozen? ⟨p, 6, none⟩ = false := free_of hp2 6
    have HP2 := Lib.hid hp2
    have HO2 := Lib.hid ho2
    have HB2 := Lib.hid hb2
    clear hp2 ho2 hb2 d7 f7
    go_wp2_with fail
    go_end0
    refine ⟨rfl, ⟨mb, blk, lv, .slice a2 5000 c2, D, ?_⟩, ?_⟩
    · have hv2 : (Value.slice a2 5000 c2).ownBlock ≠ some p := fun e => by
        have := row_base6 HO2.out e
        have := lt_of H1.out.self
        omega
      have hs2 := H2.out.size
      refine BookMem.wider (H1.out.entries (W := w2.setCell ⟨p, 6, none⟩ (.slice a2 5000 c2)) (.slice a2 5000 c2) ((st.entries ++ [(⟨en1, en2, en3, en4, en5, en6⟩ : Ent)]).drop 5001) ?_ ?_ ?_ ?_) ?_
      · rw [block_setCell HP2.out]; rfl
      · intro k hk hne hne2
        rw [Below.heap_setCell _ _ _ _ hne]
        exact HB2.out.block k hk
      · have := ownsRow_setCell_other HO2.out (a := ⟨p, 6, none⟩) (by simpa using fun e => hv2 e) (.slice a2 5000 c2)
        rw [HLL.out]
        exact row_zero this
      · intro k hk
        exact Or.inr (row_base6 HO2.out hk)
      · rintro k (h | h)
        · exact h
        · exact Or.inr (by omega)
    · have hs2 := H2.out.size
      refine Touch.setCell ?_ (Or.inl HM.out.fp) _
      exact H2.out.then (Touch.of_below HB2.out)

end
end Go.Proofs.Ytbndknbjjdoanaa

namespace Go.Proofs.Ytbndknbjjdoanaa
section
open Go.RowKit

def trimE (l : List Ent) : List Ent := if 10000 < l.length then l.drop 5001 else l
theorem trimE_len (l : List Ent) (h : l.length ≤ 10001) : (trimE l).length ≤ 10000 := by
  unfold trimE; split
  · rw [List.length_drop]; omega
  · omega

theorem note_any (p : Nat) (en : Ent) (w : World) (F : Nat → Prop) (st : BookSt) (N : Nat) (hb : BookAt w F p st N) (hn : st.entries.length ≤ 10000) :
    Calls Try.prog 58 #[.pointer (some ⟨p, 0, none⟩), .agg #[.int .i64 en.kind, .int .i64 en.owner, .int .i64 en.other, .int .i64 en.amount, .int .i64 en.lease, .int .i64 en.untl]] w
      (NotePost F p { st with entries := trimE (st.entries ++ [en]) } N w) := by
  by_cases h : st.entries.length ≤ 9999
  · have := note_few p en w F st N hb h
    unfold trimE
    rw [if_neg (by simp; omega)]
    exact this
  · have := note_full p en w F st N hb (by omega)
    unfold trimE
    rw [if_pos (by simp; omega)]
    exact this

set_option maxHeartbeats 1000000 in
set_option maxRecDepth 100000 in
theorem counts_any (b : Nat) (l h s : Int) (w : World) (hb : w.heap[b]? = some (.cells #[.int .i64 l, .int .i64 h, .int .i64 s] 103 (0, 0))) (h1 : 0 ≤ h ∧ h ≤ 1000000000000) (h2 : 0 ≤ s ∧ s ≤ 1000000000000) :
    Calls Try.prog 84 #[.pointer (some ⟨b, 0, none⟩)] w (fun e w' => e = .returned (.int .i64 (h + s)) ∧ ∃ q, w' = w.drewN q) := by
  have c1 : w.cell? ⟨b, 1, none⟩ = some (.int .i64 h) := by rw [cell_of hb]; rfl
  have c2 : w.cell? ⟨b, 2, none⟩ = some (.int .i64 s) := by rw [cell_of hb]; rfl
  obtain ⟨h1a, h1b⟩ := h1
  obtain ⟨h2a, h2b⟩ := h2
  clear hb
  go_enter Try.func84, Try.ntmps84
  go_wp2_with fail
  go_quiet (fail)
  go_wp2_with fail
  go_ret
  exact ⟨rfl, _, rfl⟩

set_option maxHeartbeats 1000000 in
set_option maxRecDepth 100000 in
theorem left_any (p b : Nat) (st : BookSt) (mb : Nat) (lv ev : Value) (l h s : Int) (w : World) (hp : w.heap[p]? = some (.cells (bookCells st mb lv ev) 99 (0, 0))) (hb : w.heap[b]? = some (.cells #[.int .i64 l, .int .i64 h, .int .i64 s] 103 (0, 0)))
    (h0 : 0 ≤ l ∧ l ≤ 1000000000000) (h1 : 0 ≤ h ∧ h ≤ 1000000000000) (h2 : 0 ≤ s ∧ s ≤ 1000000000000) (h3 : 0 ≤ st.budget ∧ st.budget ≤ 1000000000000) (h4 : 0 ≤ st.total ∧ st.total ≤ 1000000000000) :
    Calls Try.prog 70 #[.pointer (some ⟨p, 0, none⟩), .pointer (some ⟨b, 0, none⟩)] w (fun e w' => e = .returned (.int .i64 (min (l - (h + s)) (st.budget - st.total))) ∧ ∃ q, w' = w.drewN q) := by
  have c0 : w.cell? ⟨b, 0, none⟩ = some (.int .i64 l) := by rw [cell_of hb]; rfl
  have d0 : w.cell? ⟨p, 0, none⟩ = some (.int .i64 st.budget) := by rw [cell_of hp]; rfl
  have d1 : w.cell? ⟨p, 1, none⟩ = some (.int .i64 st.total) := by rw [cell_of hp]; rfl
  have C := Lib.hid (fun n => counts_any b l h s (w.drewN n) hb h1 h2)
  obtain ⟨h0a, h0b⟩ := h0
  obtain ⟨h1a, h1b⟩ := h1
  obtain ⟨h2a, h2b⟩ := h2
  obtain ⟨h3a, h3b⟩ := h3
  obtain ⟨h4a, h4b⟩ := h4
  generalize st.budget = bu at *
  generalize st.total = tt at *
  clear hb hp
  go_enter Try.func70, Try.ntmps70
  go_wp2_with fail
  go_quiet ((go_at_call 84; exact Calls.quiet_of (C.out _)))
  go_wp2_with fail
  all_goals
    go_ret
    exact ⟨ret_int (by omega), _, rfl⟩


/-- What an account holds has turned, and the total with it. -/
def heldSt (st : BookSt) (o l h s n : Int) : BookSt := { st with total := st.total + n, acc := fun x => if x = o then some (l, h + n, s) else st.acc x }

theorem BookMem.held {w : World} {F : Nat → Prop} {p : Nat} {st : BookSt} {N mb : Nat} {blk : Int → Option Nat} {lv ev : Value} {D : DataW Unit} (hm : BookMem w F p st N mb blk lv ev D) {o l h s : Int} {b : Nat} (hb : blk o = some b) (ha : st.acc o = some (l, h, s)) (n : Int)
    (hblk : w.heap[b]? = some (.cells #[.int .i64 l, .int .i64 h, .int .i64 s] 103 (0, 0))) :
    BookMem ((w.setCell ⟨b, 1, none⟩ (.int .i64 (h + n))).setCell ⟨p, 1, none⟩ (.int .i64 (st.total + n))) F p (heldSt st o l h s n) N mb blk lv ev D ∧
      Touch F w ((w.setCell ⟨b, 1, none⟩ (.int .i64 (h + n))).setCell ⟨p, 1, none⟩ (.int .i64 (st.total + n))) := by
  obtain ⟨_, _, _, _, _, hFb⟩ := hm.asome o b hb
  have hpb : p ≠ b := by rintro rfl; rw [hm.self] at hblk; simp [bookCells] at hblk
  have far : ∀ k, k ≠ b → k ≠ p → ((w.setCell ⟨b, 1, none⟩ (.int .i64 (h + n))).setCell ⟨p, 1, none⟩ (.int .i64 (st.total + n))).heap[k]? = w.heap[k]? := fun k h1 h2 =>
    (Below.heap_setCell _ _ _ k h2).trans (Below.heap_setCell _ _ _ k h1)
  have hp1 : (w.setCell ⟨b, 1, none⟩ (.int .i64 (h + n))).heap[p]? = some (.cells (bookCells st mb lv ev) 99 (0, 0)) := (Below.heap_setCell _ _ _ p hpb).trans hm.self
  have hb1 := block_setCell hblk 1 (.int .i64 (h + n))
  have nmap : mb ≠ b ∧ mb ≠ p := by
    obtain ⟨xs, clock, hx, _⟩ := hm.map
    refine ⟨?_, ?_⟩
    · rintro rfl; rw [hblk] at hx; simp at hx
    · rintro rfl; rw [hm.self] at hx; simp at hx
  have nrow : ∀ (v : Value) (e n sz : Nat) (xs : List Value), w.ownsRow 0 e sz v n xs → e ≠ 103 → e ≠ 99 → ∀ k, v.ownBlock = some k → k ≠ b ∧ k ≠ p := by
    intro v e n sz xs hr h1 h2 k hk
    obtain ⟨cur, hc⟩ := row_block hr hk
    refine ⟨?_, ?_⟩
    · rintro rfl; rw [hblk] at hc; simp at hc; exact h1 hc.2.symm
    · rintro rfl; rw [hm.self] at hc; simp at hc; exact h2 hc.2.symm
  refine ⟨⟨?_, hm.fp, ownsMap_same hm.map (far mb nmap.1 nmap.2), hm.fmap, hm.look, ?_, ?_, hm.inj, ?_, hm.flea, ?_, hm.fent⟩, ?_⟩
  · rw [block_setCell hp1]; rfl
  · intro x
    rw [hm.anone x]
    unfold heldSt
    by_cases hx : x = o
    · simp [hx, ha]
    · simp [hx]
  · intro x c hc
    by_cases hx : x = o
    · subst hx
      rw [hb] at hc
      obtain rfl : b = c := by simpa using hc
      refine ⟨l, h + n, s, by simp [heldSt], ?_, hFb⟩
      rw [Below.heap_setCell _ _ _ b (Ne.symm hpb), hb1]; rfl
    · obtain ⟨l', h', s', h1, h2, h3⟩ := hm.asome x c hc
      have hcb : c ≠ b := by rintro rfl; exact hx (hm.inj x o c hc hb)
      have hcp : c ≠ p := by rintro rfl; rw [hm.self] at h2; simp [bookCells] at h2
      exact ⟨l', h', s', by simp [heldSt, hx, h1], (far c hcb hcp).trans h2, h3⟩
  · exact ownsRow_same hm.lrow (fun k hk => by
      have := nrow _ _ _ _ _ hm.lrow (by decide) (by decide) k hk
      exact far k this.1 this.2)
  · exact ownsRow_same hm.erow (fun k hk => by
      have := nrow _ _ _ _ _ hm.erow (by decide) (by decide) k hk
      exact far k this.1 this.2)
  · exact ((Touch.refl F w).setCell (p := ⟨b, 1, none⟩) (Or.inl hFb) _).setCell (p := ⟨p, 1, none⟩) (Or.inl hm.fp) _

def holdEnt (o n : Int) : Ent := if 0 ≤ n then ⟨3, o, 0, n, 0, 0⟩ else ⟨4, o, 0, -n, 0, 0⟩

set_option maxHeartbeats 2000000 in
set_option maxRecDepth 100000 in
theorem hold_any (p b : Nat) (o n l h s : Int) (w : World) (F : Nat → Prop) (st : BookSt) (N mb : Nat) (blk : Int → Option Nat) (lv ev : Value) (D : DataW Unit) (hm : BookMem w F p st N mb blk lv ev D) (hb : blk o = some b) (ha : st.acc o = some (l, h, s))
    (h1 : -1000000000000 ≤ n ∧ n ≤ 1000000000000) (h2 : -1000000000000 ≤ h ∧ h ≤ 1000000000000) (h3 : -1000000000000 ≤ st.total ∧ st.total ≤ 1000000000000) (hn : st.entries.length ≤ 10000) :
    Calls Try.prog 71 #[.pointer (some ⟨p, 0, none⟩), .pointer (some ⟨b, 0, none⟩), .int .i64 o, .int .i64 n] w
      (NotePost F p { heldSt st o l h s n with entries := trimE (st.entries ++ [holdEnt o n]) } N w) := by
  obtain ⟨l', h', s', ha', hblk, _⟩ := hm.asome o b hb
  rw [ha] at ha'
  simp only [Option.some.injEq, Prod.mk.injEq] at ha'
  obtain ⟨rfl, rfl, rfl⟩ := ha'
  obtain ⟨hm2, ht2⟩ := hm.held hb ha n hblk
  have c1 : w.cell? ⟨b, 1, none⟩ = some (.int .i64 h) := by rw [cell_of hblk]; rfl
  have f1 : w.frozen? ⟨b, 1, none⟩ = false := free_of hblk 1
  have d1 : w.cell? ⟨p, 1, none⟩ = some (.int .i64 st.total) := by rw [cell_of hm.self]; rfl
  have g1 : w.frozen? ⟨p, 1, none⟩ = false := free_of hm.self 1
  have hpb : p ≠ b := by rintro rfl; rw [hm.self] at hblk; simp [bookCells] at hblk
  have ne1 : ∀ (W : World) (u : Value), (W.setCell ⟨b, 1, none⟩ u).cell? ⟨p, 1, none⟩ = W.cell? ⟨p, 1, none⟩ := fun W u => World.cell?_setCell_other _ _ _ _ (by simp)
  have C3 := note_any p ⟨3, o, 0, n, 0, 0⟩ _ F _ N ⟨mb, blk, lv, ev, D, hm2⟩ hn
  have C4 := note_any p ⟨4, o, 0, -n, 0, 0⟩ _ F _ N ⟨mb, blk, lv, ev, D, hm2⟩ hn
  have HC3 := Lib.hid C3
  have HC4 := Lib.hid C4
  have HT := Lib.hid ht2
  obtain ⟨h1a, h1b⟩ := h1
  obtain ⟨h2a, h2b⟩ := h2
  obtain ⟨h3a, h3b⟩ := h3
  generalize st.total = tt at *
  clear C3 C4 hm2 ht2 hblk hm ha hb
  by_cases h0 : 0 ≤ n
  · have HE := Lib.hid (show holdEnt o n = ⟨3, o, 0, n, 0, 0⟩ by unfold holdEnt; rw [if_pos h0])
    go_enter Try.func71, Try.ntmps71
    go_wp2_with fail
    refine HC3.out.mono ?_
    rintro e w1 ⟨rfl, hb1, ht1⟩
    have hs := HT.out.size
    have HB1 := Lib.hid (hb1.wider (G := fun k => F k ∨ w.heap.size ≤ k) (fun k hk => hk.imp id (fun x => Nat.le_trans hs x)))
    have HT1 := Lib.hid (HT.out.then ht1)
    clear hb1 ht1
    go_wp2_with fail
    go_end0
    refine ⟨rfl, ?_, HT1.out⟩
    rw [HE.out]
    exact HB1.out
  · have HE := Lib.hid (show holdEnt o n = ⟨4, o, 0, -n, 0, 0⟩ by unfold holdEnt; rw [if_neg h0])
    go_enter Try.func71, Try.ntmps71
    go_wp2_with fail
    refine HC4.out.mono ?_
    rintro e w1 ⟨rfl, hb1, ht1⟩
    have hs := HT.out.size
    have HB1 := Lib.hid (hb1.wider (G := fun k => F k ∨ w.heap.size ≤ k) (fun k hk => hk.imp id (fun x => Nat.le_trans hs x)))
    have HT1 := Lib.hid (HT.out.then ht1)
    clear hb1 ht1
    go_wp2_with fail
    go_end0
    refine ⟨rfl, ?_, HT1.out⟩
    rw [HE.out]
    exact HB1.out

end
end Go.Proofs.Ytbndknbjjdoanaa

namespace Go.Proofs.Ytbndknbjjdoanaa
section
open Go.RowKit

theorem reads_two (w : World) (a b : Int) : Reads (w.alloc (.cells #[.int .i64 a, .int .i64 b] 3)) .i64 (.slice (some ⟨w.heap.size, 0, none⟩) 2 2) [a, b] := by
  have h := heap_alloc_new w (.cells #[.int .i64 a, .int .i64 b] 3)
  refine ⟨_, 2, rfl, by simp, fun _ => ⟨w.heap.size, 0, rfl, fun j hj => ?_⟩⟩
  rw [cell_of h]
  match j, hj with
  | 0, _ => rfl
  | 1, _ => rfl

def changeE (st : BookSt) (l h s fr tw : Int) : Int := if h < fr then 5 else if min (l - (h + s)) (st.budget - st.total) < tw - fr then 12 else 0
def changeSt (st : BookSt) (o l h s fr tw : Int) : BookSt := if changeE st l h s fr tw = 0 ∧ fr ≠ tw then { heldSt st o l h s (tw - fr) with entries := trimE (st.entries ++ [holdEnt o (tw - fr)]) } else st
def ChangePost (F : Nat → Prop) (p : Nat) (st : BookSt) (o l h s fr tw : Int) (N : Nat) (w : World) : Ending → World → Prop := fun e w' =>
  e = .returned (.int .i64 (changeE st l h s fr tw)) ∧ BookAt w' (fun k => F k ∨ w.heap.size ≤ k) p (changeSt st o l h s fr tw) N ∧ Touch F w w'

end
end Go.Proofs.Ytbndknbjjdoanaa
