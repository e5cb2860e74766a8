/-
  CheckEntries: what it gives. No conditions but those of the entries' list.
  The leases and the entries that a book tells. No conditions but those of the book's own state.
  slices.Equal at leases and at the book's entries: the same are equal. No conditions.
-/
import Derived.Test.YtfgpophbgjeefaaGreatLedgerRunsPbo
import Derived.Test.YtfgpophbgjeefaaGreatLedgerRunsPan

namespace Go.Proofs.YtfgpophbgjeefaaGreat
section
open Go.RowKit
set_option linter.unusedVariables false

theorem endR_last (st : BookSt) (no : Int) : (endR st no).2.last = st.last := by
  unfold endR; split
  · rfl
  · split <;> rfl
theorem endAll_last : ∀ (l : List Lea) (st : BookSt), (endAll st l).last = st.last
  | [], st => rfl
  | x :: l, st => by unfold endAll; rw [List.foldl_cons]; exact (endAll_last l _).trans (endR_last st x.no)
theorem takeSt_last (st : BookSt) (o l h s n : Int) : (takeSt st o l h s n).last = st.last := by unfold takeSt; split <;> rfl
theorem giveSt_last (st : BookSt) (o l h s n : Int) : (giveSt st o l h s n).last = st.last := by unfold giveSt; split <;> rfl
theorem paid_last (st : BookSt) (f t n : Int) (a b : Int × Int × Int) : (paid st f t n a b).last = st.last := by unfold paid; split <;> rfl
theorem againR_last (st : BookSt) (e : Ent) : (againR st e).2.last ≤ st.last + 1 := by
  have r : ∀ x : BookSt, x.last = st.last → x.last ≤ st.last + 1 := fun x h => by omega
  unfold againR
  repeat' split
  · refine r _ ?_; unfold openR; split
    · split <;> rfl
    · rfl
  · refine r _ ?_; unfold shutR; split
    · split
      · rfl
      · split <;> rfl
    · rfl
  · refine r _ ?_; unfold takeR; split
    · split
      · rfl
      · exact takeSt_last _ _ _ _ _ _
    · rfl
  · refine r _ ?_; unfold giveR; split
    · split
      · rfl
      · exact giveSt_last _ _ _ _ _ _
    · rfl
  · refine r _ ?_; unfold payR; split
    · split
      · split
        · rfl
        · split
          · rfl
          · exact paid_last _ _ _ _ _ _
      · rfl
    · rfl
  · refine r _ ?_; unfold limR; split
    · split
      · rfl
      · split <;> rfl
    · rfl
  · refine r _ ?_; unfold budR; split
    · split <;> rfl
    · rfl
  · unfold leaseR; split
    · split
      · exact r _ rfl
      · exact Int.le_refl _
    · exact r _ rfl
  · refine r _ ?_; unfold renewR; split
    · rfl
    · split <;> rfl
  · exact r _ (endR_last _ _)
  · refine r _ ?_; unfold passR; split
    · exact endAll_last _ _
    · rfl
  · exact r _ rfl

/-- A list of entries that lies in memory. -/
def EntSrc (w : World) (v : Value) (ls : List Ent) : Prop := ∃ a cap, v = .slice a ls.length cap ∧ ls.length ≤ cap ∧ cap ≤ 9223372036854775807 ∧ (0 < ls.length → ∃ gb off, a = some ⟨gb, off, none⟩ ∧ gb < w.heap.size ∧ ∀ k x, ls[k]? = some x → ∀ i, i < 6 → w.cell? ⟨gb, off + k * 6 + i, none⟩ = x.cells[i]?)

theorem ecells_get : ∀ (ls : List Ent) (k i : Nat) (l : Ent), ls[k]? = some l → i < 6 → (ls.flatMap Ent.cells)[k * 6 + i]? = l.cells[i]?
  | [], k, i, l, h, _ => by simp at h
  | x :: ls, 0, i, l, h, hi => by
    simp at h; subst h
    rw [List.flatMap_cons, List.getElem?_append_left (by simp [Ent.cells]; omega)]; simp
  | x :: ls, k + 1, i, l, h, hi => by
    simp at h
    rw [List.flatMap_cons, List.getElem?_append_right (by simp [Ent.cells]; omega)]
    have := ecells_get ls k i l h hi
    rw [← this]; congr 1; simp [Ent.cells]; omega
theorem erow_cell {w : World} {B g cap : Nat} {ls : List Ent} (h : w.ownsRow B 61 6 (.slice (some ⟨g, 0, none⟩) ls.length cap) ls.length (ls.flatMap Ent.cells)) {k : Nat} {x : Ent} (hx : ls[k]? = some x) (i : Nat) (hi : i < 6) : w.cell? ⟨g, k * 6 + i, none⟩ = x.cells[i]? := by
  have h1 := ecells_get ls k i x hx hi
  have h6 : x.cells.length = 6 := rfl
  have h2 := List.getElem?_eq_getElem (l := x.cells) (i := i) (by omega)
  rw [h2] at h1 ⊢
  have := h.cells (g := g) rfl (k * 6 + i) _ h1
  rwa [Addr.add_lit, Nat.zero_add] at this
theorem EntSrc.own {w : World} {B : Nat} {v : Value} {ls : List Ent} (h : w.ownsRow B 61 6 v ls.length (ls.flatMap Ent.cells)) : EntSrc w v ls := by
  obtain ⟨a, c, rfl, h1, h2⟩ := ownsRow_sh h
  refine ⟨a, c, rfl, h1, by unfold maxLen at h2; omega, fun h0 => ?_⟩
  rcases h.2 with ⟨_, hz⟩ | ⟨g, cap, cur, hv, _, hg, _⟩
  · omega
  · simp only [Value.slice.injEq] at hv
    obtain ⟨rfl, _, rfl⟩ := hv
    refine ⟨g, 0, rfl, lt_of hg, fun k x hx i hi => ?_⟩
    rw [Nat.zero_add]
    exact erow_cell h hx i hi
theorem EntSrc.below {w w' : World} {v : Value} {ls : List Ent} (h : EntSrc w v ls) (hb : Below w.heap.size w w') : EntSrc w' v ls := by
  obtain ⟨a, cap, rfl, h1, h2, h3⟩ := h
  refine ⟨a, cap, rfl, h1, h2, fun h0 => ?_⟩
  obtain ⟨gb, off, rfl, hg, hc⟩ := h3 h0
  exact ⟨gb, off, rfl, Nat.lt_of_lt_of_le hg hb.size, fun k x hx i hi => (hb.cell (p := ⟨gb, off + k * 6 + i, none⟩) hg).trans (hc k x hx i hi)⟩

theorem chk_kind {x : Ent} {xs : List Ent} {i : Nat} {st : BookSt} (h : ¬ (1 ≤ x.kind ∧ x.kind ≤ 11)) : chkFrom (x :: xs) i st = ((i : Int), 10) := by
  rw [chkFrom, if_pos h]
theorem chk_form {x : Ent} {xs : List Ent} {i : Nat} {st : BookSt} (h : 1 ≤ x.kind ∧ x.kind ≤ 11) (hf : formE x = false) : chkFrom (x :: xs) i st = ((i : Int), 1) := by
  rw [chkFrom, if_neg (by simpa using h), if_pos hf]
theorem chk_fail {x : Ent} {xs : List Ent} {i : Nat} {st : BookSt} (h : 1 ≤ x.kind ∧ x.kind ≤ 11) (hf : formE x = true) (hi : i = st.entries.length) (he : (againR st x).1 ≠ 0) : chkFrom (x :: xs) i st = ((i : Int), (againR st x).1) := by
  rw [chkFrom, if_neg (by simpa using h), if_neg (by rw [hf]; simp), if_pos hi]
  simp only
  rw [if_pos he]
/-- The steps behind a call, or without one. -/
theorem chk_step {x : Ent} {xs : List Ent} {i : Nat} {st : BookSt} {r : Int × BookSt} (h : 1 ≤ x.kind ∧ x.kind ≤ 11) (hf : formE x = true) (hr : (if i = st.entries.length then againR st x else (0, st)) = r) (he : r.1 = 0) :
    (r.2.entries[i]? = none → chkFrom (x :: xs) i st = ((i : Int), 1)) ∧ ∀ y, r.2.entries[i]? = some y → (y.same x → chkFrom (x :: xs) i st = chkFrom xs (i + 1) r.2) ∧ (¬ y.same x → chkFrom (x :: xs) i st = ((i : Int), 1)) := by
  have e : chkFrom (x :: xs) i st = match r.2.entries[i]? with
        | none => ((i : Int), 1)
        | some y => if y.same x then chkFrom xs (i + 1) r.2 else ((i : Int), 1) := by
    rw [chkFrom, if_neg (by simpa using h), if_neg (by rw [hf]; simp), hr]
    simp only
    rw [if_neg (by simpa using he)]
    generalize r.2.entries[i]? = q
    cases q <;> rfl
  rw [e]
  refine ⟨fun hn => by rw [hn], fun y hy => ?_⟩
  rw [hy]
  exact ⟨fun hs => if_pos hs, fun hs => if_neg hs⟩
theorem ent_diff (f1 f2 f3 f4 f5 f6 e1 e2 e3 e4 e5 e6 : Int) : (f1 = e1 ∧ f2 = e2 ∧ f3 = e3 ∧ f4 = e4 ∧ f5 = e5 ∧ f6 = e6) ∨
    (¬ (Ent.mk f1 f2 f3 f4 f5 f6).same ⟨e1, e2, e3, e4, e5, e6⟩ ∧ ((f1 == e1) = false ∨ (f1 = e1 ∧ (f2 == e2) = false) ∨ (f1 = e1 ∧ f2 = e2 ∧ (f3 == e3) = false) ∨ (f1 = e1 ∧ f2 = e2 ∧ f3 = e3 ∧ (f4 == e4) = false) ∨ (f1 = e1 ∧ f2 = e2 ∧ f3 = e3 ∧ f4 = e4 ∧ (f5 == e5) = false) ∨ (f1 = e1 ∧ f2 = e2 ∧ f3 = e3 ∧ f4 = e4 ∧ f5 = e5 ∧ (f6 == e6) = false))) := by
  simp only [Ent.same_iff, Ent.mk.injEq, beq_eq_false_iff_ne, ne_eq]
  omega

def ChkPost2 (r : Int × Int) (w : World) : Ending → World → Prop := fun e w' => e = .returned (.tuple #[.int .i64 r.1, .int .i64 r.2]) ∧ Below w.heap.size w w'

/-- What holds between two rounds. -/
structure ChkAt (b : Int) (ls : List Ent) (p k : Nat) (w wr : World) (G : Nat → Prop) (st : BookSt) (N : Nat) : Prop where
  book : BookAt wr G p st N
  lt : ∀ j, G j → j < wr.heap.size ∧ w.heap.size ≤ j
  good : Good st
  cnt : N ≤ k
  last : st.last ≤ k
  eq : chkFrom ls 0 (newSt b) = chkFrom (ls.drop k) k st
  below : Below w.heap.size w wr

end
end Go.Proofs.YtfgpophbgjeefaaGreat

namespace Go.Proofs.YtfgpophbgjeefaaGreat
section
open Go.RowKit
set_option linter.unusedVariables false

set_option maxHeartbeats 1000000 in
set_option maxRecDepth 100000 in
theorem leasesB_any (p : Nat) (w : World) (F : Nat → Prop) (st : BookSt) (N : Nat) (hb : BookAt w F p st N) (g : Good st) :
    Calls Tryz.prog 67 #[.pointer (some ⟨p, 0, none⟩)] w (OwnLeas st.leases w) := by
  obtain ⟨mb, blk, lv, ev, D, hm⟩ := hb
  have c5 : w.cell? ⟨p, 5, none⟩ = some lv := by rw [cell_of hm.self]; rfl
  have CL := Lib.hid (clone_lea lv 0 st.leases w hm.lrow (by have := g.leaLen; omega))
  obtain ⟨la, lc, rfl, _, _⟩ := ownsRow_sh hm.lrow
  clear hm g
  go_enter Tryz.func67, Tryz.ntmps67
  go_wp2_with fail
  refine CL.out.mono ?_
  rintro e w3 ⟨v3, rfl, h1, h2⟩
  have H := Lib.hid (And.intro h1 h2)
  clear h1 h2
  go_wp2_with fail
  go_ret
  exact ⟨_, rfl, H.out.1, H.out.2⟩

set_option maxHeartbeats 1000000 in
set_option maxRecDepth 100000 in
theorem clone_ents_nil (w : World) :
    Calls Tryz.prog 70 #[.slice none 0 0] w (OwnEnts [] 0 w) := by
  have hq := fun (w : World) (a : Option Addr) (n c : Nat) => Lib.run_eql_slice_nil (P := Tryz.prog) w 59 61 a n c 0 0 Tryz.underlying59
  go_enter Tryz.func70, Tryz.ntmps70
  go_wp2_with fail
  go_ret
  exact ⟨_, rfl, World.ownsRow_nil _ _ _ _, Below.refl _ _⟩

def lastE (st : BookSt) : List Ent := st.entries.drop (st.entries.length - 5000)

set_option maxHeartbeats 2000000 in
set_option maxRecDepth 100000 in
theorem entriesB_any (p : Nat) (w : World) (F : Nat → Prop) (st : BookSt) (N : Nat) (hb : BookAt w F p st N) (g : Good st) :
    Calls Tryz.prog 21 #[.pointer (some ⟨p, 0, none⟩)] w (fun e w' => ∃ v, e = .returned v ∧ w'.ownsRow w.heap.size 61 6 v (lastE st).length ((lastE st).flatMap Ent.cells) ∧ Below w.heap.size w w') := by
  obtain ⟨mb, blk, lv, ev, D, hm⟩ := hb
  have c6 : w.cell? ⟨p, 6, none⟩ = some ev := by rw [cell_of hm.self]; rfl
  have hn := g.ents
  have hER := hm.erow
  clear hm g
  unfold lastE
  rcases hER.2 with ⟨rfl, h0⟩ | ⟨g, cap, cur, rfl, _, hg, hcap, hcm, hs, ht⟩
  · have hz : st.entries = [] := by cases h : st.entries with | nil => rfl | cons x xs => rw [h] at h0; simp at h0
    rw [hz]
    clear hER hz
    have CL := Lib.hid (fun q => clone_ents_nil (w.drewN q))
    go_enter Tryz.func21, Tryz.ntmps21
    go_wp2_with fail
    refine wp_region_mid 12 _ (by kernel_rfl) (by kernel_rfl) rfl ?_
    simp only [List.take_succ_cons, List.take_zero, List.drop_succ_cons, List.drop_zero]
    repeat (go_big_quiet_step (fail))
    refine wpQuiet_nil ?_
    intro _ hw'
    obtain ⟨nq, rfl⟩ := hw'
    intro K hK
    go_simp
    refine (CL.out nq).mono ?_
    rintro e w3 ⟨v3, rfl, h1, h2⟩
    have H := Lib.hid (fun q => And.intro (show (w3.drewN q).ownsRow w.heap.size 61 6 v3 0 [] from h1) ((bdrewN (Below.refl w.heap.size w) nq).trans (bdrewN (show Below w.heap.size (w.drewN nq) w3 from h2) q)))
    clear h1 h2
    go_simp
    refine hK _ _ ?_
    clear hK K
    repeat (go_big_quiet_step (fail))
    refine wpQuiet_nil ?_
    intro _ hw'
    obtain ⟨nq3, rfl⟩ := hw'
    go_wp2_with fail
    go_ret
    exact ⟨_, rfl, (H.out nq3).1, (H.out nq3).2⟩
  · obtain ⟨low, hlow⟩ : ∃ low, low = st.entries.length - 5000 := ⟨_, rfl⟩
    have hmax : max ((st.entries.length : Int) - 5000) 0 = (low : Int) := by omega
    have hll : low ≤ st.entries.length := by omega
    have hcells : ∀ W : World, W.heap[g]? = some (.cells cur 61 (0, 0)) → ∀ j u, ((st.entries.drop low).flatMap Ent.cells)[j]? = some u → W.cell? ⟨g, low * 6 + j, none⟩ = some u := by
      intro W hW j u hj
      rw [← drop_cells, List.getElem?_drop, ← ht] at hj
      have hlt := (List.getElem?_eq_some_iff.1 hj).1
      rw [List.length_take] at hlt
      rw [List.getElem?_take_of_lt (by omega), Array.getElem?_toList] at hj
      rw [cell_of hW]; exact hj
    obtain ⟨A, hA, hsrc⟩ : ∃ A : Addr, (if cap = low then (some ⟨g, 0, none⟩ : Option Addr) else some ⟨g, low * 6, none⟩) = some A ∧ Hid (∀ W : World, W.heap[g]? = some (.cells cur 61 (0, 0)) → ∀ j u, ((st.entries.drop low).flatMap Ent.cells)[j]? = some u → W.cell? (A.add j) = some u) := by
      by_cases h : cap = low
      · refine ⟨⟨g, 0, none⟩, by simp [h], Lib.hid fun W hW j u hj => ?_⟩
        have : st.entries.drop low = [] := List.drop_eq_nil_of_le (by omega)
        rw [this] at hj; simp at hj
      · refine ⟨⟨g, low * 6, none⟩, by simp [h], Lib.hid fun W hW j u hj => ?_⟩
        rw [Addr.add_lit]; exact hcells W hW j u hj
    have hdl : (st.entries.drop low).length = st.entries.length - low := by rw [List.length_drop]
    have CL := Lib.hid (fun (q : Nat) => clone_ents A (st.entries.length - low) (cap - low) (st.entries.drop low) (w.drewN q) hdl (hsrc.out _ hg) (by omega))
    rw [← hlow, hdl]
    have hmx : max ((st.entries.length : Int) - 5000) 0 = (low : Int) := hmax
    have HDL := Lib.hid hdl
    clear hER hcells hsrc hs ht hg hdl hlow
    have hlc : low ≤ cap := by omega
    have hcc : cap ≤ 9223372036854775807 := by unfold maxLen at hcm; omega
    go_enter Tryz.func21, Tryz.ntmps21
    go_wp2_with fail
    refine wp_region_mid 12 _ (by kernel_rfl) (by kernel_rfl) rfl ?_
    simp only [List.take_succ_cons, List.take_zero, List.drop_succ_cons, List.drop_zero]
    repeat (go_big_quiet_step (fail))
    refine wpQuiet_nil ?_
    intro _ hw'
    obtain ⟨nq, rfl⟩ := hw'
    intro K hK
    go_simp
    refine (CL.out nq).mono ?_
    rintro e w3 ⟨v3, rfl, h1, h2⟩
    have H := Lib.hid (fun q => And.intro (show (w3.drewN q).ownsRow w.heap.size 61 6 v3 (st.entries.length - low) ((st.entries.drop low).flatMap Ent.cells) from h1) ((bdrewN (Below.refl w.heap.size w) nq).trans (bdrewN (show Below w.heap.size (w.drewN nq) w3 from h2) q)))
    clear h1 h2
    go_simp
    refine hK _ _ ?_
    clear hK K
    repeat (go_big_quiet_step (fail))
    refine wpQuiet_nil ?_
    intro _ hw'
    obtain ⟨nq3, rfl⟩ := hw'
    go_wp2_with fail
    go_ret
    exact ⟨_, rfl, (H.out nq3).1, (H.out nq3).2⟩

end
end Go.Proofs.YtfgpophbgjeefaaGreat

namespace Go.Proofs.YtfgpophbgjeefaaGreat
section
open Go.RowKit
set_option linter.unusedVariables false

/-- A slice of leases, of entries, wherever it begins. -/
def LeasIn (w : World) (v : Value) (L : List Lea) : Prop :=
  ∃ a cap, v = .slice a L.length cap ∧ ∀ k l, L[k]? = some l → ∃ b o, a = some ⟨b, o, none⟩ ∧ w.cell? ⟨b, o + k * 4, none⟩ = some (.int .i64 l.no) ∧ w.cell? ⟨b, o + k * 4 + 1, none⟩ = some (.int .i64 l.owner) ∧ w.cell? ⟨b, o + k * 4 + 2, none⟩ = some (.int .i64 l.amount) ∧ w.cell? ⟨b, o + k * 4 + 3, none⟩ = some (.int .i64 l.untl)
def EntrIn (w : World) (v : Value) (L : List Ent) : Prop :=
  ∃ a cap, v = .slice a L.length cap ∧ ∀ k e, L[k]? = some e → ∃ b o, a = some ⟨b, o, none⟩ ∧ w.cell? ⟨b, o + k * 6, none⟩ = some (.int .i64 e.kind) ∧ w.cell? ⟨b, o + k * 6 + 1, none⟩ = some (.int .i64 e.owner) ∧ w.cell? ⟨b, o + k * 6 + 2, none⟩ = some (.int .i64 e.other) ∧ w.cell? ⟨b, o + k * 6 + 3, none⟩ = some (.int .i64 e.amount) ∧ w.cell? ⟨b, o + k * 6 + 4, none⟩ = some (.int .i64 e.lease) ∧ w.cell? ⟨b, o + k * 6 + 5, none⟩ = some (.int .i64 e.untl)
theorem LeasIn.below {w w' : World} {v : Value} {L : List Lea} (h : LeasIn w v L) (hb : Below w.heap.size w w') : LeasIn w' v L := by
  obtain ⟨a, cap, rfl, hc⟩ := h
  refine ⟨a, cap, rfl, fun k l hk => ?_⟩
  obtain ⟨b, o, ha, h0, h1, h2, h3⟩ := hc k l hk
  exact ⟨b, o, ha, old_cell hb h0, old_cell hb h1, old_cell hb h2, old_cell hb h3⟩
theorem EntrIn.below {w w' : World} {v : Value} {L : List Ent} (h : EntrIn w v L) (hb : Below w.heap.size w w') : EntrIn w' v L := by
  obtain ⟨a, cap, rfl, hc⟩ := h
  refine ⟨a, cap, rfl, fun k l hk => ?_⟩
  obtain ⟨b, o, ha, h0, h1, h2, h3, h4, h5⟩ := hc k l hk
  exact ⟨b, o, ha, old_cell hb h0, old_cell hb h1, old_cell hb h2, old_cell hb h3, old_cell hb h4, old_cell hb h5⟩
theorem leasIn_row {w : World} {B : Nat} {v : Value} {ls : List Lea} (h : w.ownsRow B 121 4 v ls.length (ls.flatMap Lea.cells)) : LeasIn w v ls := by
  rcases Nat.eq_zero_or_pos ls.length with h0 | h0
  · obtain ⟨a, c, rfl, _, _⟩ := ownsRow_sh h
    refine ⟨a, c, rfl, fun k l hk => ?_⟩
    have := (List.getElem?_eq_some_iff.1 hk).1
    omega
  · obtain ⟨g, cap, cur, rfl, _, _, _, _, _, _, hc⟩ := lrow_open h h0
    refine ⟨_, _, rfl, fun k l hk => ⟨g, 0, rfl, ?_, ?_, ?_, ?_⟩⟩
    · rw [Nat.zero_add]; exact (hc k l hk 0 (by omega)).trans rfl
    · rw [Nat.zero_add]; exact (hc k l hk 1 (by omega)).trans rfl
    · rw [Nat.zero_add]; exact (hc k l hk 2 (by omega)).trans rfl
    · rw [Nat.zero_add]; exact (hc k l hk 3 (by omega)).trans rfl

set_option maxHeartbeats 2000000 in
set_option maxRecDepth 100000 in
theorem equal_leas (v1 v2 : Value) (L : List Lea) (w : World) (hl : L.length ≤ 1000000) (h1 : LeasIn w v1 L) (h2 : LeasIn w v2 L) :
    Calls Tryz.prog 66 #[v1, v2] w (EqPost true w) := by
  obtain ⟨a1, c1, rfl, hc1⟩ := h1
  obtain ⟨a2, c2, rfl, hc2⟩ := h2
  have HC1 := Lib.hid hc1
  have HC2 := Lib.hid hc2
  clear hc1 hc2
  go_enter Tryz.func66, Tryz.ntmps66
  go_wp2_with fail
  go_loopg [13] L.length (fun g s13 wr => ∃ k q : Nat, k ≤ L.length ∧ L.length - k ≤ g ∧ s13 = .int .i64 k ∧ wr = w.drewN q)
  case atStart => exact ⟨0, 0, Nat.zero_le _, by omega, rfl, rfl⟩
  case round =>
    obtain ⟨k, q, hk, hg, rfl, rfl⟩ := hrel
    by_cases hlt : k < L.length
    · obtain ⟨e, he⟩ : ∃ e, L[k]? = some e := ⟨_, List.getElem?_eq_getElem hlt⟩
      obtain ⟨b1, o1, rfl, p0, p1, p2, p3⟩ := HC1.out k e he
      obtain ⟨b2, o2, rfl, q0, q1, q2, q3⟩ := HC2.out k e he
      obtain ⟨e1, e2, e3, e4⟩ := e
      clear he
      go_wp2_with fail
      go_region
      go_wp2
      go_roundg (L.length - (k + 1))
      case measure => omega
      case rel => exact ⟨k + 1, q + 1, by omega, by omega, by go_num, rfl⟩
    · have : k = L.length := by omega
      subst this
      go_wp2
      go_ret
      exact ⟨rfl, q, rfl⟩

set_option maxHeartbeats 2000000 in
set_option maxRecDepth 100000 in
theorem equal_entr (v1 v2 : Value) (L : List Ent) (w : World) (hl : L.length ≤ 1000000) (h1 : EntrIn w v1 L) (h2 : EntrIn w v2 L) :
    Calls Tryz.prog 20 #[v1, v2] w (EqPost true w) := by
  obtain ⟨a1, c1, rfl, hc1⟩ := h1
  obtain ⟨a2, c2, rfl, hc2⟩ := h2
  have HC1 := Lib.hid hc1
  have HC2 := Lib.hid hc2
  clear hc1 hc2
  go_enter Tryz.func20, Tryz.ntmps20
  go_wp2_with fail
  go_loopg [13] L.length (fun g s13 wr => ∃ k q : Nat, k ≤ L.length ∧ L.length - k ≤ g ∧ s13 = .int .i64 k ∧ wr = w.drewN q)
  case atStart => exact ⟨0, 0, Nat.zero_le _, by omega, rfl, rfl⟩
  case round =>
    obtain ⟨k, q, hk, hg, rfl, rfl⟩ := hrel
    by_cases hlt : k < L.length
    · obtain ⟨e, he⟩ : ∃ e, L[k]? = some e := ⟨_, List.getElem?_eq_getElem hlt⟩
      obtain ⟨b1, o1, rfl, p0, p1, p2, p3, p4, p5⟩ := HC1.out k e he
      obtain ⟨b2, o2, rfl, q0, q1, q2, q3, q4, q5⟩ := HC2.out k e he
      obtain ⟨e1, e2, e3, e4, e5, e6⟩ := e
      clear he
      go_wp2_with fail
      go_region
      go_wp2
      go_roundg (L.length - (k + 1))
      case measure => omega
      case rel => exact ⟨k + 1, q + 1, by omega, by omega, by go_num, rfl⟩
    · have : k = L.length := by omega
      subst this
      go_wp2
      go_ret
      exact ⟨rfl, q, rfl⟩

end
end Go.Proofs.YtfgpophbgjeefaaGreat
