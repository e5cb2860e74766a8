/-
  CheckEntries of a book's own entries comes to the same book: plain. No conditions.
  The reference's book: what is leased, what counts. No conditions but what always holds of a book.
  Sums over a list without twins. No conditions.
-/
import Derived.Test.YtfnmjlnpfoclbaaGreatQueueRunsPal
import Derived.Test.YtfnmjlnpfoclbaaGreatQueueRunsPau
import Derived.Test.YtfnmjlnpfoclbaaGreatQueueRunsPaf
import Derived.Test.YtfnmjlnpfoclbaaGreatQueueRunsPak
import Derived.Test.YtfnmjlnpfoclbaaGreatQueueRunsPaq
import Derived.Deep.Cut

namespace Go.Proofs.YtfnmjlnpfoclbaaGreat
section
set_option linter.unusedVariables false

/-! What the entries tell: CheckEntries of a book's own entries comes to the same book. -/
def WfE (x : Ent) : Prop := (1 ≤ x.kind ∧ x.kind ≤ 11) ∧ formE x = true
structure Told (st : BookSt) (e : Ent) (st' : BookSt) : Prop where
  ok : againR st e = (0, st')
  wf : WfE e
  log : ∃ more, st'.entries = st.entries ++ e :: more ∧ ∀ x ∈ more, WfE x
inductive Made (b : Int) : BookSt → Prop
  | new : Made b (newSt b)
  | step {st : BookSt} {e : Ent} {st' : BookSt} : Made b st → Told st e st' → Made b st'

theorem chk_skip (st : BookSt) (rest : List Ent) : ∀ (more pre : List Ent), st.entries = pre ++ more → (∀ x ∈ more, WfE x) → chkFrom (more ++ rest) pre.length st = chkFrom rest st.entries.length st
  | [], pre, h, _ => by simp at h; rw [h]; rfl
  | x :: more, pre, h, hw => by
    have hx := hw x List.mem_cons_self
    have hlen : pre.length < st.entries.length := by rw [h]; simp
    have hget : st.entries[pre.length]? = some x := by rw [h]; simp
    rw [List.cons_append, chkFrom, if_neg (by simpa using hx.1), if_neg (by rw [hx.2]; simp)]
    simp only [show ¬ (pre.length = st.entries.length) by omega, ne_eq, not_true, if_false, hget]
    rw [if_pos (Ent.same_iff.2 rfl)]
    have := chk_skip st rest more (pre ++ [x]) (by rw [h]; simp) (fun y hy => hw y (List.mem_cons_of_mem _ hy))
    simpa using this
theorem chk_told {st st' : BookSt} {e : Ent} (h : Told st e st') (more rest : List Ent) (hm : st'.entries = st.entries ++ e :: more) (hw : ∀ x ∈ more, WfE x) :
    chkFrom (e :: more ++ rest) st.entries.length st = chkFrom rest st'.entries.length st' := by
  have hget : st'.entries[st.entries.length]? = some e := by rw [hm]; simp
  rw [List.cons_append, chkFrom, if_neg (by simpa using h.wf.1), if_neg (by rw [h.wf.2]; simp), if_pos rfl, h.ok]
  simp only [ne_eq, not_true, if_false, hget]
  rw [if_pos (Ent.same_iff.2 rfl)]
  have := chk_skip st' rest more (st.entries ++ [e]) (by rw [hm]; simp) hw
  simpa using this
theorem chk_made {b : Int} {st : BookSt} (h : Made b st) : ∀ rest, chkFrom (st.entries ++ rest) 0 (newSt b) = chkFrom rest st.entries.length st := by
  induction h with
  | new => intro rest; simp [newSt]
  | step hm ht ih =>
    intro rest
    obtain ⟨more, h1, h2⟩ := ht.log
    rw [h1, List.append_assoc, ih, ← h1]
    exact chk_told ht more rest h1 h2
theorem chk_whole {b : Int} {st : BookSt} (h : Made b st) : chkFrom st.entries 0 (newSt b) = (st.total, 0) := by
  have := chk_made h []
  rw [List.append_nil] at this
  rw [this, chkFrom, if_neg (by omega)]

/-- The log is whole, or long. -/
def Logged (b : Int) (st : BookSt) : Prop := 5000 ≤ st.entries.length ∨ Made b st
theorem trimE_ge {l : List Ent} (h : 5000 ≤ l.length) : 5000 ≤ (trimE l).length := by
  unfold trimE; split
  · rw [List.length_drop]; omega
  · exact h
theorem trimE_id {l : List Ent} (h : l.length ≤ 10000) : trimE l = l := if_neg (by omega)
theorem Logged.told {b : Int} {st st' : BookSt} {e : Ent} (h : Logged b st) (ok : againR st e = (0, st')) (wf : WfE e)
    (h1 : 5000 ≤ st.entries.length → 5000 ≤ st'.entries.length) (h2 : st.entries.length < 5000 → ∃ more, st'.entries = st.entries ++ e :: more ∧ ∀ x ∈ more, WfE x) : Logged b st' := by
  rcases h with h | h
  · exact Or.inl (h1 h)
  · rcases Nat.lt_or_ge st.entries.length 5000 with hl | hl
    · exact Or.inr (Made.step h ⟨ok, wf, h2 hl⟩)
    · exact Or.inl (h1 hl)
/-- One entry more. -/
theorem Logged.one {b : Int} {st st' : BookSt} {e : Ent} (h : Logged b st) (ok : againR st e = (0, st')) (wf : WfE e) (he : st'.entries = trimE (st.entries ++ [e])) : Logged b st' := by
  refine h.told ok wf ?_ ?_
  · intro h5; rw [he]; exact trimE_ge (by simp; omega)
  · intro h5
    exact ⟨[], by rw [he, trimE_id (by simp; omega)], by simp⟩

/-- What a call leaves alone. -/
structure Kept (st st' : BookSt) : Prop where
  bud : st'.budget = st.budget
  lim : ∀ o, (st'.acc o).map Prod.fst = (st.acc o).map Prod.fst
theorem Kept.refl (st : BookSt) : Kept st st := ⟨rfl, fun _ => rfl⟩
theorem Kept.trans {a b c : BookSt} (h : Kept a b) (k : Kept b c) : Kept a c := ⟨k.bud.trans h.bud, fun o => (k.lim o).trans (h.lim o)⟩
theorem kept_upd {st : BookSt} {o l h s : Int} (ha : st.acc o = some (l, h, s)) (h' s' : Int) : ∀ x, ((if x = o then some (l, h', s') else st.acc x).map Prod.fst) = (st.acc x).map Prod.fst := by
  intro x; by_cases e : x = o
  · rw [if_pos e, e, ha]; rfl
  · rw [if_neg e]

theorem take_log {b : Int} {st : BookSt} (g : Good st) (hl : Logged b st) (o n : Int) : Logged b (takeR st o n).2 ∧ Kept st (takeR st o n).2 ∧ (takeR st o n).2.time = st.time := by
  have again : ∀ o n, againR st ⟨3, o, 0, n, 0, 0⟩ = takeR st o n := fun o n => by simp [againR]
  have ag := again o n
  unfold takeR at ag ⊢
  split
  · next hc =>
    rw [if_pos hc] at ag
    cases ha : st.acc o with
    | none => exact ⟨hl, .refl st, rfl⟩
    | some a =>
      obtain ⟨l, h, s⟩ := a
      rw [ha] at ag
      simp only at ag ⊢
      by_cases hz : takeE st l h s n = 0
      · have hn := (chkE_zero hc).2 n (by simp)
        have e1 : takeSt st o l h s n = { heldSt st o l h s n with entries := trimE (st.entries ++ [⟨3, o, 0, n, 0, 0⟩]) } := by
          unfold takeSt; rw [if_pos hz]; unfold holdEnt; rw [if_pos hn.1]
        rw [hz] at ag
        refine ⟨hl.one ag ⟨by simp, by rfl⟩ (by rw [e1]), ?_, ?_⟩
        · rw [e1]; exact ⟨rfl, kept_upd ha _ _⟩
        · rw [e1]; rfl
      · have e1 : takeSt st o l h s n = st := by unfold takeSt; rw [if_neg hz]
        rw [e1]; exact ⟨hl, .refl st, rfl⟩
  · exact ⟨hl, .refl st, rfl⟩
theorem give_log {b : Int} {st : BookSt} (g : Good st) (hl : Logged b st) (o n : Int) : Logged b (giveR st o n).2 ∧ Kept st (giveR st o n).2 ∧ (giveR st o n).2.time = st.time := by
  have ag : againR st ⟨4, o, 0, n, 0, 0⟩ = giveR st o n := by simp [againR]
  unfold giveR at ag ⊢
  split
  · next hc =>
    rw [if_pos hc] at ag
    cases ha : st.acc o with
    | none => exact ⟨hl, .refl st, rfl⟩
    | some a =>
      obtain ⟨l, h, s⟩ := a
      rw [ha] at ag
      simp only at ag ⊢
      by_cases hz : giveE h n = 0
      · have e1 : giveSt st o l h s n = { heldSt st o l h s (-n) with entries := trimE (st.entries ++ [⟨4, o, 0, n, 0, 0⟩]) } := by
          unfold giveSt; rw [if_pos hz]
        rw [hz] at ag
        refine ⟨hl.one ag ⟨by simp, by rfl⟩ (by rw [e1]), ?_, ?_⟩
        · rw [e1]; exact ⟨rfl, kept_upd ha _ _⟩
        · rw [e1]; rfl
      · have e1 : giveSt st o l h s n = st := by unfold giveSt; rw [if_neg hz]
        rw [e1]; exact ⟨hl, .refl st, rfl⟩
  · exact ⟨hl, .refl st, rfl⟩
theorem lease_log {b : Int} {st : BookSt} (g : Good st) (hl : Logged b st) (o n u : Int) : Logged b (leaseR st o n u).2 ∧ Kept st (leaseR st o n u).2 ∧ (leaseR st o n u).2.time = st.time := by
  by_cases hz : leaseE st o n u = 0
  · obtain ⟨l, h, s, ha, hc, hu, h200, hm⟩ := leaseE_zero hz
    have e1 : leaseR st o n u = (0, leaseSt st o n u l h s) := by unfold leaseR; rw [if_pos hz, ha]
    rw [e1]
    have ag : againR st ⟨8, o, 0, n, st.last + 1, u⟩ = (0, leaseSt st o n u l h s) := by rw [← e1]; simp [againR]
    exact ⟨hl.one ag ⟨by simp, by rfl⟩ rfl, ⟨rfl, kept_upd ha _ _⟩, rfl⟩
  · have e1 : leaseR st o n u = (leaseE st o n u, st) := by unfold leaseR; rw [if_neg hz]
    rw [e1]; exact ⟨hl, .refl st, rfl⟩
theorem endR_kept (st : BookSt) (no : Int) : Kept st (endR st no).2 := by
  unfold endR
  split
  · exact .refl st
  · split
    · exact .refl st
    · next l hl =>
      refine ⟨rfl, fun o => ?_⟩
      show (endAcc st l o).map Prod.fst = _
      unfold endAcc
      split
      · cases st.acc o <;> rfl
      · rfl
theorem end_log {b : Int} {st : BookSt} (g : Good st) (hl : Logged b st) (no : Int) : Logged b (endR st no).2 ∧ Kept st (endR st no).2 ∧ (endR st no).2.time = st.time := by
  refine ⟨?_, endR_kept st no, endR_time st no⟩
  have ag : againR st ⟨10, 0, 0, 0, no, 0⟩ = endR st no := by simp [againR]
  unfold endR at ag ⊢
  split
  · exact hl
  · next i hi =>
    rw [hi] at ag
    simp only at ag
    split
    · exact hl
    · next l hl' =>
      rw [hl'] at ag
      simp only at ag
      exact hl.one ag ⟨by simp, by rfl⟩ rfl
theorem endR_ents (st : BookSt) (no : Int) : (endR st no).2.entries = st.entries ∨ (endR st no).2.entries = trimE (st.entries ++ [⟨10, 0, 0, 0, no, 0⟩]) := by
  unfold endR
  split
  · exact Or.inl rfl
  · split
    · exact Or.inl rfl
    · exact Or.inr rfl
theorem endAll_ge : ∀ (l : List Lea) (st : BookSt), 5000 ≤ st.entries.length → 5000 ≤ (endAll st l).entries.length
  | [], st, h => h
  | x :: l, st, h => by
    unfold endAll; rw [List.foldl_cons]
    refine endAll_ge l _ ?_
    rcases endR_ents st x.no with e | e <;> rw [e]
    · exact h
    · exact trimE_ge (by simp; omega)
theorem endAll_ents : ∀ (l : List Lea) (st : BookSt), st.entries.length + l.length ≤ 10000 → ∃ more, (endAll st l).entries = st.entries ++ more ∧ ∀ x ∈ more, WfE x
  | [], st, h => ⟨[], by simp [endAll], by simp⟩
  | x :: l, st, h => by
    unfold endAll; rw [List.foldl_cons]
    simp at h
    rcases endR_ents st x.no with e | e
    · obtain ⟨more, h1, h2⟩ := endAll_ents l (endR st x.no).2 (by rw [e]; omega)
      exact ⟨more, by rw [← e]; exact h1, h2⟩
    · rw [trimE_id (by simp; omega)] at e
      obtain ⟨more, h1, h2⟩ := endAll_ents l (endR st x.no).2 (by rw [e]; simp; omega)
      refine ⟨⟨10, 0, 0, 0, x.no, 0⟩ :: more, ?_, ?_⟩
      · have : (endAll (endR st x.no).2 l).entries = st.entries ++ ⟨10, 0, 0, 0, x.no, 0⟩ :: more := by rw [h1, e]; simp
        exact this
      · intro y hy
        rcases List.mem_cons.1 hy with rfl | hy
        · exact ⟨by simp, by rfl⟩
        · exact h2 y hy
theorem endAll_kept : ∀ (l : List Lea) (st : BookSt), Kept st (endAll st l)
  | [], st => .refl st
  | x :: l, st => by unfold endAll; rw [List.foldl_cons]; exact (endR_kept st x.no).trans (endAll_kept l _)
theorem overL_len (st : BookSt) (now : Int) : (overL st now).length ≤ st.leases.length := by
  unfold overL; rw [List.length_mergeSort]; exact List.length_filter_le _ _
theorem pass_log {b : Int} {st : BookSt} (g : Good st) (hl : Logged b st) (now : Int) : Logged b (passR st now).2 ∧ Kept st (passR st now).2 ∧ ((passR st now).1 = 0 → (passR st now).2.time = now) ∧ ((passR st now).1 ≠ 0 → (passR st now).2 = st) := by
  by_cases hz : passE st now = 0
  · have e1 : passR st now = (0, endAll (({ st with time := now } : BookSt).note ⟨11, 0, 0, 0, 0, now⟩) (overL st now)) := by unfold passR; rw [if_pos hz]
    rw [e1]
    have ag : againR st ⟨11, 0, 0, 0, 0, now⟩ = passR st now := by simp [againR]
    rw [e1] at ag
    refine ⟨hl.told ag ⟨by simp, by rfl⟩ ?_ ?_, ⟨(endAll_kept _ _).bud, (endAll_kept _ _).lim⟩, fun _ => endAll_time _ _, fun h => absurd rfl h⟩
    · intro h5
      exact endAll_ge _ _ (trimE_ge (by simp; omega))
    · intro h5
      have hs := overL_len st now
      have := g.leaLen
      have e2 : (({ st with time := now } : BookSt).note ⟨11, 0, 0, 0, 0, now⟩).entries = st.entries ++ [⟨11, 0, 0, 0, 0, now⟩] := trimE_id (by simp; omega)
      obtain ⟨more, h1, h2⟩ := endAll_ents (overL st now) (({ st with time := now } : BookSt).note ⟨11, 0, 0, 0, 0, now⟩) (by rw [e2]; simp; omega)
      exact ⟨more, by rw [h1, e2]; simp, h2⟩
  · have e1 : passR st now = (passE st now, st) := by unfold passR; rw [if_neg hz]
    rw [e1]; exact ⟨hl, .refl st, fun h => absurd h hz, fun _ => rfl⟩
theorem open_log {b : Int} {st : BookSt} (g : Good st) (hl : Logged b st) (o l : Int) (hno : st.acc o = none) :
    Logged b (openR st o l).2 ∧ (openR st o l).2.budget = st.budget ∧ (openR st o l).2.time = st.time ∧ (∀ x, (openR st o l).2.acc x = if chkE o [l] = 0 ∧ x = o then some (l, 0, 0) else st.acc x) := by
  have ag : againR st ⟨1, o, 0, l, 0, 0⟩ = openR st o l := by simp [againR]
  unfold openR at ag ⊢
  by_cases hc : chkE o [l] = 0
  · rw [if_pos hc, hno] at ag ⊢
    simp only at ag ⊢
    refine ⟨hl.one ag ⟨by simp, by rfl⟩ rfl, rfl, rfl, fun x => ?_⟩
    simp only [hc, true_and]
    rfl
  · rw [if_neg hc]; exact ⟨hl, rfl, rfl, fun x => by simp [hc]⟩

/-- CheckEntries of what Entries gives, of a book whose log is whole or long. -/
theorem chk_law {b : Int} {st : BookSt} (hb : 0 ≤ b ∧ b ≤ 10000000) (hl : Logged b st) (h5 : (st.entries.drop (st.entries.length - 5000)).length ≠ 5000) :
    chkAll b (st.entries.drop (st.entries.length - 5000)) = (st.total, 0) := by
  rcases hl with h | h
  · exact absurd (by rw [List.length_drop]; omega) h5
  · have : st.entries.length < 5000 := by
      rw [List.length_drop] at h5; omega
    have e : st.entries.drop (st.entries.length - 5000) = st.entries := by rw [Nat.sub_eq_zero_of_le (by omega)]; rfl
    rw [e]
    unfold chkAll
    rw [if_neg (by omega), if_pos hb]
    exact chk_whole h

end
end Go.Proofs.YtfnmjlnpfoclbaaGreat

namespace Go.Proofs.YtfnmjlnpfoclbaaGreat
section
open Go.RowKit Go.Maps
set_option linter.unusedVariables false

theorem leasedOf_le (o : Int) : ∀ a : List Lea, (∀ l ∈ a, 0 ≤ l.amount ∧ l.amount ≤ 10000000) → leasedOf o a ≤ 10000000 * a.length
  | [], _ => by simp [leasedOf]
  | x :: a, h => by
    have h1 := leasedOf_le o a (fun l hl => h l (List.mem_cons_of_mem _ hl))
    have h2 := h x List.mem_cons_self
    simp only [leasedOf, List.length_cons]
    split <;> omega
theorem leasedOf_take (o : Int) (a : List Lea) (k : Nat) (l : Lea) (h : a[k]? = some l) : leasedOf o (a.take (k + 1)) = leasedOf o (a.take k) + (if l.owner = o then l.amount else 0) := by
  rw [List.take_add_one, leasedOf_append, h]
  simp [leasedOf]

/-- A row of leases: the value's shape, and lease k's cells. -/
theorem leacells_get : ∀ (ls : List Lea) (k i : Nat) (l : Lea), ls[k]? = some l → i < 4 → (ls.flatMap Lea.cells)[k * 4 + i]? = l.cells[i]?
  | [], k, i, l, h, _ => by simp at h
  | x :: ls, 0, i, l, h, hi => by
    simp at h; subst h
    rw [List.flatMap_cons, List.getElem?_append_left (by simp [Lea.cells]; omega)]; simp
  | x :: ls, k + 1, i, l, h, hi => by
    simp at h
    rw [List.flatMap_cons, List.getElem?_append_right (by simp [Lea.cells]; omega)]
    have := leacells_get ls k i l h hi
    rw [← this]; congr 1; simp [Lea.cells]; omega
theorem leaRow_cell {w : World} {B : Nat} {v : Value} {ls : List Lea} (h : w.ownsRow B 98 4 v ls.length (ls.flatMap Lea.cells)) (h0 : 0 < ls.length) :
    ∃ g cap, v = .slice (some ⟨g, 0, none⟩) ls.length cap ∧ ∀ k l, ls[k]? = some l → ∀ i, i < 4 → w.cell? ⟨g, k * 4 + i, none⟩ = l.cells[i]? := by
  rcases h.2 with ⟨_, h2⟩ | ⟨g, cap, cur, hv, hb, hg, hn, hm, hs, ht⟩
  · omega
  · refine ⟨g, cap, hv, ?_⟩
    intro k l hk i hi
    have hkl : k < ls.length := (List.getElem?_eq_some_iff.1 hk).1
    rw [cell_of hg, ← Array.getElem?_toList, ← leacells_get ls k i l hk hi, ← ht, List.getElem?_take_of_lt (by omega)]

set_option maxHeartbeats 1000000 in
set_option maxRecDepth 100000 in
theorem leasedR_any (p : Nat) (o : Int) (w : World) (F : Nat → Prop) (st : BookSt) (es : List Ent) (wh : Bool) (N : Nat) (hb : RefAt w F p st es wh N) (g : GoodE st) :
    Calls Tryz.prog 81 #[.pointer (some ⟨p, 0, none⟩), .int .i64 o] w (fun e w' => e = .returned (.int .i64 (leasedOf o st.leases)) ∧ Below w.heap.size w w') := by
  obtain ⟨mb, lv, ev, D, hm⟩ := hb
  have c2 : w.cell? ⟨p, 2, none⟩ = some lv := by rw [cell_of hm.self]; rfl
  have hll := g.leaLen
  obtain ⟨va, vc, rfl, _, _⟩ := ownsRow_sh hm.lrow
  have HROW := Lib.hid hm.lrow
  have HG := Lib.hid g
  clear hm g
  go_enter Tryz.func81, Tryz.ntmps81
  go_wp2_with fail
  go_loopw [5, 13] (fun s i wr => ∃ k : Nat, k ≤ st.leases.length ∧ i = .int .i64 k ∧ s = .int .i64 (leasedOf o (st.leases.take k)) ∧ Below w.heap.size w wr) (fun _ i _ => st.leases.length - (intOf i).toNat)
  case atStart => exact ⟨0, Nat.zero_le _, rfl, rfl, Below.refl _ _⟩
  case round =>
    obtain ⟨k, hk, rfl, rfl, hb9⟩ := hrel
    have HB9 := Lib.hid hb9
    by_cases hlt : k < st.leases.length
    case pos =>
      obtain ⟨l, hl⟩ : ∃ l, st.leases[k]? = some l := ⟨_, List.getElem?_eq_getElem hlt⟩
      obtain ⟨gb, cap, hv, hcell⟩ := leaRow_cell HROW.out (by omega)
      simp only [Value.slice.injEq] at hv
      obtain ⟨rfl, _, rfl⟩ := hv
      have x0 : wr.cell? ⟨gb, k * 4, none⟩ = some (.int .i64 l.no) := old_cell hb9 ((hcell k l hl 0 (by omega)).trans rfl)
      have x1 : wr.cell? ⟨gb, k * 4 + 1, none⟩ = some (.int .i64 l.owner) := old_cell hb9 ((hcell k l hl 1 (by omega)).trans rfl)
      have x2 : wr.cell? ⟨gb, k * 4 + 2, none⟩ = some (.int .i64 l.amount) := old_cell hb9 ((hcell k l hl 2 (by omega)).trans rfl)
      have x3 : wr.cell? ⟨gb, k * 4 + 3, none⟩ = some (.int .i64 l.untl) := old_cell hb9 ((hcell k l hl 3 (by omega)).trans rfl)
      have HT := Lib.hid (leasedOf_take o st.leases k l hl)
      have hs0 := leasedOf_nonneg o (st.leases.take k) (fun y hy => (HG.out.lea y (List.mem_of_mem_take hy)).2.2.1.1)
      have hs1 := leasedOf_le o (st.leases.take k) (fun y hy => (HG.out.lea y (List.mem_of_mem_take hy)).2.2.1)
      have hs2 : ((st.leases.take k).length : Int) ≤ 200 := by rw [List.length_take]; omega
      have ha := (HG.out.lea l (List.mem_of_getElem? hl)).2.2.1
      obtain ⟨l1, l2, l3, l4⟩ := l
      simp only at x0 x1 x2 x3 ha
      generalize leasedOf o (st.leases.take k) = S at *
      have hsb : S ≤ 2000000000 := by omega
      clear hcell hl hb9 hs1 hs2
      by_cases ho : l2 = o
      · subst ho
        go_wp2_with fail
        go_roundw
        case measure => simp only [intOf]; omega
        case rel => exact ⟨k + 1, by omega, by simp, by rw [HT.out]; simp, HB9.out.alloc HB9.out.size _⟩
      · have ho' : (l2 == o) = false := by simpa using ho
        go_wp2_with fail
        go_roundw
        case measure => simp only [intOf]; omega
        case rel => exact ⟨k + 1, by omega, by simp, by rw [HT.out]; simp [ho], HB9.out.alloc HB9.out.size _⟩
    case neg =>
      obtain rfl : k = st.leases.length := by omega
      go_wp2_with fail
      go_ret
      exact ⟨by rw [List.take_length]; rfl, HB9.out⟩

set_option maxRecDepth 100000 in
theorem inBudgetR_any (n : Int) (w : World) : Calls Tryz.prog 55 #[.int .i64 n] w (fun e w' => e = .returned (.bool (decide (0 ≤ n ∧ n ≤ 10000000))) ∧ w = w') := by
  by_cases h1 : 0 ≤ n
  · by_cases h2 : n ≤ 10000000
    · have e : decide (0 ≤ n ∧ n ≤ 10000000) = true := by simp [h1, h2]
      rw [e]
      clear e
      go_enter Tryz.func55, Tryz.ntmps55
      go_wp2_with fail
      go_ret
      exact ⟨rfl, rfl⟩
    · have e : decide (0 ≤ n ∧ n ≤ 10000000) = false := by simp [h2]
      rw [e]
      clear e
      go_enter Tryz.func55, Tryz.ntmps55
      go_wp2_with fail
      go_ret
      exact ⟨rfl, rfl⟩
  · have e : decide (0 ≤ n ∧ n ≤ 10000000) = false := by simp [h1]
    rw [e]
    clear e
    go_enter Tryz.func55, Tryz.ntmps55
    go_wp2_with fail
    go_ret
    exact ⟨rfl, rfl⟩

theorem accField0 (l h : Int) (W : World) : (Instr.field 115 (.agg #[.int .i64 l, .int .i64 h]) 0).run Tryz.prog W = .ok (.int .i64 l) W := by kernel_rfl
theorem accField1 (l h : Int) (W : World) : (Instr.field 115 (.agg #[.int .i64 l, .int .i64 h]) 1).run Tryz.prog W = .ok (.int .i64 h) W := by kernel_rfl

/-- What counts reads of the world. -/
def CntS (p mb : Nat) (o l h : Int) : World → Prop := fun W => W.cell? ⟨p, 1, none⟩ = some (.map (some mb)) ∧
  (Instr.lookup 63 (.map (some mb)) (.int .i64 o) false).run Tryz.prog W = .ok (.agg #[.int .i64 l, .int .i64 h]) W

set_option maxHeartbeats 1000000 in
set_option maxRecDepth 100000 in
theorem countsR_any (p : Nat) (o l h s : Int) (w : World) (F : Nat → Prop) (st : BookSt) (es : List Ent) (wh : Bool) (N : Nat) (hb : RefAt w F p st es wh N) (g : GoodE st) (ho : 1 ≤ o ∧ o ≤ 40) (ha : st.acc o = some (l, h, s)) :
    Calls Tryz.prog 83 #[.pointer (some ⟨p, 0, none⟩), .int .i64 o] w (fun e w' => e = .returned (.int .i64 (h + s)) ∧ Below w.heap.size w w') := by
  have LE := Lib.hid (fun m => leasedR_any p o (w.drewN m) F st es wh N (hb.same (fun k _ _ => rfl)) g)
  have hs := (g.own o l h s ha).2.2.2.2
  have HSL := Lib.hid hs
  have hb1 := g.own o l h s ha
  have hs0 := g.s0 ha
  obtain ⟨mb, lv, ev, D, hm⟩ := hb
  have c1 : w.cell? ⟨p, 1, none⟩ = some (.map (some mb)) := by rw [cell_of hm.self]; rfl
  have LK := fun m => ref_lookup (hm.same (w' := w.drewN m) (fun k _ _ => rfl)) o ho ha
  have FD := fun W => accField1 l h W
  have HM := Lib.hid hm
  clear hm hs
  go_enter Tryz.func83, Tryz.ntmps83
  have s1 : ∀ y : WIn (CntS p mb o l h), y.w.cell? ⟨p, 1, none⟩ = some (.map (some mb)) := fun y => y.h.1
  have s2 : ∀ y : WIn (CntS p mb o l h), (Instr.lookup 63 (.map (some mb)) (.int .i64 o) false).run Tryz.prog y.w = .ok (.agg #[.int .i64 l, .int .i64 h]) y.w := fun y => y.h.2
  have S0 : CntS p mb o l h w.drew := ⟨c1, LK 1⟩
  haveI ne : Nonempty (WIn (CntS p mb o l h)) := ⟨⟨w.drew, S0⟩⟩
  have HS : Hid (∀ W, Below w.heap.size w W → CntS p mb o l h W) := Lib.hid (fun W hW => ⟨old_cell hW c1, ref_lookup (HM.out.same (Below.same_on hW)) o ho ha⟩)
  clear LK
  go_upto_region 1 with fail
  refine wp_normal ?_
  refine wp_region_plan 11 (CntS p mb o l h) rfl ?_
  refine wpN_seg [0, 1, 2, 3, 4, 5, 6, 7, 8] (by kernel_rfl) (by kernel_rfl) (by kernel_rfl) (by kernel_rfl) (by decide) (fun _ _ _ _ _ h => h) S0 ?_
  simp only [pick, List.map_cons, List.map_nil, List.getElem?_cons_succ, List.getElem?_cons_zero, Option.getD_some]
  repeat (go_big_quiet_step (fail))
  refine wpQuiet_nil ?_
  refine wpN_one 9 _ (by kernel_rfl) rfl ?_
  refine NextAt.held ?_
  intro K hK
  go_simp
  refine (LE.out _).mono ?_
  rintro e w1 ⟨rfl, hb1'⟩
  have B1 := Lib.hid (show Below w.heap.size w w1 from (bdrewN (Below.refl _ w) 1).trans hb1')
  have S1 : CntS p mb o l h w1 := HS.out w1 B1.out
  clear hb1'
  go_simp
  refine hK _ _ S1 ?_
  clear hK K
  refine wpN_pure [10] (by kernel_rfl) (by kernel_rfl) (by kernel_rfl) (fun _ _ _ _ _ h => h) (fun _ => S1) ?_
  simp only [pick, List.map_cons, List.map_nil, List.getElem?_cons_succ, List.getElem?_cons_zero, Option.getD_some]
  repeat (go_big_quiet_step (fail))
  refine wpQuiet_nil ?_
  refine wpN_one 11 _ (by kernel_rfl) rfl ?_
  refine NextAt.free (by kernel_rfl) ?_
  intro K hK
  go_simp
  refine hK _ _ ?_
  clear hK K
  refine wpN_done (by kernel_rfl) ?_
  go_wp2_with fail
  go_ret
  exact ⟨by rw [HSL.out]; rfl, B1.out⟩

end
end Go.Proofs.YtfnmjlnpfoclbaaGreat

namespace Go.Proofs.YtfnmjlnpfoclbaaGreat
section
set_option linter.unusedVariables false

/-! The sum over the accounts. -/
def sumL (f : Int → Int) : List Int → Int
  | [] => 0
  | x :: xs => f x + sumL f xs
theorem sumL_snoc (f : Int → Int) (x : Int) : ∀ xs : List Int, sumL f (xs ++ [x]) = sumL f xs + f x
  | [] => by simp [sumL]
  | y :: ys => by simp only [List.cons_append, sumL]; rw [sumL_snoc f x ys]; omega
theorem sumL_congr {f g : Int → Int} : ∀ xs : List Int, (∀ x ∈ xs, f x = g x) → sumL f xs = sumL g xs
  | [], _ => rfl
  | y :: ys, h => by simp only [sumL]; rw [h y (by simp), sumL_congr ys (fun x hx => h x (by simp [hx]))]
theorem sumL_all (n : Nat) : ∀ (xs : List Int) (f : Int → Int), xs.Nodup → (∀ x ∈ xs, 1 ≤ x ∧ x ≤ n) → (∀ x : Int, 1 ≤ x → x ≤ n → x ∉ xs → f x = 0) → sumL f xs = sumN f n
  | [], f, _, _, h0 => by
    have : sumN f n = sumN (fun _ => 0) n := sumN_congr n (fun o h1 h2 => h0 o h1 h2 (by simp))
    rw [this]
    have z : ∀ m : Nat, sumN (fun _ => 0) m = 0 := by
      intro m; induction m with
      | zero => rfl
      | succ m ih => simp [sumN, ih]
    rw [z]; rfl
  | y :: ys, f, hn, hin, h0 => by
    obtain ⟨hy, hys⟩ := List.nodup_cons.1 hn
    have hy1 := hin y (by simp)
    have e := sumN_upd f y 0 n hy1.1 hy1.2
    have ih := sumL_all n ys (fun x => if x = y then 0 else f x) hys (fun x hx => hin x (by simp [hx])) (fun x h1 h2 hx => by
      by_cases e : x = y
      · simp [e]
      · simp only [if_neg e]; exact h0 x h1 h2 (by simp [e, hx]))
    have c : sumL (fun x => if x = y then 0 else f x) ys = sumL f ys := sumL_congr ys (fun x hx => by
      have : x ≠ y := fun e => hy (e ▸ hx)
      simp [this])
    simp only [sumL]
    omega
theorem sumL_bound {f : Int → Int} {M : Int} (h0 : 0 ≤ M) : ∀ xs : List Int, (∀ x ∈ xs, 0 ≤ f x ∧ f x ≤ M) → 0 ≤ sumL f xs ∧ sumL f xs ≤ M * xs.length
  | [], _ => by simp [sumL]
  | y :: ys, h => by
    have h1 := h y (by simp)
    have h2 := sumL_bound h0 ys (fun x hx => h x (by simp [hx]))
    simp only [sumL, List.length_cons]
    rw [Int.natCast_add, Int.mul_add]
    omega

end
end Go.Proofs.YtfnmjlnpfoclbaaGreat
