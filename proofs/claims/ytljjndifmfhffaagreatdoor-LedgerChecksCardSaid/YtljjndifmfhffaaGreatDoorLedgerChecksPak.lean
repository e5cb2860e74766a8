/-
  The reference's book in memory. No conditions.
  CheckEntries of a book's own entries comes to the same book: plain. No conditions.
-/
import Derived.Test.YtljjndifmfhffaaGreatDoorLedgerChecksPaj
import Derived.Test.YtljjndifmfhffaaGreatDoorLedgerChecksPai

namespace Go.Proofs.YtljjndifmfhffaaGreatDoor
section
open Go.RowKit Go.Maps
set_option linter.unusedVariables false

/-- How an account reads: two integers. -/
def accList : List Value → Option (DataW Unit × List MemPlace)
  | [.int .i64 l, .int .i64 h] => some (.agg [.lit (.int .i64 l), .lit (.int .i64 h)], [])
  | _ => none
def accElem : Value → Option (DataW Unit × List MemPlace)
  | .agg cs => accList cs.toList
  | _ => none
theorem accElem_inv {v : Value} {l h : Int} {ps : List MemPlace} (e : accElem v = some (.agg [.lit (.int .i64 l), .lit (.int .i64 h)], ps)) : v = .agg #[.int .i64 l, .int .i64 h] := by
  unfold accElem at e
  split at e
  · next cs =>
    unfold accList at e
    split at e
    · next l' h' hl =>
      simp only [Option.some.injEq, Prod.mk.injEq, DataW.agg.injEq, List.cons.injEq, DataW.lit.injEq, Lit.int.injEq, true_and, and_true] at e
      obtain ⟨⟨rfl, rfl⟩, _⟩ := e
      have : cs = #[.int .i64 l', .int .i64 h'] := by rw [← Array.toArray_toList (xs := cs), hl]
      rw [this]
    · cases e
  · cases e
def accZero : DataW Unit := .agg [.lit (.int .i64 0), .lit (.int .i64 0)]
def accAt (a : Option (Int × Int × Int)) (z : DataW Unit) : DataW Unit := match a with | none => z | some (l, h, _) => .agg [.lit (.int .i64 l), .lit (.int .i64 h)]

def refCells (st : BookSt) (whole : Bool) (mb : Nat) (lv ev : Value) : Array Value :=
  #[.int .i64 st.budget, .map (some mb), lv, .int .i64 st.last, .int .i64 st.time, .bool whole, ev]

structure RefMem (w : World) (F : Nat → Prop) (p : Nat) (st : BookSt) (es : List Ent) (whole : Bool) (N mb : Nat) (lv ev : Value) (D : DataW Unit) : Prop where
  self : w.heap[p]? = some (.cells (refCells st whole mb lv ev) 46 (0, 0))
  fp : F p
  map : w.ownsMap Tryz.prog 3 accElem mb N D
  fmap : F mb
  tidy : Tidy D
  size : (Maps.size D : Int) = accCnt st.acc
  look : ∀ o z, D.atKey (.int .i64 o) z = accAt (st.acc o) z
  has : ∀ o, Maps.has D (.int .i64 o) = (st.acc o).isSome
  lrow : w.ownsRow 0 88 4 lv st.leases.length (st.leases.flatMap Lea.cells)
  flea : ∀ k, lv.ownBlock = some k → F k
  erow : OffRow w 33 6 ev es.length (es.flatMap Ent.cells)
  fent : ∀ k, ev.ownBlock = some k → F k

def RefAt (w : World) (F : Nat → Prop) (p : Nat) (st : BookSt) (es : List Ent) (whole : Bool) (N : Nat) : Prop := ∃ mb lv ev D, RefMem w F p st es whole N mb lv ev D

theorem RefMem.same {w w' : World} {F : Nat → Prop} {p : Nat} {st : BookSt} {es : List Ent} {wh : Bool} {N mb : Nat} {lv ev : Value} {D : DataW Unit} (h : RefMem w F p st es wh N mb lv ev D) (hs : SameOn F w w') : RefMem w' F p st es wh N mb lv ev D where
  self := (hs p h.fp (lt_of h.self)).trans h.self
  fp := h.fp
  map := ownsMap_same h.map (hs mb h.fmap h.map.lt)
  fmap := h.fmap
  tidy := h.tidy
  size := h.size
  look := h.look
  has := h.has
  lrow := ownsRow_same h.lrow (fun k hk => by
    obtain ⟨cur, hc⟩ := row_block h.lrow hk
    exact hs k (h.flea k hk) (lt_of hc))
  flea := h.flea
  erow := h.erow.same (fun k hk => by
    obtain ⟨cur, hc⟩ := h.erow.block hk
    exact hs k (h.fent k hk) (lt_of hc))
  fent := h.fent
theorem RefMem.wider {w : World} {F G : Nat → Prop} {p : Nat} {st : BookSt} {es : List Ent} {wh : Bool} {N mb : Nat} {lv ev : Value} {D : DataW Unit} (h : RefMem w F p st es wh N mb lv ev D) (hG : ∀ k, F k → G k) : RefMem w G p st es wh N mb lv ev D :=
  ⟨h.self, hG _ h.fp, h.map, hG _ h.fmap, h.tidy, h.size, h.look, h.has, h.lrow, fun k hk => hG _ (h.flea k hk), h.erow, fun k hk => hG _ (h.fent k hk)⟩
theorem RefAt.same {w w' : World} {F : Nat → Prop} {p : Nat} {st : BookSt} {es : List Ent} {wh : Bool} {N : Nat} (h : RefAt w F p st es wh N) (hs : SameOn F w w') : RefAt w' F p st es wh N := by
  obtain ⟨mb, lv, ev, D, h⟩ := h; exact ⟨mb, lv, ev, D, h.same hs⟩
theorem RefAt.wider {w : World} {F G : Nat → Prop} {p : Nat} {st : BookSt} {es : List Ent} {wh : Bool} {N : Nat} (h : RefAt w F p st es wh N) (hG : ∀ k, F k → G k) : RefAt w G p st es wh N := by
  obtain ⟨mb, lv, ev, D, h⟩ := h; exact ⟨mb, lv, ev, D, h.wider hG⟩
theorem RefMem.pe {w : World} {F : Nat → Prop} {p : Nat} {st : BookSt} {es : List Ent} {wh : Bool} {N mb : Nat} {lv ev : Value} {D : DataW Unit} (h : RefMem w F p st es wh N mb lv ev D) : ev.ownBlock ≠ some p := by
  intro he
  obtain ⟨cur, hc⟩ := h.erow.block he
  rw [h.self] at hc
  simp only [Option.some.injEq, Obj.cells.injEq] at hc
  exact absurd hc.2.1 (by decide)
theorem RefMem.pl {w : World} {F : Nat → Prop} {p : Nat} {st : BookSt} {es : List Ent} {wh : Bool} {N mb : Nat} {lv ev : Value} {D : DataW Unit} (h : RefMem w F p st es wh N mb lv ev D) : lv.ownBlock ≠ some p := by
  intro he
  obtain ⟨cur, hc⟩ := row_block h.lrow he
  rw [h.self] at hc
  simp only [Option.some.injEq, Obj.cells.injEq] at hc
  exact absurd hc.2.1 (by decide)

/-- An account looked up. -/
theorem ref_lookup {w : World} {F : Nat → Prop} {p : Nat} {st : BookSt} {es : List Ent} {wh : Bool} {N mb : Nat} {lv ev : Value} {D : DataW Unit} (h : RefMem w F p st es wh N mb lv ev D) (o : Int) (ho : 1 ≤ o ∧ o ≤ 40) {l x s : Int} (ha : st.acc o = some (l, x, s)) :
    (Instr.lookup 44 (.map (some mb)) (.int .i64 o) false).run Tryz.prog w = .ok (.agg #[.int .i64 l, .int .i64 x]) w := by
  have hwf : (Lit.int .i64 o).wf = true := WalkArith.wf_i64 (by omega)
  obtain ⟨v, ps, hrun, hv⟩ := h.map.lookup intKey Tryz.underlying44 (z := .agg #[.int .i64 0, .int .i64 0]) (by kernel_rfl) (zd := accZero) (zp := []) rfl (Maps.keyOf_int_mk Tryz.underlying3 hwf)
  rw [h.look o, ha] at hv
  rw [hrun, accElem_inv hv]

end
end Go.Proofs.YtljjndifmfhffaaGreatDoor

namespace Go.Proofs.YtljjndifmfhffaaGreatDoor
section
set_option linter.unusedVariables false

/-! What the entries tell: CheckEntries of a book's own entries comes to the same book. -/
def WfE (x : Ent) : Prop := (1 ≤ x.kind ∧ x.kind ≤ 11) ∧ formE x = true
structure Told (st : BookSt) (e : Ent) (st' : BookSt) : Prop where
  ok : againR st e = (0, st')
  wf : WfE e
  log : ∃ more, st'.entries = st.entries ++ e :: more ∧ ∀ x ∈ more, WfE x
inductive Made (b : Int) : BookSt → Prop
  | new : Made b (newSt b)
  | step {st : BookSt} {e : Ent} {st' : BookSt} : Made b st → Told st e st' → Made b st'

theorem chk_skip (st : BookSt) (rest : List Ent) : ∀ (more pre : List Ent), st.entries = pre ++ more → (∀ x ∈ more, WfE x) → chkFrom (more ++ rest) pre.length st = chkFrom rest st.entries.length st
  | [], pre, h, _ => by simp at h; rw [h]; rfl
  | x :: more, pre, h, hw => by
    have hx := hw x List.mem_cons_self
    have hlen : pre.length < st.entries.length := by rw [h]; simp
    have hget : st.entries[pre.length]? = some x := by rw [h]; simp
    rw [List.cons_append, chkFrom, if_neg (by simpa using hx.1), if_neg (by rw [hx.2]; simp)]
    simp only [show ¬ (pre.length = st.entries.length) by omega, ne_eq, not_true, if_false, hget]
    rw [if_pos (Ent.same_iff.2 rfl)]
    have := chk_skip st rest more (pre ++ [x]) (by rw [h]; simp) (fun y hy => hw y (List.mem_cons_of_mem _ hy))
    simpa using this
theorem chk_told {st st' : BookSt} {e : Ent} (h : Told st e st') (more rest : List Ent) (hm : st'.entries = st.entries ++ e :: more) (hw : ∀ x ∈ more, WfE x) :
    chkFrom (e :: more ++ rest) st.entries.length st = chkFrom rest st'.entries.length st' := by
  have hget : st'.entries[st.entries.length]? = some e := by rw [hm]; simp
  rw [List.cons_append, chkFrom, if_neg (by simpa using h.wf.1), if_neg (by rw [h.wf.2]; simp), if_pos rfl, h.ok]
  simp only [ne_eq, not_true, if_false, hget]
  rw [if_pos (Ent.same_iff.2 rfl)]
  have := chk_skip st' rest more (st.entries ++ [e]) (by rw [hm]; simp) hw
  simpa using this
theorem chk_made {b : Int} {st : BookSt} (h : Made b st) : ∀ rest, chkFrom (st.entries ++ rest) 0 (newSt b) = chkFrom rest st.entries.length st := by
  induction h with
  | new => intro rest; simp [newSt]
  | step hm ht ih =>
    intro rest
    obtain ⟨more, h1, h2⟩ := ht.log
    rw [h1, List.append_assoc, ih, ← h1]
    exact chk_told ht more rest h1 h2
theorem chk_whole {b : Int} {st : BookSt} (h : Made b st) : chkFrom st.entries 0 (newSt b) = (st.total, 0) := by
  have := chk_made h []
  rw [List.append_nil] at this
  rw [this, chkFrom, if_neg (by omega)]

/-- The log is whole, or long. -/
def Logged (b : Int) (st : BookSt) : Prop := 5000 ≤ st.entries.length ∨ Made b st
theorem trimE_ge {l : List Ent} (h : 5000 ≤ l.length) : 5000 ≤ (trimE l).length := by
  unfold trimE; split
  · rw [List.length_drop]; omega
  · exact h
theorem trimE_id {l : List Ent} (h : l.length ≤ 10000) : trimE l = l := if_neg (by omega)
theorem Logged.told {b : Int} {st st' : BookSt} {e : Ent} (h : Logged b st) (ok : againR st e = (0, st')) (wf : WfE e)
    (h1 : 5000 ≤ st.entries.length → 5000 ≤ st'.entries.length) (h2 : st.entries.length < 5000 → ∃ more, st'.entries = st.entries ++ e :: more ∧ ∀ x ∈ more, WfE x) : Logged b st' := by
  rcases h with h | h
  · exact Or.inl (h1 h)
  · rcases Nat.lt_or_ge st.entries.length 5000 with hl | hl
    · exact Or.inr (Made.step h ⟨ok, wf, h2 hl⟩)
    · exact Or.inl (h1 hl)
/-- One entry more. -/
theorem Logged.one {b : Int} {st st' : BookSt} {e : Ent} (h : Logged b st) (ok : againR st e = (0, st')) (wf : WfE e) (he : st'.entries = trimE (st.entries ++ [e])) : Logged b st' := by
  refine h.told ok wf ?_ ?_
  · intro h5; rw [he]; exact trimE_ge (by simp; omega)
  · intro h5
    exact ⟨[], by rw [he, trimE_id (by simp; omega)], by simp⟩

/-- What a call leaves alone. -/
structure Kept (st st' : BookSt) : Prop where
  bud : st'.budget = st.budget
  lim : ∀ o, (st'.acc o).map Prod.fst = (st.acc o).map Prod.fst
theorem Kept.refl (st : BookSt) : Kept st st := ⟨rfl, fun _ => rfl⟩
theorem Kept.trans {a b c : BookSt} (h : Kept a b) (k : Kept b c) : Kept a c := ⟨k.bud.trans h.bud, fun o => (k.lim o).trans (h.lim o)⟩
theorem kept_upd {st : BookSt} {o l h s : Int} (ha : st.acc o = some (l, h, s)) (h' s' : Int) : ∀ x, ((if x = o then some (l, h', s') else st.acc x).map Prod.fst) = (st.acc x).map Prod.fst := by
  intro x; by_cases e : x = o
  · rw [if_pos e, e, ha]; rfl
  · rw [if_neg e]

theorem take_log {b : Int} {st : BookSt} (g : Good st) (hl : Logged b st) (o n : Int) : Logged b (takeR st o n).2 ∧ Kept st (takeR st o n).2 ∧ (takeR st o n).2.time = st.time := by
  have again : ∀ o n, againR st ⟨3, o, 0, n, 0, 0⟩ = takeR st o n := fun o n => by simp [againR]
  have ag := again o n
  unfold takeR at ag ⊢
  split
  · next hc =>
    rw [if_pos hc] at ag
    cases ha : st.acc o with
    | none => exact ⟨hl, .refl st, rfl⟩
    | some a =>
      obtain ⟨l, h, s⟩ := a
      rw [ha] at ag
      simp only at ag ⊢
      by_cases hz : takeE st l h s n = 0
      · have hn := (chkE_zero hc).2 n (by simp)
        have e1 : takeSt st o l h s n = { heldSt st o l h s n with entries := trimE (st.entries ++ [⟨3, o, 0, n, 0, 0⟩]) } := by
          unfold takeSt; rw [if_pos hz]; unfold holdEnt; rw [if_pos hn.1]
        rw [hz] at ag
        refine ⟨hl.one ag ⟨by simp, by rfl⟩ (by rw [e1]), ?_, ?_⟩
        · rw [e1]; exact ⟨rfl, kept_upd ha _ _⟩
        · rw [e1]; rfl
      · have e1 : takeSt st o l h s n = st := by unfold takeSt; rw [if_neg hz]
        rw [e1]; exact ⟨hl, .refl st, rfl⟩
  · exact ⟨hl, .refl st, rfl⟩
theorem give_log {b : Int} {st : BookSt} (g : Good st) (hl : Logged b st) (o n : Int) : Logged b (giveR st o n).2 ∧ Kept st (giveR st o n).2 ∧ (giveR st o n).2.time = st.time := by
  have ag : againR st ⟨4, o, 0, n, 0, 0⟩ = giveR st o n := by simp [againR]
  unfold giveR at ag ⊢
  split
  · next hc =>
    rw [if_pos hc] at ag
    cases ha : st.acc o with
    | none => exact ⟨hl, .refl st, rfl⟩
    | some a =>
      obtain ⟨l, h, s⟩ := a
      rw [ha] at ag
      simp only at ag ⊢
      by_cases hz : giveE h n = 0
      · have e1 : giveSt st o l h s n = { heldSt st o l h s (-n) with entries := trimE (st.entries ++ [⟨4, o, 0, n, 0, 0⟩]) } := by
          unfold giveSt; rw [if_pos hz]
        rw [hz] at ag
        refine ⟨hl.one ag ⟨by simp, by rfl⟩ (by rw [e1]), ?_, ?_⟩
        · rw [e1]; exact ⟨rfl, kept_upd ha _ _⟩
        · rw [e1]; rfl
      · have e1 : giveSt st o l h s n = st := by unfold giveSt; rw [if_neg hz]
        rw [e1]; exact ⟨hl, .refl st, rfl⟩
  · exact ⟨hl, .refl st, rfl⟩
theorem lease_log {b : Int} {st : BookSt} (g : Good st) (hl : Logged b st) (o n u : Int) : Logged b (leaseR st o n u).2 ∧ Kept st (leaseR st o n u).2 ∧ (leaseR st o n u).2.time = st.time := by
  by_cases hz : leaseE st o n u = 0
  · obtain ⟨l, h, s, ha, hc, hu, h200, hm⟩ := leaseE_zero hz
    have e1 : leaseR st o n u = (0, leaseSt st o n u l h s) := by unfold leaseR; rw [if_pos hz, ha]
    rw [e1]
    have ag : againR st ⟨8, o, 0, n, st.last + 1, u⟩ = (0, leaseSt st o n u l h s) := by rw [← e1]; simp [againR]
    exact ⟨hl.one ag ⟨by simp, by rfl⟩ rfl, ⟨rfl, kept_upd ha _ _⟩, rfl⟩
  · have e1 : leaseR st o n u = (leaseE st o n u, st) := by unfold leaseR; rw [if_neg hz]
    rw [e1]; exact ⟨hl, .refl st, rfl⟩
theorem endR_kept (st : BookSt) (no : Int) : Kept st (endR st no).2 := by
  unfold endR
  split
  · exact .refl st
  · split
    · exact .refl st
    · next l hl =>
      refine ⟨rfl, fun o => ?_⟩
      show (endAcc st l o).map Prod.fst = _
      unfold endAcc
      split
      · cases st.acc o <;> rfl
      · rfl
theorem end_log {b : Int} {st : BookSt} (g : Good st) (hl : Logged b st) (no : Int) : Logged b (endR st no).2 ∧ Kept st (endR st no).2 ∧ (endR st no).2.time = st.time := by
  refine ⟨?_, endR_kept st no, endR_time st no⟩
  have ag : againR st ⟨10, 0, 0, 0, no, 0⟩ = endR st no := by simp [againR]
  unfold endR at ag ⊢
  split
  · exact hl
  · next i hi =>
    rw [hi] at ag
    simp only at ag
    split
    · exact hl
    · next l hl' =>
      rw [hl'] at ag
      simp only at ag
      exact hl.one ag ⟨by simp, by rfl⟩ rfl
theorem endR_ents (st : BookSt) (no : Int) : (endR st no).2.entries = st.entries ∨ (endR st no).2.entries = trimE (st.entries ++ [⟨10, 0, 0, 0, no, 0⟩]) := by
  unfold endR
  split
  · exact Or.inl rfl
  · split
    · exact Or.inl rfl
    · exact Or.inr rfl
theorem endAll_ge : ∀ (l : List Lea) (st : BookSt), 5000 ≤ st.entries.length → 5000 ≤ (endAll st l).entries.length
  | [], st, h => h
  | x :: l, st, h => by
    unfold endAll; rw [List.foldl_cons]
    refine endAll_ge l _ ?_
    rcases endR_ents st x.no with e | e <;> rw [e]
    · exact h
    · exact trimE_ge (by simp; omega)
theorem endAll_ents : ∀ (l : List Lea) (st : BookSt), st.entries.length + l.length ≤ 10000 → ∃ more, (endAll st l).entries = st.entries ++ more ∧ ∀ x ∈ more, WfE x
  | [], st, h => ⟨[], by simp [endAll], by simp⟩
  | x :: l, st, h => by
    unfold endAll; rw [List.foldl_cons]
    simp at h
    rcases endR_ents st x.no with e | e
    · obtain ⟨more, h1, h2⟩ := endAll_ents l (endR st x.no).2 (by rw [e]; omega)
      exact ⟨more, by rw [← e]; exact h1, h2⟩
    · rw [trimE_id (by simp; omega)] at e
      obtain ⟨more, h1, h2⟩ := endAll_ents l (endR st x.no).2 (by rw [e]; simp; omega)
      refine ⟨⟨10, 0, 0, 0, x.no, 0⟩ :: more, ?_, ?_⟩
      · have : (endAll (endR st x.no).2 l).entries = st.entries ++ ⟨10, 0, 0, 0, x.no, 0⟩ :: more := by rw [h1, e]; simp
        exact this
      · intro y hy
        rcases List.mem_cons.1 hy with rfl | hy
        · exact ⟨by simp, by rfl⟩
        · exact h2 y hy
theorem endAll_kept : ∀ (l : List Lea) (st : BookSt), Kept st (endAll st l)
  | [], st => .refl st
  | x :: l, st => by unfold endAll; rw [List.foldl_cons]; exact (endR_kept st x.no).trans (endAll_kept l _)
theorem overL_len (st : BookSt) (now : Int) : (overL st now).length ≤ st.leases.length := by
  unfold overL; rw [List.length_mergeSort]; exact List.length_filter_le _ _
theorem pass_log {b : Int} {st : BookSt} (g : Good st) (hl : Logged b st) (now : Int) : Logged b (passR st now).2 ∧ Kept st (passR st now).2 ∧ ((passR st now).1 = 0 → (passR st now).2.time = now) ∧ ((passR st now).1 ≠ 0 → (passR st now).2 = st) := by
  by_cases hz : passE st now = 0
  · have e1 : passR st now = (0, endAll (({ st with time := now } : BookSt).note ⟨11, 0, 0, 0, 0, now⟩) (overL st now)) := by unfold passR; rw [if_pos hz]
    rw [e1]
    have ag : againR st ⟨11, 0, 0, 0, 0, now⟩ = passR st now := by simp [againR]
    rw [e1] at ag
    refine ⟨hl.told ag ⟨by simp, by rfl⟩ ?_ ?_, ⟨(endAll_kept _ _).bud, (endAll_kept _ _).lim⟩, fun _ => endAll_time _ _, fun h => absurd rfl h⟩
    · intro h5
      exact endAll_ge _ _ (trimE_ge (by simp; omega))
    · intro h5
      have hs := overL_len st now
      have := g.leaLen
      have e2 : (({ st with time := now } : BookSt).note ⟨11, 0, 0, 0, 0, now⟩).entries = st.entries ++ [⟨11, 0, 0, 0, 0, now⟩] := trimE_id (by simp; omega)
      obtain ⟨more, h1, h2⟩ := endAll_ents (overL st now) (({ st with time := now } : BookSt).note ⟨11, 0, 0, 0, 0, now⟩) (by rw [e2]; simp; omega)
      exact ⟨more, by rw [h1, e2]; simp, h2⟩
  · have e1 : passR st now = (passE st now, st) := by unfold passR; rw [if_neg hz]
    rw [e1]; exact ⟨hl, .refl st, fun h => absurd h hz, fun _ => rfl⟩
theorem open_log {b : Int} {st : BookSt} (g : Good st) (hl : Logged b st) (o l : Int) (hno : st.acc o = none) :
    Logged b (openR st o l).2 ∧ (openR st o l).2.budget = st.budget ∧ (openR st o l).2.time = st.time ∧ (∀ x, (openR st o l).2.acc x = if chkE o [l] = 0 ∧ x = o then some (l, 0, 0) else st.acc x) := by
  have ag : againR st ⟨1, o, 0, l, 0, 0⟩ = openR st o l := by simp [againR]
  unfold openR at ag ⊢
  by_cases hc : chkE o [l] = 0
  · rw [if_pos hc, hno] at ag ⊢
    simp only at ag ⊢
    refine ⟨hl.one ag ⟨by simp, by rfl⟩ rfl, rfl, rfl, fun x => ?_⟩
    simp only [hc, true_and]
    rfl
  · rw [if_neg hc]; exact ⟨hl, rfl, rfl, fun x => by simp [hc]⟩

/-- CheckEntries of what Entries gives, of a book whose log is whole or long. -/
theorem chk_law {b : Int} {st : BookSt} (hb : 0 ≤ b ∧ b ≤ 10000000) (hl : Logged b st) (h5 : (st.entries.drop (st.entries.length - 5000)).length ≠ 5000) :
    chkAll b (st.entries.drop (st.entries.length - 5000)) = (st.total, 0) := by
  rcases hl with h | h
  · exact absurd (by rw [List.length_drop]; omega) h5
  · have : st.entries.length < 5000 := by
      rw [List.length_drop] at h5; omega
    have e : st.entries.drop (st.entries.length - 5000) = st.entries := by rw [Nat.sub_eq_zero_of_le (by omega)]; rfl
    rw [e]
    unfold chkAll
    rw [if_neg (by omega), if_pos hb]
    exact chk_whole h

end
end Go.Proofs.YtljjndifmfhffaaGreatDoor
