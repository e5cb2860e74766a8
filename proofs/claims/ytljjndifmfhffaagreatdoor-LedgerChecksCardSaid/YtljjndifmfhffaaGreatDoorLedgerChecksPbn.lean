/-
  CheckEntries: what it gives. No conditions but those of the entries' list.
-/
import Derived.Test.YtljjndifmfhffaaGreatDoorLedgerChecksPbm
namespace Go.Proofs.YtljjndifmfhffaaGreatDoor
open Go.RowKit
set_option linter.unusedVariables false

theorem endR_last (st : BookSt) (no : Int) : (endR st no).2.last = st.last := by
  unfold endR; split
  · rfl
  · split <;> rfl
theorem endAll_last : ∀ (l : List Lea) (st : BookSt), (endAll st l).last = st.last
  | [], st => rfl
  | x :: l, st => by unfold endAll; rw [List.foldl_cons]; exact (endAll_last l _).trans (endR_last st x.no)
theorem takeSt_last (st : BookSt) (o l h s n : Int) : (takeSt st o l h s n).last = st.last := by unfold takeSt; split <;> rfl
theorem giveSt_last (st : BookSt) (o l h s n : Int) : (giveSt st o l h s n).last = st.last := by unfold giveSt; split <;> rfl
theorem paid_last (st : BookSt) (f t n : Int) (a b : Int × Int × Int) : (paid st f t n a b).last = st.last := by unfold paid; split <;> rfl
theorem againR_last (st : BookSt) (e : Ent) : (againR st e).2.last ≤ st.last + 1 := by
  have r : ∀ x : BookSt, x.last = st.last → x.last ≤ st.last + 1 := fun x h => by omega
  unfold againR
  repeat' split
  · refine r _ ?_; unfold openR; split
    · split <;> rfl
    · rfl
  · refine r _ ?_; unfold shutR; split
    · split
      · rfl
      · split <;> rfl
    · rfl
  · refine r _ ?_; unfold takeR; split
    · split
      · rfl
      · exact takeSt_last _ _ _ _ _ _
    · rfl
  · refine r _ ?_; unfold giveR; split
    · split
      · rfl
      · exact giveSt_last _ _ _ _ _ _
    · rfl
  · refine r _ ?_; unfold payR; split
    · split
      · split
        · rfl
        · split
          · rfl
          · exact paid_last _ _ _ _ _ _
      · rfl
    · rfl
  · refine r _ ?_; unfold limR; split
    · split
      · rfl
      · split <;> rfl
    · rfl
  · refine r _ ?_; unfold budR; split
    · split <;> rfl
    · rfl
  · unfold leaseR; split
    · split
      · exact r _ rfl
      · exact Int.le_refl _
    · exact r _ rfl
  · refine r _ ?_; unfold renewR; split
    · rfl
    · split <;> rfl
  · exact r _ (endR_last _ _)
  · refine r _ ?_; unfold passR; split
    · exact endAll_last _ _
    · rfl
  · exact r _ rfl

/-- A list of entries that lies in memory. -/
def EntSrc (w : World) (v : Value) (ls : List Ent) : Prop := ∃ a cap, v = .slice a ls.length cap ∧ (0 < ls.length → ∃ gb off, a = some ⟨gb, off, none⟩ ∧ gb < w.heap.size ∧ ∀ k x, ls[k]? = some x → ∀ i, i < 6 → w.cell? ⟨gb, off + k * 6 + i, none⟩ = x.cells[i]?)

theorem ecells_get : ∀ (ls : List Ent) (k i : Nat) (l : Ent), ls[k]? = some l → i < 6 → (ls.flatMap Ent.cells)[k * 6 + i]? = l.cells[i]?
  | [], k, i, l, h, _ => by simp at h
  | x :: ls, 0, i, l, h, hi => by
    simp at h; subst h
    rw [List.flatMap_cons, List.getElem?_append_left (by simp [Ent.cells]; omega)]; simp
  | x :: ls, k + 1, i, l, h, hi => by
    simp at h
    rw [List.flatMap_cons, List.getElem?_append_right (by simp [Ent.cells]; omega)]
    have := ecells_get ls k i l h hi
    rw [← this]; congr 1; simp [Ent.cells]; omega
theorem erow_cell {w : World} {B g cap : Nat} {ls : List Ent} (h : w.ownsRow B 33 6 (.slice (some ⟨g, 0, none⟩) ls.length cap) ls.length (ls.flatMap Ent.cells)) {k : Nat} {x : Ent} (hx : ls[k]? = some x) (i : Nat) (hi : i < 6) : w.cell? ⟨g, k * 6 + i, none⟩ = x.cells[i]? := by
  have h1 := ecells_get ls k i x hx hi
  have h6 : x.cells.length = 6 := rfl
  have h2 := List.getElem?_eq_getElem (l := x.cells) (i := i) (by omega)
  rw [h2] at h1 ⊢
  have := h.cells (g := g) rfl (k * 6 + i) _ h1
  rwa [Addr.add_lit, Nat.zero_add] at this
theorem EntSrc.own {w : World} {B : Nat} {v : Value} {ls : List Ent} (h : w.ownsRow B 33 6 v ls.length (ls.flatMap Ent.cells)) : EntSrc w v ls := by
  obtain ⟨a, c, rfl, h1, h2⟩ := ownsRow_sh h
  refine ⟨a, c, rfl, fun h0 => ?_⟩
  rcases h.2 with ⟨_, hz⟩ | ⟨g, cap, cur, hv, _, hg, _⟩
  · omega
  · simp only [Value.slice.injEq] at hv
    obtain ⟨rfl, _, rfl⟩ := hv
    refine ⟨g, 0, rfl, lt_of hg, fun k x hx i hi => ?_⟩
    rw [Nat.zero_add]
    exact erow_cell h hx i hi
theorem EntSrc.below {w w' : World} {v : Value} {ls : List Ent} (h : EntSrc w v ls) (hb : Below w.heap.size w w') : EntSrc w' v ls := by
  obtain ⟨a, cap, rfl, h3⟩ := h
  refine ⟨a, cap, rfl, fun h0 => ?_⟩
  obtain ⟨gb, off, rfl, hg, hc⟩ := h3 h0
  exact ⟨gb, off, rfl, Nat.lt_of_lt_of_le hg hb.size, fun k x hx i hi => (hb.cell (p := ⟨gb, off + k * 6 + i, none⟩) hg).trans (hc k x hx i hi)⟩

theorem chk_kind {x : Ent} {xs : List Ent} {i : Nat} {st : BookSt} (h : ¬ (1 ≤ x.kind ∧ x.kind ≤ 11)) : chkFrom (x :: xs) i st = ((i : Int), 10) := by
  rw [chkFrom, if_pos h]
theorem chk_form {x : Ent} {xs : List Ent} {i : Nat} {st : BookSt} (h : 1 ≤ x.kind ∧ x.kind ≤ 11) (hf : formE x = false) : chkFrom (x :: xs) i st = ((i : Int), 1) := by
  rw [chkFrom, if_neg (by simpa using h), if_pos hf]
theorem chk_fail {x : Ent} {xs : List Ent} {i : Nat} {st : BookSt} (h : 1 ≤ x.kind ∧ x.kind ≤ 11) (hf : formE x = true) (hi : i = st.entries.length) (he : (againR st x).1 ≠ 0) : chkFrom (x :: xs) i st = ((i : Int), (againR st x).1) := by
  rw [chkFrom, if_neg (by simpa using h), if_neg (by rw [hf]; simp), if_pos hi]
  simp only
  rw [if_pos he]
/-- The steps behind a call, or without one. -/
theorem chk_step {x : Ent} {xs : List Ent} {i : Nat} {st : BookSt} {r : Int × BookSt} (h : 1 ≤ x.kind ∧ x.kind ≤ 11) (hf : formE x = true) (hr : (if i = st.entries.length then againR st x else (0, st)) = r) (he : r.1 = 0) :
    (r.2.entries[i]? = none → chkFrom (x :: xs) i st = ((i : Int), 1)) ∧ ∀ y, r.2.entries[i]? = some y → (y.same x → chkFrom (x :: xs) i st = chkFrom xs (i + 1) r.2) ∧ (¬ y.same x → chkFrom (x :: xs) i st = ((i : Int), 1)) := by
  have e : chkFrom (x :: xs) i st = match r.2.entries[i]? with
        | none => ((i : Int), 1)
        | some y => if y.same x then chkFrom xs (i + 1) r.2 else ((i : Int), 1) := by
    rw [chkFrom, if_neg (by simpa using h), if_neg (by rw [hf]; simp), hr]
    simp only
    rw [if_neg (by simpa using he)]
    generalize r.2.entries[i]? = q
    cases q <;> rfl
  rw [e]
  refine ⟨fun hn => by rw [hn], fun y hy => ?_⟩
  rw [hy]
  exact ⟨fun hs => if_pos hs, fun hs => if_neg hs⟩
theorem ent_diff (f1 f2 f3 f4 f5 f6 e1 e2 e3 e4 e5 e6 : Int) : (f1 = e1 ∧ f2 = e2 ∧ f3 = e3 ∧ f4 = e4 ∧ f5 = e5 ∧ f6 = e6) ∨
    (¬ (Ent.mk f1 f2 f3 f4 f5 f6).same ⟨e1, e2, e3, e4, e5, e6⟩ ∧ ((f1 == e1) = false ∨ (f1 = e1 ∧ (f2 == e2) = false) ∨ (f1 = e1 ∧ f2 = e2 ∧ (f3 == e3) = false) ∨ (f1 = e1 ∧ f2 = e2 ∧ f3 = e3 ∧ (f4 == e4) = false) ∨ (f1 = e1 ∧ f2 = e2 ∧ f3 = e3 ∧ f4 = e4 ∧ (f5 == e5) = false) ∨ (f1 = e1 ∧ f2 = e2 ∧ f3 = e3 ∧ f4 = e4 ∧ f5 = e5 ∧ (f6 == e6) = false))) := by
  simp only [Ent.same_iff, Ent.mk.injEq, beq_eq_false_iff_ne, ne_eq]
  omega

def ChkPost2 (r : Int × Int) (w : World) : Ending → World → Prop := fun e w' => e = .returned (.tuple #[.int .i64 r.1, .int .i64 r.2]) ∧ Below w.heap.size w w'

/-- What holds between two rounds. -/
structure ChkAt (b : Int) (ls : List Ent) (p k : Nat) (w wr : World) (G : Nat → Prop) (st : BookSt) (N : Nat) : Prop where
  book : BookAt wr G p st N
  lt : ∀ j, G j → j < wr.heap.size ∧ w.heap.size ≤ j
  good : Good st
  cnt : N ≤ k
  last : st.last ≤ k
  eq : chkFrom ls 0 (newSt b) = chkFrom (ls.drop k) k st
  below : Below w.heap.size w wr

set_option maxHeartbeats 8000000 in
set_option maxRecDepth 100000 in
theorem checkEntries_ok (b : Int) (v : Value) (ls : List Ent) (w : World) (hs : EntSrc w v ls) (hlen : ls.length ≤ 5000) (hb : 0 ≤ b ∧ b ≤ 10000000) :
    Calls Tryz.prog 4 #[.int .i64 b, v] w (ChkPost2 (chkFrom ls 0 (newSt b)) w) := by
  have NB := Lib.hid (newBook_ok b w hb.1 hb.2)
  obtain ⟨a, cap, rfl, hc⟩ := hs
  have HC := Lib.hid hc
  have HGN := Lib.hid (Good.new b hb)
  clear hb hc
  go_enter Tryz.func4, Tryz.ntmps4
  go_wp2_with fail
  refine NB.out.mono ?_
  rintro e w1 ⟨p, rfl, hbk, hbl⟩
  have C0 : Hid (ChkAt b ls p 0 w w1 (fun j => w.heap.size ≤ j ∧ j < w1.heap.size) (newSt b) 0) := Lib.hid ⟨hbk.narrow', fun j hj => ⟨hj.2, hj.1⟩, HGN.out, Nat.le_refl _, by simp [newSt], rfl, hbl⟩
  clear hbk hbl NB
  go_wp2_with fail
  go_loopw [24] (fun vi wr => ∃ (k : Nat) (G : Nat → Prop) (st : BookSt) (N : Nat), k ≤ ls.length ∧ vi = .int .i64 k ∧ ChkAt b ls p k w wr G st N) (fun vi _ => ls.length - (intOf vi).toNat)
  case atStart => exact ⟨0, _, _, _, Nat.zero_le _, rfl, C0.out⟩
  case round =>
    obtain ⟨k, G, st, N, hk, rfl, hD⟩ := hrel
    have HD := Lib.hid hD
    obtain ⟨mb, blk, lv, ev, D, hm⟩ := hD.book
    by_cases hlt : k < ls.length
    · obtain ⟨x, hx⟩ : ∃ x, ls[k]? = some x := ⟨_, List.getElem?_eq_getElem hlt⟩
      obtain ⟨gb, off, rfl, hgb, hcc⟩ := HC.out (by omega)
      have cc := fun i (hi : i < 6) => (hD.below.cell (p := ⟨gb, off + k * 6 + i, none⟩) hgb).trans (hcc k x hx i hi)
      have x0 : wr.cell? ⟨gb, off + k * 6, none⟩ = some (.int .i64 x.kind) := (cc 0 (by omega)).trans rfl
      have x1 : wr.cell? ⟨gb, off + k * 6 + 1, none⟩ = some (.int .i64 x.owner) := (cc 1 (by omega)).trans rfl
      have x2 : wr.cell? ⟨gb, off + k * 6 + 2, none⟩ = some (.int .i64 x.other) := (cc 2 (by omega)).trans rfl
      have x3 : wr.cell? ⟨gb, off + k * 6 + 3, none⟩ = some (.int .i64 x.amount) := (cc 3 (by omega)).trans rfl
      have x4 : wr.cell? ⟨gb, off + k * 6 + 4, none⟩ = some (.int .i64 x.lease) := (cc 4 (by omega)).trans rfl
      have x5 : wr.cell? ⟨gb, off + k * 6 + 5, none⟩ = some (.int .i64 x.untl) := (cc 5 (by omega)).trans rfl
      have hdrop : ls.drop k = x :: ls.drop (k + 1) := by
        have : ls[k] = x := by rw [List.getElem?_eq_getElem hlt] at hx; simpa using hx
        rw [← this]; exact List.drop_eq_getElem_cons hlt
      have HEQ := Lib.hid (hD.eq.trans (by rw [hdrop]))
      clear hD hm cc hcc hx hdrop
      by_cases hkind : 1 ≤ x.kind ∧ x.kind ≤ 11
      · have HW := Lib.hid (fun W => within_ledger_yes x.kind 1 11 W hkind.1 hkind.2)
        have HFM := Lib.hid (fun W => form_any x W hkind)
        obtain ⟨e1, e2, e3, e4, e5, e6⟩ := x
        simp only at hkind x0 x1 x2 x3 x4 x5
        have HK := Lib.hid hkind
        clear hkind
        cases hf : formE ⟨e1, e2, e3, e4, e5, e6⟩ with
        | false =>
          rw [hf] at HFM
          have HV := Lib.hid (HEQ.out.trans (chk_form HK.out hf))
          clear hf
          go_wp2_with fail
          refine (HW.out _).mono ?_
          rintro e w' ⟨rfl, rfl⟩
          go_wp2_with fail
          refine (HFM.out _).mono ?_
          rintro e w3 ⟨rfl, hb3⟩
          have HB3 : Hid (Below w.heap.size w w3) := Lib.hid ((HD.out.below.alloc HD.out.below.size _).trans (hb3.mono (by have := HD.out.below.size; simp; omega)))
          clear hb3 x0 x1 x2 x3 x4 x5
          go_wp2_with fail
          go_ret2
          exact ⟨by rw [HV.out]; rfl, HB3.out⟩
        | true =>
          rw [hf] at HFM
          have HFE := Lib.hid hf
          clear hf
          go_wp2_with fail
          refine (HW.out _).mono ?_
          rintro e w' ⟨rfl, rfl⟩
          go_wp2_with fail
          refine (HFM.out _).mono ?_
          rintro e w3 ⟨rfl, hb3⟩
          have hbk3 := (HD.out.book.same (Below.same_on ((Below.refl _ wr).alloc (Nat.le_refl _) (.cells #[.int .i64 e1, .int .i64 e2, .int .i64 e3, .int .i64 e4, .int .i64 e5, .int .i64 e6] 33)))).same (Below.same_on hb3)
          have HBK3 := Lib.hid hbk3
          have hbox3 := (hb3.block wr.heap.size (by simp)).trans (heap_alloc_new wr (.cells #[.int .i64 e1, .int .i64 e2, .int .i64 e3, .int .i64 e4, .int .i64 e5, .int .i64 e6] 33))
          have hbl3 : Below w.heap.size w w3 := (HD.out.below.alloc HD.out.below.size _).trans (hb3.mono (by have := HD.out.below.size; simp; omega))
          have hsz3 : wr.heap.size < w3.heap.size := by have := hb3.size; simp at this; omega
          obtain ⟨mb, blk, lv, ev, D, hm⟩ := hbk3
          have c6 : w3.cell? ⟨p, 6, none⟩ = some ev := by rw [cell_of hm.self]; rfl
          obtain ⟨ea, ec, rfl, hec, hec2⟩ := ownsRow_sh hm.erow
          have HM := Lib.hid hm
          have HB := Lib.hid (And.intro hbox3 hbl3)
          clear hb3 hm hbox3 hbl3
          by_cases hke : k = st.entries.length
          · subst hke
            have AG := Lib.hid (again_any p ⟨e1, e2, e3, e4, e5, e6⟩ w3 G st N HBK3.out HD.out.good (by have := HD.out.cnt; unfold maxLen; omega) (by have := HD.out.last; omega) HK.out)
            have HSTEP0 := Lib.hid (fun he => chk_step (x := ⟨e1, e2, e3, e4, e5, e6⟩) (xs := ls.drop (st.entries.length + 1)) (i := st.entries.length) (st := st) (r := againR st ⟨e1, e2, e3, e4, e5, e6⟩) HK.out HFE.out (if_pos rfl) he)
            have HFL := Lib.hid (fun he => chk_fail (x := ⟨e1, e2, e3, e4, e5, e6⟩) (xs := ls.drop (st.entries.length + 1)) (i := st.entries.length) (st := st) HK.out HFE.out rfl he)
            have HR := Lib.hid (And.intro (againR_good HD.out.good ⟨e1, e2, e3, e4, e5, e6⟩) (againR_last st ⟨e1, e2, e3, e4, e5, e6⟩))
            have z0 : w3.cell? ⟨wr.heap.size, 0, none⟩ = some (.int .i64 e1) := (cell_of HB.out.1 0).trans rfl
            have z1 : w3.cell? ⟨wr.heap.size, 1, none⟩ = some (.int .i64 e2) := (cell_of HB.out.1 1).trans rfl
            have z2 : w3.cell? ⟨wr.heap.size, 2, none⟩ = some (.int .i64 e3) := (cell_of HB.out.1 2).trans rfl
            have z3 : w3.cell? ⟨wr.heap.size, 3, none⟩ = some (.int .i64 e4) := (cell_of HB.out.1 3).trans rfl
            have z4 : w3.cell? ⟨wr.heap.size, 4, none⟩ = some (.int .i64 e5) := (cell_of HB.out.1 4).trans rfl
            have z5 : w3.cell? ⟨wr.heap.size, 5, none⟩ = some (.int .i64 e6) := (cell_of HB.out.1 5).trans rfl
            generalize againR st ⟨e1, e2, e3, e4, e5, e6⟩ = r at *
            by_cases he : r.1 = 0
            case neg =>
              have HV := Lib.hid (HEQ.out.trans (HFL.out he))
              have he1 : (r.1 == 0) = false := by simpa using he
              have he2 : (r.1 != 0) = true := by simpa using he
              clear HSTEP0 HFL x0 x1 x2 x3 x4 x5
              go_wp2_with fail
              refine AG.out.mono ?_
              rintro e w4 ⟨rfl, hb4, ht4⟩
              have HB4 : Hid (Below w.heap.size w w4) := Lib.hid (HB.out.2.trans (ht4.below (B := w.heap.size) (by have := HD.out.below.size; omega) (fun j hj => (HD.out.lt j hj).2)))
              clear hb4 ht4
              go_wp2_with fail
              go_ret2
              exact ⟨by rw [HV.out]; rfl, HB4.out⟩
            have HSTEP := Lib.hid (HSTEP0.out he)
            have he1 : (r.1 == 0) = true := by simpa using he
            have he2 : (r.1 != 0) = false := by simpa using he
            clear HSTEP0 HFL
            go_wp2_with fail
            refine AG.out.mono ?_
            rintro e w4 ⟨rfl, hb4, ht4⟩
            have HM4 := Lib.hid hb4.narrow'
            obtain ⟨mb4, blk4, lv4, ev4, D4, hm4⟩ := hb4.narrow'
            have hbox4 := (ht4.block wr.heap.size hsz3 (fun h => by have := (HD.out.lt _ h).1; omega)).trans HB.out.1
            have hbl4 : Below w.heap.size w w4 := HB.out.2.trans (ht4.below (B := w.heap.size) (by have := HD.out.below.size; omega) (fun j hj => (HD.out.lt j hj).2))
            have d6 : w4.cell? ⟨p, 6, none⟩ = some ev4 := by rw [cell_of hm4.self]; rfl
            obtain ⟨ea4, ec4, rfl, hec4, hec42⟩ := ownsRow_sh hm4.erow
            clear HM HB z0 z1 z2 z3 z4 z5 c6
            have HM := Lib.hid hm4
            have HB := Lib.hid (And.intro hbox4 hbl4)
            clear hb4 ht4 hm4 hbox4 hbl4
            clear x0 x1 x2 x3 x4 x5
            by_cases hge : r.2.entries.length ≤ st.entries.length
            · have HV := Lib.hid (HEQ.out.trans (HSTEP.out.1 (List.getElem?_eq_none hge)))
              go_wp2_with fail
              go_quiet (fail)
              go_wp2_with fail
              go_ret2
              exact ⟨by rw [HV.out]; rfl, bdrewN HB.out.2 _⟩
            · obtain ⟨y, hy⟩ : ∃ y, r.2.entries[st.entries.length]? = some y := ⟨_, List.getElem?_eq_getElem (by omega)⟩
              rcases HM.out.erow.2 with ⟨h1, h2⟩ | ⟨g5, cap5, cur5, h1, _⟩
              · omega
              simp only [Value.slice.injEq] at h1
              obtain ⟨rfl, _, rfl⟩ := h1
              have y0 : w4.cell? ⟨g5, st.entries.length * 6, none⟩ = some (.int .i64 y.kind) := (erow_cell HM.out.erow hy 0 (by omega)).trans rfl
              have y1 : w4.cell? ⟨g5, st.entries.length * 6 + 1, none⟩ = some (.int .i64 y.owner) := (erow_cell HM.out.erow hy 1 (by omega)).trans rfl
              have y2 : w4.cell? ⟨g5, st.entries.length * 6 + 2, none⟩ = some (.int .i64 y.other) := (erow_cell HM.out.erow hy 2 (by omega)).trans rfl
              have y3 : w4.cell? ⟨g5, st.entries.length * 6 + 3, none⟩ = some (.int .i64 y.amount) := (erow_cell HM.out.erow hy 3 (by omega)).trans rfl
              have y4 : w4.cell? ⟨g5, st.entries.length * 6 + 4, none⟩ = some (.int .i64 y.lease) := (erow_cell HM.out.erow hy 4 (by omega)).trans rfl
              have y5 : w4.cell? ⟨g5, st.entries.length * 6 + 5, none⟩ = some (.int .i64 y.untl) := (erow_cell HM.out.erow hy 5 (by omega)).trans rfl
              have z0 : w4.cell? ⟨wr.heap.size, 0, none⟩ = some (.int .i64 e1) := (cell_of HB.out.1 0).trans rfl
              have z1 : w4.cell? ⟨wr.heap.size, 1, none⟩ = some (.int .i64 e2) := (cell_of HB.out.1 1).trans rfl
              have z2 : w4.cell? ⟨wr.heap.size, 2, none⟩ = some (.int .i64 e3) := (cell_of HB.out.1 2).trans rfl
              have z3 : w4.cell? ⟨wr.heap.size, 3, none⟩ = some (.int .i64 e4) := (cell_of HB.out.1 3).trans rfl
              have z4 : w4.cell? ⟨wr.heap.size, 4, none⟩ = some (.int .i64 e5) := (cell_of HB.out.1 4).trans rfl
              have z5 : w4.cell? ⟨wr.heap.size, 5, none⟩ = some (.int .i64 e6) := (cell_of HB.out.1 5).trans rfl
              have hlt5 : st.entries.length < r.2.entries.length := by omega
              have HS1 := HSTEP.out.2 y hy
              obtain ⟨f1, f2, f3, f4, f5, f6⟩ := y
              simp only at y0 y1 y2 y3 y4 y5
              clear hy hge
              rcases ent_diff f1 f2 f3 f4 f5 f6 e1 e2 e3 e4 e5 e6 with ⟨rfl, rfl, rfl, rfl, rfl, rfl⟩ | hd
              · have HV := Lib.hid (HEQ.out.trans (HS1.1 (Ent.same_iff.2 rfl)))
                go_wp2_with fail
                go_quiet (fail)
                go_wp2_with fail
                go_roundw
                case rel => exact ⟨st.entries.length + 1, _, _, _, by omega, by go_num, ⟨HM4.out.same (fun j hj hlt => rfl), fun j hj => ⟨hj.2, hj.1.elim (fun q => (HD.out.lt j q).2) (fun q => by have := HD.out.below.size; omega)⟩, HR.out.1, Nat.succ_le_succ HD.out.cnt, by have := HR.out.2; have := HD.out.last; omega, HV.out, bdrewN HB.out.2 _⟩⟩
                case measure => simp [intOf]; omega
              · have HV := Lib.hid (HEQ.out.trans (HS1.2 hd.1))
                have hd2 := hd.2
                clear hd HS1
                rcases hd2 with hd | ⟨rfl, hd⟩ | ⟨rfl, rfl, hd⟩ | ⟨rfl, rfl, rfl, hd⟩ | ⟨rfl, rfl, rfl, rfl, hd⟩ | ⟨rfl, rfl, rfl, rfl, rfl, hd⟩
                all_goals
                  go_wp2_with fail
                  go_quiet (fail)
                  go_wp2_with fail
                  go_ret2
                  exact ⟨by rw [HV.out]; rfl, bdrewN HB.out.2 _⟩
          · have hke' : ((k : Int) == (st.entries.length : Int)) = false := by simp; omega
            have HSTEP := Lib.hid (chk_step (x := ⟨e1, e2, e3, e4, e5, e6⟩) (xs := ls.drop (k + 1)) (i := k) (st := st) (r := (0, st)) HK.out HFE.out (if_neg hke) rfl)
            clear x0 x1 x2 x3 x4 x5
            by_cases hge : st.entries.length ≤ k
            · have HV := Lib.hid (HEQ.out.trans (HSTEP.out.1 (List.getElem?_eq_none hge)))
              go_wp2_with fail
              go_quiet (fail)
              go_wp2_with fail
              go_ret2
              exact ⟨by rw [HV.out]; rfl, bdrewN HB.out.2 _⟩
            · obtain ⟨y, hy⟩ : ∃ y, st.entries[k]? = some y := ⟨_, List.getElem?_eq_getElem (by omega)⟩
              rcases HM.out.erow.2 with ⟨h1, h2⟩ | ⟨g5, cap5, cur5, h1, _⟩
              · omega
              simp only [Value.slice.injEq] at h1
              obtain ⟨rfl, _, rfl⟩ := h1
              have y0 : w3.cell? ⟨g5, k * 6, none⟩ = some (.int .i64 y.kind) := (erow_cell HM.out.erow hy 0 (by omega)).trans rfl
              have y1 : w3.cell? ⟨g5, k * 6 + 1, none⟩ = some (.int .i64 y.owner) := (erow_cell HM.out.erow hy 1 (by omega)).trans rfl
              have y2 : w3.cell? ⟨g5, k * 6 + 2, none⟩ = some (.int .i64 y.other) := (erow_cell HM.out.erow hy 2 (by omega)).trans rfl
              have y3 : w3.cell? ⟨g5, k * 6 + 3, none⟩ = some (.int .i64 y.amount) := (erow_cell HM.out.erow hy 3 (by omega)).trans rfl
              have y4 : w3.cell? ⟨g5, k * 6 + 4, none⟩ = some (.int .i64 y.lease) := (erow_cell HM.out.erow hy 4 (by omega)).trans rfl
              have y5 : w3.cell? ⟨g5, k * 6 + 5, none⟩ = some (.int .i64 y.untl) := (erow_cell HM.out.erow hy 5 (by omega)).trans rfl
              have z0 : w3.cell? ⟨wr.heap.size, 0, none⟩ = some (.int .i64 e1) := (cell_of HB.out.1 0).trans rfl
              have z1 : w3.cell? ⟨wr.heap.size, 1, none⟩ = some (.int .i64 e2) := (cell_of HB.out.1 1).trans rfl
              have z2 : w3.cell? ⟨wr.heap.size, 2, none⟩ = some (.int .i64 e3) := (cell_of HB.out.1 2).trans rfl
              have z3 : w3.cell? ⟨wr.heap.size, 3, none⟩ = some (.int .i64 e4) := (cell_of HB.out.1 3).trans rfl
              have z4 : w3.cell? ⟨wr.heap.size, 4, none⟩ = some (.int .i64 e5) := (cell_of HB.out.1 4).trans rfl
              have z5 : w3.cell? ⟨wr.heap.size, 5, none⟩ = some (.int .i64 e6) := (cell_of HB.out.1 5).trans rfl
              have hlt5 : k < st.entries.length := by omega
              have HS1 := HSTEP.out.2 y hy
              obtain ⟨f1, f2, f3, f4, f5, f6⟩ := y
              simp only at y0 y1 y2 y3 y4 y5
              clear hy hge
              rcases ent_diff f1 f2 f3 f4 f5 f6 e1 e2 e3 e4 e5 e6 with ⟨rfl, rfl, rfl, rfl, rfl, rfl⟩ | hd
              · have HV := Lib.hid (HEQ.out.trans (HS1.1 (Ent.same_iff.2 rfl)))
                go_wp2_with fail
                go_quiet (fail)
                go_wp2_with fail
                go_roundw
                case rel => exact ⟨k + 1, _, _, _, by omega, by go_num, ⟨HBK3.out.same (fun j hj hlt => rfl), fun j hj => ⟨Nat.lt_trans (HD.out.lt j hj).1 hsz3, (HD.out.lt j hj).2⟩, HD.out.good, Nat.le_succ_of_le HD.out.cnt, by have := HD.out.last; omega, HV.out, bdrewN HB.out.2 _⟩⟩
                case measure => simp [intOf]; omega
              · have HV := Lib.hid (HEQ.out.trans (HS1.2 hd.1))
                have hd2 := hd.2
                clear hd HS1
                rcases hd2 with hd | ⟨rfl, hd⟩ | ⟨rfl, rfl, hd⟩ | ⟨rfl, rfl, rfl, hd⟩ | ⟨rfl, rfl, rfl, rfl, hd⟩ | ⟨rfl, rfl, rfl, rfl, rfl, hd⟩
                all_goals
                  go_wp2_with fail
                  go_quiet (fail)
                  go_wp2_with fail
                  go_ret2
                  exact ⟨by rw [HV.out]; rfl, bdrewN HB.out.2 _⟩
      · have HW := Lib.hid (fun W => within_ledger_no x.kind 1 11 W hkind)
        have HV := Lib.hid (HEQ.out.trans (chk_kind hkind))
        obtain ⟨e1, e2, e3, e4, e5, e6⟩ := x
        simp only at hkind x0 x1 x2 x3 x4 x5
        clear hkind
        go_wp2_with fail
        refine (HW.out _).mono ?_
        rintro e w' ⟨rfl, rfl⟩
        go_wp2_with fail
        go_ret2
        exact ⟨by rw [HV.out]; rfl, HD.out.below.alloc HD.out.below.size _⟩
    · obtain rfl : k = ls.length := by omega
      have c6 : wr.cell? ⟨p, 6, none⟩ = some ev := by rw [cell_of hm.self]; rfl
      have c1 : wr.cell? ⟨p, 1, none⟩ = some (.int .i64 st.total) := by rw [cell_of hm.self]; rfl
      obtain ⟨ea, ec, rfl, hec, hec2⟩ := ownsRow_sh hm.erow
      have hEQ := hD.eq
      rw [List.drop_length, chkFrom] at hEQ
      have HEQ := Lib.hid hEQ
      clear hm hD hEQ
      by_cases hgt : ls.length < st.entries.length
      · have HV := Lib.hid (HEQ.out.trans (if_pos hgt))
        go_wp2_with fail
        go_ret2
        exact ⟨by rw [HV.out]; rfl, HD.out.below⟩
      · have HV := Lib.hid (HEQ.out.trans (if_neg hgt))
        go_wp2_with fail
        go_ret2
        exact ⟨by rw [HV.out]; rfl, HD.out.below⟩

end Go.Proofs.YtljjndifmfhffaaGreatDoor
