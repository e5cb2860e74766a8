/-
  The book's Renew and Lease: what they give. No conditions but those of the book's own state.
  The book's Lease: what it gives. No conditions but those of the book's own state.
  The reference's book: where a lease stands, what a time is, Leases. No conditions but what always holds of a book.
  sameBook: two books in the same state say the same. No conditions but what always holds of a book.
  The two books with three owners; slices.Equal at ring.Chunk; what is seen of both queues. No conditions.
-/
import Derived.Test.YtfnmjlnpfoclbaaGreatQueueRunsPbt
import Derived.Deep.Cut
import Derived.Test.YtfnmjlnpfoclbaaGreatQueueRunsPbj
import Derived.Test.YtfnmjlnpfoclbaaGreatQueueRunsPbu
import Derived.Test.YtfnmjlnpfoclbaaGreatQueueRunsPbs
import Derived.Test.YtfnmjlnpfoclbaaGreatQueueRunsPbd

namespace Go.Proofs.YtfnmjlnpfoclbaaGreat
section
open Go.RowKit
set_option linter.unusedVariables false

theorem findL_lt {no : Int} {ls : List Lea} {i : Nat} (h : findL no ls = some i) : i < ls.length := by
  obtain ⟨l, h1, _⟩ := findL_some h
  exact (List.getElem?_eq_some_iff.1 h1).1
theorem setUntl_cells (u : Int) : ∀ (i : Nat) (ls : List Lea), (ls.flatMap Lea.cells).set (i * 4 + 3) (.int .i64 u) = (setUntl u i ls).flatMap Lea.cells
  | _, [] => by cases ‹Nat› <;> simp [setUntl]
  | 0, x :: ls => by simp [Lea.cells, setUntl]
  | i + 1, x :: ls => by
    rw [List.flatMap_cons, List.set_append_right _ _ (by simp [Lea.cells]; omega), setUntl, List.flatMap_cons, ← setUntl_cells u i ls]
    congr 2
    simp [Lea.cells]; omega

theorem ownsRow_set {w : World} {B e size n g cap : Nat} {xs : List Value} (h : w.ownsRow B e size (.slice (some ⟨g, 0, none⟩) n cap) n xs) (j : Nat) (hj : j < n * size) (u : Value) : (w.setCell ⟨g, j, none⟩ u).ownsRow B e size (.slice (some ⟨g, 0, none⟩) n cap) n (xs.set j u) := by
  refine ⟨by rw [List.length_set]; exact h.1, ?_⟩
  rcases h.2 with ⟨h1, h2⟩ | ⟨g', cap', cur, h1, hb, hg, hn, hm, hs, ht⟩
  · cases h1
  · simp only [Value.slice.injEq, Option.some.injEq, Addr.mk.injEq, and_true] at h1
    obtain ⟨rfl, _, rfl⟩ := h1
    refine Or.inr ⟨g, cap, cur.setIfInBounds j u, rfl, hb, block_setCell hg j u, hn, hm, by simpa using hs, ?_⟩
    rw [Array.toList_setIfInBounds, List.take_set, ht]

theorem untilE_vals (st : BookSt) (u : Int) : untilE st u = 0 ∨ untilE st u = 2 ∨ untilE st u = 5 := by
  unfold untilE
  by_cases h : 0 ≤ u ∧ u ≤ 1000000
  · rw [if_pos h]; split <;> simp
  · rw [if_neg h]; simp

end
end Go.Proofs.YtfnmjlnpfoclbaaGreat

namespace Go.Proofs.YtfnmjlnpfoclbaaGreat
section
open Go.RowKit
set_option linter.unusedVariables false

def TwoPost (r err : Int) (F : Nat → Prop) (p : Nat) (st : BookSt) (N : Nat) (w : World) : Ending → World → Prop := fun e w' =>
  e = .returned (.tuple #[.int .i64 r, .int .i64 err]) ∧ BookAt w' (fun k => F k ∨ w.heap.size ≤ k) p st N ∧ Touch F w w'

theorem lease_mem {w w' : World} {F : Nat → Prop} {p : Nat} {st : BookSt} {N mb : Nat} {blk : Int → Option Nat} {lv ev : Value} {D : DataW Unit} (h : BookMem w F p st N mb blk lv ev D) (l : Lea) (g cap : Nat)
    (hrow : w'.ownsRow 0 98 4 (.slice (some ⟨g, 0, none⟩) (st.leases.length + 1) cap) (st.leases.length + 1) (st.leases.flatMap Lea.cells ++ l.cells))
    (hgr : w.drew.grownBy w' lv.ownBlock) (hpl : lv.ownBlock = some g ∨ w.heap.size ≤ g) :
    BookMem (w'.setCell ⟨p, 5, none⟩ (.slice (some ⟨g, 0, none⟩) (st.leases.length + 1) cap)) (fun k => F k ∨ w.heap.size ≤ k) p { st with leases := st.leases ++ [l] } N mb blk (.slice (some ⟨g, 0, none⟩) (st.leases.length + 1) cap) ev D ∧
      Touch F w (w'.setCell ⟨p, 5, none⟩ (.slice (some ⟨g, 0, none⟩) (st.leases.length + 1) cap)) := by
  have hp := lt_of h.self
  have blk' : ∀ k, k < w.heap.size → lv.ownBlock ≠ some k → w'.heap[k]? = w.heap[k]? := fun k hk hne => hgr.block k hk (fun e => hne e.symm)
  have hp' : w'.heap[p]? = some (.cells (bookCells st mb lv ev) 107 (0, 0)) := (blk' p hp h.pl).trans h.self
  have hgp : g ≠ p := by
    rcases hpl with e | e
    · intro x; subst x; exact h.pl e
    · omega
  refine ⟨h.leasesTo _ _ ?_ ?_ ?_ ?_, ?_⟩
  · rw [block_setCell hp']; rfl
  · intro k hk hne hne2
    rw [Below.heap_setCell _ _ _ _ hne]
    exact blk' k hk hne2
  · have := ownsRow_setCell_other hrow (a := ⟨p, 5, none⟩) (by simp [Value.ownBlock]; exact hgp) (.slice (some ⟨g, 0, none⟩) (st.leases.length + 1) cap)
    simpa [List.flatMap_append] using this
  · intro k hk
    simp only [Value.ownBlock, Option.some.injEq] at hk
    subst hk
    rcases hpl with e | e
    · exact Or.inl (h.flea _ e)
    · exact Or.inr e
  · refine Touch.setCell ?_ (Or.inl h.fp) _
    exact (Touch.refl F w).drew.grown hgr (fun k hk => Or.inl (h.flea k hk))

/-- What Lease has turned ahead of the list. -/
def leaseSt1 (st : BookSt) (o n l h s : Int) : BookSt := { st with total := st.total + n, last := st.last + 1, acc := fun x => if x = o then some (l, h, s + n) else st.acc x }

def leaseV (st : BookSt) (o n u : Int) : Int := if leaseE st o n u = 0 then st.last + 1 else 0
end
end Go.Proofs.YtfnmjlnpfoclbaaGreat

namespace Go.Proofs.YtfnmjlnpfoclbaaGreat
section
open Go.RowKit Go.Maps
set_option linter.unusedVariables false

/-- What is leased to an owner is not in the reference's map. -/
theorem RefMem.accs {w : World} {F : Nat → Prop} {p : Nat} {st : BookSt} {es : List Ent} {wh : Bool} {N mb : Nat} {lv ev : Value} {D : DataW Unit} (h : RefMem w F p st es wh N mb lv ev D) {st' : BookSt}
    (ha : ∀ o, (st'.acc o).map (fun a => (a.1, a.2.1)) = (st.acc o).map (fun a => (a.1, a.2.1))) (h1 : st'.budget = st.budget) (h3 : st'.leases = st.leases) (h4 : st'.last = st.last) (h5 : st'.time = st.time) : RefMem w F p st' es wh N mb lv ev D := by
  have hz : ∀ o z, accAt (st'.acc o) z = accAt (st.acc o) z := by
    intro o z
    have := ha o
    rcases e1 : st'.acc o with _ | ⟨a, b, c⟩ <;> rcases e2 : st.acc o with _ | ⟨a', b', c'⟩ <;> rw [e1, e2] at this
    · cases this
    · cases this
    · simp only [Option.map_some, Option.some.injEq, Prod.mk.injEq] at this
      obtain ⟨rfl, rfl⟩ := this
      rfl
  have hs : ∀ o, (st'.acc o).isSome = (st.acc o).isSome := by
    intro o
    have := ha o
    cases e1 : st'.acc o <;> cases e2 : st.acc o <;> rw [e1, e2] at this
    · cases this
    · cases this
    · rfl
  have hc : accCnt st'.acc = accCnt st.acc := sumN_congr 40 (fun o _ _ => by unfold accOne; rw [hs o])
  refine ⟨?_, h.fp, h.map, h.fmap, h.tidy, by rw [hc]; exact h.size, fun o z => by rw [hz]; exact h.look o z, fun o => by rw [hs]; exact h.has o, by rw [h3]; exact h.lrow, h.flea, h.erow, h.fent⟩
  have := h.self
  unfold refCells at *
  rw [h1, h4, h5]
  exact this
theorem RB.accs {w : World} {F : Nat → Prop} {p : Nat} {st : BookSt} {wh : Bool} (h : RB w F p st wh) {st' : BookSt}
    (ha : ∀ o, (st'.acc o).map (fun a => (a.1, a.2.1)) = (st.acc o).map (fun a => (a.1, a.2.1))) (h1 : st'.budget = st.budget) (h3 : st'.leases = st.leases) (h4 : st'.last = st.last) (h5 : st'.time = st.time) (h6 : st'.entries = st.entries) : RB w F p st' wh := by
  obtain ⟨mb, lv, ev, D, hm⟩ := h
  unfold RB
  rw [h6]
  exact ⟨mb, lv, ev, D, hm.accs ha h1 h3 h4 h5⟩

set_option maxHeartbeats 1000000 in
set_option maxRecDepth 100000 in
theorem leasesR_any (p : Nat) (w : World) (F : Nat → Prop) (st : BookSt) (wh : Bool) (hb : RB w F p st wh) (g : GoodE st) :
    Calls Tryz.prog 51 #[.pointer (some ⟨p, 0, none⟩)] w (OwnLeas st.leases w) := by
  obtain ⟨mb, lv, ev, D, hm⟩ := hb
  have c2 : w.cell? ⟨p, 2, none⟩ = some lv := by rw [cell_of hm.self]; rfl
  have HC := Lib.hid (clone_lea lv 0 st.leases w hm.lrow (by have := g.leaLen; omega))
  obtain ⟨la, lc, rfl, _, _⟩ := ownsRow_sh hm.lrow
  clear hm g
  go_enter Tryz.func51, Tryz.ntmps51
  go_wp2_with fail
  refine HC.out.mono ?_
  rintro e w1 ⟨v, rfl, h1, h2⟩
  have H := Lib.hid (And.intro h1 h2)
  obtain ⟨va, vc, rfl, _, _⟩ := ownsRow_sh h1
  clear h1 h2
  go_wp2_with fail
  go_ret
  exact ⟨_, rfl, H.out.1, H.out.2⟩

end
end Go.Proofs.YtfnmjlnpfoclbaaGreat

namespace Go.Proofs.YtfnmjlnpfoclbaaGreat
section
open Go.RowKit
set_option linter.unusedVariables false

theorem OwnInts.post {xs : List Int} {w w' : World} {v : Value} (h : w'.ownsRow w.heap.size 3 1 v xs.length (xs.map fun x => Value.int .i64 x)) (hl : xs.length ≤ 1000000) : Reads w' .i64 v xs := Reads.own (B := w.heap.size) (t := 3) h (by omega)

set_option maxHeartbeats 4000000 in
set_option maxRecDepth 100000 in
theorem sameBook_any (p q : Nat) (o : Int) (w0 w : World) (st : BookSt) (N : Nat) (F G : Nat → Prop) (h : BothAt w0 w p q st N F G) (g : Good st) :
    Calls Tryz.prog 8 #[.pointer (some ⟨p, 0, none⟩), .pointer (some ⟨q, 0, none⟩), .int .i64 o] w (LawPost w) := by
  have HE := Lib.hid (fun W (hW : Below w.heap.size w W) (z : Int) => held_any p z W F st N (h.own.same (Below.same_on hW)))
  have LE := Lib.hid (fun W (hW : Below w.heap.size w W) (z : Int) => leasedB_any p z W F st N (h.own.same (Below.same_on hW)))
  have LF := Lib.hid (fun W (hW : Below w.heap.size w W) (z : Int) => leftB_any p z W F st N (h.own.same (Below.same_on hW)) g)
  have AS := Lib.hid (fun W (hW : Below w.heap.size w W) (z : Int) => askR_all q z W G st false (h.ref.below hW) g.e)
  have TB := Lib.hid (fun W (hW : Below w.heap.size w W) => total_any p W F st N (h.own.same (Below.same_on hW)))
  have TR := Lib.hid (totalR_on q w G st false h.ref g.e)
  have OB := Lib.hid (fun W (hW : Below w.heap.size w W) => ownersB_any p W F st N (h.own.same (Below.same_on hW)) g.e)
  have OR := Lib.hid (fun W (hW : Below w.heap.size w W) => ownersR_any q W G st false (h.ref.below hW))
  have LB := Lib.hid (fun W (hW : Below w.heap.size w W) => leasesB_any p W F st N (h.own.same (Below.same_on hW)) g)
  have LR := Lib.hid (fun W (hW : Below w.heap.size w W) => leasesR_any q W G st false (h.ref.below hW) g.e)
  have hol : (ownersL st).length ≤ 40 := ownK_len st 40
  have hll := g.leaLen
  clear h g
  go_enter Tryz.func8, Tryz.ntmps8
  go_upto_region 2 with fail
  have hlit := heap_alloc_new w (.cells #[.int .i64 o, .int .i64 1, .int .i64 2, .int .i64 3] 3)
  have B0 := Lib.hid ((Below.refl w.heap.size w).alloc (Nat.le_refl _) (.cells #[.int .i64 o, .int .i64 1, .int .i64 2, .int .i64 3] 3))
  have hel : ∀ k, k < 4 → ∃ z : Int, (w.alloc (.cells #[.int .i64 o, .int .i64 1, .int .i64 2, .int .i64 3] 3)).cell? ⟨w.heap.size, k, none⟩ = some (.int .i64 z) := by
    intro k hk
    rcases (show k = 0 ∨ k = 1 ∨ k = 2 ∨ k = 3 by omega) with rfl | rfl | rfl | rfl
    · exact ⟨o, by rw [cell_of hlit]; rfl⟩
    · exact ⟨1, by rw [cell_of hlit]; rfl⟩
    · exact ⟨2, by rw [cell_of hlit]; rfl⟩
    · exact ⟨3, by rw [cell_of hlit]; rfl⟩
  have HEL := Lib.hid hel
  clear hlit hel
  generalize w.alloc (.cells #[.int .i64 o, .int .i64 1, .int .i64 2, .int .i64 3] 3) = W1 at *
  go_wp2_with fail
  go_loopw [22] (fun i wr => ∃ k : Nat, k ≤ 4 ∧ i = .int .i64 k ∧ Below w.heap.size w wr ∧ ∀ j, j < 4 → ∃ z : Int, wr.cell? ⟨w.heap.size, j, none⟩ = some (.int .i64 z)) (fun i _ => 4 - (intOf i).toNat)
  case atStart => exact ⟨0, Nat.zero_le _, rfl, B0.out, HEL.out⟩
  case round =>
    obtain ⟨k, hk, rfl, hb, hel⟩ := hrel
    have HB := Lib.hid hb
    have HL := Lib.hid hel
    by_cases hlt : k < 4
    · obtain ⟨z, hz⟩ := hel k hlt
      have HK := Lib.hid hlt
      have hki : (k : Int) < 4 := by omega
      clear hel hb hk hlt
      go_wp2_with fail
      refine (HE.out _ HB.out z).mono ?_
      rintro e w1 ⟨rfl, rfl⟩
      go_wp2_with fail
      refine (LE.out _ HB.out z).mono ?_
      rintro e w1 ⟨rfl, rfl⟩
      go_wp2_with fail
      refine (LF.out _ HB.out z).mono ?_
      rintro e w2 ⟨rfl, hb2⟩
      have B2 := Lib.hid (HB.out.trans (hb2.mono HB.out.size))
      have hz2 := fun j hj => (HL.out j hj).imp (fun y hy => old_cell hb2 hy)
      have HZ2 := Lib.hid hz2
      clear hb2 hz2 hz
      go_wp2_with fail
      refine (AS.out _ B2.out z).mono ?_
      rintro e w3 ⟨rfl, hb3⟩
      have B3 := Lib.hid (B2.out.trans (hb3.mono B2.out.size))
      have HZ3 := Lib.hid (fun j hj => (HZ2.out j hj).imp (fun y hy => old_cell hb3 hy))
      clear hb3
      generalize heldV st z = hv at *
      generalize leasedV st z = lv at *
      generalize leftV st z = fv at *
      generalize heldE st z = ev at *
      go_wp2_with fail
      go_roundw
      case measure => have := HK.out; simp only [intOf]; omega
      case rel => exact ⟨k + 1, by have := HK.out; omega, by simp, B3.out, HZ3.out⟩
    · obtain rfl : k = 4 := by omega
      clear hel hb hk hlt
      go_wp2_with fail
      refine (TB.out _ HB.out).mono ?_
      rintro e w1 ⟨rfl, rfl⟩
      go_wp2_with fail
      refine (TR.out _ HB.out).mono ?_
      rintro e w2 ⟨rfl, hb2⟩
      have B2 := Lib.hid hb2
      clear hb2
      go_wp2_with fail
      refine (OB.out _ B2.out).mono ?_
      rintro e w3 ⟨v3, rfl, hr3, hb3⟩
      have B3 := Lib.hid (B2.out.trans (hb3.mono B2.out.size))
      have R3 := Lib.hid (OwnInts.post hr3 (by omega))
      obtain ⟨a3, c3, rfl, _, _⟩ := ownsRow_sh hr3
      clear hr3 hb3
      go_wp2_with fail
      refine (OR.out _ B3.out).mono ?_
      rintro e w4 ⟨v4, rfl, hr4, hb4⟩
      have B4 := Lib.hid (B3.out.trans (hb4.mono B3.out.size))
      have EQ := equal_int _ _ _ _ w4 (R3.out.below hb4 rfl) (OwnInts.post hr4 (by omega))
      rw [decide_eq_true rfl] at EQ
      have EQ := Lib.hid EQ
      obtain ⟨a4, c4, rfl, _, _⟩ := ownsRow_sh hr4
      clear hr4 hb4
      go_wp2_with fail
      refine EQ.out.mono ?_
      rintro e w5 ⟨rfl, q5, rfl⟩
      have B5 := Lib.hid (bdrewN B4.out q5)
      go_wp2_with fail
      refine (LB.out _ B5.out).mono ?_
      rintro e w6 ⟨v6, rfl, hr6, hb6⟩
      have B6 := Lib.hid (B5.out.trans (hb6.mono B5.out.size))
      have R6 := Lib.hid (leasIn_row hr6)
      obtain ⟨a6, c6, rfl, _, _⟩ := ownsRow_sh hr6
      clear hr6 hb6
      go_wp2_with fail
      refine (LR.out _ B6.out).mono ?_
      rintro e w7 ⟨v7, rfl, hr7, hb7⟩
      have B7 := Lib.hid (B6.out.trans (hb7.mono B6.out.size))
      have EL := Lib.hid (equal_leas _ _ st.leases w7 (by omega) (R6.out.below hb7) (leasIn_row hr7))
      obtain ⟨a7, c7, rfl, _, _⟩ := ownsRow_sh hr7
      clear hr7 hb7
      go_wp2_with fail
      refine EL.out.mono ?_
      rintro e w8 ⟨rfl, q8, rfl⟩
      have B8 := Lib.hid (bdrewN B7.out q8)
      go_wp2_with fail
      go_ret
      exact ⟨rfl, B8.out⟩

end
end Go.Proofs.YtfnmjlnpfoclbaaGreat

namespace Go.Proofs.YtfnmjlnpfoclbaaGreat
section
open Go.RowKit
set_option linter.unusedVariables false

def BooksPost (w : World) : Ending → World → Prop := fun e w' => ∃ (p q : Nat) (st : BookSt) (F G : Nat → Prop), e = .returned (.tuple #[.pointer (some ⟨p, 0, none⟩), .pointer (some ⟨q, 0, none⟩), .bool true]) ∧ BothAt w w' p q st 3 F G ∧ Good st
set_option maxHeartbeats 2000000 in
set_option maxRecDepth 100000 in
theorem books_any (bud lim : Int) (hbud : 0 ≤ bud ∧ bud ≤ 10000000) (w : World) :
    Calls Tryz.prog 4 #[.int .i64 bud, .int .i64 lim] w (BooksPost w) := by
  have NB := Lib.hid (newBook_ok bud w hbud.1 hbud.2)
  have NR := Lib.hid (fun W => refNew_ok bud W hbud)
  have GN := Lib.hid (Good.new bud hbud)
  clear hbud
  unfold BooksPost
  go_enter Tryz.func4, Tryz.ntmps4
  go_wp2_with fail
  refine NB.out.mono ?_
  rintro e w1 ⟨p, rfl, hb1, hbel1⟩
  go_wp2_with fail
  refine (NR.out w1).mono ?_
  rintro e w2 ⟨q, rfl, hr2, hbel2⟩
  have START : Hid (∃ st F G, BothAt w w2 p q st 0 F G ∧ Good st) := Lib.hid (by
    have s1 := hbel1.size
    have s2 := hbel2.size
    refine ⟨newSt bud, fun k => w.heap.size ≤ k ∧ k < w1.heap.size, fun k => w1.heap.size ≤ k ∧ k < w2.heap.size, ⟨?_, ?_, fun k h1 h2 => by omega, fun k h => by omega, fun k h => h.2, fun k h => h.1, fun k h => by omega, hbel1.trans (hbel2.mono s1)⟩, GN.out⟩
    · exact hb1.narrow'.same (fun k hk hlt => hbel2.block k hk.2)
    · exact RefAt.more (RefAt.narrow' hr2) (by omega))
  clear hb1 hbel1 hr2 hbel2 NB NR GN
  go_wp2_with fail
  go_loopw [11] (fun i wr => ∃ k : Nat, k ≤ 3 ∧ i = .int .i64 ((k : Int) + 1) ∧ ∃ st F G, BothAt w wr p q st k F G ∧ Good st) (fun i _ => 4 - (intOf i).toNat)
  case atStart => exact ⟨0, by omega, by simp, START.out⟩
  case round =>
    obtain ⟨k, hk, rfl, st, F, G, hB, g⟩ := hrel
    by_cases hlt : k < 3
    · have hki : ((k : Int) + 1) ≤ 3 := by omega
      have HL := Lib.hid hlt
      have HB := Lib.hid hB
      have HG := Lib.hid g
      have OA := Lib.hid (open_all p ((k : Int) + 1) lim wr F st k hB.own g (by unfold maxLen; omega))
      have OR := Lib.hid (fun W (h : RB W G q st false) => openR_all q ((k : Int) + 1) lim W G st false h (by simp))
      clear hlt hk hB g
      go_wp2_with fail
      refine OA.out.mono ?_
      rintro e w3 ⟨rfl, hb3, ht3⟩
      have HB3 := Lib.hid hb3
      have HT3 := Lib.hid ht3
      clear hb3 ht3 OA
      go_wp2_with fail
      refine (OR.out w3 (HB.out.mid HT3.out)).mono ?_
      rintro e w4 ⟨rfl, hr4, ht4⟩
      have FIN := Lib.hid (And.intro (HB.out.step HB3.out HT3.out hr4 ht4) (openR_good HG.out ((k : Int) + 1) lim))
      clear hr4 ht4 OR
      generalize openR st ((k : Int) + 1) lim = op at *
      obtain ⟨oe, os⟩ := op
      simp only at FIN
      go_wp2_with fail
      go_roundw
      case measure => have := HL.out; simp only [intOf]; omega
      case rel => exact ⟨k + 1, by have := HL.out; omega, by simp, _, _, _, FIN.out.1, FIN.out.2⟩
    · obtain rfl : k = 3 := by omega
      have FIN := Lib.hid (And.intro hB g)
      clear hlt hk hB g
      go_wp2_with fail
      refine bodyPost_ret (results_tmp3 rfl _ _ _) rfl ?_
      exact ⟨p, q, st, F, G, rfl, FIN.out.1, FIN.out.2⟩

theorem ckflat_len : ∀ L : List QCh, (L.flatMap ckCells).length = L.length * 3
  | [] => by simp
  | e :: r => by rw [List.flatMap_cons, List.length_append, ckflat_len r, List.length_cons]; show 3 + r.length * 3 = _; omega
theorem ckflat_at : ∀ (L : List QCh) (k j : Nat), k < L.length → j < 3 → (L.flatMap ckCells)[k * 3 + j]? = (ckCells (L.getD k QCh.zero))[j]?
  | [], k, _, h, _ => by simp at h
  | e :: r, 0, j, _, hj => by
    rw [List.flatMap_cons, Nat.zero_mul, Nat.zero_add, List.getElem?_append_left (by show j < 3; omega)]; rfl
  | e :: r, k + 1, j, hk, hj => by
    rw [List.flatMap_cons, List.getElem?_append_right (by show 3 ≤ (k + 1) * 3 + j; omega), show (k + 1) * 3 + j - (ckCells e).length = k * 3 + j by show (k + 1) * 3 + j - 3 = _; omega, ckflat_at r k j (by simpa using hk) hj]
    rfl
theorem ck_cells {w : World} {B : Nat} {v : Value} {L : List QCh} {k : Nat} (h : w.ownsRow B 55 3 v L.length (L.flatMap ckCells)) (hk : k < L.length) :
    ∃ g cap, v = .slice (some ⟨g, 0, none⟩) L.length cap ∧ ∀ j, j < 3 → w.cell? ⟨g, k * 3 + j, none⟩ = (ckCells (L.getD k QCh.zero))[j]? := by
  rcases h.2 with ⟨_, h2⟩ | ⟨g, cap, cur, hv, _⟩
  · omega
  · refine ⟨g, cap, hv, fun j hj => ?_⟩
    have h1 := ckflat_at L k j hk hj
    obtain ⟨u, hu⟩ : ∃ u, (ckCells (L.getD k QCh.zero))[j]? = some u := ⟨_, List.getElem?_eq_getElem (by show j < 3; exact hj)⟩
    rw [hu] at h1 ⊢
    have h2 := h.cells (g := g) (by rw [hv]; rfl) _ _ h1
    rwa [qadd_spot, Nat.zero_add] at h2
set_option maxHeartbeats 1000000 in
set_option maxRecDepth 100000 in
theorem eqCk_any {w : World} {B1 B2 : Nat} {v1 v2 : Value} {l : List QCh} (h1 : w.ownsRow B1 55 3 v1 l.length (l.flatMap ckCells)) (h2 : w.ownsRow B2 55 3 v2 l.length (l.flatMap ckCells)) (hl : l.length ≤ 1000000) :
    Calls Tryz.prog 13 #[v1, v2] w (fun e w' => e = .returned (.bool true) ∧ ∃ q, w' = w.drewN q) := by
  obtain ⟨a1, c1, hv1⟩ := qrow_shape h1
  obtain ⟨a2, c2, hv2⟩ := qrow_shape h2
  subst hv1
  subst hv2
  obtain ⟨n, hn⟩ : ∃ n, l.length = n := ⟨_, rfl⟩
  have H1 := Lib.hid h1
  have H2 := Lib.hid h2
  have HN := Lib.hid hn
  rw [hn] at hl
  rw [hn]
  clear h1 h2 hn
  go_enter Tryz.func13, Tryz.ntmps13
  go_wp2_with fail
  go_loopw [13] (fun v wr => ∃ k q : Nat, k ≤ n ∧ v = .int .i64 (k : Int) ∧ wr = w.drewN q) (fun v _ => n - (intOf v).toNat)
  case atStart => exact ⟨0, 0, Nat.zero_le _, rfl, rfl⟩
  case round =>
    obtain ⟨k, q, hk, rfl, rfl⟩ := hrel
    by_cases hlt : k < n
    · obtain ⟨g, cap, hv, d⟩ := ck_cells H1.out (show k < l.length by rw [HN.out]; exact hlt)
      obtain ⟨g', cap', hv', f⟩ := ck_cells H2.out (show k < l.length by rw [HN.out]; exact hlt)
      simp only [Value.slice.injEq] at hv hv'
      obtain ⟨rfl, _, rfl⟩ := hv
      obtain ⟨rfl, _, rfl⟩ := hv'
      have d0 : w.cell? ⟨g, k * 3, none⟩ = _ := d 0 (by omega)
      have d1 : w.cell? ⟨g, k * 3 + 1, none⟩ = _ := d 1 (by omega)
      have d2 : w.cell? ⟨g, k * 3 + 2, none⟩ = _ := d 2 (by omega)
      have f0 : w.cell? ⟨g', k * 3, none⟩ = _ := f 0 (by omega)
      have f1 : w.cell? ⟨g', k * 3 + 1, none⟩ = _ := f 1 (by omega)
      have f2 : w.cell? ⟨g', k * 3 + 2, none⟩ = _ := f 2 (by omega)
      simp only [ckCells, List.getElem?_cons_zero, List.getElem?_cons_succ] at d0 d1 d2 f0 f1 f2
      generalize l.getD k QCh.zero = x at *
      obtain ⟨xb, xos, xf, xt⟩ := x
      dsimp only at d0 d1 d2 f0 f1 f2
      generalize xos.length = xl at *
      clear d f
      go_upto_region 6 with fail
      go_quiet (fail)
      go_wp2_with fail
      go_roundw
      case measure => simp only [intOf]; omega
      case rel => exact ⟨k + 1, _, by omega, by go_num, rfl⟩
    · obtain rfl : k = n := by omega
      go_wp2_with fail
      go_ret
      exact ⟨rfl, q, rfl⟩

end
end Go.Proofs.YtfnmjlnpfoclbaaGreat
