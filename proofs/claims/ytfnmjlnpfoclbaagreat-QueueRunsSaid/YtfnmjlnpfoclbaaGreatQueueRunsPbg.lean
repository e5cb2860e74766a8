/-
  Closed queues: Push, Pull; Pull beyond what there is; Close. Conditions: numbers in their bounds.
  Clone, Grow, Concat, Delete of package slices at []ring.chunk: what they give. No conditions but lengths. (Printed by sg.py.)
  The book's Shut, SetLimit, SetBudget, Pay, until, Leased, Total: what they give. No conditions but those of the book's own state.
-/
import Derived.Test.YtfnmjlnpfoclbaaGreatQueueRunsPat
import Derived.Test.YtfnmjlnpfoclbaaGreatQueueRunsPbf
import Derived.Test.YtfnmjlnpfoclbaaGreatQueueRunsPbd
import Derived.Test.YtfnmjlnpfoclbaaGreatQueueRunsPae
import Derived.Lib.SlicesDelete
import Derived.Shelf.RegionOpenPlain
import Derived.Shelf.Abstract
import Derived.Deep.RegionLaw
import Derived.Test.YtfnmjlnpfoclbaaGreatQueueRunsPam

namespace Go.Proofs.YtfnmjlnpfoclbaaGreat
section
open Go.RowKit
set_option linter.unusedVariables false

def quShut (bp : Nat) (o k s m sz : Int) : Array Value :=
  #[.pointer (some ⟨bp, 0, none⟩), .int .i64 o, .int .i64 k, .int .i64 s, .int .i64 m, .int .i64 sz, .bool true, .slice none 0 0]
def ShutQ (w : World) (I : QuId) : Prop := w.heap[I.r]? = some (.cells (quShut I.bp I.o I.k I.s I.m I.sz) 79 (0, 0))
def ShutR (w : World) (I : QuId) : Prop := w.heap[I.r]? = some (.cells (rqCells I.bp I.o I.k I.s I.m I.sz (.slice none 0 0) true) 83 (0, 0))

set_option maxHeartbeats 2000000 in
set_option maxRecDepth 100000 in
theorem pushQ_shut (r : Nat) (v : Value) (w : World) (hr : r < w.heap.size) (c6 : w.cell? ⟨r, 6, none⟩ = some (.bool true)) :
    Calls Tryz.prog 29 #[.pointer (some ⟨r, 0, none⟩), v] w (fun e w' => e = .returned (.int .i64 11) ∧ Below w.heap.size w w') := by
  have W1 : Below w.heap.size w (w.alloc (.cells #[.pointer (some ⟨r, 0, none⟩)] 30)) := (Below.refl _ _).alloc (Nat.le_refl _) _
  have k6 : (w.alloc (.cells #[.pointer (some ⟨r, 0, none⟩)] 30)).cell? ⟨r, 6, none⟩ = some (.bool true) := old_cell W1 c6
  have HW1 := Lib.hid W1
  clear W1
  refine callsIn_wide (n := 9).1 ?_
  refine callsIn_of_wp_marks Tryz.func29 rfl trivial ?_ rfl
  simp only [Tryz.ntmps29, List.size_toArray, List.length_cons, List.length_nil, Nat.reduceAdd, Nat.reduceSub, Array.replicate_succ, Array.replicate_zero, List.push_toArray, List.append_toArray, List.nil_append, List.cons_append]
  refine wpIn_wide.2 ?_
  go_wp2_with fail
  refine ⟨_, results_tmp rfl _ _ _, rfl, ?_⟩
  exact HW1.out

set_option maxHeartbeats 1000000 in
set_option maxRecDepth 100000 in
theorem pushR_shut (r : Nat) (v : Value) (w : World) (c7 : w.cell? ⟨r, 7, none⟩ = some (.bool true)) (c6 : w.cell? ⟨r, 6, none⟩ = some (.slice none 0 0)) :
    Calls Tryz.prog 30 #[.pointer (some ⟨r, 0, none⟩), v] w (fun e w' => e = .returned (.int .i64 11) ∧ Below w.heap.size w w') := by
  have SZ := Lib.hid (sizes_any r [] _ w c6 ⟨none, 0, rfl, Nat.zero_le _, by decide, fun k hk => by simp at hk⟩ ⟨by simp, by simp⟩)
  unfold SizesPost at SZ
  generalize qsum QCh.len [] = S at *
  generalize qsum QCh.room [] = RM at *
  go_enter Tryz.func30, Tryz.ntmps30
  go_wp2_with fail
  refine SZ.out.mono ?_
  rintro e w1 ⟨rfl, hb1⟩
  have d7 := old_cell hb1 c7
  have HB := Lib.hid hb1
  clear hb1
  go_wp2_with fail
  go_ret
  exact ⟨rfl, HB.out⟩

set_option maxHeartbeats 1000000 in
set_option maxRecDepth 100000 in
theorem pullQ_shut (r : Nat) (n : Int) (w : World) (c6 : w.cell? ⟨r, 6, none⟩ = some (.bool true)) :
    Calls Tryz.prog 31 #[.pointer (some ⟨r, 0, none⟩), .int .i64 n] w (fun e w' => e = .returned (.tuple #[.slice none 0 0, .int .i64 11]) ∧ Below w.heap.size w w') := by
  have HB := Lib.hid (Below.refl w.heap.size w)
  go_enter Tryz.func31, Tryz.ntmps31
  go_wp2_with fail
  go_ret2
  exact ⟨rfl, HB.out⟩
set_option maxHeartbeats 1000000 in
set_option maxRecDepth 100000 in
theorem pullQ_bad (I : QuId) (L : List QCh) (cv : Value) (F : Nat → Prop) (n : Int) (w : World) (hm : QuMem w F I L cv) (hok : QChsOk L) (hn : ¬ (0 ≤ n ∧ n ≤ (qsum QCh.len L : Nat))) :
    Calls Tryz.prog 31 #[.pointer (some ⟨I.r, 0, none⟩), .int .i64 n] w (fun e w' => e = .returned (.tuple #[.slice none 0 0, .int .i64 2]) ∧ Below w.heap.size w w') := by
  have SZ := Lib.hid (qLen_any I F L cv w hm hok)
  have c6 : w.cell? ⟨I.r, 6, none⟩ = some (.bool false) := by rw [cell_of hm.self]; rfl
  unfold QIntPost at SZ
  generalize qsum QCh.len L = S at *
  have HN := Lib.hid hn
  clear hm hok hn
  go_enter Tryz.func31, Tryz.ntmps31
  go_wp2_with fail
  refine SZ.out.mono ?_
  rintro e w1 ⟨rfl, hb1⟩
  have HB := Lib.hid hb1
  clear hb1
  go_wp2_with fail
  refine (within_ring_no _ _ _ _ HN.out).mono ?_
  rintro e w2 ⟨rfl, rfl⟩
  go_wp2_with fail
  go_ret2
  exact ⟨rfl, HB.out⟩

def CloseQPost (I : QuId) (L : List QCh) (bst : BookSt) (N : Nat) (G : Nat → Prop) (w : World) : Ending → World → Prop := fun e w' =>
  e = .returned (.int .i64 0) ∧ ShutQ w' I ∧ ∃ G', BookAt w' G' I.bp (givenSt bst I.o (qsum QCh.room L)) N ∧ (∀ k, G' k → k < w'.heap.size) ∧ QLater w w' G G' ∧ Touch (fun k => k = I.r ∨ G k) w w'
def CloseRPost (I : QuId) (L : List QCh) (bst : BookSt) (G : Nat → Prop) (w : World) : Ending → World → Prop := fun e w' =>
  e = .returned (.int .i64 0) ∧ ShutR w' I ∧ ∃ G', RB w' G' I.bp (givenSt bst I.o (qsum QCh.room L)) false ∧ (∀ k, G' k → k < w'.heap.size) ∧ QLater w w' G G' ∧ Touch (fun k => k = I.r ∨ G k) w w'

theorem closeQ_fin {w w4 : World} {I : QuId} {L : List QCh} {bst bst' : BookSt} {N : Nat} {F G G' : Nat → Prop} (h : QR w I L bst N F G) (T : Touch G w w4) (hb : BookAt w4 G' I.bp bst' N) (hG : ∀ k, G' k → G k ∨ w.heap.size ≤ k) (he : bst' = givenSt bst I.o (qsum QCh.room L)) :
    CloseQPost I L bst N G w (.returned (.int .i64 0)) ((w4.setCell ⟨I.r, 7, none⟩ (.slice none 0 0)).setCell ⟨I.r, 6, none⟩ (.bool true)) := by
  subst he
  obtain ⟨cv, hm⟩ := h.qu
  have hr := lt_of hm.self
  have s1 := T.size
  have e1 : w4.heap[I.r]? = _ := (T.block I.r hr (h.dis _ hm.fr)).trans hm.self
  have hk : ∀ k, k ≠ I.r → ((w4.setCell ⟨I.r, 7, none⟩ (.slice none 0 0)).setCell ⟨I.r, 6, none⟩ (.bool true)).heap[k]? = w4.heap[k]? := fun k hk => (Below.heap_setCell _ _ _ k hk).trans (Below.heap_setCell _ _ _ k hk)
  have T2 : Touch (fun k => k = I.r ∨ G k) w ((w4.setCell ⟨I.r, 7, none⟩ (.slice none 0 0)).setCell ⟨I.r, 6, none⟩ (.bool true)) := Touch.setCell (F := fun k => k = I.r ∨ G k) (Touch.setCell (F := fun k => k = I.r ∨ G k) (T.mono (fun k hk => Or.inr hk)) (Or.inl (Or.inl rfl)) _) (Or.inl (Or.inl rfl)) _
  have hsz : ((w4.setCell ⟨I.r, 7, none⟩ (.slice none 0 0)).setCell ⟨I.r, 6, none⟩ (.bool true)).heap.size = w4.heap.size := by rw [World.size_setCell, World.size_setCell]
  refine ⟨rfl, ?_, _, hb.narrow.same (fun k hk2 hl => hk k (fun e => ?_)), fun k hk => by rw [hsz]; exact hk.2, fun k hk => hG k hk.1, T2⟩
  · unfold ShutQ
    rw [block_setCell (block_setCell e1 _ _)]; rfl
  · subst e
    rcases hG _ hk2.1 with x | x
    · exact h.dis _ hm.fr x
    · omega
theorem closeR_fin {w w4 : World} {I : QuId} {L : List QCh} {bst bst' : BookSt} {F G G' : Nat → Prop} (h : RR w I L bst F G) (T : Touch G w w4) (hb : RB w4 G' I.bp bst' false) (hG : ∀ k, G' k → G k ∨ w.heap.size ≤ k) (he : bst' = givenSt bst I.o (qsum QCh.room L)) :
    CloseRPost I L bst G w (.returned (.int .i64 0)) ((w4.setCell ⟨I.r, 6, none⟩ (.slice none 0 0)).setCell ⟨I.r, 7, none⟩ (.bool true)) := by
  subst he
  obtain ⟨cv, hm⟩ := h.qu
  have hr := lt_of hm.self
  have s1 := T.size
  have e1 : w4.heap[I.r]? = _ := (T.block I.r hr (h.dis _ hm.fr)).trans hm.self
  have hk : ∀ k, k ≠ I.r → ((w4.setCell ⟨I.r, 6, none⟩ (.slice none 0 0)).setCell ⟨I.r, 7, none⟩ (.bool true)).heap[k]? = w4.heap[k]? := fun k hk => (Below.heap_setCell _ _ _ k hk).trans (Below.heap_setCell _ _ _ k hk)
  have T2 : Touch (fun k => k = I.r ∨ G k) w ((w4.setCell ⟨I.r, 6, none⟩ (.slice none 0 0)).setCell ⟨I.r, 7, none⟩ (.bool true)) := Touch.setCell (F := fun k => k = I.r ∨ G k) (Touch.setCell (F := fun k => k = I.r ∨ G k) (T.mono (fun k hk => Or.inr hk)) (Or.inl (Or.inl rfl)) _) (Or.inl (Or.inl rfl)) _
  have hsz : ((w4.setCell ⟨I.r, 6, none⟩ (.slice none 0 0)).setCell ⟨I.r, 7, none⟩ (.bool true)).heap.size = w4.heap.size := by rw [World.size_setCell, World.size_setCell]
  refine ⟨rfl, ?_, _, RB.same (RefAt.narrow' hb) (fun k hk2 hl => hk k (fun e => ?_)), fun k hk => by rw [hsz]; exact hk.2, fun k hk => hG k hk.1, T2⟩
  · unfold ShutR
    rw [block_setCell (block_setCell e1 _ _)]; rfl
  · subst e
    rcases hG _ hk2.1 with x | x
    · exact h.dis _ hm.fr x
    · omega

set_option maxHeartbeats 2000000 in
set_option maxRecDepth 100000 in
theorem closeQ_any (I : QuId) (L : List QCh) (bst : BookSt) (N : Nat) (F G : Nat → Prop) (w : World) (h : QR w I L bst N F G) :
    Calls Tryz.prog 39 #[.pointer (some ⟨I.r, 0, none⟩)] w (CloseQPost I L bst N G w) := by
  obtain ⟨cv, hm⟩ := h.qu
  have SZ := Lib.hid (qRoom_any I F L cv w hm h.ok)
  have AB0 := Lib.hid h
  have HM := Lib.hid hm
  have cl : w.cell? ⟨I.r, 6, none⟩ = some (.bool false) := by rw [cell_of hm.self]; rfl
  have hrm := h.ok.sumR L.length
  rw [List.take_length] at hrm
  unfold QIntPost at SZ
  have FIN := Lib.hid (fun w4 bst' G' => closeQ_fin (w4 := w4) (bst' := bst') (G' := G') h)
  have OPN : Hid (∀ w4, Touch G w w4 → (w4.cell? ⟨I.r, 7, none⟩ = some cv ∧ w4.frozen? ⟨I.r, 7, none⟩ = false) ∧ (w4.cell? ⟨I.r, 6, none⟩ = some (.bool false) ∧ w4.frozen? ⟨I.r, 6, none⟩ = false)) := Lib.hid (fun w4 t => by
    have e := (t.block I.r (lt_of hm.self) (h.dis _ hm.fr)).trans hm.self
    exact ⟨⟨by rw [cell_of e]; rfl, free_of e _⟩, by rw [cell_of e]; rfl, free_of e _⟩)
  clear h hm
  generalize qsum QCh.room L = RM at *
  
  go_enter Tryz.func39, Tryz.ntmps39
  go_wp2_with fail
  refine SZ.out.mono ?_
  rintro e w1 ⟨rfl, hb1⟩
  have B1 := Lib.hid hb1
  clear hb1 cl
  by_cases hg : RM = 0
  · have t1 : Touch G w w1 := Touch.of_below B1.out
    have F1 := Lib.hid (FIN.out w1 bst G t1 (AB0.out.bk.same (Below.same_on B1.out)) (fun k hk => Or.inl hk) (by unfold givenSt; rw [if_pos hg]))
    obtain ⟨⟨c1, f1⟩, c2, f2⟩ := OPN.out w1 t1
    subst hg
    clear t1 FIN OPN
    go_wp2_with fail
    go_ret
    exact F1.out
  · have k0 : w1.cell? ⟨I.r, 0, none⟩ = some (.pointer (some ⟨I.bp, 0, none⟩)) := by rw [cell_of (HM.out.below B1.out).self]; rfl
    have k1 : w1.cell? ⟨I.r, 1, none⟩ = some (.int .i64 I.o) := by rw [cell_of (HM.out.below B1.out).self]; rfl
    have hgp : 0 < RM := Nat.pos_of_ne_zero hg
    have GV := Lib.hid (fun q => give_all I.bp I.o RM (w1.drewN q) G bst N (AB0.out.bk.same (Below.same_on (bdrewN B1.out q))) AB0.out.good)
    have ES : Hid ((giveR bst I.o RM).2 = givenSt bst I.o RM) := Lib.hid (by unfold givenSt; rw [if_neg hg])
    generalize giveR bst I.o RM = gr at *
    obtain ⟨ge, gs⟩ := gr
    simp only at GV ES
    go_upto_region 5 with fail
    refine wp_region_mid 9 _ (by kernel_rfl) (by kernel_rfl) rfl ?_
    simp only [List.take_succ_cons, List.take_zero, List.drop_succ_cons, List.drop_zero]
    repeat (go_big_quiet_step (fail))
    refine wpQuiet_nil ?_
    intro _ hw'
    obtain ⟨nq4, rfl⟩ := hw'
    intro K hK
    go_simp
    refine (GV.out _).mono ?_
    rintro e w4 ⟨rfl, hb4, ht4⟩
    have T4 : Hid (∀ q, Touch G w (w4.drewN q)) := Lib.hid (fun q => ((Touch.of_below (bdrewN B1.out nq4)).then ht4).drewN q)
    have F4 := Lib.hid (fun q => FIN.out (w4.drewN q) gs _ (T4.out q) (hb4.same (Below.same_on (bdrewN (Below.refl _ _) q))) (fun k hk => hk.imp id (fun x => Nat.le_trans (bdrewN B1.out nq4).size x)) ES.out)
    clear hb4 ht4
    go_simp
    refine hK _ _ ?_
    clear hK K
    repeat (go_big_quiet_step (fail))
    refine wpQuiet_nil ?_
    intro _ hw'
    obtain ⟨nq5, rfl⟩ := hw'
    have F5 := Lib.hid (F4.out nq5)
    obtain ⟨⟨c1, f1⟩, c2, f2⟩ := OPN.out _ (T4.out nq5)
    generalize w4.drewN nq5 = w5 at *
    clear FIN OPN F4 T4
    go_wp2_with fail
    go_ret
    exact F5.out

set_option maxHeartbeats 2000000 in
set_option maxRecDepth 100000 in
theorem closeR_any (I : QuId) (L : List QCh) (bst : BookSt) (F G : Nat → Prop) (w : World) (h : RR w I L bst F G) :
    Calls Tryz.prog 40 #[.pointer (some ⟨I.r, 0, none⟩)] w (CloseRPost I L bst G w) := by
  obtain ⟨cv, hm⟩ := h.qu
  have SZ := Lib.hid (sizes_any I.r L cv w (by rw [cell_of hm.self]; rfl) hm.chs h.ok)
  have AB0 := Lib.hid h
  have HM := Lib.hid hm
  have cl : w.cell? ⟨I.r, 7, none⟩ = some (.bool false) := by rw [cell_of hm.self]; rfl
  have hrm := h.ok.sumR L.length
  rw [List.take_length] at hrm
  unfold SizesPost at SZ
  have FIN := Lib.hid (fun w4 bst' G' => closeR_fin (w4 := w4) (bst' := bst') (G' := G') h)
  have OPN : Hid (∀ w4, Touch G w w4 → (w4.cell? ⟨I.r, 6, none⟩ = some cv ∧ w4.frozen? ⟨I.r, 6, none⟩ = false) ∧ (w4.cell? ⟨I.r, 7, none⟩ = some (.bool false) ∧ w4.frozen? ⟨I.r, 7, none⟩ = false)) := Lib.hid (fun w4 t => by
    have e := (t.block I.r (lt_of hm.self) (h.dis _ hm.fr)).trans hm.self
    exact ⟨⟨by rw [cell_of e]; rfl, free_of e _⟩, by rw [cell_of e]; rfl, free_of e _⟩)
  clear h hm
  generalize qsum QCh.room L = RM at *
  generalize qsum QCh.len L = S at *
  go_enter Tryz.func40, Tryz.ntmps40
  go_wp2_with fail
  refine SZ.out.mono ?_
  rintro e w1 ⟨rfl, hb1⟩
  have B1 := Lib.hid hb1
  clear hb1 cl
  by_cases hg : RM = 0
  · have t1 : Touch G w w1 := Touch.of_below B1.out
    have F1 := Lib.hid (FIN.out w1 bst G t1 (AB0.out.bk.below B1.out) (fun k hk => Or.inl hk) (by unfold givenSt; rw [if_pos hg]))
    obtain ⟨⟨c1, f1⟩, c2, f2⟩ := OPN.out w1 t1
    subst hg
    clear t1 FIN OPN
    go_wp2_with fail
    go_ret
    exact F1.out
  · have k0 : w1.cell? ⟨I.r, 0, none⟩ = some (.pointer (some ⟨I.bp, 0, none⟩)) := by rw [cell_of (HM.out.below B1.out).self]; rfl
    have k1 : w1.cell? ⟨I.r, 1, none⟩ = some (.int .i64 I.o) := by rw [cell_of (HM.out.below B1.out).self]; rfl
    have hgp : 0 < RM := Nat.pos_of_ne_zero hg
    have GV := Lib.hid (fun q => giveR_all I.bp I.o RM (w1.drewN q) G bst false (AB0.out.bk.below (bdrewN B1.out q)) AB0.out.good.e (by simp))
    have ES : Hid ((giveR bst I.o RM).2 = givenSt bst I.o RM) := Lib.hid (by unfold givenSt; rw [if_neg hg])
    generalize giveR bst I.o RM = gr at *
    obtain ⟨ge, gs⟩ := gr
    simp only at GV ES
    go_upto_region 5 with fail
    refine wp_region_mid 9 _ (by kernel_rfl) (by kernel_rfl) rfl ?_
    simp only [List.take_succ_cons, List.take_zero, List.drop_succ_cons, List.drop_zero]
    repeat (go_big_quiet_step (fail))
    refine wpQuiet_nil ?_
    intro _ hw'
    obtain ⟨nq4, rfl⟩ := hw'
    intro K hK
    go_simp
    refine (GV.out _).mono ?_
    rintro e w4 ⟨rfl, hb4, ht4⟩
    have T4 : Hid (∀ q, Touch G w (w4.drewN q)) := Lib.hid (fun q => ((Touch.of_below (bdrewN B1.out nq4)).then ht4).drewN q)
    have F4 := Lib.hid (fun q => FIN.out (w4.drewN q) gs _ (T4.out q) (hb4.below (bdrewN (Below.refl _ _) q)) (fun k hk => hk.imp id (fun x => Nat.le_trans (bdrewN B1.out nq4).size x)) ES.out)
    clear hb4 ht4
    go_simp
    refine hK _ _ ?_
    clear hK K
    repeat (go_big_quiet_step (fail))
    refine wpQuiet_nil ?_
    intro _ hw'
    obtain ⟨nq5, rfl⟩ := hw'
    have F5 := Lib.hid (F4.out nq5)
    obtain ⟨⟨c1, f1⟩, c2, f2⟩ := OPN.out _ (T4.out nq5)
    generalize w4.drewN nq5 = w5 at *
    clear FIN OPN F4 T4
    go_wp2_with fail
    go_ret
    exact F5.out

end
end Go.Proofs.YtfnmjlnpfoclbaaGreat

namespace Go.Proofs.YtfnmjlnpfoclbaaGreat
section
open Go.RowKit
set_option linter.unusedVariables false

theorem info_qch : (Tryz.prog.info? 103).map (fun i => (i.zero, i.size, i.bytes)) = some (some (.agg #[.slice none 0 0, .int .i64 0, .int .i64 0]), 3, 40) := by kernel_rfl
def Own_qch (n : Nat) (xs : List Value) (w : World) : Ending → World → Prop := fun e w' =>
  ∃ v, e = .returned v ∧ w'.ownsRow w.heap.size 103 3 v n xs ∧ Below w.heap.size w w'

set_option maxHeartbeats 1000000 in
set_option maxRecDepth 100000 in
theorem growNil_qch (n : Nat) (w : World) (h63 : n ≤ 1000000000) :
    Calls Tryz.prog 93 #[.slice none 0 0, .int .i64 n] w (Own_qch 0 [] w) := by
  obtain ⟨i0, hi0, hz0, hz1, hz2⟩ := info_parts info_qch
  by_cases h0 : n = 0
  · subst h0
    go_enter Tryz.func93, Tryz.ntmps93
    go_wp2_with fail
    go_ret
    exact ⟨_, rfl, World.ownsRow_nil _ _ _ _, Below.refl _ _⟩
  · have hn : (0 : Int) < n := by omega
    have HN := Lib.hid (Nat.pos_of_ne_zero h0)
    go_enter Tryz.func93, Tryz.ntmps93
    go_wp2_with (at_builtin; go_must (refine wpList_append_zeros_of rfl (.tmp 20) (.tmp 21) 77 3 rfl 103 i0 (.agg #[.slice none 0 0, .int .i64 0, .int .i64 0]) 3 40 Tryz.underlying77 Tryz.underlying3 hi0 hz0 hz1 hz2 rfl (by decide) w n rfl rfl HN.out h63 (by omega) ?_))
    intro cap w1 hcap hown hb
    go_wp2_with fail
    go_ret
    exact ⟨_, rfl, hown, hb⟩

/-- The cells, and the number, of the first k of some slices. -/
def cat_qch (els : List (Value × Nat × List Value)) (k : Nat) : List Value := ((els.take k).map (·.2.2)).flatten
def num_qch (els : List (Value × Nat × List Value)) (k : Nat) : Nat := ((els.take k).map (·.2.1)).sum
theorem cat_succ_qch (els : List (Value × Nat × List Value)) (k : Nat) (x : Value × Nat × List Value) (h : els[k]? = some x) : cat_qch els (k + 1) = cat_qch els k ++ x.2.2 ∧ num_qch els (k + 1) = num_qch els k + x.2.1 := by
  unfold cat_qch num_qch
  rw [List.take_add_one, h]
  simp
theorem num_le_qch (els : List (Value × Nat × List Value)) (k : Nat) : num_qch els k ≤ num_qch els els.length := by
  unfold num_qch
  rw [List.take_length, List.map_take]
  conv => rhs; rw [← List.take_append_drop k (els.map (·.2.1)), List.sum_append]
  omega

set_option maxHeartbeats 2000000 in
set_option maxRecDepth 100000 in
theorem concat_qch (bb : Nat) (els : List (Value × Nat × List Value)) (w : World) (hc : ∀ k x, els[k]? = some x → w.cell? ⟨bb, k, none⟩ = some x.1 ∧ Seg w 3 x.1 x.2.1 x.2.2)
    (hl : num_qch els els.length ≤ 100000000) (hn : els.length ≤ 1000) :
    Calls Tryz.prog 77 #[.slice (some ⟨bb, 0, none⟩) els.length els.length] w (Own_qch (num_qch els els.length) (cat_qch els els.length) w) := by
  obtain ⟨i0, hi0, hz0, hz1, hz2⟩ := info_parts info_qch
  have HC := Lib.hid hc
  have NL := Lib.hid (num_le_qch els)
  clear hc
  go_enter Tryz.func77, Tryz.ntmps77
  go_wp2_with fail
  go_loopw [11, 3] (fun i s wr => ∃ k : Nat, k ≤ els.length ∧ i = .int .i64 k ∧ s = .int .i64 (num_qch els k) ∧ wr = w) (fun i _ _ => els.length - (intOf i).toNat)
  case atStart => exact ⟨0, Nat.zero_le _, rfl, rfl, rfl⟩
  case round =>
    obtain ⟨k, hk, rfl, rfl, hw⟩ := hrel
    obtain rfl := hw.symm
    have le := NL.out k
    by_cases hlt : k < els.length
    · obtain ⟨x, hx⟩ : ∃ x, els[k]? = some x := ⟨_, List.getElem?_eq_getElem hlt⟩
      obtain ⟨c0, _, _, sa, sc, hv, h1, h2, _⟩ := HC.out k x hx
      obtain ⟨_, S⟩ := cat_succ_qch els k x hx
      have le2 := NL.out (k + 1)
      obtain ⟨xv, xn, xl⟩ := x
      simp only at c0 hv h1 S
      subst hv
      generalize num_qch els k = s at *
      clear hx
      go_wp2_with fail
      go_roundw
      case rel => exact ⟨k + 1, by omega, by go_num, by rw [S]; go_num, by first | rfl | trivial⟩
      case measure => simp [intOf]; omega
    · have hkn : k = els.length := by omega
      subst hkn
      generalize hN : num_qch els els.length = N at *
      go_wp2_with fail
      refine (growNil_qch N w (by omega)).mono ?_
      rintro e w1 ⟨v1, rfl, ho1, hb1⟩
      have HO1 := Lib.hid ho1
      have HB1 := Lib.hid hb1
      clear ho1 hb1
      go_wp2_with fail
      go_loopw [27, 6] (fun i s wx => ∃ k : Nat, k ≤ els.length ∧ i = .int .i64 k ∧ wx.ownsRow w.heap.size 103 3 s (num_qch els k) (cat_qch els k) ∧ Below w.heap.size w wx) (fun i _ _ => els.length - (intOf i).toNat)
      case atStart => exact ⟨0, Nat.zero_le _, rfl, HO1.out, HB1.out⟩
      case round =>
        obtain ⟨k, hk, rfl, ho, hb⟩ := hrel
        have le := NL.out k
        by_cases hlt : k < els.length
        · obtain ⟨x, hx⟩ : ∃ x, els[k]? = some x := ⟨_, List.getElem?_eq_getElem hlt⟩
          obtain ⟨c0, r0⟩ := HC.out k x hx
          have c1 := old_cell hb c0
          have R1 := Lib.hid (r0.below hb)
          have le2 := NL.out (k + 1)
          obtain ⟨S2, S⟩ := cat_succ_qch els k x hx
          have S2 := Lib.hid S2
          have HO := Lib.hid ho
          have hsz := hb.size
          have HBB := Lib.hid hb
          clear c0 r0 ho hb hx
          go_wp2_with (at_builtin; go_must (refine wpList_append_seg rfl (.tmp 31) (.tmp 32) 77 rfl w.heap.size 103 i0 (.agg #[.slice none 0 0, .int .i64 0, .int .i64 0]) 3 40 Tryz.underlying77 hi0 hz0 hz1 hz2 rfl (by decide) wr _ _ _ rfl HO.out _ _ _ rfl R1.out (by unfold maxLen; omega) (by omega) hsz ?_))
          intro v' w2 hown hg
          have hb2 := HBB.out.grown hg hsz (fun q hq => (HO.out.lt q hq).1)
          have hown2 : w2.ownsRow w.heap.size 103 3 v' (num_qch els (k + 1)) (cat_qch els (k + 1)) := by rw [S, S2.out]; exact hown
          clear hown
          clear hg
          go_wp2_with fail
          go_roundw
          case rel => exact ⟨k + 1, by omega, by go_num, hown2, hb2⟩
          case measure => simp [intOf]; omega
        · have hkn : k = els.length := by omega
          subst hkn
          rw [hN] at ho
          go_wp2_with fail
          go_ret
          exact ⟨_, rfl, ho, hb⟩

/-- 'clear' of one element. -/
theorem run_clear_qch (w : World) (ty : TypeId) (b o c : Nat) (hc : ∀ j, j < 3 → (w.cell? ⟨b, o + j, none⟩).isSome = true) (hf : ∀ j, j < 3 → w.frozen? ⟨b, o + j, none⟩ = false) :
    (Builtin.clear_ #[77] ty #[.slice (some ⟨b, o, none⟩) 1 c]).run Tryz.prog w = .ok (.tuple #[]) (w.setCells b o [.slice none 0 0, .int .i64 0, .int .i64 0]) := by
  have hst := run_storeCells_cells (P := Tryz.prog) b o [.slice none 0 0, .int .i64 0, .int .i64 0] 0 w (by simpa using hc) (by simpa using hf) (by intro v hv; simp at hv; first | (subst hv; rfl) | (rcases hv with rfl | rfl <;> rfl))
  simp only [Nat.add_zero] at hst
  have hz : (Builtin.zeroCells ((.agg #[.slice none 0 0, .int .i64 0, .int .i64 0]) : Value).cells 1).toList = [.slice none 0 0, .int .i64 0, .int .i64 0] := by kernel_rfl
  simp [Builtin.clear_, run_underlying Tryz.underlying77, Tryz.zeroValue103, hz, hst]

def Del_qch (g cap n i : Nat) (xs : List Value) (w : World) : Ending → World → Prop := fun e w' =>
  e = .returned (.slice (some ⟨g, 0, none⟩) (n - 1) cap) ∧ w'.ownsRow 0 103 3 (.slice (some ⟨g, 0, none⟩) (n - 1) cap) (n - 1) (xs.take (i * 3) ++ xs.drop ((i + 1) * 3)) ∧ Touch (fun k => k = g) w w' ∧ w'.heap.size = w.heap.size

end
end Go.Proofs.YtfnmjlnpfoclbaaGreat

namespace Go.Proofs.YtfnmjlnpfoclbaaGreat
section
open Go.RowKit
set_option linter.unusedVariables false

/-! Shut. -/
theorem shut_mem {w w1 : World} {F : Nat → Prop} {p : Nat} {st : BookSt} {N mb : Nat} {blk : Int → Option Nat} {lv ev : Value} {D : DataW Unit} (h : BookMem w F p st N mb blk lv ev D) (o : Int)
    (hm : w1.ownsMap Tryz.prog 3 ptrElem mb N (D.del (.int .i64 o))) (hg : w.grownBy w1 (some mb)) :
    BookMem w1 F p (st.put o none) N mb (fun x => if x = o then none else blk x) lv ev (D.del (.int .i64 o)) ∧ Touch F w w1 := by
  have hk : ∀ k, k < w.heap.size → k ≠ mb → w1.heap[k]? = w.heap[k]? := fun k hk hne => hg.block k hk (fun e => hne (by simpa using e))
  have notmb : ∀ b cur t, w.heap[b]? = some (.cells cur t (0, 0)) → b ≠ mb := by
    intro b cur t hb e
    subst e
    obtain ⟨xs, clock, hx, _⟩ := h.map
    rw [hb] at hx; simp at hx
  refine ⟨⟨(hk p (lt_of h.self) (notmb _ _ _ h.self)).trans h.self, h.fp, hm, h.fmap, ?_, ?_, ?_, ?_, ?_, h.flea, ?_, h.fent⟩, ?_⟩
  · intro x z
    by_cases hx : x = o
    · subst hx
      rw [Maps.atKey_del_same, if_pos rfl]
      rfl
    · rw [Maps.atKey_del_other (lit_ne hx), if_neg hx]
      exact h.look x z
  · intro x
    rw [put_acc]
    by_cases hx : x = o
    · simp [hx]
    · simp only [if_neg hx]; exact h.anone x
  · intro x b hb
    by_cases hx : x = o
    · simp [hx] at hb
    · simp only [if_neg hx] at hb
      obtain ⟨l', x', s', h1, h2, h3⟩ := h.asome x b hb
      exact ⟨l', x', s', by rw [put_acc, if_neg hx]; exact h1, (hk b (lt_of h2) (notmb _ _ _ h2)).trans h2, h3⟩
  · intro x y b hx hy
    by_cases ex : x = o
    · simp [ex] at hx
    · by_cases ey : y = o
      · simp [ey] at hy
      · simp only [if_neg ex, if_neg ey] at hx hy
        exact h.inj x y b hx hy
  · refine ownsRow_same h.lrow (fun k hk' => ?_)
    obtain ⟨cur, hc⟩ := row_block h.lrow hk'
    exact hk k (lt_of hc) (notmb _ _ _ hc)
  · refine ownsRow_same h.erow (fun k hk' => ?_)
    obtain ⟨cur, hc⟩ := row_block h.erow hk'
    exact hk k (lt_of hc) (notmb _ _ _ hc)
  · exact (Touch.refl F w).grown hg (fun k hk => by simp only [Option.some.injEq] at hk; subst hk; exact Or.inl h.fmap)

/-! SetBudget. -/
/-! until, Leased, Total. -/
def leasedV (st : BookSt) (o : Int) : Int := if 1 ≤ o ∧ o ≤ 40 then (match st.acc o with | some (_, _, s) => s | none => 0) else 0
set_option maxHeartbeats 1000000 in
set_option maxRecDepth 100000 in
theorem leasedB_any (p : Nat) (o : Int) (w : World) (F : Nat → Prop) (st : BookSt) (N : Nat) (hb : BookAt w F p st N) :
    Calls Tryz.prog 41 #[.pointer (some ⟨p, 0, none⟩), .int .i64 o] w (SamePost2 (leasedV st o) (heldE st o) w) := by
  obtain ⟨mb, blk, lv, ev, D, hm⟩ := hb
  by_cases ho : 1 ≤ o ∧ o ≤ 40
  · have he : chkE o [] = 0 := by unfold chkE; rw [if_pos ⟨ho, by simp⟩]
    have C := account_any p o _ [] w F st N mb blk lv ev D (reads_nil w) he hm
    cases hk : blk o with
    | none =>
      have hv : leasedV st o = 0 := by unfold leasedV; rw [if_pos ho, (hm.anone o).1 hk]
      have hee : heldE st o = 7 := by unfold heldE; rw [if_pos ho, (hm.anone o).1 hk]
      rw [hv, hee]
      rw [hk] at C
      have HC := Lib.hid C
      clear C hm he hv hee hk ho
      go_enter Tryz.func41, Tryz.ntmps41
      go_wp2_with fail
      refine HC.out.mono ?_
      rintro e w' ⟨rfl, rfl⟩
      go_wp2_with fail
      go_ret2
      exact ⟨rfl, rfl⟩
    | some ab =>
      obtain ⟨l, h, s, h1, h2, h3⟩ := hm.asome o ab hk
      have hv : leasedV st o = s := by unfold leasedV; rw [if_pos ho, h1]
      have hee : heldE st o = 0 := by unfold heldE; rw [if_pos ho, h1]
      rw [hv, hee]
      rw [hk] at C
      have c1 : w.cell? ⟨ab, 2, none⟩ = some (.int .i64 s) := by rw [cell_of h2]; rfl
      have HC := Lib.hid C
      clear C hm he hv hee hk ho h1 h2 h3
      go_enter Tryz.func41, Tryz.ntmps41
      go_wp2_with fail
      refine HC.out.mono ?_
      rintro e w' ⟨rfl, rfl⟩
      unfold ptrOf
      go_wp2_with fail
      go_ret2
      exact ⟨rfl, rfl⟩
  · have he : chkE o [] ≠ 0 := by unfold chkE; rw [if_neg (fun x => ho x.1)]; decide
    have C := account_err p o _ [] w (reads_nil w) he
    have hv : leasedV st o = 0 := by unfold leasedV; rw [if_neg ho]
    have hee : heldE st o = 2 := by unfold heldE; rw [if_neg ho]
    rw [hv, hee]
    have HC := Lib.hid C
    clear C hm he hv hee ho
    go_enter Tryz.func41, Tryz.ntmps41
    go_wp2_with fail
    refine HC.out.mono ?_
    rintro e w' ⟨rfl, rfl⟩
    go_wp2_with fail
    go_ret2
    exact ⟨rfl, rfl⟩

end
end Go.Proofs.YtfnmjlnpfoclbaaGreat
