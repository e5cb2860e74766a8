/-
  The book's End: what it gives. No conditions but those of the book's own state.
-/
import Derived.Test.YtljjndifmfhffaaGreatDoorLedgerChecksPbc
import Derived.StillTailTactics
namespace Go.Proofs.YtljjndifmfhffaaGreatDoor
open Go.RowKit
set_option linter.unusedVariables false

set_option maxHeartbeats 2000000 in
set_option maxRecDepth 100000 in
theorem end_none (p : Nat) (no : Int) (w : World) (F : Nat → Prop) (st : BookSt) (N : Nat) (hb : BookAt w F p st N) (g : GoodE st) (hf : findL no st.leases = none) :
    Calls Tryz.prog 32 #[.pointer (some ⟨p, 0, none⟩), .int .i64 no] w (OpPost 13 F p st N w) := by
  have C := find_any p no w F st N hb (by have := g.leaLen; omega)
  rw [show findV st no = -1 by unfold findV; rw [hf]] at C
  have HC := Lib.hid C
  have FIN := Lib.hid (fun W (B : Below w.heap.size w W) => bad_fin hb B)
  clear C hb g hf
  go_enter Tryz.func32, Tryz.ntmps32
  go_wp2_with fail
  refine HC.out.mono ?_
  rintro e w' ⟨rfl, hb1⟩
  have HB1 := Lib.hid hb1
  clear hb1
  go_wp2_with fail
  go_ret
  exact ⟨rfl, (FIN.out _ HB1.out).1, (FIN.out _ HB1.out).2⟩

theorem endAcc_some {st : BookSt} {l : Lea} {a h s : Int} (ha : st.acc l.owner = some (a, h, s)) : endAcc st l = fun x => if x = l.owner then some (a, h, s - l.amount) else st.acc x := by
  funext x; unfold endAcc
  by_cases e : x = l.owner
  · rw [if_pos e, if_pos e, e, ha]; rfl
  · rw [if_neg e, if_neg e]
theorem endAcc_none {st : BookSt} {l : Lea} (ha : st.acc l.owner = none) : endAcc st l = st.acc := by
  funext x; unfold endAcc
  by_cases e : x = l.owner
  · rw [if_pos e, e, ha]; rfl
  · rw [if_neg e]

/-- The total has turned. -/
theorem BookMem.totalTo {w W : World} {F : Nat → Prop} {p : Nat} {st : BookSt} {N mb : Nat} {blk : Int → Option Nat} {lv ev : Value} {D : DataW Unit} (h : BookMem w F p st N mb blk lv ev D) (t : Int)
    (hp : W.heap[p]? = some (.cells (bookCells { st with total := t } mb lv ev) 39 (0, 0))) (hk : ∀ k, k < w.heap.size → k ≠ p → W.heap[k]? = w.heap[k]?) :
    BookMem W F p { st with total := t } N mb blk lv ev D :=
  h.turn _ hp (fun o b hb => by
    obtain ⟨l, x, s, h1, h2, _⟩ := h.asome o b hb
    exact ⟨l, x, s, h1, (hk b (lt_of h2) (by rintro rfl; rw [h.self] at h2; simp [bookCells] at h2)).trans h2⟩) (fun o => Iff.rfl) rfl rfl (fun k h1 h2 _ => hk k h1 h2)

set_option maxHeartbeats 8000000 in
set_option maxRecDepth 100000 in
theorem end_some (p : Nat) (no : Int) (w : World) (F : Nat → Prop) (st : BookSt) (N : Nat) (hb : BookAt w F p st N) (g : GoodE st) (i : Nat) (hf : findL no st.leases = some i) (l : Lea) (hl : st.leases[i]? = some l) :
    Calls Tryz.prog 32 #[.pointer (some ⟨p, 0, none⟩), .int .i64 no] w (OpPost 0 F p (({ st with total := st.total - l.amount, leases := st.leases.eraseIdx i, acc := endAcc st l } : BookSt).note ⟨10, 0, 0, 0, no, 0⟩) N w) := by
  have hlen := g.leaLen
  have hi := findL_lt hf
  have C := find_any p no w F st N hb (by omega)
  rw [show findV st no = i by unfold findV; rw [hf]] at C
  have HC := Lib.hid C
  have HBK := Lib.hid hb
  obtain ⟨q1, q2, q3, q4⟩ := g.lea l (List.mem_of_getElem? hl)
  have t0 := g.tot0
  have t1 := g.totb
  have t2 := g.bud
  have GE := g.ents
  have GO := Lib.hid (fun a h s (ha : st.acc l.owner = some (a, h, s)) => And.intro (g.own l.owner a h s ha) (leasedOf_ge (o := l.owner) (fun x hx => (g.lea x hx).2.2.1.1) (List.mem_of_getElem? hl) rfl))
  have HL := Lib.hid hl
  obtain ⟨l1, l2, l3, l4⟩ := l
  simp only at q1 q2 q3 q4
  clear C g hf hb hl
  go_enter Tryz.func32, Tryz.ntmps32
  go_wp2_with fail
  refine HC.out.mono ?_
  rintro e w1 ⟨rfl, hb1⟩
  have HB1 := Lib.hid hb1
  clear hb1
  obtain ⟨mb, blk, lv, ev, D, hm⟩ := HBK.out.same (Below.same_on HB1.out)
  obtain ⟨gb, cap, cur, hlv, _, hg, hn, hcm, hs, ht, hc⟩ := lrow_open hm.lrow (by omega)
  have hgp : gb ≠ p := by rintro rfl; rw [hm.self] at hg; simp [bookCells] at hg
  subst hlv
  have c5 : w1.cell? ⟨p, 5, none⟩ = some (.slice (some ⟨gb, 0, none⟩) st.leases.length cap) := by rw [cell_of hm.self]; rfl
  have g0 : w1.cell? ⟨gb, i * 4, none⟩ = some (.int .i64 l1) := (hc i _ HL.out 0 (by omega)).trans rfl
  have g1 : w1.cell? ⟨gb, i * 4 + 1, none⟩ = some (.int .i64 l2) := (hc i _ HL.out 1 (by omega)).trans rfl
  have g2 : w1.cell? ⟨gb, i * 4 + 2, none⟩ = some (.int .i64 l3) := (hc i _ HL.out 2 (by omega)).trans rfl
  have g3 : w1.cell? ⟨gb, i * 4 + 3, none⟩ = some (.int .i64 l4) := (hc i _ HL.out 3 (by omega)).trans rfl
  have B2 : Below w1.heap.size w1 (w1.alloc (.cells #[.int .i64 l1, .int .i64 l2, .int .i64 l3, .int .i64 l4] 88)) := (Below.refl _ _).alloc (Nat.le_refl _) _
  have hm2 := hm.same (Below.same_on B2)
  have c5' : (w1.alloc (.cells #[.int .i64 l1, .int .i64 l2, .int .i64 l3, .int .i64 l4] 88)).cell? ⟨p, 5, none⟩ = some (.slice (some ⟨gb, 0, none⟩) st.leases.length cap) := by rw [cell_of hm2.self]; rfl
  have DD := Lib.hid (delete_lea gb cap cur i (i + 1) st.leases (w1.alloc (.cells #[.int .i64 l1, .int .i64 l2, .int .i64 l3, .int .i64 l4] 88)) ((B2.block gb (lt_of hg)).trans hg) hn hcm hs ht hi rfl (by omega))
  have HM2 := Lib.hid hm2
  have HLB := Lib.hid (heap_alloc_new w1 (.cells #[.int .i64 l1, .int .i64 l2, .int .i64 l3, .int .i64 l4] 88))
  have T2 := Lib.hid (Touch.of_below (F := F) (HB1.out.trans (B2.mono HB1.out.size)))
  have hgl := lt_of hg
  have hpl := lt_of hm.self
  have HS1 := Lib.hid HB1.out.size
  clear hm hm2 hg hs ht hc B2
  go_upto_region 5 with fail
  generalize hW2 : w1.alloc (.cells #[.int .i64 l1, .int .i64 l2, .int .i64 l3, .int .i64 l4] 88) = W2 at *
  have v5 : ∀ w3 : World, w3.heap[p]? = some (.cells (bookCells st mb (.slice (some ⟨gb, 0, none⟩) st.leases.length cap) ev) 39 (0, 0)) → w3.cell? ⟨p, 5, none⟩ = some (.slice (some ⟨gb, 0, none⟩) st.leases.length cap) ∧ w3.frozen? ⟨p, 5, none⟩ = false := fun w3 h => ⟨(cell_of h 5).trans rfl, free_of h 5⟩
  have V5 := Lib.hid v5
  have hW2s : w1.heap.size < W2.heap.size := by rw [← hW2]; simp
  clear v5 c5 g0 g1 g2 g3
  go_wp2_with fail
  refine DD.out.mono ?_
  rintro e w3 ⟨rfl, hrow, htd, hsz⟩
  have hp3 := (htd.block p (by omega) (Ne.symm hgp)).trans HM2.out.self
  have hl3 := (htd.block w1.heap.size (by omega) (by omega)).trans HLB.out
  have d5 := (V5.out w3 hp3).1
  have f5 := (V5.out w3 hp3).2
  have hpc : w1.heap.size ≠ p := by omega
  have HM3 := Lib.hid (HM2.out.leasesTo (W := w3.setCell ⟨p, 5, none⟩ (.slice (some ⟨gb, 0, none⟩) (st.leases.length - 1) cap)) (.slice (some ⟨gb, 0, none⟩) (st.leases.length - 1) cap) (st.leases.eraseIdx i)
    (by rw [block_setCell hp3]; rfl) (fun k h1 h2 h3 => (Below.heap_setCell _ _ _ k h2).trans (htd.block k h1 (fun e => h3 (by subst e; rfl))))
    (by
      have := ownsRow_setCell_other hrow (a := ⟨p, 5, none⟩) (by simp [Value.ownBlock]; exact hgp) (.slice (some ⟨gb, 0, none⟩) (st.leases.length - 1) cap)
      rw [List.length_eraseIdx_of_lt hi]; exact this) (fun k hk => Or.inl (HM2.out.flea k hk)))
  have T3 := Lib.hid ((T2.out.trans htd (fun k hk => Or.inl (hk ▸ HM2.out.flea gb rfl))).setCell (p := ⟨p, 5, none⟩) (Or.inl HM2.out.fp) (.slice (some ⟨gb, 0, none⟩) (st.leases.length - 1) cap))
  have HL3 := Lib.hid ((Below.heap_setCell w3 ⟨p, 5, none⟩ (.slice (some ⟨gb, 0, none⟩) (st.leases.length - 1) cap) _ hpc).trans hl3)
  have hsz3 : w.heap.size ≤ W2.heap.size := T2.out.size
  have HW2 := Lib.hid hsz3
  clear hrow htd hsz hp3 hl3 DD V5 hW2 hsz3
  go_upto_region 6 with fail
  generalize hLB : w1.heap.size = lb at *
  generalize hW3 : w3.setCell ⟨p, 5, none⟩ (.slice (some ⟨gb, 0, none⟩) (st.leases.length - 1) cap) = W3 at *
  have c4 : W3.cell? ⟨p, 4, none⟩ = some (.map (some mb)) := by rw [cell_of HM3.out.self]; rfl
  have e1 : W3.cell? ⟨lb, 1, none⟩ = some (.int .i64 l2) := by rw [cell_of HL3.out]; rfl
  have LK := book_lookup (HM3.out.same (w' := W3.drew) (fun k _ _ => rfl)) l2 q2
  cases ha : st.acc l2 with
  | none =>
    have hbn : blk l2 = none := HM3.out.lost ha
    rw [hbn] at LK
    unfold ptrOf at LK
    have HE := Lib.hid (endAcc_none (l := ⟨l1, l2, l3, l4⟩) ha)
    clear d5 f5
    go_region
    have HM4 := Lib.hid (HM3.out.same (w' := W3.drew) (fun k _ _ => rfl))
    have HL4 := Lib.hid (show W3.drew.heap[lb]? = _ from HL3.out)
    have T4 := Lib.hid T3.out.drew
    clear LK c4 e1 hW3 HM3 HL3
    generalize hW4 : W3.drew = W4 at *
    clear hW4
    go_upto_region 9 with fail
    have c1 : W4.cell? ⟨p, 1, none⟩ = some (.int .i64 st.total) := by rw [cell_of HM4.out.self]; rfl
    have e2 : W4.cell? ⟨lb, 2, none⟩ = some (.int .i64 l3) := by rw [cell_of HL4.out]; rfl
    go_still_tail 9, (by kernel_rfl)
    change wpList _ _ _ _ _ W4.drew
    have HM5 := Lib.hid (HM4.out.same (w' := W4.drew) (fun k _ _ => rfl))
    have T5 := Lib.hid T4.out.drew
    clear c1 e2 HM4 HL4 T4
    generalize hW5 : W4.drew = W5 at *
    clear hW5
    have c1 : W5.cell? ⟨p, 1, none⟩ = some (.int .i64 st.total) := by rw [cell_of HM5.out.self]; rfl
    have f1 : W5.frozen? ⟨p, 1, none⟩ = false := free_of HM5.out.self 1
    have hm6 := HM5.out.totalTo (W := W5.setCell ⟨p, 1, none⟩ (.int .i64 (st.total - l3))) (st.total - l3) (by rw [block_setCell HM5.out.self]; rfl) (fun k _ h2 => Below.heap_setCell _ _ _ k h2)
    have NT := Lib.hid (note_any p ⟨10, 0, 0, 0, no, 0⟩ _ _ _ N ⟨mb, blk, _, ev, D, hm6⟩ GE)
    have T6 := Lib.hid (T5.out.setCell (p := ⟨p, 1, none⟩) (HM5.out.fp.imp id (fun x => Nat.le_trans HW2.out x)) (.int .i64 (st.total - l3)))
    clear hm6
    go_wp2_with fail
    refine NT.out.mono ?_
    rintro e w7 ⟨rfl, hb7, ht7⟩
    have HP := Lib.hid (OpPost.mk (err := 0) (F := F) (w := w) T6.out ht7 hb7 (fun k hk => hk.imp id (fun x => Nat.le_trans HW2.out x)))
    clear hb7 ht7
    go_wp2_with fail
    go_ret
    have h := HP.out
    rw [HE.out]
    exact h
  | some acc3 =>
    obtain ⟨a, h, s⟩ := acc3
    obtain ⟨b, hbk, hblk, hFb, hpb⟩ := HM3.out.found ha
    rw [hbk] at LK
    unfold ptrOf at LK
    have HE := Lib.hid (endAcc_some (l := ⟨l1, l2, l3, l4⟩) ha)
    obtain ⟨⟨o1, o2, o3, o4, o5⟩, o6⟩ := GO.out a h s ha
    rw [← o5] at o6
    have hblb : b ≠ lb := by
      rintro rfl
      rw [HL3.out] at hblk
      simp at hblk
    clear d5 f5 o1 o5
    go_region
    have HM4 := Lib.hid (HM3.out.same (w' := W3.drew) (fun k _ _ => rfl))
    have HL4 := Lib.hid (show W3.drew.heap[lb]? = _ from HL3.out)
    have HA4 := Lib.hid (show W3.drew.heap[b]? = _ from hblk)
    have T4 := Lib.hid T3.out.drew
    clear LK c4 e1 hW3 HM3 HL3 hblk
    generalize hW4 : W3.drew = W4 at *
    clear hW4
    go_upto_region 8 with fail
    have c1 : W4.cell? ⟨b, 2, none⟩ = some (.int .i64 s) := by rw [cell_of HA4.out]; rfl
    have e2 : W4.cell? ⟨lb, 2, none⟩ = some (.int .i64 l3) := by rw [cell_of HL4.out]; rfl
    go_still_tail 9, (by kernel_rfl)
    change wpList _ _ _ _ _ W4.drew
    have HM5 := Lib.hid (HM4.out.same (w' := W4.drew) (fun k _ _ => rfl))
    have HL5 := Lib.hid (show W4.drew.heap[lb]? = _ from HL4.out)
    have HA5 := Lib.hid (show W4.drew.heap[b]? = _ from HA4.out)
    have T5 := Lib.hid T4.out.drew
    clear c1 e2 HM4 HL4 HA4 T4
    generalize hW5 : W4.drew = W5 at *
    clear hW5
    have c1 : W5.cell? ⟨b, 2, none⟩ = some (.int .i64 s) := by rw [cell_of HA5.out]; rfl
    have f1 : W5.frozen? ⟨b, 2, none⟩ = false := free_of HA5.out 2
    have HM6 := Lib.hid (HM5.out.acct (W := W5.setCell ⟨b, 2, none⟩ (.int .i64 (s - l3))) hbk a h (s - l3) { st with leases := st.leases.eraseIdx i, acc := fun x => if x = l2 then some (a, h, s - l3) else st.acc x } rfl rfl rfl
      ((Below.heap_setCell _ _ _ p (Ne.symm hpb)).trans HM5.out.self) (by rw [block_setCell HA5.out]; rfl) (fun k _ _ h3 => Below.heap_setCell _ _ _ k h3))
    have HL6 := Lib.hid ((Below.heap_setCell W5 ⟨b, 2, none⟩ (.int .i64 (s - l3)) lb (Ne.symm hblb)).trans HL5.out)
    have T6 := Lib.hid (T5.out.setCell (p := ⟨b, 2, none⟩) (hFb.imp id (fun x => Nat.le_trans HW2.out x)) (.int .i64 (s - l3)))
    go_upto_region 9 with fail
    clear c1 f1 HM5 HL5 HA5 T5
    generalize hW6 : W5.setCell ⟨b, 2, none⟩ (.int .i64 (s - l3)) = W6 at *
    clear hW6
    have c1 : W6.cell? ⟨p, 1, none⟩ = some (.int .i64 st.total) := by rw [cell_of HM6.out.self]; rfl
    have e2 : W6.cell? ⟨lb, 2, none⟩ = some (.int .i64 l3) := by rw [cell_of HL6.out]; rfl
    go_still_tail 9, (by kernel_rfl)
    change wpList _ _ _ _ _ W6.drew
    have HM7 := Lib.hid (HM6.out.same (w' := W6.drew) (fun k _ _ => rfl))
    have T7 := Lib.hid T6.out.drew
    clear c1 e2 HM6 HL6 T6
    generalize hW7 : W6.drew = W7 at *
    clear hW7
    have c1 : W7.cell? ⟨p, 1, none⟩ = some (.int .i64 st.total) := by rw [cell_of HM7.out.self]; rfl
    have f1 : W7.frozen? ⟨p, 1, none⟩ = false := free_of HM7.out.self 1
    have hm8 := HM7.out.totalTo (W := W7.setCell ⟨p, 1, none⟩ (.int .i64 (st.total - l3))) (st.total - l3) (by rw [block_setCell HM7.out.self]; rfl) (fun k _ h2 => Below.heap_setCell _ _ _ k h2)
    have NT := Lib.hid (note_any p ⟨10, 0, 0, 0, no, 0⟩ _ _ _ N ⟨mb, blk, _, ev, D, hm8⟩ GE)
    have T8 := Lib.hid (T7.out.setCell (p := ⟨p, 1, none⟩) (HM7.out.fp.imp id (fun x => Nat.le_trans HW2.out x)) (.int .i64 (st.total - l3)))
    clear hm8
    go_wp2_with fail
    refine NT.out.mono ?_
    rintro e w7 ⟨rfl, hb7, ht7⟩
    have HP := Lib.hid (OpPost.mk (err := 0) (F := F) (w := w) T8.out ht7 hb7 (fun k hk => hk.imp id (fun x => Nat.le_trans HW2.out x)))
    clear hb7 ht7
    go_wp2_with fail
    go_ret
    have h := HP.out
    rw [HE.out]
    exact h

theorem end_all (p : Nat) (no : Int) (w : World) (F : Nat → Prop) (st : BookSt) (N : Nat) (hb : BookAt w F p st N) (g : GoodE st) :
    Calls Tryz.prog 32 #[.pointer (some ⟨p, 0, none⟩), .int .i64 no] w (OpPost (endR st no).1 F p (endR st no).2 N w) := by
  cases hf : findL no st.leases with
  | none =>
    have := end_none p no w F st N hb g hf
    unfold endR
    rw [hf]
    exact this
  | some i =>
    obtain ⟨l, hl, _⟩ := findL_some hf
    have := end_some p no w F st N hb g i hf l hl
    unfold endR
    rw [hf]
    simp only
    rw [hl]
    exact this

end Go.Proofs.YtljjndifmfhffaaGreatDoor
