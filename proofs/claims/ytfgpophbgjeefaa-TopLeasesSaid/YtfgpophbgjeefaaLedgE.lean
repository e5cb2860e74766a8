/-
  The book's Renew and Lease: what they give. No conditions but those of the book's own state.
-/
import Derived.Test.YtfgpophbgjeefaaLedgD
namespace Go.Proofs.Ytfgpophbgjeefaa
open Go.RowKit
set_option linter.unusedVariables false

theorem findL_lt {no : Int} {ls : List Lea} {i : Nat} (h : findL no ls = some i) : i < ls.length := by
  obtain ⟨l, h1, _⟩ := findL_some h
  exact (List.getElem?_eq_some_iff.1 h1).1
theorem setUntl_cells (u : Int) : ∀ (i : Nat) (ls : List Lea), (ls.flatMap Lea.cells).set (i * 4 + 3) (.int .i64 u) = (setUntl u i ls).flatMap Lea.cells
  | _, [] => by cases ‹Nat› <;> simp [setUntl]
  | 0, x :: ls => by simp [Lea.cells, setUntl]
  | i + 1, x :: ls => by
    rw [List.flatMap_cons, List.set_append_right _ _ (by simp [Lea.cells]; omega), setUntl, List.flatMap_cons, ← setUntl_cells u i ls]
    congr 2
    simp [Lea.cells]; omega

theorem ownsRow_set {w : World} {B e size n g cap : Nat} {xs : List Value} (h : w.ownsRow B e size (.slice (some ⟨g, 0, none⟩) n cap) n xs) (j : Nat) (hj : j < n * size) (u : Value) : (w.setCell ⟨g, j, none⟩ u).ownsRow B e size (.slice (some ⟨g, 0, none⟩) n cap) n (xs.set j u) := by
  refine ⟨by rw [List.length_set]; exact h.1, ?_⟩
  rcases h.2 with ⟨h1, h2⟩ | ⟨g', cap', cur, h1, hb, hg, hn, hm, hs, ht⟩
  · cases h1
  · simp only [Value.slice.injEq, Option.some.injEq, Addr.mk.injEq, and_true] at h1
    obtain ⟨rfl, _, rfl⟩ := h1
    refine Or.inr ⟨g, cap, cur.setIfInBounds j u, rfl, hb, block_setCell hg j u, hn, hm, by simpa using hs, ?_⟩
    rw [Array.toList_setIfInBounds, List.take_set, ht]

theorem untilE_vals (st : BookSt) (u : Int) : untilE st u = 0 ∨ untilE st u = 2 ∨ untilE st u = 5 := by
  unfold untilE
  by_cases h : 0 ≤ u ∧ u ≤ 1000000
  · rw [if_pos h]; split <;> simp
  · rw [if_neg h]; simp

set_option maxHeartbeats 2000000 in
set_option maxRecDepth 100000 in
theorem renew_none (p : Nat) (no u : Int) (w : World) (F : Nat → Prop) (st : BookSt) (N : Nat) (hb : BookAt w F p st N) (g : Good st) (hf : findL no st.leases = none) :
    Calls Try.prog 49 #[.pointer (some ⟨p, 0, none⟩), .int .i64 no, .int .i64 u] w (OpPost 13 F p st N w) := by
  have C := find_any p no w F st N hb (by have := g.leaLen; omega)
  rw [show findV st no = -1 by unfold findV; rw [hf]] at C
  have HC := Lib.hid C
  have FIN := Lib.hid (fun W (B : Below w.heap.size w W) => bad_fin hb B)
  clear C hb g hf
  go_enter Try.func49, Try.ntmps49
  go_wp2_with fail
  refine HC.out.mono ?_
  rintro e w' ⟨rfl, hb1⟩
  have HB1 := Lib.hid hb1
  clear hb1
  go_wp2_with fail
  go_ret
  exact ⟨rfl, (FIN.out _ HB1.out).1, (FIN.out _ HB1.out).2⟩

set_option maxHeartbeats 2000000 in
set_option maxRecDepth 100000 in
theorem renew_some (p : Nat) (no u : Int) (w : World) (F : Nat → Prop) (st : BookSt) (N : Nat) (hb : BookAt w F p st N) (g : Good st) (i : Nat) (hf : findL no st.leases = some i) :
    Calls Try.prog 49 #[.pointer (some ⟨p, 0, none⟩), .int .i64 no, .int .i64 u] w (OpPost (renewR st no u).1 F p (renewR st no u).2 N w) := by
  have hlen := g.leaLen
  have hi := findL_lt hf
  have C := find_any p no w F st N hb (by omega)
  rw [show findV st no = i by unfold findV; rw [hf]] at C
  have HC := Lib.hid C
  have FIN := Lib.hid (fun W (B : Below w.heap.size w W) => bad_fin hb B)
  have HU := Lib.hid (fun W (B : Below w.heap.size w W) => until_any p u W F st N (hb.same (Below.same_on B)))
  have HBK := Lib.hid hb
  have hren : renewR st no u = if untilE st u = 0 then (0, ({ st with leases := setUntl u i st.leases } : BookSt).note ⟨9, 0, 0, 0, no, u⟩) else (untilE st u, st) := by unfold renewR; rw [hf]
  rw [hren]
  have hval := untilE_vals st u
  generalize untilE st u = ue at *
  have GE := g.ents
  clear C g hf hren hb
  by_cases h0 : ue = 0
  · subst h0
    rw [if_pos rfl]
    clear hval
    go_enter Try.func49, Try.ntmps49
    go_wp2_with fail
    refine HC.out.mono ?_
    rintro e w1 ⟨rfl, hb1⟩
    have HB1 := Lib.hid hb1
    clear hb1
    go_wp2_with fail
    refine (HU.out _ HB1.out).mono ?_
    rintro e w2 ⟨rfl, rfl⟩
    obtain ⟨mb, blk, lv, ev, D, hm⟩ := HBK.out.same (Below.same_on HB1.out)
    obtain ⟨gb, cap, cur, hlv, _, hg, hn, hcm, hs, ht, hc⟩ := lrow_open hm.lrow (by omega)
    have hgp : gb ≠ p := by rintro rfl; rw [hm.self] at hg; simp [bookCells] at hg
    subst hlv
    have c5 : w1.cell? ⟨p, 5, none⟩ = some (.slice (some ⟨gb, 0, none⟩) st.leases.length cap) := by rw [cell_of hm.self]; rfl
    obtain ⟨l, hl⟩ : ∃ l, st.leases[i]? = some l := ⟨_, List.getElem?_eq_getElem hi⟩
    have c3 : w1.cell? ⟨gb, i * 4 + 3, none⟩ = some (.int .i64 l.untl) := by rw [hc i l hl 3 (by omega)]; rfl
    have f3 : w1.frozen? ⟨gb, i * 4 + 3, none⟩ = false := free_of hg _
    have hm2 := hm.leasesTo (W := w1.setCell ⟨gb, i * 4 + 3, none⟩ (.int .i64 u)) (.slice (some ⟨gb, 0, none⟩) st.leases.length cap) (setUntl u i st.leases)
      ((Below.heap_setCell _ _ _ p (Ne.symm hgp)).trans hm.self) (fun k h1 h2 h3 => Below.heap_setCell _ _ _ k (fun e => h3 (by subst e; rfl)))
      (by have := ownsRow_set hm.lrow (i * 4 + 3) (by omega) (.int .i64 u); rw [setUntl_cells] at this; rw [setUntl_len]; exact this) (fun k hk => Or.inl (hm.flea k hk))
    have NT := Lib.hid (note_any p ⟨9, 0, 0, 0, no, u⟩ _ _ _ N ⟨mb, blk, _, ev, D, hm2⟩ GE)
    have TT := Lib.hid ((Touch.of_below (F := F) HB1.out).setCell (p := ⟨gb, i * 4 + 3, none⟩) (Or.inl (hm.flea gb rfl)) (.int .i64 u))
    have HS := Lib.hid HB1.out.size
    clear hm hm2 hg ht hs hc hl
    go_wp2_with fail
    refine NT.out.mono ?_
    rintro e w3 ⟨rfl, hb3, ht3⟩
    have HP := Lib.hid (OpPost.mk (err := 0) (F := F) (w := w) TT.out ht3 hb3 (fun k hk => hk.imp id (fun x => Nat.le_trans HS.out x)))
    clear hb3 ht3
    go_wp2_with fail
    go_ret
    exact HP.out
  · rw [if_neg h0]
    rcases hval with h | rfl | rfl
    · exact absurd h h0
    all_goals
      clear h0
      go_enter Try.func49, Try.ntmps49
      go_wp2_with fail
      refine HC.out.mono ?_
      rintro e w1 ⟨rfl, hb1⟩
      have HB1 := Lib.hid hb1
      clear hb1
      go_wp2_with fail
      refine (HU.out _ HB1.out).mono ?_
      rintro e w2 ⟨rfl, rfl⟩
      go_wp2_with fail
      go_ret
      exact ⟨rfl, (FIN.out _ HB1.out).1, (FIN.out _ HB1.out).2⟩
theorem renew_all (p : Nat) (no u : Int) (w : World) (F : Nat → Prop) (st : BookSt) (N : Nat) (hb : BookAt w F p st N) (g : Good st) :
    Calls Try.prog 49 #[.pointer (some ⟨p, 0, none⟩), .int .i64 no, .int .i64 u] w (OpPost (renewR st no u).1 F p (renewR st no u).2 N w) := by
  cases hf : findL no st.leases with
  | none =>
    have := renew_none p no u w F st N hb g hf
    unfold renewR
    rw [hf]
    exact this
  | some i => exact renew_some p no u w F st N hb g i hf

end Go.Proofs.Ytfgpophbgjeefaa
