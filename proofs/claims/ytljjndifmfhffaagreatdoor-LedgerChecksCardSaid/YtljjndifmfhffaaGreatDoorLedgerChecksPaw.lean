/-
  The book's calls on accounts: what they give, whatever comes. No conditions but those of the book's own state.
-/
import Derived.Test.YtljjndifmfhffaaGreatDoorLedgerChecksPav
namespace Go.Proofs.YtljjndifmfhffaaGreatDoor
open Go.RowKit
set_option linter.unusedVariables false

/-- An account that is not found. -/
def BadAcc (st : BookSt) (o : Int) (nums : List Int) (e : Int) : Prop := (chkE o nums = 2 ∧ e = 2) ∨ (chkE o nums = 0 ∧ st.acc o = none ∧ e = 7)
theorem BadAcc.vals {st : BookSt} {o : Int} {nums : List Int} {e : Int} (h : BadAcc st o nums e) : e = 2 ∨ e = 7 := h.elim (fun x => Or.inl x.2) (fun x => Or.inr x.2.2)
theorem account_bad (p : Nat) (o : Int) (v : Value) (nums : List Int) (w : World) (F : Nat → Prop) (st : BookSt) (N : Nat) (hr : Reads w .i64 v nums) (hb : BookAt w F p st N) (e : Int) (he : BadAcc st o nums e) :
    Calls Tryz.prog 53 #[.pointer (some ⟨p, 0, none⟩), .int .i64 o, v] w (AccPost none e w) := by
  obtain ⟨mb, blk, lv, ev, D, hm⟩ := hb
  rcases he with ⟨h1, rfl⟩ | ⟨h1, h2, rfl⟩
  · exact account_err p o v nums w hr (by rw [h1]; decide)
  · have := account_any p o v nums w F st N mb blk lv ev D hr h1 hm
    rw [(hm.anone o).2 h2] at this
    simpa using this
theorem bad_fin {w W : World} {F : Nat → Prop} {p : Nat} {st : BookSt} {N : Nat} (hb : BookAt w F p st N) (B : Below w.heap.size w W) : BookAt W (fun k => F k ∨ w.heap.size ≤ k) p st N ∧ Touch F w W :=
  ⟨(hb.same (Below.same_on B)).wider (fun k hk => Or.inl hk), Touch.of_below B⟩
theorem BookAt.more {w : World} {F : Nat → Prop} {p : Nat} {st : BookSt} {N : Nat} (hb : BookAt w F p st N) {M : Nat} (h : N ≤ M) : BookAt w F p st M := by
  obtain ⟨mb, blk, lv, ev, D, hm⟩ := hb
  exact ⟨mb, blk, lv, ev, D, hm.self, hm.fp, hm.map.mono h, hm.fmap, hm.look, hm.anone, hm.asome, hm.inj, hm.lrow, hm.flea, hm.erow, hm.fent⟩
theorem OpPost.more {err : Int} {F : Nat → Prop} {p : Nat} {st : BookSt} {N M : Nat} {w w' : World} {e : Ending} (h : N ≤ M) (hp : OpPost err F p st N w e w') : OpPost err F p st M w e w' := ⟨hp.1, hp.2.1.more h, hp.2.2⟩

set_option maxHeartbeats 1000000 in
set_option maxRecDepth 100000 in
theorem shut_err (p : Nat) (o : Int) (w : World) (F : Nat → Prop) (st : BookSt) (N : Nat) (hb : BookAt w F p st N) (e : Int) (he : BadAcc st o [] e) :
    Calls Tryz.prog 24 #[.pointer (some ⟨p, 0, none⟩), .int .i64 o] w (OpPost e F p st N w) := by
  have B1 : Below w.heap.size w w := Below.refl _ _
  have HC := Lib.hid (account_bad p o _ [] w F st N (reads_nil w) (hb.same (Below.same_on B1)) e he)
  have FIN := Lib.hid (bad_fin hb B1)
  have hv := he.vals
  clear he hb B1
  rcases hv with rfl | rfl
  all_goals
    go_enter Tryz.func24, Tryz.ntmps24
    go_wp2_with fail
    refine HC.out.mono ?_
    rintro e w' ⟨rfl, rfl⟩
    go_wp2_with fail
    go_ret
    exact ⟨rfl, FIN.out.1, FIN.out.2⟩

set_option maxHeartbeats 1000000 in
set_option maxRecDepth 100000 in
theorem take_err (p : Nat) (o n : Int) (w : World) (F : Nat → Prop) (st : BookSt) (N : Nat) (hb : BookAt w F p st N) (e : Int) (he : BadAcc st o [n] e) :
    Calls Tryz.prog 25 #[.pointer (some ⟨p, 0, none⟩), .int .i64 o, .int .i64 n] w (OpPost e F p st N w) := by
  have B1 : Below w.heap.size w (w.alloc (.cells #[.int .i64 n] 3)) := (Below.refl _ _).alloc (Nat.le_refl _) _
  have HC := Lib.hid (account_bad p o _ [n] (w.alloc (.cells #[.int .i64 n] 3)) F st N (reads_one w n 3) (hb.same (Below.same_on B1)) e he)
  have FIN := Lib.hid (bad_fin hb B1)
  have hv := he.vals
  clear he hb B1
  rcases hv with rfl | rfl
  all_goals
    go_enter Tryz.func25, Tryz.ntmps25
    go_wp2_with fail
    refine HC.out.mono ?_
    rintro e w' ⟨rfl, rfl⟩
    go_wp2_with fail
    go_ret
    exact ⟨rfl, FIN.out.1, FIN.out.2⟩

set_option maxHeartbeats 1000000 in
set_option maxRecDepth 100000 in
theorem give_err (p : Nat) (o n : Int) (w : World) (F : Nat → Prop) (st : BookSt) (N : Nat) (hb : BookAt w F p st N) (e : Int) (he : BadAcc st o [n] e) :
    Calls Tryz.prog 26 #[.pointer (some ⟨p, 0, none⟩), .int .i64 o, .int .i64 n] w (OpPost e F p st N w) := by
  have B1 : Below w.heap.size w (w.alloc (.cells #[.int .i64 n] 3)) := (Below.refl _ _).alloc (Nat.le_refl _) _
  have HC := Lib.hid (account_bad p o _ [n] (w.alloc (.cells #[.int .i64 n] 3)) F st N (reads_one w n 3) (hb.same (Below.same_on B1)) e he)
  have FIN := Lib.hid (bad_fin hb B1)
  have hv := he.vals
  clear he hb B1
  rcases hv with rfl | rfl
  all_goals
    go_enter Tryz.func26, Tryz.ntmps26
    go_wp2_with fail
    refine HC.out.mono ?_
    rintro e w' ⟨rfl, rfl⟩
    go_wp2_with fail
    go_ret
    exact ⟨rfl, FIN.out.1, FIN.out.2⟩

set_option maxHeartbeats 1000000 in
set_option maxRecDepth 100000 in
theorem limit_err (p : Nat) (o n : Int) (w : World) (F : Nat → Prop) (st : BookSt) (N : Nat) (hb : BookAt w F p st N) (e : Int) (he : BadAcc st o [n] e) :
    Calls Tryz.prog 28 #[.pointer (some ⟨p, 0, none⟩), .int .i64 o, .int .i64 n] w (OpPost e F p st N w) := by
  have B1 : Below w.heap.size w (w.alloc (.cells #[.int .i64 n] 3)) := (Below.refl _ _).alloc (Nat.le_refl _) _
  have HC := Lib.hid (account_bad p o _ [n] (w.alloc (.cells #[.int .i64 n] 3)) F st N (reads_one w n 3) (hb.same (Below.same_on B1)) e he)
  have FIN := Lib.hid (bad_fin hb B1)
  have hv := he.vals
  clear he hb B1
  rcases hv with rfl | rfl
  all_goals
    go_enter Tryz.func28, Tryz.ntmps28
    go_wp2_with fail
    refine HC.out.mono ?_
    rintro e w' ⟨rfl, rfl⟩
    go_wp2_with fail
    go_ret
    exact ⟨rfl, FIN.out.1, FIN.out.2⟩

theorem take_all (p : Nat) (o n : Int) (w : World) (F : Nat → Prop) (st : BookSt) (N : Nat) (hb : BookAt w F p st N) (g : Good st) :
    Calls Tryz.prog 25 #[.pointer (some ⟨p, 0, none⟩), .int .i64 o, .int .i64 n] w (OpPost (takeR st o n).1 F p (takeR st o n).2 N w) := by
  unfold takeR
  rcases chkE_vals o [n] with hc | hc
  · rw [if_pos hc]
    cases ha : st.acc o with
    | none => exact take_err p o n w F st N hb 7 (Or.inr ⟨hc, ha, rfl⟩)
    | some a =>
      obtain ⟨l, h, s⟩ := a
      obtain ⟨a1, a2, a3, a4, a5⟩ := g.own o l h s ha
      have h1 := g.s0 ha
      have h2 := g.tot0
      have h3 := g.totb
      have h4 := g.bud
      have h5 := (chkE_zero hc).2 n (by simp)
      exact take_any p o n l h s w F st N hb ha a1 h5 (by omega) (by omega) (by omega) (by omega) (by omega) g.ents
  · rw [if_neg (by rw [hc]; decide)]
    exact take_err p o n w F st N hb 2 (Or.inl ⟨hc, rfl⟩)
theorem give_all (p : Nat) (o n : Int) (w : World) (F : Nat → Prop) (st : BookSt) (N : Nat) (hb : BookAt w F p st N) (g : Good st) :
    Calls Tryz.prog 26 #[.pointer (some ⟨p, 0, none⟩), .int .i64 o, .int .i64 n] w (OpPost (giveR st o n).1 F p (giveR st o n).2 N w) := by
  unfold giveR
  rcases chkE_vals o [n] with hc | hc
  · rw [if_pos hc]
    cases ha : st.acc o with
    | none => exact give_err p o n w F st N hb 7 (Or.inr ⟨hc, ha, rfl⟩)
    | some a =>
      obtain ⟨l, h, s⟩ := a
      obtain ⟨a1, a2, a3, a4, a5⟩ := g.own o l h s ha
      have h1 := g.s0 ha
      have h2 := g.tot0
      have h3 := g.totb
      have h4 := g.bud
      have h5 := (chkE_zero hc).2 n (by simp)
      exact give_any p o n l h s w F st N hb ha a1 h5 (by omega) (by omega) g.ents
  · rw [if_neg (by rw [hc]; decide)]
    exact give_err p o n w F st N hb 2 (Or.inl ⟨hc, rfl⟩)

/-! Open. -/
set_option maxHeartbeats 1000000 in
set_option maxRecDepth 100000 in
theorem open_bad (p : Nat) (o l : Int) (w : World) (F : Nat → Prop) (st : BookSt) (N : Nat) (hb : BookAt w F p st N) (hc : chkE o [l] = 2) :
    Calls Tryz.prog 23 #[.pointer (some ⟨p, 0, none⟩), .int .i64 o, .int .i64 l] w (OpPost 2 F p st N w) := by
  have B1 : Below w.heap.size w (w.alloc (.cells #[.int .i64 l] 3)) := (Below.refl _ _).alloc (Nat.le_refl _) _
  have C := check_any o _ [l] _ (reads_one w l 3)
  rw [hc] at C
  have HC := Lib.hid C
  have FIN := Lib.hid (bad_fin hb B1)
  clear C hb B1 hc
  go_enter Tryz.func23, Tryz.ntmps23
  go_wp2_with fail
  refine HC.out.mono ?_
  rintro e w' ⟨rfl, rfl⟩
  go_wp2_with fail
  go_ret
  exact ⟨rfl, FIN.out.1, FIN.out.2⟩
set_option maxHeartbeats 1000000 in
set_option maxRecDepth 100000 in
theorem open_twice (p : Nat) (o l : Int) (w : World) (F : Nat → Prop) (st : BookSt) (N : Nat) (hb : BookAt w F p st N) (hc : chkE o [l] = 0) (a : Int × Int × Int) (ha : st.acc o = some a) :
    Calls Tryz.prog 23 #[.pointer (some ⟨p, 0, none⟩), .int .i64 o, .int .i64 l] w (OpPost 6 F p st N w) := by
  have B1 : Below w.heap.size w (w.alloc (.cells #[.int .i64 l] 3)) := (Below.refl _ _).alloc (Nat.le_refl _) _
  have C := check_any o _ [l] _ (reads_one w l 3)
  rw [hc] at C
  have HC := Lib.hid C
  have FIN := Lib.hid (bad_fin hb B1)
  obtain ⟨mb, blk, lv, ev, D, hm⟩ := hb
  have hm1 := hm.same (Below.same_on B1)
  have L := book_lookup hm1 o (chkE_zero hc).1
  obtain ⟨x, y, z⟩ := a
  obtain ⟨b, hbk, _⟩ := hm1.found ha
  rw [hbk] at L
  unfold ptrOf at L
  have c4 : (w.alloc (.cells #[.int .i64 l] 3)).cell? ⟨p, 4, none⟩ = some (.map (some mb)) := by rw [cell_of hm1.self]; rfl
  clear C hm hm1 B1 hc ha hbk
  go_enter Tryz.func23, Tryz.ntmps23
  go_wp2_with fail
  refine HC.out.mono ?_
  rintro e w' ⟨rfl, rfl⟩
  go_wp2_with fail
  go_ret
  exact ⟨rfl, FIN.out.1, FIN.out.2⟩
set_option maxHeartbeats 4000000 in
set_option maxRecDepth 100000 in
theorem open_fresh (p : Nat) (o l : Int) (w : World) (F : Nat → Prop) (st : BookSt) (N : Nat) (hb : BookAt w F p st N) (hn : st.entries.length ≤ 10000) (hN : N < maxLen) (hc : chkE o [l] = 0) (hno : st.acc o = none) :
    Calls Tryz.prog 23 #[.pointer (some ⟨p, 0, none⟩), .int .i64 o, .int .i64 l] w (OpPost 0 F p ((st.put o (some (l, 0, 0))).note ⟨1, o, 0, l, 0, 0⟩) (N + 1) w) := by
  obtain ⟨mb, blk, lv, ev, D, hm⟩ := hb
  have ho := (chkE_zero hc).1
  have hwf : (Lit.int .i64 o).wf = true := WalkArith.wf_i64 (by omega)
  have C := check_any o _ [l] _ (reads_one w l 3)
  rw [hc] at C
  have HC := Lib.hid C
  have hmw := hm.same (Below.same_on (Below.alloc (Below.refl _ w) (Nat.le_refl _) (.cells #[.int .i64 l] 3)))
  have L := book_lookup hmw o ho
  have hbn : blk o = none := (hm.anone o).2 hno
  rw [hbn] at L
  unfold ptrOf at L
  have c4 : (w.alloc (.cells #[.int .i64 l] 3)).cell? ⟨p, 4, none⟩ = some (.map (some mb)) := by rw [cell_of hmw.self]; rfl
  have HM := Lib.hid hm
  have HW := Lib.hid hmw
  have hp := lt_of hm.self
  clear C hm hmw hno ho hc
  go_enter Tryz.func23, Tryz.ntmps23
  go_wp2_with fail
  refine HC.out.mono ?_
  rintro e w' ⟨rfl, rfl⟩
  go_wp2_with (at_mapUpdate; go_must (refine wpList_mapUpdate_own _ rfl _ _ _ 36 rfl 3 79 intKey Tryz.underlying36 ptrElem mb N D rfl (by exact HW.out.map.alloc _) hN (.int .i64 o) (.pointer (some ⟨w.heap.size + 1, 0, none⟩)) (.int .i64 o) rfl rfl (Maps.keyOf_int_mk Tryz.underlying3 hwf) (.lit (.int .i64 (w.heap.size + 1 : Nat))) [] rfl ?_))
  intro w1 hown1 hg1
  have hsz : (w.alloc (.cells #[.int .i64 l] 3)).heap.size = w.heap.size + 1 := by simp
  obtain ⟨h1, h2⟩ := open_mem HW.out o l (by rw [hsz]; exact hown1) hg1
  have NT := Lib.hid (note_any p ⟨1, o, 0, l, 0, 0⟩ w1 _ _ _ ⟨mb, _, lv, ev, _, h1⟩ hn)
  clear hown1 hg1 L c4
  go_wp2_with fail
  refine NT.out.mono ?_
  rintro e w2 ⟨rfl, hb2, ht2⟩
  go_wp2_with fail
  go_ret
  refine ⟨rfl, hb2.wider ?_, ?_⟩
  · intro k hk
    rcases hk with (hk | hk) | hk
    · exact Or.inl hk
    · right; rw [hsz] at hk; omega
    · right; have := h2.size; rw [hsz] at this; omega
  · have t1 : Touch F w w1 := ((Touch.refl F w).alloc _).then h2
    refine t1.trans ht2 ?_
    intro i hi
    rcases hi with hi | hi
    · exact Or.inl hi
    · right; rw [hsz] at hi; omega
theorem open_all (p : Nat) (o l : Int) (w : World) (F : Nat → Prop) (st : BookSt) (N : Nat) (hb : BookAt w F p st N) (g : Good st) (hN : N < maxLen) :
    Calls Tryz.prog 23 #[.pointer (some ⟨p, 0, none⟩), .int .i64 o, .int .i64 l] w (OpPost (openR st o l).1 F p (openR st o l).2 (N + 1) w) := by
  unfold openR
  rcases chkE_vals o [l] with hc | hc
  · rw [if_pos hc]
    cases ha : st.acc o with
    | none => exact open_fresh p o l w F st N hb g.ents hN hc ha
    | some a => exact (open_twice p o l w F st N hb hc a ha).mono fun e w' h => h.more (Nat.le_succ _)
  · rw [if_neg (by rw [hc]; decide)]
    exact (open_bad p o l w F st N hb hc).mono fun e w' h => h.more (Nat.le_succ _)

end Go.Proofs.YtljjndifmfhffaaGreatDoor
