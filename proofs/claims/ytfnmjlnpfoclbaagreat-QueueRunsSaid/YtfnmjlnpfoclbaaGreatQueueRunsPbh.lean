/-
  The book's Pay: what it gives. No conditions but those of the book's own state.
-/
import Derived.Test.YtfnmjlnpfoclbaaGreatQueueRunsPbg
namespace Go.Proofs.YtfnmjlnpfoclbaaGreat
open Go.RowKit
set_option linter.unusedVariables false

set_option maxHeartbeats 1000000 in
set_option maxRecDepth 100000 in
theorem pay_bad1 (p : Nat) (f t n : Int) (w : World) (F : Nat → Prop) (st : BookSt) (N : Nat) (hb : BookAt w F p st N) (hc : chkE f [] = 2) :
    Calls Tryz.prog 76 #[.pointer (some ⟨p, 0, none⟩), .int .i64 f, .int .i64 t, .int .i64 n] w (OpPost 2 F p st N w) := by
  have C := check_any f _ [] w (reads_nil w)
  rw [hc] at C
  have HC := Lib.hid C
  have FIN := Lib.hid (bad_fin hb (Below.refl _ w))
  clear C hb hc
  go_enter Tryz.func76, Tryz.ntmps76
  go_wp2_with fail
  refine HC.out.mono ?_
  rintro e w' ⟨rfl, rfl⟩
  go_wp2_with fail
  go_ret
  exact ⟨rfl, FIN.out.1, FIN.out.2⟩

set_option maxHeartbeats 1000000 in
set_option maxRecDepth 100000 in
theorem pay_bad2 (p : Nat) (f t n : Int) (w : World) (F : Nat → Prop) (st : BookSt) (N : Nat) (hb : BookAt w F p st N) (hc : chkE f [] = 0) (hc2 : chkE t [n] = 2) :
    Calls Tryz.prog 76 #[.pointer (some ⟨p, 0, none⟩), .int .i64 f, .int .i64 t, .int .i64 n] w (OpPost 2 F p st N w) := by
  have B1 : Below w.heap.size w (w.alloc (.cells #[.int .i64 n] 3)) := (Below.refl _ _).alloc (Nat.le_refl _) _
  have C := check_any f _ [] w (reads_nil w)
  rw [hc] at C
  have HC := Lib.hid C
  have C2 := check_any t _ [n] _ (reads_one w n 3)
  rw [hc2] at C2
  have HC2 := Lib.hid C2
  have FIN := Lib.hid (bad_fin hb B1)
  clear C hb hc C2 hc2 B1
  go_enter Tryz.func76, Tryz.ntmps76
  go_wp2_with fail
  refine HC.out.mono ?_
  rintro e w' ⟨rfl, rfl⟩
  go_wp2_with fail
  refine HC2.out.mono ?_
  rintro e w' ⟨rfl, rfl⟩
  go_wp2_with fail
  go_ret
  exact ⟨rfl, FIN.out.1, FIN.out.2⟩

set_option maxHeartbeats 2000000 in
set_option maxRecDepth 100000 in
theorem pay_none (p : Nat) (f t n : Int) (w : World) (F : Nat → Prop) (st : BookSt) (N : Nat) (hb : BookAt w F p st N) (hc : chkE f [] = 0) (hc2 : chkE t [n] = 0) (hno : st.acc f = none ∨ st.acc t = none) :
    Calls Tryz.prog 76 #[.pointer (some ⟨p, 0, none⟩), .int .i64 f, .int .i64 t, .int .i64 n] w (OpPost 7 F p st N w) := by
  have B1 : Below w.heap.size w (w.alloc (.cells #[.int .i64 n] 3)) := (Below.refl _ _).alloc (Nat.le_refl _) _
  have C := check_any f _ [] w (reads_nil w)
  rw [hc] at C
  have HC := Lib.hid C
  have C2 := check_any t _ [n] _ (reads_one w n 3)
  rw [hc2] at C2
  have HC2 := Lib.hid C2
  have FIN := Lib.hid (fun q => bad_fin hb (bdrewN B1 q))
  obtain ⟨mb, blk, lv, ev, D, hm⟩ := hb
  have hm1 := hm.same (Below.same_on B1)
  have hmd := hm1.same (w' := (w.alloc (.cells #[.int .i64 n] 3)).drew) (fun k _ _ => rfl)
  have L1 := book_lookup hmd f (chkE_zero hc).1
  have L2 := book_lookup hmd t (chkE_zero hc2).1
  have c4 : (w.alloc (.cells #[.int .i64 n] 3)).cell? ⟨p, 4, none⟩ = some (.map (some mb)) := by rw [cell_of hm1.self]; rfl
  have hno' : blk f = none ∨ blk t = none := hno.imp (hm.anone f).2 (hm.anone t).2
  clear C hc C2 hc2 B1 hm hm1 hmd hno
  cases hf : blk f with
  | none =>
    rw [hf] at L1
    generalize blk t = bt at L2
    clear hno' hf
    cases bt
    all_goals
      unfold ptrOf at L1 L2
      simp only at L1 L2
      go_enter Tryz.func76, Tryz.ntmps76
      go_wp2_with fail
      refine HC.out.mono ?_
      rintro e w' ⟨rfl, rfl⟩
      go_wp2_with fail
      refine HC2.out.mono ?_
      rintro e w' ⟨rfl, rfl⟩
      go_wp2_with fail
      go_region
      go_wp2_with fail
      go_ret
      exact ⟨rfl, (FIN.out 1).1, (FIN.out 1).2⟩
  | some bf =>
    rw [hf] at L1 hno'
    have ht : blk t = none := hno'.resolve_left (by simp)
    rw [ht] at L2
    clear hno' hf ht
    unfold ptrOf at L1 L2
    go_enter Tryz.func76, Tryz.ntmps76
    go_wp2_with fail
    refine HC.out.mono ?_
    rintro e w' ⟨rfl, rfl⟩
    go_wp2_with fail
    refine HC2.out.mono ?_
    rintro e w' ⟨rfl, rfl⟩
    go_wp2_with fail
    go_region
    go_wp2_with fail
    go_ret
    exact ⟨rfl, (FIN.out 1).1, (FIN.out 1).2⟩

theorem quiet_d {P : Program} {f : FuncId} {args : Array Value} {w : World} {n : Nat} {v : Value}
    (h : Calls P f args (w.drewN (1 + n)) fun e w' => e = .returned v ∧ ∃ m, w' = (w.drewN (1 + n)).drewN m) : Calls P f args (w.drewN (1 + n)) fun e w'' => e = .returned v ∧ ∃ m, w'' = w.drew.drewN m :=
  h.mono fun _ _ ⟨he, m, hm⟩ => ⟨he, n + m, by rw [hm, World.drewN_drewN, Nat.add_assoc]; exact (World.drewN_drewN w 1 (n + m)).symm⟩

/-- The two accounts behind a payment. -/
theorem paid_mem {w W : World} {F : Nat → Prop} {p : Nat} {st : BookSt} {N mb : Nat} {blk : Int → Option Nat} {lv ev : Value} {D : DataW Unit} (h : BookMem w F p st N mb blk lv ev D) {f t : Int} {bf bt : Nat} (hf : blk f = some bf) (ht : blk t = some bt) (hne : f ≠ t)
    (l x s l' x' s' : Int) (st' : BookSt) (hst : st'.acc = fun y => if y = t then some (l', x', s') else if y = f then some (l, x, s) else st.acc y) (hl : st'.leases = st.leases) (he : st'.entries = st.entries)
    (hp : W.heap[p]? = some (.cells (bookCells st' mb lv ev) 107 (0, 0)))
    (hW : W.heap[bf]? = some (.cells #[.int .i64 l, .int .i64 x, .int .i64 s] 112 (0, 0)))
    (hW' : W.heap[bt]? = some (.cells #[.int .i64 l', .int .i64 x', .int .i64 s'] 112 (0, 0)))
    (hk : ∀ k, k < w.heap.size → k ≠ p → k ≠ bf → k ≠ bt → W.heap[k]? = w.heap[k]?) : BookMem W F p st' N mb blk lv ev D := by
  refine h.turn st' hp ?_ ?_ hl he (fun k h1 h2 h3 => hk k h1 h2 (fun e => h3 f (e ▸ hf)) (fun e => h3 t (e ▸ ht)))
  · intro y c hc
    rw [hst]
    by_cases e : y = t
    · subst e
      rw [ht] at hc
      obtain rfl : bt = c := by simpa using hc
      exact ⟨l', x', s', by simp, hW'⟩
    · by_cases e2 : y = f
      · subst e2
        rw [hf] at hc
        obtain rfl : bf = c := by simpa using hc
        exact ⟨l, x, s, by simp [e], hW⟩
      · obtain ⟨a, b, d, h1, h2, _⟩ := h.asome y c hc
        refine ⟨a, b, d, by simp [e, e2, h1], ?_⟩
        rw [hk c (lt_of h2) (by rintro rfl; rw [h.self] at h2; simp [bookCells] at h2) (by rintro rfl; exact e2 (h.inj y f c hc hf)) (by rintro rfl; exact e (h.inj y t c hc ht))]
        exact h2
  · intro y
    rw [hst]
    by_cases e : y = t
    · subst e
      have := h.anone y
      rw [ht] at this
      simp at this ⊢
      exact this
    · by_cases e2 : y = f
      · subst e2
        have := h.anone y
        rw [hf] at this
        simp [e] at this ⊢
        exact this
      · simp [e, e2]

set_option maxHeartbeats 4000000 in
set_option maxRecDepth 100000 in
theorem pay_other (p : Nat) (f t n l h s l' h' s' : Int) (w : World) (F : Nat → Prop) (st : BookSt) (N : Nat) (hb : BookAt w F p st N) (g : Good st) (hc : chkE f [] = 0) (hc2 : chkE t [n] = 0) (ha : st.acc f = some (l, h, s)) (ha' : st.acc t = some (l', h', s')) (hne : f ≠ t) :
    Calls Tryz.prog 76 #[.pointer (some ⟨p, 0, none⟩), .int .i64 f, .int .i64 t, .int .i64 n] w (OpPost (payR st f t n).1 F p (payR st f t n).2 N w) := by
  have B1 : Below w.heap.size w (w.alloc (.cells #[.int .i64 n] 3)) := (Below.refl _ _).alloc (Nat.le_refl _) _
  have C := check_any f _ [] w (reads_nil w)
  rw [hc] at C
  have HC := Lib.hid C
  have C2 := check_any t _ [n] _ (reads_one w n 3)
  rw [hc2] at C2
  have HC2 := Lib.hid C2
  have FIN : Hid (∀ q, BookAt ((w.alloc (.cells #[.int .i64 n] 3)).drew.drewN q) (fun k => F k ∨ w.heap.size ≤ k) p st N ∧ Touch F w ((w.alloc (.cells #[.int .i64 n] 3)).drew.drewN q)) := Lib.hid (fun q => bad_fin hb (bdrewN (bdrewN B1 1) q))
  obtain ⟨mb, blk, lv, ev, D, hm⟩ := hb
  have hm1 := hm.same (Below.same_on B1)
  have hmd := hm1.same (w' := (w.alloc (.cells #[.int .i64 n] 3)).drew) (fun k _ _ => rfl)
  have L1 := book_lookup hmd f (chkE_zero hc).1
  have L2 := book_lookup hmd t (chkE_zero hc2).1
  obtain ⟨bf, hbf, hblk, hFf, hpf⟩ := hm1.found ha
  obtain ⟨bt, hbt, hblt, hFt, hpt⟩ := hm1.found ha'
  have hblkd : (w.alloc (.cells #[.int .i64 n] 3)).drew.heap[bf]? = _ := hblk
  have hbltd : (w.alloc (.cells #[.int .i64 n] 3)).drew.heap[bt]? = _ := hblt
  have hbb : bf ≠ bt := by rintro rfl; exact hne (hm.inj f t bf hbf hbt)
  rw [hbf] at L1
  rw [hbt] at L2
  unfold ptrOf at L1 L2
  have c4 : (w.alloc (.cells #[.int .i64 n] 3)).cell? ⟨p, 4, none⟩ = some (.map (some mb)) := by rw [cell_of hm1.self]; rfl
  have c1 : (w.alloc (.cells #[.int .i64 n] 3)).drew.cell? ⟨bf, 1, none⟩ = some (.int .i64 h) := (cell_of hblkd _).trans rfl
  have f1 : (w.alloc (.cells #[.int .i64 n] 3)).drew.frozen? ⟨bf, 1, none⟩ = false := free_of hblkd 1
  have t0 : (w.alloc (.cells #[.int .i64 n] 3)).drew.cell? ⟨bt, 0, none⟩ = some (.int .i64 l') := (cell_of hbltd _).trans rfl
  have t1 : (w.alloc (.cells #[.int .i64 n] 3)).drew.cell? ⟨bt, 1, none⟩ = some (.int .i64 h') := (cell_of hbltd _).trans rfl
  have g1 : (w.alloc (.cells #[.int .i64 n] 3)).drew.frozen? ⟨bt, 1, none⟩ = false := free_of hbltd 1
  have ne1 : ∀ (W : World) (u : Value), (W.setCell ⟨bf, 1, none⟩ u).cell? ⟨bt, 1, none⟩ = W.cell? ⟨bt, 1, none⟩ := fun W u => World.cell?_setCell_other _ _ _ _ (by simp)
  have s0 := g.s0 ha'
  obtain ⟨a1, a2, a3, a4, a5⟩ := g.own f l h s ha
  obtain ⟨b1, b2, b3, b4, b5⟩ := g.own t l' h' s' ha'
  obtain ⟨n1, n2⟩ := (chkE_zero hc2).2 n (by simp)
  have a4' := g.s0 ha
  have HCN := Lib.hid (fun q => counts_any bt l' h' s' ((w.alloc (.cells #[.int .i64 n] 3)).drew.drewN q) hblt (by omega) (by omega))
  have NT := Lib.hid (fun q => note_any p ⟨5, f, t, n, 0, 0⟩ ((((w.alloc (.cells #[.int .i64 n] 3)).drew.drewN q).setCell ⟨bf, 1, none⟩ (.int .i64 (h - n))).setCell ⟨bt, 1, none⟩ (.int .i64 (h' + n))) F ((st.put f (some (l, h - n, s))).put t (some (l', h' + n, s'))) N
    ⟨mb, blk, lv, ev, D, paid_mem (hm1.same (w' := (w.alloc (.cells #[.int .i64 n] 3)).drew.drewN q) (fun k _ _ => rfl)) hbf hbt hne l (h - n) s l' (h' + n) s' _ rfl rfl rfl
      ((Below.heap_setCell _ _ _ p (Ne.symm hpt)).trans ((Below.heap_setCell _ _ _ p (Ne.symm hpf)).trans hm1.self))
      ((Below.heap_setCell _ _ _ bf hbb).trans (by rw [block_setCell (show ((w.alloc (.cells #[.int .i64 n] 3)).drew.drewN q).heap[bf]? = _ from hblk)]; rfl))
      (by rw [block_setCell ((Below.heap_setCell _ _ _ bt (Ne.symm hbb)).trans (show ((w.alloc (.cells #[.int .i64 n] 3)).drew.drewN q).heap[bt]? = _ from hblt))]; rfl)
      (fun k h1 h2 h3 h4 => (Below.heap_setCell _ _ _ k h4).trans (Below.heap_setCell _ _ _ k h3))⟩ g.ents)
  have TT := Lib.hid (fun q => (((Touch.of_below (F := F) B1).drew.drewN q).setCell (p := ⟨bf, 1, none⟩) (Or.inl hFf) (.int .i64 (h - n))).setCell (p := ⟨bt, 1, none⟩) (Or.inl hFt) (.int .i64 (h' + n)))
  have hpay : payR st f t n = if h < n then (5, st) else if l' - (h' + s') < n then (12, st) else (0, ((st.put f (some (l, h - n, s))).put t (some (l', h' + n, s'))).note ⟨5, f, t, n, 0, 0⟩) := by
    unfold payR
    rw [if_pos ⟨hc, hc2⟩, ha, ha']
    simp only
    split
    · rfl
    · simp only [hne, not_false_eq_true, ne_eq, true_and]
      split
      · rfl
      · unfold paid
        rw [if_neg hne]
  rw [hpay]
  have hft : (f != t) = true := by simpa using hne
  have ha5 : 0 ≤ l' ∧ l' ≤ 10000000 := b2
  generalize hcs : h' + s' = cs at *
  have hcs1 : 0 ≤ cs ∧ cs ≤ 10000000 := by omega
  obtain ⟨cs1, cs2⟩ := hcs1
  obtain ⟨l1, l2⟩ := ha5
  have h2 : h ≤ 10000000 := by omega
  have h3 : h' ≤ 10000000 := by omega
  clear C hc C2 hc2 B1 hm hm1 hmd hblk hblt hblkd hbltd a1 a2 a4 a5 b1 b2 b4 b5 g ha ha' hpay hbf hbt a4' s0 hcs
  by_cases e1 : h < n
  · rw [if_pos e1]
    clear NT TT
    go_enter Tryz.func76, Tryz.ntmps76
    go_wp2_with fail
    refine HC.out.mono ?_
    rintro e w' ⟨rfl, rfl⟩
    go_wp2_with fail
    refine HC2.out.mono ?_
    rintro e w' ⟨rfl, rfl⟩
    go_wp2_with fail
    go_region
    generalize hW2 : (w.alloc (.cells #[.int .i64 n] 3)).drew = W2 at *
    go_wp2_with fail
    go_ret
    exact ⟨rfl, (FIN.out 0).1, (FIN.out 0).2⟩
  · rw [if_neg e1]
    by_cases e2 : l' - cs < n
    · rw [if_pos e2]
      clear NT TT
      go_enter Tryz.func76, Tryz.ntmps76
      go_wp2_with fail
      refine HC.out.mono ?_
      rintro e w' ⟨rfl, rfl⟩
      go_wp2_with fail
      refine HC2.out.mono ?_
      rintro e w' ⟨rfl, rfl⟩
      go_wp2_with fail
      go_region
      generalize hW2 : (w.alloc (.cells #[.int .i64 n] 3)).drew = W2 at *
      go_wp2_with fail
      go_quiet ((go_at_call 92; exact Calls.quiet_of (HCN.out _)))
      go_wp2_with fail
      go_ret
      exact ⟨rfl, (FIN.out _).1, (FIN.out _).2⟩
    · rw [if_neg e2]
      go_enter Tryz.func76, Tryz.ntmps76
      go_wp2_with fail
      refine HC.out.mono ?_
      rintro e w' ⟨rfl, rfl⟩
      go_wp2_with fail
      refine HC2.out.mono ?_
      rintro e w' ⟨rfl, rfl⟩
      go_wp2_with fail
      go_region
      generalize hW2 : (w.alloc (.cells #[.int .i64 n] 3)).drew = W2 at *
      go_wp2_with fail
      go_quiet ((go_at_call 92; exact Calls.quiet_of (HCN.out _)))
      go_wp2_with fail
      refine (NT.out _).mono ?_
      rintro e w3 ⟨rfl, hb3, ht3⟩
      have HP := Lib.hid (OpPost.mk (err := 0) (TT.out _) ht3 hb3 (fun k hk => Or.inl hk))
      clear hb3 ht3
      go_wp2_with fail
      go_ret
      exact HP.out

set_option maxHeartbeats 4000000 in
set_option maxRecDepth 100000 in
theorem pay_self (p : Nat) (f n l h s : Int) (w : World) (F : Nat → Prop) (st : BookSt) (N : Nat) (hb : BookAt w F p st N) (g : Good st) (hc : chkE f [] = 0) (hc2 : chkE f [n] = 0) (ha : st.acc f = some (l, h, s)) :
    Calls Tryz.prog 76 #[.pointer (some ⟨p, 0, none⟩), .int .i64 f, .int .i64 f, .int .i64 n] w (OpPost (payR st f f n).1 F p (payR st f f n).2 N w) := by
  have B1 : Below w.heap.size w (w.alloc (.cells #[.int .i64 n] 3)) := (Below.refl _ _).alloc (Nat.le_refl _) _
  have C := check_any f _ [] w (reads_nil w)
  rw [hc] at C
  have HC := Lib.hid C
  have C2 := check_any f _ [n] _ (reads_one w n 3)
  rw [hc2] at C2
  have HC2 := Lib.hid C2
  have FIN := Lib.hid (fun q => bad_fin hb (bdrewN B1 q))
  obtain ⟨mb, blk, lv, ev, D, hm⟩ := hb
  have hm1 := hm.same (Below.same_on B1)
  have hmd := hm1.same (w' := (w.alloc (.cells #[.int .i64 n] 3)).drew) (fun k _ _ => rfl)
  have L1 := book_lookup hmd f (chkE_zero hc).1
  obtain ⟨bf, hbf, hblk, hFf, hpf⟩ := hm1.found ha
  rw [hbf] at L1
  unfold ptrOf at L1
  have c4 : (w.alloc (.cells #[.int .i64 n] 3)).cell? ⟨p, 4, none⟩ = some (.map (some mb)) := by rw [cell_of hm1.self]; rfl
  have c1 : (w.alloc (.cells #[.int .i64 n] 3)).cell? ⟨bf, 1, none⟩ = some (.int .i64 h) := by rw [cell_of hblk]; rfl
  have f1 : (w.alloc (.cells #[.int .i64 n] 3)).frozen? ⟨bf, 1, none⟩ = false := free_of hblk 1
  have s0 := g.s0 ha
  obtain ⟨a1, a2, a3, a4, a5⟩ := g.own f l h s ha
  obtain ⟨n1, n2⟩ := (chkE_zero hc2).2 n (by simp)
  have NT := Lib.hid (fun q => note_any p ⟨5, f, f, n, 0, 0⟩ ((((w.alloc (.cells #[.int .i64 n] 3)).drewN q).setCell ⟨bf, 1, none⟩ (.int .i64 (h - n))).setCell ⟨bf, 1, none⟩ (.int .i64 h)) F (st.put f (some (l, h, s))) N
    ⟨mb, blk, lv, ev, D, (hm1.same (w' := (w.alloc (.cells #[.int .i64 n] 3)).drewN q) (fun k _ _ => rfl)).acct hbf l h s _ rfl rfl rfl
      ((Below.heap_setCell _ _ _ p (Ne.symm hpf)).trans ((Below.heap_setCell _ _ _ p (Ne.symm hpf)).trans hm1.self))
      (by rw [block_setCell (block_setCell (show ((w.alloc (.cells #[.int .i64 n] 3)).drewN q).heap[bf]? = _ from hblk) 1 (.int .i64 (h - n))) 1 (.int .i64 h)]; rfl)
      (fun k h1 h2 h3 => (Below.heap_setCell _ _ _ k h3).trans (Below.heap_setCell _ _ _ k h3))⟩ g.ents)
  have TT := Lib.hid (fun q => (((Touch.of_below (F := F) B1).drewN q).setCell (p := ⟨bf, 1, none⟩) (Or.inl hFf) (.int .i64 (h - n))).setCell (p := ⟨bf, 1, none⟩) (Or.inl hFf) (.int .i64 h))
  have hpay : payR st f f n = if h < n then (5, st) else (0, (st.put f (some (l, h, s))).note ⟨5, f, f, n, 0, 0⟩) := by
    unfold payR
    rw [if_pos ⟨hc, hc2⟩, ha]
    simp only
    split
    · rfl
    · simp [paid]
  rw [hpay]
  have h2 : h ≤ 10000000 := by omega
  have hback : h - n + n = h := by omega
  clear C hc C2 hc2 B1 hm hm1 hmd hblk a1 a2 a4 a5 g ha hpay hbf s0
  by_cases e1 : h < n
  · rw [if_pos e1]
    clear NT TT
    go_enter Tryz.func76, Tryz.ntmps76
    go_wp2_with fail
    refine HC.out.mono ?_
    rintro e w' ⟨rfl, rfl⟩
    go_wp2_with fail
    refine HC2.out.mono ?_
    rintro e w' ⟨rfl, rfl⟩
    go_wp2_with fail
    go_region
    go_wp2_with fail
    go_ret
    exact ⟨rfl, (FIN.out 1).1, (FIN.out 1).2⟩
  · rw [if_neg e1]
    go_enter Tryz.func76, Tryz.ntmps76
    go_wp2_with fail
    refine HC.out.mono ?_
    rintro e w' ⟨rfl, rfl⟩
    go_wp2_with fail
    refine HC2.out.mono ?_
    rintro e w' ⟨rfl, rfl⟩
    go_wp2_with fail
    go_region
    go_wp2_with fail
    go_quiet (fail)
    go_wp2_with fail
    refine (NT.out _).mono ?_
    rintro e w3 ⟨rfl, hb3, ht3⟩
    have HP := Lib.hid (OpPost.mk (err := 0) (TT.out _) ht3 hb3 (fun k hk => Or.inl hk))
    clear hb3 ht3
    go_wp2_with fail
    go_ret
    exact HP.out

theorem pay_all (p : Nat) (f t n : Int) (w : World) (F : Nat → Prop) (st : BookSt) (N : Nat) (hb : BookAt w F p st N) (g : Good st) :
    Calls Tryz.prog 76 #[.pointer (some ⟨p, 0, none⟩), .int .i64 f, .int .i64 t, .int .i64 n] w (OpPost (payR st f t n).1 F p (payR st f t n).2 N w) := by
  rcases chkE_vals f [] with hc | hc
  · rcases chkE_vals t [n] with hc2 | hc2
    · cases ha : st.acc f with
      | none =>
        have := pay_none p f t n w F st N hb hc hc2 (Or.inl ha)
        unfold payR
        rw [if_pos ⟨hc, hc2⟩, ha]
        exact this
      | some a =>
        cases ha' : st.acc t with
        | none =>
          have := pay_none p f t n w F st N hb hc hc2 (Or.inr ha')
          unfold payR
          rw [if_pos ⟨hc, hc2⟩, ha, ha']
          exact this
        | some b =>
          obtain ⟨l, h, s⟩ := a
          obtain ⟨l', h', s'⟩ := b
          by_cases e : f = t
          · subst e
            exact pay_self p f n l h s w F st N hb g hc hc2 ha
          · exact pay_other p f t n l h s l' h' s' w F st N hb g hc hc2 ha ha' e
    · have := pay_bad2 p f t n w F st N hb hc hc2
      unfold payR
      rw [if_neg (by rw [hc2]; simp)]
      exact this
  · have := pay_bad1 p f t n w F st N hb hc
    unfold payR
    rw [if_neg (by rw [hc]; simp)]
    exact this

end Go.Proofs.YtfnmjlnpfoclbaaGreat
