/-
  The book in memory, where accounts, numbers, the leases' row have turned. No conditions.
  The book's calls on accounts: what they give, whatever comes. No conditions but those of the book's own state.
-/
import Derived.Test.YtfnmjlnpfoclbaaGreatQueueRunsPal

namespace Go.Proofs.YtfnmjlnpfoclbaaGreat
section
open Go.RowKit
set_option linter.unusedVariables false

/-- Accounts and the book's own numbers have turned: the rows, the map, the accounts' blocks lie where they lay. -/
theorem BookMem.turn {w W : World} {F : Nat → Prop} {p : Nat} {st : BookSt} {N mb : Nat} {blk : Int → Option Nat} {lv ev : Value} {D : DataW Unit} (h : BookMem w F p st N mb blk lv ev D) (st' : BookSt)
    (hp : W.heap[p]? = some (.cells (bookCells st' mb lv ev) 107 (0, 0)))
    (ha : ∀ o b, blk o = some b → ∃ l x s, st'.acc o = some (l, x, s) ∧ W.heap[b]? = some (.cells #[.int .i64 l, .int .i64 x, .int .i64 s] 112 (0, 0)))
    (hn : ∀ o, st'.acc o = none ↔ st.acc o = none) (hl : st'.leases = st.leases) (he : st'.entries = st.entries)
    (hk : ∀ k, k < w.heap.size → k ≠ p → (∀ o, blk o ≠ some k) → W.heap[k]? = w.heap[k]?) : BookMem W F p st' N mb blk lv ev D := by
  have noacc : ∀ k obj, w.heap[k]? = some obj → (∀ x y z, obj ≠ .cells #[.int .i64 x, .int .i64 y, .int .i64 z] 112 (0, 0)) → ∀ o, blk o ≠ some k := by
    intro k obj hobj hne o hb
    obtain ⟨l, x, s, _, h2, _⟩ := h.asome o k hb
    rw [hobj] at h2
    exact hne l x s (by simpa using h2)
  have rows : ∀ (v : Value) (e n sz : Nat) (xs : List Value), w.ownsRow 0 e sz v n xs → e ≠ 112 → e ≠ 107 → W.ownsRow 0 e sz v n xs := by
    intro v e n sz xs hr h1 h2
    refine ownsRow_same hr (fun k hk' => ?_)
    obtain ⟨cur, hc⟩ := row_block hr hk'
    refine hk k (lt_of hc) ?_ (noacc k _ hc (fun x y z e => by simp only [Obj.cells.injEq] at e; exact h1 e.2.1))
    rintro rfl; rw [h.self] at hc; simp only [Option.some.injEq, Obj.cells.injEq] at hc; exact h2 hc.2.1.symm
  refine ⟨hp, h.fp, ?_, h.fmap, h.look, fun o => (h.anone o).trans (hn o).symm, ?_, h.inj, ?_, h.flea, ?_, h.fent⟩
  · refine ownsMap_same h.map ?_
    obtain ⟨xs, clock, hx, _⟩ := h.map
    refine hk mb (lt_of hx) ?_ (noacc mb _ hx (fun x y z e => by simp at e))
    rintro rfl; rw [h.self] at hx; simp at hx
  · intro o b hb
    obtain ⟨l, x, s, h1, h2⟩ := ha o b hb
    obtain ⟨_, _, _, _, _, h3⟩ := h.asome o b hb
    exact ⟨l, x, s, h1, h2, h3⟩
  · rw [hl]; exact rows _ _ _ _ _ h.lrow (by decide) (by decide)
  · rw [he]; exact rows _ _ _ _ _ h.erow (by decide) (by decide)

/-- The book when its leases' row has moved, or turned, and its field is stored. -/
theorem BookMem.leasesTo {w W : World} {F : Nat → Prop} {p : Nat} {st : BookSt} {N mb : Nat} {blk : Int → Option Nat} {lv ev : Value} {D : DataW Unit} (h : BookMem w F p st N mb blk lv ev D) (v' : Value) (ls : List Lea)
    (hp : W.heap[p]? = some (.cells (bookCells st mb v' ev) 107 (0, 0)))
    (hk : ∀ k, k < w.heap.size → k ≠ p → lv.ownBlock ≠ some k → W.heap[k]? = w.heap[k]?)
    (hrow : W.ownsRow 0 98 4 v' ls.length (ls.flatMap Lea.cells)) (hv : ∀ k, v'.ownBlock = some k → F k ∨ w.heap.size ≤ k) :
    BookMem W (fun k => F k ∨ w.heap.size ≤ k) p { st with leases := ls } N mb blk v' ev D := by
  have nm : mb ≠ p ∧ lv.ownBlock ≠ some mb := by
    obtain ⟨xs, clock, hx, _⟩ := h.map
    refine ⟨fun e => ?_, fun e => ?_⟩
    · subst e; rw [h.self] at hx; simp at hx
    · obtain ⟨cur, hc⟩ := row_block h.lrow e; rw [hc] at hx; simp at hx
  refine ⟨hp, Or.inl h.fp, ownsMap_same h.map (hk mb h.map.lt nm.1 nm.2), Or.inl h.fmap, h.look, h.anone, ?_, h.inj, hrow, hv, ?_, fun k hk => Or.inl (h.fent k hk)⟩
  · intro o b hb
    obtain ⟨l, x, s, h1, h2, h3⟩ := h.asome o b hb
    refine ⟨l, x, s, h1, ?_, Or.inl h3⟩
    rw [hk b (lt_of h2) ?_ ?_]
    · exact h2
    · intro e; subst e; rw [h.self] at h2; simp at h2
    · intro e; obtain ⟨cur, hc⟩ := row_block h.lrow e; rw [hc] at h2; simp at h2
  · refine ownsRow_same h.erow (fun k hk' => ?_)
    obtain ⟨cur, hc⟩ := row_block h.erow hk'
    refine hk k (lt_of hc) ?_ ?_
    · intro e; subst e; rw [h.self] at hc; simp at hc
    · intro e; obtain ⟨cur2, hc2⟩ := row_block h.lrow e; rw [hc2] at hc; simp at hc

theorem BookMem.pl {w : World} {F : Nat → Prop} {p : Nat} {st : BookSt} {N mb : Nat} {blk : Int → Option Nat} {lv ev : Value} {D : DataW Unit} (h : BookMem w F p st N mb blk lv ev D) : lv.ownBlock ≠ some p := by
  intro he
  obtain ⟨cur, hc⟩ := row_block h.lrow he
  rw [h.self] at hc
  simp at hc

/-- One account has turned (field j), and one of the book's numbers may have: the account's block and the book's. -/
theorem BookMem.acct {w W : World} {F : Nat → Prop} {p : Nat} {st : BookSt} {N mb : Nat} {blk : Int → Option Nat} {lv ev : Value} {D : DataW Unit} (h : BookMem w F p st N mb blk lv ev D) {o : Int} {b : Nat} (hb : blk o = some b) (l x s : Int) (st' : BookSt)
    (hst : st'.acc = fun y => if y = o then some (l, x, s) else st.acc y) (hl : st'.leases = st.leases) (he : st'.entries = st.entries)
    (hp : W.heap[p]? = some (.cells (bookCells st' mb lv ev) 107 (0, 0)))
    (hW : W.heap[b]? = some (.cells #[.int .i64 l, .int .i64 x, .int .i64 s] 112 (0, 0)))
    (hk : ∀ k, k < w.heap.size → k ≠ p → k ≠ b → W.heap[k]? = w.heap[k]?) : BookMem W F p st' N mb blk lv ev D := by
  refine h.turn st' hp ?_ ?_ hl he (fun k h1 h2 h3 => hk k h1 h2 (fun e => h3 o (e ▸ hb)))
  · intro y c hc
    rw [hst]
    by_cases e : y = o
    · subst e
      rw [hb] at hc
      obtain rfl : b = c := by simpa using hc
      exact ⟨l, x, s, by simp, hW⟩
    · obtain ⟨l', x', s', h1, h2, _⟩ := h.asome y c hc
      refine ⟨l', x', s', by simp [e, h1], ?_⟩
      rw [hk c (lt_of h2) (by rintro rfl; rw [h.self] at h2; simp [bookCells] at h2) (by rintro rfl; exact e (h.inj y o c hc hb))]
      exact h2
  · intro y
    rw [hst]
    by_cases e : y = o
    · subst e
      have := h.anone y
      rw [hb] at this
      simp at this ⊢
      exact this
    · simp [e]

theorem BookMem.found {w : World} {F : Nat → Prop} {p : Nat} {st : BookSt} {N mb : Nat} {blk : Int → Option Nat} {lv ev : Value} {D : DataW Unit} (hm : BookMem w F p st N mb blk lv ev D) {o l h s : Int} (ha : st.acc o = some (l, h, s)) :
    ∃ b, blk o = some b ∧ w.heap[b]? = some (.cells #[.int .i64 l, .int .i64 h, .int .i64 s] 112 (0, 0)) ∧ F b ∧ b ≠ p := by
  obtain ⟨b, hb⟩ : ∃ b, blk o = some b := by
    cases hb : blk o with
    | none => rw [(hm.anone o).1 hb] at ha; cases ha
    | some b => exact ⟨b, rfl⟩
  obtain ⟨l', h', s', ha', hblk, hFb⟩ := hm.asome o b hb
  rw [ha] at ha'
  simp only [Option.some.injEq, Prod.mk.injEq] at ha'
  obtain ⟨rfl, rfl, rfl⟩ := ha'
  exact ⟨b, hb, hblk, hFb, by rintro rfl; rw [hm.self] at hblk; simp [bookCells] at hblk⟩
theorem BookMem.lost {w : World} {F : Nat → Prop} {p : Nat} {st : BookSt} {N mb : Nat} {blk : Int → Option Nat} {lv ev : Value} {D : DataW Unit} (hm : BookMem w F p st N mb blk lv ev D) {o : Int} (ha : st.acc o = none) : blk o = none := (hm.anone o).2 ha

/-- What a call's way out owes: wider blocks. -/
theorem OpPost.mk {err : Int} {F : Nat → Prop} {p : Nat} {st : BookSt} {N : Nat} {w w1 w2 : World} {G : Nat → Prop} (h1 : Touch F w w1) (h2 : Touch G w1 w2) (hb : BookAt w2 (fun k => G k ∨ w1.heap.size ≤ k) p st N) (hG : ∀ k, G k → F k ∨ w.heap.size ≤ k) :
    OpPost err F p st N w (.returned (.int .i64 err)) w2 :=
  ⟨rfl, hb.wider (fun k hk => hk.elim (hG k) (fun x => Or.inr (Nat.le_trans h1.size x))), h1.trans h2 hG⟩

end
end Go.Proofs.YtfnmjlnpfoclbaaGreat

namespace Go.Proofs.YtfnmjlnpfoclbaaGreat
section
open Go.RowKit
set_option linter.unusedVariables false

/-- An account that is not found. -/
def BadAcc (st : BookSt) (o : Int) (nums : List Int) (e : Int) : Prop := (chkE o nums = 2 ∧ e = 2) ∨ (chkE o nums = 0 ∧ st.acc o = none ∧ e = 7)
theorem BadAcc.vals {st : BookSt} {o : Int} {nums : List Int} {e : Int} (h : BadAcc st o nums e) : e = 2 ∨ e = 7 := h.elim (fun x => Or.inl x.2) (fun x => Or.inr x.2.2)
theorem account_bad (p : Nat) (o : Int) (v : Value) (nums : List Int) (w : World) (F : Nat → Prop) (st : BookSt) (N : Nat) (hr : Reads w .i64 v nums) (hb : BookAt w F p st N) (e : Int) (he : BadAcc st o nums e) :
    Calls Tryz.prog 60 #[.pointer (some ⟨p, 0, none⟩), .int .i64 o, v] w (AccPost none e w) := by
  obtain ⟨mb, blk, lv, ev, D, hm⟩ := hb
  rcases he with ⟨h1, rfl⟩ | ⟨h1, h2, rfl⟩
  · exact account_err p o v nums w hr (by rw [h1]; decide)
  · have := account_any p o v nums w F st N mb blk lv ev D hr h1 hm
    rw [(hm.anone o).2 h2] at this
    simpa using this
theorem bad_fin {w W : World} {F : Nat → Prop} {p : Nat} {st : BookSt} {N : Nat} (hb : BookAt w F p st N) (B : Below w.heap.size w W) : BookAt W (fun k => F k ∨ w.heap.size ≤ k) p st N ∧ Touch F w W :=
  ⟨(hb.same (Below.same_on B)).wider (fun k hk => Or.inl hk), Touch.of_below B⟩
theorem BookAt.more {w : World} {F : Nat → Prop} {p : Nat} {st : BookSt} {N : Nat} (hb : BookAt w F p st N) {M : Nat} (h : N ≤ M) : BookAt w F p st M := by
  obtain ⟨mb, blk, lv, ev, D, hm⟩ := hb
  exact ⟨mb, blk, lv, ev, D, hm.self, hm.fp, hm.map.mono h, hm.fmap, hm.look, hm.anone, hm.asome, hm.inj, hm.lrow, hm.flea, hm.erow, hm.fent⟩
theorem OpPost.more {err : Int} {F : Nat → Prop} {p : Nat} {st : BookSt} {N M : Nat} {w w' : World} {e : Ending} (h : N ≤ M) (hp : OpPost err F p st N w e w') : OpPost err F p st M w e w' := ⟨hp.1, hp.2.1.more h, hp.2.2⟩

set_option maxHeartbeats 1000000 in
set_option maxRecDepth 100000 in
theorem take_err (p : Nat) (o n : Int) (w : World) (F : Nat → Prop) (st : BookSt) (N : Nat) (hb : BookAt w F p st N) (e : Int) (he : BadAcc st o [n] e) :
    Calls Tryz.prog 65 #[.pointer (some ⟨p, 0, none⟩), .int .i64 o, .int .i64 n] w (OpPost e F p st N w) := by
  have B1 : Below w.heap.size w (w.alloc (.cells #[.int .i64 n] 3)) := (Below.refl _ _).alloc (Nat.le_refl _) _
  have HC := Lib.hid (account_bad p o _ [n] (w.alloc (.cells #[.int .i64 n] 3)) F st N (reads_one w n 3) (hb.same (Below.same_on B1)) e he)
  have FIN := Lib.hid (bad_fin hb B1)
  have hv := he.vals
  clear he hb B1
  rcases hv with rfl | rfl
  all_goals
    go_enter Tryz.func65, Tryz.ntmps65
    go_wp2_with fail
    refine HC.out.mono ?_
    rintro e w' ⟨rfl, rfl⟩
    go_wp2_with fail
    go_ret
    exact ⟨rfl, FIN.out.1, FIN.out.2⟩

set_option maxHeartbeats 1000000 in
set_option maxRecDepth 100000 in
theorem give_err (p : Nat) (o n : Int) (w : World) (F : Nat → Prop) (st : BookSt) (N : Nat) (hb : BookAt w F p st N) (e : Int) (he : BadAcc st o [n] e) :
    Calls Tryz.prog 79 #[.pointer (some ⟨p, 0, none⟩), .int .i64 o, .int .i64 n] w (OpPost e F p st N w) := by
  have B1 : Below w.heap.size w (w.alloc (.cells #[.int .i64 n] 3)) := (Below.refl _ _).alloc (Nat.le_refl _) _
  have HC := Lib.hid (account_bad p o _ [n] (w.alloc (.cells #[.int .i64 n] 3)) F st N (reads_one w n 3) (hb.same (Below.same_on B1)) e he)
  have FIN := Lib.hid (bad_fin hb B1)
  have hv := he.vals
  clear he hb B1
  rcases hv with rfl | rfl
  all_goals
    go_enter Tryz.func79, Tryz.ntmps79
    go_wp2_with fail
    refine HC.out.mono ?_
    rintro e w' ⟨rfl, rfl⟩
    go_wp2_with fail
    go_ret
    exact ⟨rfl, FIN.out.1, FIN.out.2⟩

set_option maxHeartbeats 1000000 in
set_option maxRecDepth 100000 in
theorem leased_err (p : Nat) (o : Int) (w : World) (F : Nat → Prop) (st : BookSt) (N : Nat) (hb : BookAt w F p st N) (e : Int) (he : BadAcc st o [] e) :
    Calls Tryz.prog 41 #[.pointer (some ⟨p, 0, none⟩), .int .i64 o] w (fun x w' => x = .returned (.tuple #[.int .i64 0, .int .i64 e]) ∧ BookAt w' (fun k => F k ∨ w.heap.size ≤ k) p st N ∧ Touch F w w') := by
  have B1 : Below w.heap.size w w := Below.refl _ _
  have HC := Lib.hid (account_bad p o _ [] w F st N (reads_nil w) (hb.same (Below.same_on B1)) e he)
  have FIN := Lib.hid (bad_fin hb B1)
  have hv := he.vals
  clear he hb B1
  rcases hv with rfl | rfl
  all_goals
    go_enter Tryz.func41, Tryz.ntmps41
    go_wp2_with fail
    refine HC.out.mono ?_
    rintro e w' ⟨rfl, rfl⟩
    go_wp2_with fail
    go_ret2
    exact ⟨rfl, FIN.out.1, FIN.out.2⟩

theorem take_all (p : Nat) (o n : Int) (w : World) (F : Nat → Prop) (st : BookSt) (N : Nat) (hb : BookAt w F p st N) (g : Good st) :
    Calls Tryz.prog 65 #[.pointer (some ⟨p, 0, none⟩), .int .i64 o, .int .i64 n] w (OpPost (takeR st o n).1 F p (takeR st o n).2 N w) := by
  unfold takeR
  rcases chkE_vals o [n] with hc | hc
  · rw [if_pos hc]
    cases ha : st.acc o with
    | none => exact take_err p o n w F st N hb 7 (Or.inr ⟨hc, ha, rfl⟩)
    | some a =>
      obtain ⟨l, h, s⟩ := a
      obtain ⟨a1, a2, a3, a4, a5⟩ := g.own o l h s ha
      have h1 := g.s0 ha
      have h2 := g.tot0
      have h3 := g.totb
      have h4 := g.bud
      have h5 := (chkE_zero hc).2 n (by simp)
      exact take_any p o n l h s w F st N hb ha a1 h5 (by omega) (by omega) (by omega) (by omega) (by omega) g.ents
  · rw [if_neg (by rw [hc]; decide)]
    exact take_err p o n w F st N hb 2 (Or.inl ⟨hc, rfl⟩)
theorem give_all (p : Nat) (o n : Int) (w : World) (F : Nat → Prop) (st : BookSt) (N : Nat) (hb : BookAt w F p st N) (g : Good st) :
    Calls Tryz.prog 79 #[.pointer (some ⟨p, 0, none⟩), .int .i64 o, .int .i64 n] w (OpPost (giveR st o n).1 F p (giveR st o n).2 N w) := by
  unfold giveR
  rcases chkE_vals o [n] with hc | hc
  · rw [if_pos hc]
    cases ha : st.acc o with
    | none => exact give_err p o n w F st N hb 7 (Or.inr ⟨hc, ha, rfl⟩)
    | some a =>
      obtain ⟨l, h, s⟩ := a
      obtain ⟨a1, a2, a3, a4, a5⟩ := g.own o l h s ha
      have h1 := g.s0 ha
      have h2 := g.tot0
      have h3 := g.totb
      have h4 := g.bud
      have h5 := (chkE_zero hc).2 n (by simp)
      exact give_any p o n l h s w F st N hb ha a1 h5 (by omega) (by omega) g.ents
  · rw [if_neg (by rw [hc]; decide)]
    exact give_err p o n w F st N hb 2 (Or.inl ⟨hc, rfl⟩)

/-! Open. -/
set_option maxHeartbeats 1000000 in
set_option maxRecDepth 100000 in
theorem open_bad (p : Nat) (o l : Int) (w : World) (F : Nat → Prop) (st : BookSt) (N : Nat) (hb : BookAt w F p st N) (hc : chkE o [l] = 2) :
    Calls Tryz.prog 21 #[.pointer (some ⟨p, 0, none⟩), .int .i64 o, .int .i64 l] w (OpPost 2 F p st N w) := by
  have B1 : Below w.heap.size w (w.alloc (.cells #[.int .i64 l] 3)) := (Below.refl _ _).alloc (Nat.le_refl _) _
  have C := check_any o _ [l] _ (reads_one w l 3)
  rw [hc] at C
  have HC := Lib.hid C
  have FIN := Lib.hid (bad_fin hb B1)
  clear C hb B1 hc
  go_enter Tryz.func21, Tryz.ntmps21
  go_wp2_with fail
  refine HC.out.mono ?_
  rintro e w' ⟨rfl, rfl⟩
  go_wp2_with fail
  go_ret
  exact ⟨rfl, FIN.out.1, FIN.out.2⟩
set_option maxHeartbeats 1000000 in
set_option maxRecDepth 100000 in
theorem open_twice (p : Nat) (o l : Int) (w : World) (F : Nat → Prop) (st : BookSt) (N : Nat) (hb : BookAt w F p st N) (hc : chkE o [l] = 0) (a : Int × Int × Int) (ha : st.acc o = some a) :
    Calls Tryz.prog 21 #[.pointer (some ⟨p, 0, none⟩), .int .i64 o, .int .i64 l] w (OpPost 6 F p st N w) := by
  have B1 : Below w.heap.size w (w.alloc (.cells #[.int .i64 l] 3)) := (Below.refl _ _).alloc (Nat.le_refl _) _
  have C := check_any o _ [l] _ (reads_one w l 3)
  rw [hc] at C
  have HC := Lib.hid C
  have FIN := Lib.hid (bad_fin hb B1)
  obtain ⟨mb, blk, lv, ev, D, hm⟩ := hb
  have hm1 := hm.same (Below.same_on B1)
  have L := book_lookup hm1 o (chkE_zero hc).1
  obtain ⟨x, y, z⟩ := a
  obtain ⟨b, hbk, _⟩ := hm1.found ha
  rw [hbk] at L
  unfold ptrOf at L
  have c4 : (w.alloc (.cells #[.int .i64 l] 3)).cell? ⟨p, 4, none⟩ = some (.map (some mb)) := by rw [cell_of hm1.self]; rfl
  clear C hm hm1 B1 hc ha hbk
  go_enter Tryz.func21, Tryz.ntmps21
  go_wp2_with fail
  refine HC.out.mono ?_
  rintro e w' ⟨rfl, rfl⟩
  go_wp2_with fail
  go_ret
  exact ⟨rfl, FIN.out.1, FIN.out.2⟩
set_option maxHeartbeats 4000000 in
set_option maxRecDepth 100000 in
theorem open_fresh (p : Nat) (o l : Int) (w : World) (F : Nat → Prop) (st : BookSt) (N : Nat) (hb : BookAt w F p st N) (hn : st.entries.length ≤ 10000) (hN : N < maxLen) (hc : chkE o [l] = 0) (hno : st.acc o = none) :
    Calls Tryz.prog 21 #[.pointer (some ⟨p, 0, none⟩), .int .i64 o, .int .i64 l] w (OpPost 0 F p ((st.put o (some (l, 0, 0))).note ⟨1, o, 0, l, 0, 0⟩) (N + 1) w) := by
  obtain ⟨mb, blk, lv, ev, D, hm⟩ := hb
  have ho := (chkE_zero hc).1
  have hwf : (Lit.int .i64 o).wf = true := WalkArith.wf_i64 (by omega)
  have C := check_any o _ [l] _ (reads_one w l 3)
  rw [hc] at C
  have HC := Lib.hid C
  have hmw := hm.same (Below.same_on (Below.alloc (Below.refl _ w) (Nat.le_refl _) (.cells #[.int .i64 l] 3)))
  have L := book_lookup hmw o ho
  have hbn : blk o = none := (hm.anone o).2 hno
  rw [hbn] at L
  unfold ptrOf at L
  have c4 : (w.alloc (.cells #[.int .i64 l] 3)).cell? ⟨p, 4, none⟩ = some (.map (some mb)) := by rw [cell_of hmw.self]; rfl
  have HM := Lib.hid hm
  have HW := Lib.hid hmw
  have hp := lt_of hm.self
  clear C hm hmw hno ho hc
  go_enter Tryz.func21, Tryz.ntmps21
  go_wp2_with fail
  refine HC.out.mono ?_
  rintro e w' ⟨rfl, rfl⟩
  go_wp2_with (at_mapUpdate; go_must (refine wpList_mapUpdate_own _ rfl _ _ _ 105 rfl 3 110 intKey Tryz.underlying105 ptrElem mb N D rfl (by exact HW.out.map.alloc _) hN (.int .i64 o) (.pointer (some ⟨w.heap.size + 1, 0, none⟩)) (.int .i64 o) rfl rfl (Maps.keyOf_int_mk Tryz.underlying3 hwf) (.lit (.int .i64 (w.heap.size + 1 : Nat))) [] rfl ?_))
  intro w1 hown1 hg1
  have hsz : (w.alloc (.cells #[.int .i64 l] 3)).heap.size = w.heap.size + 1 := by simp
  obtain ⟨h1, h2⟩ := open_mem HW.out o l (by rw [hsz]; exact hown1) hg1
  have NT := Lib.hid (note_any p ⟨1, o, 0, l, 0, 0⟩ w1 _ _ _ ⟨mb, _, lv, ev, _, h1⟩ hn)
  clear hown1 hg1 L c4
  go_wp2_with fail
  refine NT.out.mono ?_
  rintro e w2 ⟨rfl, hb2, ht2⟩
  go_wp2_with fail
  go_ret
  refine ⟨rfl, hb2.wider ?_, ?_⟩
  · intro k hk
    rcases hk with (hk | hk) | hk
    · exact Or.inl hk
    · right; rw [hsz] at hk; omega
    · right; have := h2.size; rw [hsz] at this; omega
  · have t1 : Touch F w w1 := ((Touch.refl F w).alloc _).then h2
    refine t1.trans ht2 ?_
    intro i hi
    rcases hi with hi | hi
    · exact Or.inl hi
    · right; rw [hsz] at hi; omega
theorem open_all (p : Nat) (o l : Int) (w : World) (F : Nat → Prop) (st : BookSt) (N : Nat) (hb : BookAt w F p st N) (g : Good st) (hN : N < maxLen) :
    Calls Tryz.prog 21 #[.pointer (some ⟨p, 0, none⟩), .int .i64 o, .int .i64 l] w (OpPost (openR st o l).1 F p (openR st o l).2 (N + 1) w) := by
  unfold openR
  rcases chkE_vals o [l] with hc | hc
  · rw [if_pos hc]
    cases ha : st.acc o with
    | none => exact open_fresh p o l w F st N hb g.ents hN hc ha
    | some a => exact (open_twice p o l w F st N hb hc a ha).mono fun e w' h => h.more (Nat.le_succ _)
  · rw [if_neg (by rw [hc]; decide)]
    exact (open_bad p o l w F st N hb hc).mono fun e w' h => h.more (Nat.le_succ _)

end
end Go.Proofs.YtfnmjlnpfoclbaaGreat
