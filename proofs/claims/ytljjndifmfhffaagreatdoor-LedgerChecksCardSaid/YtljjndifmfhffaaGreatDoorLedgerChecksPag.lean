/-
  The book's Open and Held. No conditions.
  counts, left, hold, Change: what they give. Conditions: numbers that are not too large.
  Change: what it gives. Conditions: numbers that are not too large.
-/
import Derived.Test.YtljjndifmfhffaaGreatDoorLedgerChecksPad
import Derived.Test.YtljjndifmfhffaaGreatDoorLedgerChecksPaf

namespace Go.Proofs.YtljjndifmfhffaaGreatDoor
section
open Go.RowKit

/-- What Open leaves. -/
def openSt (st : BookSt) (o l : Int) : BookSt := { st with acc := fun x => if x = o then some (l, 0, 0) else st.acc x, entries := st.entries ++ [⟨1, o, 0, l, 0, 0⟩] }

def OpPost (err : Int) (F : Nat → Prop) (p : Nat) (st : BookSt) (N : Nat) (w : World) : Ending → World → Prop := fun e w' =>
  e = .returned (.int .i64 err) ∧ BookAt w' (fun k => F k ∨ w.heap.size ≤ k) p st N ∧ Touch F w w'

theorem reads_one (w : World) (x : Int) (t : TypeId) : Reads (w.alloc (.cells #[.int .i64 x] t)) .i64 (.slice (some ⟨w.heap.size, 0, none⟩) 1 1) [x] := by
  refine ⟨some ⟨w.heap.size, 0, none⟩, 1, rfl, by simp, fun _ => ⟨w.heap.size, 0, rfl, fun j hj => ?_⟩⟩
  have : j = 0 := by simpa using hj
  subst this
  rw [cell_of_row _ _ _ _ _ _ (heap_alloc_new w _)]
  rfl

theorem lit_ne {x o : Int} (h : x ≠ o) : (Lit.int .i64 x) ≠ (Lit.int .i64 o) := by simp [h]

theorem open_mem {w w1 : World} {F : Nat → Prop} {p : Nat} {st : BookSt} {N mb : Nat} {blk : Int → Option Nat} {lv ev : Value} {D : DataW Unit} (h : BookMem w F p st N mb blk lv ev D) (o l : Int)
    (hm : w1.ownsMap Tryz.prog 3 ptrElem mb (N + 1) (D.put (.int .i64 o) (.lit (.int .i64 (w.heap.size : Int)))))
    (hg : (w.alloc (.cells #[.int .i64 l, .int .i64 0, .int .i64 0] 81)).grownBy w1 (some mb)) :
    BookMem w1 (fun k => F k ∨ w.heap.size ≤ k) p { st with acc := fun x => if x = o then some (l, 0, 0) else st.acc x } (N + 1) mb (fun x => if x = o then some w.heap.size else blk x) lv ev (D.put (.int .i64 o) (.lit (.int .i64 (w.heap.size : Int)))) ∧ Touch F w w1 := by
  have hk : ∀ k, k < w.heap.size → k ≠ mb → w1.heap[k]? = w.heap[k]? := fun k hk hne => (hg.block k (by simp; omega) (fun e => hne (by simpa using e))).trans (heap_alloc_old w _ hk)
  have notmb : ∀ b cur t, w.heap[b]? = some (.cells cur t (0, 0)) → b ≠ mb := by
    intro b cur t hb e
    subst e
    obtain ⟨xs, clock, hx, _⟩ := h.map
    rw [hb] at hx; simp at hx
  have hmap : Maps.IsMap D := by obtain ⟨_, _, _, _, _, hD⟩ := h.map; exact ⟨_, hD⟩
  refine ⟨⟨(hk p (lt_of h.self) (notmb _ _ _ h.self)).trans h.self, Or.inl h.fp, hm, Or.inl h.fmap, ?_, ?_, ?_, ?_, ?_, fun k hk => Or.inl (h.flea k hk), ?_, fun k hk => Or.inl (h.fent k hk)⟩, ?_⟩
  · intro x z
    by_cases hx : x = o
    · subst hx
      rw [Maps.atKey_put_same hmap (by simp [WideAt.IsKeyLit]), if_pos rfl]
      rfl
    · rw [Maps.atKey_put_other (lit_ne hx), if_neg hx]
      exact h.look x z
  · intro x
    by_cases hx : x = o
    · simp [hx]
    · simp only [if_neg hx]; exact h.anone x
  · intro x b hb
    by_cases hx : x = o
    · subst hx
      have hb' : some w.heap.size = some b := by simpa using hb
      cases hb'
      refine ⟨l, 0, 0, by simp, ?_, Or.inr (Nat.le_refl _)⟩
      rw [hg.block w.heap.size (by simp) (fun e => ?_)]
      · exact heap_alloc_new w _
      · have := h.map.lt; simp only [Option.some.injEq] at e; omega
    · simp only [if_neg hx] at hb ⊢
      obtain ⟨l', x', s', h1, h2, h3⟩ := h.asome x b hb
      exact ⟨l', x', s', h1, (hk b (lt_of h2) (notmb _ _ _ h2)).trans h2, Or.inl h3⟩
  · intro x y b hx hy
    by_cases ex : x = o
    · by_cases ey : y = o
      · rw [ex, ey]
      · simp only [if_pos ex, if_neg ey, Option.some.injEq] at hx hy
        obtain ⟨_, _, _, _, h2, _⟩ := h.asome y b hy
        have := lt_of h2
        omega
    · by_cases ey : y = o
      · simp only [if_neg ex, if_pos ey, Option.some.injEq] at hx hy
        obtain ⟨_, _, _, _, h2, _⟩ := h.asome x b hx
        have := lt_of h2
        omega
      · simp only [if_neg ex, if_neg ey] at hx hy
        exact h.inj x y b hx hy
  · refine ownsRow_same h.lrow (fun k hk' => ?_)
    obtain ⟨cur, hc⟩ := row_block h.lrow hk'
    exact hk k (lt_of hc) (notmb _ _ _ hc)
  · refine ownsRow_same h.erow (fun k hk' => ?_)
    obtain ⟨cur, hc⟩ := row_block h.erow hk'
    exact hk k (lt_of hc) (notmb _ _ _ hc)
  · exact ((Touch.refl F w).alloc _).grown hg (fun k hk => by simp only [Option.some.injEq] at hk; subst hk; exact Or.inl h.fmap)

set_option maxHeartbeats 4000000 in
set_option maxRecDepth 100000 in
theorem open_new (p : Nat) (o l : Int) (w : World) (F : Nat → Prop) (st : BookSt) (N : Nat) (hb : BookAt w F p st N) (hn : st.entries.length ≤ 9999) (hN : N < maxLen) (ho : 1 ≤ o ∧ o ≤ 40) (hl : 0 ≤ l ∧ l ≤ 10000000) (hno : st.acc o = none) :
    Calls Tryz.prog 23 #[.pointer (some ⟨p, 0, none⟩), .int .i64 o, .int .i64 l] w (OpPost 0 F p (openSt st o l) (N + 1) w) := by
  obtain ⟨mb, blk, lv, ev, D, hm⟩ := hb
  have hwf : (Lit.int .i64 o).wf = true := WalkArith.wf_i64 (by omega)
  have C := check_any o _ [l] _ (reads_one w l 3)
  rw [show chkE o [l] = 0 from by unfold chkE; rw [if_pos ⟨ho, fun z hz => by simp at hz; subst hz; exact hl⟩]] at C
  have HC := Lib.hid C
  have hmw := hm.same (Below.same_on (Below.alloc (Below.refl _ w) (Nat.le_refl _) (.cells #[.int .i64 l] 3)))
  have L := book_lookup hmw o ho
  have hbn : blk o = none := (hm.anone o).2 hno
  rw [hbn] at L
  unfold ptrOf at L
  have c4 : (w.alloc (.cells #[.int .i64 l] 3)).cell? ⟨p, 4, none⟩ = some (.map (some mb)) := by rw [cell_of hmw.self]; rfl
  have HM := Lib.hid hm
  have HW := Lib.hid hmw
  have hp := lt_of hm.self
  clear C hm hmw hno ho hl
  go_enter Tryz.func23, Tryz.ntmps23
  go_wp2_with fail
  refine HC.out.mono ?_
  rintro e w' ⟨rfl, rfl⟩
  go_wp2_with (at_mapUpdate; go_must (refine wpList_mapUpdate_own _ rfl _ _ _ 36 rfl 3 79 intKey Tryz.underlying36 ptrElem mb N D rfl (by exact HW.out.map.alloc _) hN (.int .i64 o) (.pointer (some ⟨w.heap.size + 1, 0, none⟩)) (.int .i64 o) rfl rfl (Maps.keyOf_int_mk Tryz.underlying3 hwf) (.lit (.int .i64 (w.heap.size + 1 : Nat))) [] rfl ?_))
  intro w1 hown1 hg1
  have hsz : (w.alloc (.cells #[.int .i64 l] 3)).heap.size = w.heap.size + 1 := by simp
  obtain ⟨h1, h2⟩ := open_mem HW.out o l (by rw [hsz]; exact hown1) hg1
  have NT := Lib.hid (note_few p ⟨1, o, 0, l, 0, 0⟩ w1 _ _ _ ⟨mb, _, lv, ev, _, h1⟩ hn)
  clear hown1 hg1 L c4
  go_wp2_with fail
  refine NT.out.mono ?_
  rintro e w2 ⟨rfl, hb2, ht2⟩
  go_wp2_with fail
  go_ret
  refine ⟨rfl, hb2.wider ?_, ?_⟩
  · intro k hk
    rcases hk with (hk | hk) | hk
    · exact Or.inl hk
    · right; rw [hsz] at hk; omega
    · right; have := h2.size; rw [hsz] at this; omega
  · have t1 : Touch F w w1 := ((Touch.refl F w).alloc _).then h2
    refine t1.trans ht2 ?_
    intro i hi
    rcases hi with hi | hi
    · exact Or.inl hi
    · right; rw [hsz] at hi; omega

/-- What Held gives. -/
def heldV (st : BookSt) (o : Int) : Int := if 1 ≤ o ∧ o ≤ 40 then (match st.acc o with | some (_, h, _) => h | none => 0) else 0
def heldE (st : BookSt) (o : Int) : Int := if 1 ≤ o ∧ o ≤ 40 then (match st.acc o with | some _ => 0 | none => 7) else 2
def SamePost2 (r err : Int) (w : World) : Ending → World → Prop := fun e w' => e = .returned (.tuple #[.int .i64 r, .int .i64 err]) ∧ w = w'

theorem reads_nil (w : World) : Reads w .i64 (.slice none 0 0) [] := ⟨none, 0, rfl, by simp, fun h => absurd rfl h⟩

end
end Go.Proofs.YtljjndifmfhffaaGreatDoor

namespace Go.Proofs.YtljjndifmfhffaaGreatDoor
section
open Go.RowKit

def trimE (l : List Ent) : List Ent := if 10000 < l.length then l.drop 5001 else l
theorem trimE_len (l : List Ent) (h : l.length ≤ 10001) : (trimE l).length ≤ 10000 := by
  unfold trimE; split
  · rw [List.length_drop]; omega
  · omega

theorem note_any (p : Nat) (en : Ent) (w : World) (F : Nat → Prop) (st : BookSt) (N : Nat) (hb : BookAt w F p st N) (hn : st.entries.length ≤ 10000) :
    Calls Tryz.prog 52 #[.pointer (some ⟨p, 0, none⟩), .agg #[.int .i64 en.kind, .int .i64 en.owner, .int .i64 en.other, .int .i64 en.amount, .int .i64 en.lease, .int .i64 en.untl]] w
      (NotePost F p { st with entries := trimE (st.entries ++ [en]) } N w) := by
  by_cases h : st.entries.length ≤ 9999
  · have := note_few p en w F st N hb h
    unfold trimE
    rw [if_neg (by simp; omega)]
    exact this
  · have := note_full p en w F st N hb (by omega)
    unfold trimE
    rw [if_pos (by simp; omega)]
    exact this

set_option maxHeartbeats 1000000 in
set_option maxRecDepth 100000 in
theorem counts_any (b : Nat) (l h s : Int) (w : World) (hb : w.heap[b]? = some (.cells #[.int .i64 l, .int .i64 h, .int .i64 s] 81 (0, 0))) (h1 : 0 ≤ h ∧ h ≤ 1000000000000) (h2 : 0 ≤ s ∧ s ≤ 1000000000000) :
    Calls Tryz.prog 54 #[.pointer (some ⟨b, 0, none⟩)] w (fun e w' => e = .returned (.int .i64 (h + s)) ∧ ∃ q, w' = w.drewN q) := by
  have c1 : w.cell? ⟨b, 1, none⟩ = some (.int .i64 h) := by rw [cell_of hb]; rfl
  have c2 : w.cell? ⟨b, 2, none⟩ = some (.int .i64 s) := by rw [cell_of hb]; rfl
  obtain ⟨h1a, h1b⟩ := h1
  obtain ⟨h2a, h2b⟩ := h2
  clear hb
  go_enter Tryz.func54, Tryz.ntmps54
  go_wp2_with fail
  go_quiet (fail)
  go_wp2_with fail
  go_ret
  exact ⟨rfl, _, rfl⟩

set_option maxHeartbeats 1000000 in
set_option maxRecDepth 100000 in
theorem left_any (p b : Nat) (st : BookSt) (mb : Nat) (lv ev : Value) (l h s : Int) (w : World) (hp : w.heap[p]? = some (.cells (bookCells st mb lv ev) 39 (0, 0))) (hb : w.heap[b]? = some (.cells #[.int .i64 l, .int .i64 h, .int .i64 s] 81 (0, 0)))
    (h0 : 0 ≤ l ∧ l ≤ 1000000000000) (h1 : 0 ≤ h ∧ h ≤ 1000000000000) (h2 : 0 ≤ s ∧ s ≤ 1000000000000) (h3 : 0 ≤ st.budget ∧ st.budget ≤ 1000000000000) (h4 : 0 ≤ st.total ∧ st.total ≤ 1000000000000) :
    Calls Tryz.prog 55 #[.pointer (some ⟨p, 0, none⟩), .pointer (some ⟨b, 0, none⟩)] w (fun e w' => e = .returned (.int .i64 (min (l - (h + s)) (st.budget - st.total))) ∧ ∃ q, w' = w.drewN q) := by
  have c0 : w.cell? ⟨b, 0, none⟩ = some (.int .i64 l) := by rw [cell_of hb]; rfl
  have d0 : w.cell? ⟨p, 0, none⟩ = some (.int .i64 st.budget) := by rw [cell_of hp]; rfl
  have d1 : w.cell? ⟨p, 1, none⟩ = some (.int .i64 st.total) := by rw [cell_of hp]; rfl
  have C := Lib.hid (fun n => counts_any b l h s (w.drewN n) hb h1 h2)
  obtain ⟨h0a, h0b⟩ := h0
  obtain ⟨h1a, h1b⟩ := h1
  obtain ⟨h2a, h2b⟩ := h2
  obtain ⟨h3a, h3b⟩ := h3
  obtain ⟨h4a, h4b⟩ := h4
  generalize st.budget = bu at *
  generalize st.total = tt at *
  clear hb hp
  go_enter Tryz.func55, Tryz.ntmps55
  go_wp2_with fail
  go_quiet ((go_at_call 54; exact Calls.quiet_of (C.out _)))
  go_wp2_with fail
  all_goals
    go_ret
    exact ⟨ret_int (by omega), _, rfl⟩


/-- What an account holds has turned, and the total with it. -/
def heldSt (st : BookSt) (o l h s n : Int) : BookSt := { st with total := st.total + n, acc := fun x => if x = o then some (l, h + n, s) else st.acc x }

theorem BookMem.held {w : World} {F : Nat → Prop} {p : Nat} {st : BookSt} {N mb : Nat} {blk : Int → Option Nat} {lv ev : Value} {D : DataW Unit} (hm : BookMem w F p st N mb blk lv ev D) {o l h s : Int} {b : Nat} (hb : blk o = some b) (ha : st.acc o = some (l, h, s)) (n : Int)
    (hblk : w.heap[b]? = some (.cells #[.int .i64 l, .int .i64 h, .int .i64 s] 81 (0, 0))) :
    BookMem ((w.setCell ⟨b, 1, none⟩ (.int .i64 (h + n))).setCell ⟨p, 1, none⟩ (.int .i64 (st.total + n))) F p (heldSt st o l h s n) N mb blk lv ev D ∧
      Touch F w ((w.setCell ⟨b, 1, none⟩ (.int .i64 (h + n))).setCell ⟨p, 1, none⟩ (.int .i64 (st.total + n))) := by
  obtain ⟨_, _, _, _, _, hFb⟩ := hm.asome o b hb
  have hpb : p ≠ b := by rintro rfl; rw [hm.self] at hblk; simp [bookCells] at hblk
  have far : ∀ k, k ≠ b → k ≠ p → ((w.setCell ⟨b, 1, none⟩ (.int .i64 (h + n))).setCell ⟨p, 1, none⟩ (.int .i64 (st.total + n))).heap[k]? = w.heap[k]? := fun k h1 h2 =>
    (Below.heap_setCell _ _ _ k h2).trans (Below.heap_setCell _ _ _ k h1)
  have hp1 : (w.setCell ⟨b, 1, none⟩ (.int .i64 (h + n))).heap[p]? = some (.cells (bookCells st mb lv ev) 39 (0, 0)) := (Below.heap_setCell _ _ _ p hpb).trans hm.self
  have hb1 := block_setCell hblk 1 (.int .i64 (h + n))
  have nmap : mb ≠ b ∧ mb ≠ p := by
    obtain ⟨xs, clock, hx, _⟩ := hm.map
    refine ⟨?_, ?_⟩
    · rintro rfl; rw [hblk] at hx; simp at hx
    · rintro rfl; rw [hm.self] at hx; simp at hx
  have nrow : ∀ (v : Value) (e n sz : Nat) (xs : List Value), w.ownsRow 0 e sz v n xs → e ≠ 81 → e ≠ 39 → ∀ k, v.ownBlock = some k → k ≠ b ∧ k ≠ p := by
    intro v e n sz xs hr h1 h2 k hk
    obtain ⟨cur, hc⟩ := row_block hr hk
    refine ⟨?_, ?_⟩
    · rintro rfl; rw [hblk] at hc; simp at hc; exact h1 hc.2.symm
    · rintro rfl; rw [hm.self] at hc; simp at hc; exact h2 hc.2.symm
  refine ⟨⟨?_, hm.fp, ownsMap_same hm.map (far mb nmap.1 nmap.2), hm.fmap, hm.look, ?_, ?_, hm.inj, ?_, hm.flea, ?_, hm.fent⟩, ?_⟩
  · rw [block_setCell hp1]; rfl
  · intro x
    rw [hm.anone x]
    unfold heldSt
    by_cases hx : x = o
    · simp [hx, ha]
    · simp [hx]
  · intro x c hc
    by_cases hx : x = o
    · subst hx
      rw [hb] at hc
      obtain rfl : b = c := by simpa using hc
      refine ⟨l, h + n, s, by simp [heldSt], ?_, hFb⟩
      rw [Below.heap_setCell _ _ _ b (Ne.symm hpb), hb1]; rfl
    · obtain ⟨l', h', s', h1, h2, h3⟩ := hm.asome x c hc
      have hcb : c ≠ b := by rintro rfl; exact hx (hm.inj x o c hc hb)
      have hcp : c ≠ p := by rintro rfl; rw [hm.self] at h2; simp [bookCells] at h2
      exact ⟨l', h', s', by simp [heldSt, hx, h1], (far c hcb hcp).trans h2, h3⟩
  · exact ownsRow_same hm.lrow (fun k hk => by
      have := nrow _ _ _ _ _ hm.lrow (by decide) (by decide) k hk
      exact far k this.1 this.2)
  · exact ownsRow_same hm.erow (fun k hk => by
      have := nrow _ _ _ _ _ hm.erow (by decide) (by decide) k hk
      exact far k this.1 this.2)
  · exact ((Touch.refl F w).setCell (p := ⟨b, 1, none⟩) (Or.inl hFb) _).setCell (p := ⟨p, 1, none⟩) (Or.inl hm.fp) _

def holdEnt (o n : Int) : Ent := if 0 ≤ n then ⟨3, o, 0, n, 0, 0⟩ else ⟨4, o, 0, -n, 0, 0⟩

set_option maxHeartbeats 2000000 in
set_option maxRecDepth 100000 in
theorem hold_any (p b : Nat) (o n l h s : Int) (w : World) (F : Nat → Prop) (st : BookSt) (N mb : Nat) (blk : Int → Option Nat) (lv ev : Value) (D : DataW Unit) (hm : BookMem w F p st N mb blk lv ev D) (hb : blk o = some b) (ha : st.acc o = some (l, h, s))
    (h1 : -1000000000000 ≤ n ∧ n ≤ 1000000000000) (h2 : -1000000000000 ≤ h ∧ h ≤ 1000000000000) (h3 : -1000000000000 ≤ st.total ∧ st.total ≤ 1000000000000) (hn : st.entries.length ≤ 10000) :
    Calls Tryz.prog 56 #[.pointer (some ⟨p, 0, none⟩), .pointer (some ⟨b, 0, none⟩), .int .i64 o, .int .i64 n] w
      (NotePost F p { heldSt st o l h s n with entries := trimE (st.entries ++ [holdEnt o n]) } N w) := by
  obtain ⟨l', h', s', ha', hblk, _⟩ := hm.asome o b hb
  rw [ha] at ha'
  simp only [Option.some.injEq, Prod.mk.injEq] at ha'
  obtain ⟨rfl, rfl, rfl⟩ := ha'
  obtain ⟨hm2, ht2⟩ := hm.held hb ha n hblk
  have c1 : w.cell? ⟨b, 1, none⟩ = some (.int .i64 h) := by rw [cell_of hblk]; rfl
  have f1 : w.frozen? ⟨b, 1, none⟩ = false := free_of hblk 1
  have d1 : w.cell? ⟨p, 1, none⟩ = some (.int .i64 st.total) := by rw [cell_of hm.self]; rfl
  have g1 : w.frozen? ⟨p, 1, none⟩ = false := free_of hm.self 1
  have hpb : p ≠ b := by rintro rfl; rw [hm.self] at hblk; simp [bookCells] at hblk
  have ne1 : ∀ (W : World) (u : Value), (W.setCell ⟨b, 1, none⟩ u).cell? ⟨p, 1, none⟩ = W.cell? ⟨p, 1, none⟩ := fun W u => World.cell?_setCell_other _ _ _ _ (by simp)
  have C3 := note_any p ⟨3, o, 0, n, 0, 0⟩ _ F _ N ⟨mb, blk, lv, ev, D, hm2⟩ hn
  have C4 := note_any p ⟨4, o, 0, -n, 0, 0⟩ _ F _ N ⟨mb, blk, lv, ev, D, hm2⟩ hn
  have HC3 := Lib.hid C3
  have HC4 := Lib.hid C4
  have HT := Lib.hid ht2
  obtain ⟨h1a, h1b⟩ := h1
  obtain ⟨h2a, h2b⟩ := h2
  obtain ⟨h3a, h3b⟩ := h3
  generalize st.total = tt at *
  clear C3 C4 hm2 ht2 hblk hm ha hb
  by_cases h0 : 0 ≤ n
  · have HE := Lib.hid (show holdEnt o n = ⟨3, o, 0, n, 0, 0⟩ by unfold holdEnt; rw [if_pos h0])
    go_enter Tryz.func56, Tryz.ntmps56
    go_wp2_with fail
    refine HC3.out.mono ?_
    rintro e w1 ⟨rfl, hb1, ht1⟩
    have hs := HT.out.size
    have HB1 := Lib.hid (hb1.wider (G := fun k => F k ∨ w.heap.size ≤ k) (fun k hk => hk.imp id (fun x => Nat.le_trans hs x)))
    have HT1 := Lib.hid (HT.out.then ht1)
    clear hb1 ht1
    go_wp2_with fail
    go_end0
    refine ⟨rfl, ?_, HT1.out⟩
    rw [HE.out]
    exact HB1.out
  · have HE := Lib.hid (show holdEnt o n = ⟨4, o, 0, -n, 0, 0⟩ by unfold holdEnt; rw [if_neg h0])
    go_enter Tryz.func56, Tryz.ntmps56
    go_wp2_with fail
    refine HC4.out.mono ?_
    rintro e w1 ⟨rfl, hb1, ht1⟩
    have hs := HT.out.size
    have HB1 := Lib.hid (hb1.wider (G := fun k => F k ∨ w.heap.size ≤ k) (fun k hk => hk.imp id (fun x => Nat.le_trans hs x)))
    have HT1 := Lib.hid (HT.out.then ht1)
    clear hb1 ht1
    go_wp2_with fail
    go_end0
    refine ⟨rfl, ?_, HT1.out⟩
    rw [HE.out]
    exact HB1.out

end
end Go.Proofs.YtljjndifmfhffaaGreatDoor

namespace Go.Proofs.YtljjndifmfhffaaGreatDoor
section
open Go.RowKit

theorem reads_two (w : World) (a b : Int) : Reads (w.alloc (.cells #[.int .i64 a, .int .i64 b] 3)) .i64 (.slice (some ⟨w.heap.size, 0, none⟩) 2 2) [a, b] := by
  have h := heap_alloc_new w (.cells #[.int .i64 a, .int .i64 b] 3)
  refine ⟨_, 2, rfl, by simp, fun _ => ⟨w.heap.size, 0, rfl, fun j hj => ?_⟩⟩
  rw [cell_of h]
  match j, hj with
  | 0, _ => rfl
  | 1, _ => rfl

def changeE (st : BookSt) (l h s fr tw : Int) : Int := if h < fr then 5 else if min (l - (h + s)) (st.budget - st.total) < tw - fr then 12 else 0
def changeSt (st : BookSt) (o l h s fr tw : Int) : BookSt := if changeE st l h s fr tw = 0 ∧ fr ≠ tw then { heldSt st o l h s (tw - fr) with entries := trimE (st.entries ++ [holdEnt o (tw - fr)]) } else st
def ChangePost (F : Nat → Prop) (p : Nat) (st : BookSt) (o l h s fr tw : Int) (N : Nat) (w : World) : Ending → World → Prop := fun e w' =>
  e = .returned (.int .i64 (changeE st l h s fr tw)) ∧ BookAt w' (fun k => F k ∨ w.heap.size ≤ k) p (changeSt st o l h s fr tw) N ∧ Touch F w w'

end
end Go.Proofs.YtljjndifmfhffaaGreatDoor
