/-
  counts, left, hold, Change: what they give. Conditions: numbers that are not too large.
  Change: what it gives. Conditions: numbers that are not too large.
  The book's Take and Give: what they give. Conditions: numbers that are not too large.
-/
import Derived.Test.YtfnmjlnpfoclbaaGreatQueueRunsPaf
import Derived.Test.YtfnmjlnpfoclbaaGreatQueueRunsPad

namespace Go.Proofs.YtfnmjlnpfoclbaaGreat
section
open Go.RowKit

def trimE (l : List Ent) : List Ent := if 10000 < l.length then l.drop 5001 else l
theorem trimE_len (l : List Ent) (h : l.length ≤ 10001) : (trimE l).length ≤ 10000 := by
  unfold trimE; split
  · rw [List.length_drop]; omega
  · omega

theorem note_any (p : Nat) (en : Ent) (w : World) (F : Nat → Prop) (st : BookSt) (N : Nat) (hb : BookAt w F p st N) (hn : st.entries.length ≤ 10000) :
    Calls Tryz.prog 57 #[.pointer (some ⟨p, 0, none⟩), .agg #[.int .i64 en.kind, .int .i64 en.owner, .int .i64 en.other, .int .i64 en.amount, .int .i64 en.lease, .int .i64 en.untl]] w
      (NotePost F p { st with entries := trimE (st.entries ++ [en]) } N w) := by
  by_cases h : st.entries.length ≤ 9999
  · have := note_few p en w F st N hb h
    unfold trimE
    rw [if_neg (by simp; omega)]
    exact this
  · have := note_full p en w F st N hb (by omega)
    unfold trimE
    rw [if_pos (by simp; omega)]
    exact this

set_option maxHeartbeats 1000000 in
set_option maxRecDepth 100000 in
theorem counts_any (b : Nat) (l h s : Int) (w : World) (hb : w.heap[b]? = some (.cells #[.int .i64 l, .int .i64 h, .int .i64 s] 112 (0, 0))) (h1 : 0 ≤ h ∧ h ≤ 1000000000000) (h2 : 0 ≤ s ∧ s ≤ 1000000000000) :
    Calls Tryz.prog 92 #[.pointer (some ⟨b, 0, none⟩)] w (fun e w' => e = .returned (.int .i64 (h + s)) ∧ ∃ q, w' = w.drewN q) := by
  have c1 : w.cell? ⟨b, 1, none⟩ = some (.int .i64 h) := by rw [cell_of hb]; rfl
  have c2 : w.cell? ⟨b, 2, none⟩ = some (.int .i64 s) := by rw [cell_of hb]; rfl
  obtain ⟨h1a, h1b⟩ := h1
  obtain ⟨h2a, h2b⟩ := h2
  clear hb
  go_enter Tryz.func92, Tryz.ntmps92
  go_wp2_with fail
  go_quiet (fail)
  go_wp2_with fail
  go_ret
  exact ⟨rfl, _, rfl⟩

set_option maxHeartbeats 1000000 in
set_option maxRecDepth 100000 in
theorem left_any (p b : Nat) (st : BookSt) (mb : Nat) (lv ev : Value) (l h s : Int) (w : World) (hp : w.heap[p]? = some (.cells (bookCells st mb lv ev) 107 (0, 0))) (hb : w.heap[b]? = some (.cells #[.int .i64 l, .int .i64 h, .int .i64 s] 112 (0, 0)))
    (h0 : 0 ≤ l ∧ l ≤ 1000000000000) (h1 : 0 ≤ h ∧ h ≤ 1000000000000) (h2 : 0 ≤ s ∧ s ≤ 1000000000000) (h3 : 0 ≤ st.budget ∧ st.budget ≤ 1000000000000) (h4 : 0 ≤ st.total ∧ st.total ≤ 1000000000000) :
    Calls Tryz.prog 80 #[.pointer (some ⟨p, 0, none⟩), .pointer (some ⟨b, 0, none⟩)] w (fun e w' => e = .returned (.int .i64 (min (l - (h + s)) (st.budget - st.total))) ∧ ∃ q, w' = w.drewN q) := by
  have c0 : w.cell? ⟨b, 0, none⟩ = some (.int .i64 l) := by rw [cell_of hb]; rfl
  have d0 : w.cell? ⟨p, 0, none⟩ = some (.int .i64 st.budget) := by rw [cell_of hp]; rfl
  have d1 : w.cell? ⟨p, 1, none⟩ = some (.int .i64 st.total) := by rw [cell_of hp]; rfl
  have C := Lib.hid (fun n => counts_any b l h s (w.drewN n) hb h1 h2)
  obtain ⟨h0a, h0b⟩ := h0
  obtain ⟨h1a, h1b⟩ := h1
  obtain ⟨h2a, h2b⟩ := h2
  obtain ⟨h3a, h3b⟩ := h3
  obtain ⟨h4a, h4b⟩ := h4
  generalize st.budget = bu at *
  generalize st.total = tt at *
  clear hb hp
  go_enter Tryz.func80, Tryz.ntmps80
  go_wp2_with fail
  go_quiet ((go_at_call 92; exact Calls.quiet_of (C.out _)))
  go_wp2_with fail
  all_goals
    go_ret
    exact ⟨ret_int (by omega), _, rfl⟩


/-- What an account holds has turned, and the total with it. -/
def heldSt (st : BookSt) (o l h s n : Int) : BookSt := { st with total := st.total + n, acc := fun x => if x = o then some (l, h + n, s) else st.acc x }

theorem BookMem.held {w : World} {F : Nat → Prop} {p : Nat} {st : BookSt} {N mb : Nat} {blk : Int → Option Nat} {lv ev : Value} {D : DataW Unit} (hm : BookMem w F p st N mb blk lv ev D) {o l h s : Int} {b : Nat} (hb : blk o = some b) (ha : st.acc o = some (l, h, s)) (n : Int)
    (hblk : w.heap[b]? = some (.cells #[.int .i64 l, .int .i64 h, .int .i64 s] 112 (0, 0))) :
    BookMem ((w.setCell ⟨b, 1, none⟩ (.int .i64 (h + n))).setCell ⟨p, 1, none⟩ (.int .i64 (st.total + n))) F p (heldSt st o l h s n) N mb blk lv ev D ∧
      Touch F w ((w.setCell ⟨b, 1, none⟩ (.int .i64 (h + n))).setCell ⟨p, 1, none⟩ (.int .i64 (st.total + n))) := by
  obtain ⟨_, _, _, _, _, hFb⟩ := hm.asome o b hb
  have hpb : p ≠ b := by rintro rfl; rw [hm.self] at hblk; simp [bookCells] at hblk
  have far : ∀ k, k ≠ b → k ≠ p → ((w.setCell ⟨b, 1, none⟩ (.int .i64 (h + n))).setCell ⟨p, 1, none⟩ (.int .i64 (st.total + n))).heap[k]? = w.heap[k]? := fun k h1 h2 =>
    (Below.heap_setCell _ _ _ k h2).trans (Below.heap_setCell _ _ _ k h1)
  have hp1 : (w.setCell ⟨b, 1, none⟩ (.int .i64 (h + n))).heap[p]? = some (.cells (bookCells st mb lv ev) 107 (0, 0)) := (Below.heap_setCell _ _ _ p hpb).trans hm.self
  have hb1 := block_setCell hblk 1 (.int .i64 (h + n))
  have nmap : mb ≠ b ∧ mb ≠ p := by
    obtain ⟨xs, clock, hx, _⟩ := hm.map
    refine ⟨?_, ?_⟩
    · rintro rfl; rw [hblk] at hx; simp at hx
    · rintro rfl; rw [hm.self] at hx; simp at hx
  have nrow : ∀ (v : Value) (e n sz : Nat) (xs : List Value), w.ownsRow 0 e sz v n xs → e ≠ 112 → e ≠ 107 → ∀ k, v.ownBlock = some k → k ≠ b ∧ k ≠ p := by
    intro v e n sz xs hr h1 h2 k hk
    obtain ⟨cur, hc⟩ := row_block hr hk
    refine ⟨?_, ?_⟩
    · rintro rfl; rw [hblk] at hc; simp at hc; exact h1 hc.2.symm
    · rintro rfl; rw [hm.self] at hc; simp at hc; exact h2 hc.2.symm
  refine ⟨⟨?_, hm.fp, ownsMap_same hm.map (far mb nmap.1 nmap.2), hm.fmap, hm.look, ?_, ?_, hm.inj, ?_, hm.flea, ?_, hm.fent⟩, ?_⟩
  · rw [block_setCell hp1]; rfl
  · intro x
    rw [hm.anone x]
    unfold heldSt
    by_cases hx : x = o
    · simp [hx, ha]
    · simp [hx]
  · intro x c hc
    by_cases hx : x = o
    · subst hx
      rw [hb] at hc
      obtain rfl : b = c := by simpa using hc
      refine ⟨l, h + n, s, by simp [heldSt], ?_, hFb⟩
      rw [Below.heap_setCell _ _ _ b (Ne.symm hpb), hb1]; rfl
    · obtain ⟨l', h', s', h1, h2, h3⟩ := hm.asome x c hc
      have hcb : c ≠ b := by rintro rfl; exact hx (hm.inj x o c hc hb)
      have hcp : c ≠ p := by rintro rfl; rw [hm.self] at h2; simp [bookCells] at h2
      exact ⟨l', h', s', by simp [heldSt, hx, h1], (far c hcb hcp).trans h2, h3⟩
  · exact ownsRow_same hm.lrow (fun k hk => by
      have := nrow _ _ _ _ _ hm.lrow (by decide) (by decide) k hk
      exact far k this.1 this.2)
  · exact ownsRow_same hm.erow (fun k hk => by
      have := nrow _ _ _ _ _ hm.erow (by decide) (by decide) k hk
      exact far k this.1 this.2)
  · exact ((Touch.refl F w).setCell (p := ⟨b, 1, none⟩) (Or.inl hFb) _).setCell (p := ⟨p, 1, none⟩) (Or.inl hm.fp) _

def holdEnt (o n : Int) : Ent := if 0 ≤ n then ⟨3, o, 0, n, 0, 0⟩ else ⟨4, o, 0, -n, 0, 0⟩

set_option maxHeartbeats 2000000 in
set_option maxRecDepth 100000 in
theorem hold_any (p b : Nat) (o n l h s : Int) (w : World) (F : Nat → Prop) (st : BookSt) (N mb : Nat) (blk : Int → Option Nat) (lv ev : Value) (D : DataW Unit) (hm : BookMem w F p st N mb blk lv ev D) (hb : blk o = some b) (ha : st.acc o = some (l, h, s))
    (h1 : -1000000000000 ≤ n ∧ n ≤ 1000000000000) (h2 : -1000000000000 ≤ h ∧ h ≤ 1000000000000) (h3 : -1000000000000 ≤ st.total ∧ st.total ≤ 1000000000000) (hn : st.entries.length ≤ 10000) :
    Calls Tryz.prog 88 #[.pointer (some ⟨p, 0, none⟩), .pointer (some ⟨b, 0, none⟩), .int .i64 o, .int .i64 n] w
      (NotePost F p { heldSt st o l h s n with entries := trimE (st.entries ++ [holdEnt o n]) } N w) := by
  obtain ⟨l', h', s', ha', hblk, _⟩ := hm.asome o b hb
  rw [ha] at ha'
  simp only [Option.some.injEq, Prod.mk.injEq] at ha'
  obtain ⟨rfl, rfl, rfl⟩ := ha'
  obtain ⟨hm2, ht2⟩ := hm.held hb ha n hblk
  have c1 : w.cell? ⟨b, 1, none⟩ = some (.int .i64 h) := by rw [cell_of hblk]; rfl
  have f1 : w.frozen? ⟨b, 1, none⟩ = false := free_of hblk 1
  have d1 : w.cell? ⟨p, 1, none⟩ = some (.int .i64 st.total) := by rw [cell_of hm.self]; rfl
  have g1 : w.frozen? ⟨p, 1, none⟩ = false := free_of hm.self 1
  have hpb : p ≠ b := by rintro rfl; rw [hm.self] at hblk; simp [bookCells] at hblk
  have ne1 : ∀ (W : World) (u : Value), (W.setCell ⟨b, 1, none⟩ u).cell? ⟨p, 1, none⟩ = W.cell? ⟨p, 1, none⟩ := fun W u => World.cell?_setCell_other _ _ _ _ (by simp)
  have C3 := note_any p ⟨3, o, 0, n, 0, 0⟩ _ F _ N ⟨mb, blk, lv, ev, D, hm2⟩ hn
  have C4 := note_any p ⟨4, o, 0, -n, 0, 0⟩ _ F _ N ⟨mb, blk, lv, ev, D, hm2⟩ hn
  have HC3 := Lib.hid C3
  have HC4 := Lib.hid C4
  have HT := Lib.hid ht2
  obtain ⟨h1a, h1b⟩ := h1
  obtain ⟨h2a, h2b⟩ := h2
  obtain ⟨h3a, h3b⟩ := h3
  generalize st.total = tt at *
  clear C3 C4 hm2 ht2 hblk hm ha hb
  by_cases h0 : 0 ≤ n
  · have HE := Lib.hid (show holdEnt o n = ⟨3, o, 0, n, 0, 0⟩ by unfold holdEnt; rw [if_pos h0])
    go_enter Tryz.func88, Tryz.ntmps88
    go_wp2_with fail
    refine HC3.out.mono ?_
    rintro e w1 ⟨rfl, hb1, ht1⟩
    have hs := HT.out.size
    have HB1 := Lib.hid (hb1.wider (G := fun k => F k ∨ w.heap.size ≤ k) (fun k hk => hk.imp id (fun x => Nat.le_trans hs x)))
    have HT1 := Lib.hid (HT.out.then ht1)
    clear hb1 ht1
    go_wp2_with fail
    go_end0
    refine ⟨rfl, ?_, HT1.out⟩
    rw [HE.out]
    exact HB1.out
  · have HE := Lib.hid (show holdEnt o n = ⟨4, o, 0, -n, 0, 0⟩ by unfold holdEnt; rw [if_neg h0])
    go_enter Tryz.func88, Tryz.ntmps88
    go_wp2_with fail
    refine HC4.out.mono ?_
    rintro e w1 ⟨rfl, hb1, ht1⟩
    have hs := HT.out.size
    have HB1 := Lib.hid (hb1.wider (G := fun k => F k ∨ w.heap.size ≤ k) (fun k hk => hk.imp id (fun x => Nat.le_trans hs x)))
    have HT1 := Lib.hid (HT.out.then ht1)
    clear hb1 ht1
    go_wp2_with fail
    go_end0
    refine ⟨rfl, ?_, HT1.out⟩
    rw [HE.out]
    exact HB1.out

end
end Go.Proofs.YtfnmjlnpfoclbaaGreat

namespace Go.Proofs.YtfnmjlnpfoclbaaGreat
section
open Go.RowKit

theorem reads_two (w : World) (a b : Int) : Reads (w.alloc (.cells #[.int .i64 a, .int .i64 b] 3)) .i64 (.slice (some ⟨w.heap.size, 0, none⟩) 2 2) [a, b] := by
  have h := heap_alloc_new w (.cells #[.int .i64 a, .int .i64 b] 3)
  refine ⟨_, 2, rfl, by simp, fun _ => ⟨w.heap.size, 0, rfl, fun j hj => ?_⟩⟩
  rw [cell_of h]
  match j, hj with
  | 0, _ => rfl
  | 1, _ => rfl

def changeE (st : BookSt) (l h s fr tw : Int) : Int := if h < fr then 5 else if min (l - (h + s)) (st.budget - st.total) < tw - fr then 12 else 0
def changeSt (st : BookSt) (o l h s fr tw : Int) : BookSt := if changeE st l h s fr tw = 0 ∧ fr ≠ tw then { heldSt st o l h s (tw - fr) with entries := trimE (st.entries ++ [holdEnt o (tw - fr)]) } else st
def ChangePost (F : Nat → Prop) (p : Nat) (st : BookSt) (o l h s fr tw : Int) (N : Nat) (w : World) : Ending → World → Prop := fun e w' =>
  e = .returned (.int .i64 (changeE st l h s fr tw)) ∧ BookAt w' (fun k => F k ∨ w.heap.size ≤ k) p (changeSt st o l h s fr tw) N ∧ Touch F w w'

end
end Go.Proofs.YtfnmjlnpfoclbaaGreat

namespace Go.Proofs.YtfnmjlnpfoclbaaGreat
section
open Go.RowKit

def takeE (st : BookSt) (l h s n : Int) : Int := if min (l - (h + s)) (st.budget - st.total) < n then 12 else 0
def takeSt (st : BookSt) (o l h s n : Int) : BookSt := if takeE st l h s n = 0 then { heldSt st o l h s n with entries := trimE (st.entries ++ [holdEnt o n]) } else st
def TakePost (F : Nat → Prop) (p : Nat) (st : BookSt) (o l h s n : Int) (N : Nat) (w : World) : Ending → World → Prop := fun e w' =>
  e = .returned (.int .i64 (takeE st l h s n)) ∧ BookAt w' (fun k => F k ∨ w.heap.size ≤ k) p (takeSt st o l h s n) N ∧ Touch F w w'

set_option maxHeartbeats 2000000 in
set_option maxRecDepth 100000 in
theorem take_any (p : Nat) (o n l h s : Int) (w : World) (F : Nat → Prop) (st : BookSt) (N : Nat) (hbk : BookAt w F p st N) (ha : st.acc o = some (l, h, s)) (ho : 1 ≤ o ∧ o ≤ 40) (hn0 : 0 ≤ n ∧ n ≤ 10000000)
    (h0 : 0 ≤ l ∧ l ≤ 1000000000) (h1 : 0 ≤ h ∧ h ≤ 1000000000) (h2 : 0 ≤ s ∧ s ≤ 1000000000) (h3 : 0 ≤ st.budget ∧ st.budget ≤ 1000000000) (h4 : 0 ≤ st.total ∧ st.total ≤ 1000000000) (hn : st.entries.length ≤ 10000) :
    Calls Tryz.prog 65 #[.pointer (some ⟨p, 0, none⟩), .int .i64 o, .int .i64 n] w (TakePost F p st o l h s n N w) := by
  obtain ⟨mb, blk, lv, ev, D, hm⟩ := hbk
  obtain ⟨b, hb⟩ : ∃ b, blk o = some b := by
    cases hb : blk o with
    | none => rw [(hm.anone o).1 hb] at ha; cases ha
    | some b => exact ⟨b, rfl⟩
  obtain ⟨l', h', s', ha', hblk, hFb⟩ := hm.asome o b hb
  rw [ha] at ha'
  simp only [Option.some.injEq, Prod.mk.injEq] at ha'
  obtain ⟨rfl, rfl, rfl⟩ := ha'
  have B1 : Below w.heap.size w (w.alloc (.cells #[.int .i64 n] 3)) := (Below.refl _ _).alloc (Nat.le_refl _) _
  have hm1 := hm.same (Below.same_on B1)
  have A := account_any p o _ [n] _ F st N mb blk lv ev D (reads_one w n 3) (by unfold chkE; rw [if_pos ⟨ho, by simp; omega⟩]) hm1
  rw [hb] at A
  have HA := Lib.hid A
  have hblk1 := (B1.block b (lt_of hblk)).trans hblk
  have L := left_any p b st mb lv ev l h s _ hm1.self hblk1 (by omega) (by omega) (by omega) (by omega) (by omega)
  have HL := Lib.hid L
  have HM1 := Lib.hid hm1
  have HB := Lib.hid hb
  have HACC := Lib.hid ha
  have HB1 := Lib.hid B1
  obtain ⟨hn1, hn2⟩ := hn0
  clear A L hm hm1 hb ha hblk hblk1 B1
  have fin : ∀ q, BookAt ((w.alloc (.cells #[.int .i64 n] 3)).drewN q) (fun k => F k ∨ w.heap.size ≤ k) p st N ∧ Touch F w ((w.alloc (.cells #[.int .i64 n] 3)).drewN q) := fun q =>
    ⟨(show BookAt _ F p st N from ⟨mb, blk, lv, ev, D, HM1.out.same (Below.same_on (bdrewN (Below.refl _ _) q))⟩).wider (fun k hk => Or.inl hk), (Touch.of_below HB1.out).drewN q⟩
  have FIN := Lib.hid fin
  clear fin
  have e1' : takeE st l h s n = if min (l - (h + s)) (st.budget - st.total) < n then 12 else 0 := rfl
  have HSH := Lib.hid (fun (q : Nat) => hold_any p b o n l h s ((w.alloc (.cells #[.int .i64 n] 3)).drewN q) F st N mb blk lv ev D (HM1.out.same (Below.same_on (bdrewN (Below.refl _ _) q))) HB.out HACC.out (by omega) (by omega) (by omega) hn)
  generalize hm0 : min (l - (h + s)) (st.budget - st.total) = m at *
  have mb1 : -4000000000 ≤ m ∧ m ≤ 4000000000 := by omega
  obtain ⟨mb1a, mb1b⟩ := mb1
  clear hm0
  by_cases e2 : m < n
  · have HE := Lib.hid (show takeE st l h s n = 12 by rw [e1', if_pos e2])
    have HS := Lib.hid (show takeSt st o l h s n = st by unfold takeSt; rw [if_neg (by rw [HE.out]; simp)])
    clear e1' HSH
    go_enter Tryz.func65, Tryz.ntmps65
    go_wp2_with fail
    refine HA.out.mono ?_
    rintro e w1 ⟨rfl, rfl⟩
    unfold ptrOf
    go_wp2_with fail
    refine HL.out.mono ?_
    rintro e w2 ⟨rfl, q, rfl⟩
    go_wp2_with fail
    go_ret
    refine ⟨by rw [HE.out]; rfl, ?_, (FIN.out q).2⟩
    rw [HS.out]
    exact (FIN.out q).1
  · have HE := Lib.hid (show takeE st l h s n = 0 by rw [e1', if_neg e2])
    clear e1'
    have HS := Lib.hid (show takeSt st o l h s n = { heldSt st o l h s n with entries := trimE (st.entries ++ [holdEnt o n]) } by unfold takeSt; rw [if_pos HE.out])
    go_enter Tryz.func65, Tryz.ntmps65
    go_wp2_with fail
    refine HA.out.mono ?_
    rintro e w1 ⟨rfl, rfl⟩
    unfold ptrOf
    go_wp2_with fail
    refine HL.out.mono ?_
    rintro e w2 ⟨rfl, q, rfl⟩
    go_wp2_with fail
    refine (HSH.out q).mono ?_
    rintro e w3 ⟨rfl, hb3, ht3⟩
    have hs3 := (FIN.out q).2.size
    have HB3 := Lib.hid (hb3.wider (G := fun k => F k ∨ w.heap.size ≤ k) (fun k hk => hk.imp id (fun x => Nat.le_trans hs3 x)))
    have HT3 := Lib.hid ((FIN.out q).2.then ht3)
    clear hb3 ht3
    go_wp2_with fail
    go_ret
    refine ⟨by rw [HE.out]; rfl, ?_, HT3.out⟩
    rw [HS.out]
    exact HB3.out

def giveE (h n : Int) : Int := if h < n then 5 else 0
def giveSt (st : BookSt) (o l h s n : Int) : BookSt := if giveE h n = 0 then { heldSt st o l h s (-n) with entries := trimE (st.entries ++ [⟨4, o, 0, n, 0, 0⟩]) } else st
def GivePost (F : Nat → Prop) (p : Nat) (st : BookSt) (o l h s n : Int) (N : Nat) (w : World) : Ending → World → Prop := fun e w' =>
  e = .returned (.int .i64 (giveE h n)) ∧ BookAt w' (fun k => F k ∨ w.heap.size ≤ k) p (giveSt st o l h s n) N ∧ Touch F w w'

set_option maxHeartbeats 2000000 in
set_option maxRecDepth 100000 in
theorem give_any (p : Nat) (o n l h s : Int) (w : World) (F : Nat → Prop) (st : BookSt) (N : Nat) (hbk : BookAt w F p st N) (ha : st.acc o = some (l, h, s)) (ho : 1 ≤ o ∧ o ≤ 40) (hn0 : 0 ≤ n ∧ n ≤ 10000000)
    (h1 : 0 ≤ h ∧ h ≤ 1000000000) (h4 : 0 ≤ st.total ∧ st.total ≤ 1000000000) (hn : st.entries.length ≤ 10000) :
    Calls Tryz.prog 79 #[.pointer (some ⟨p, 0, none⟩), .int .i64 o, .int .i64 n] w (GivePost F p st o l h s n N w) := by
  obtain ⟨mb, blk, lv, ev, D, hm⟩ := hbk
  obtain ⟨b, hb⟩ : ∃ b, blk o = some b := by
    cases hb : blk o with
    | none => rw [(hm.anone o).1 hb] at ha; cases ha
    | some b => exact ⟨b, rfl⟩
  obtain ⟨l', h', s', ha', hblk, hFb⟩ := hm.asome o b hb
  rw [ha] at ha'
  simp only [Option.some.injEq, Prod.mk.injEq] at ha'
  obtain ⟨rfl, rfl, rfl⟩ := ha'
  have B1 : Below w.heap.size w (w.alloc (.cells #[.int .i64 n] 3)) := (Below.refl _ _).alloc (Nat.le_refl _) _
  have hm1 := hm.same (Below.same_on B1)
  have A := account_any p o _ [n] _ F st N mb blk lv ev D (reads_one w n 3) (by unfold chkE; rw [if_pos ⟨ho, by simp; omega⟩]) hm1
  rw [hb] at A
  have HA := Lib.hid A
  have hblk1 := (B1.block b (lt_of hblk)).trans hblk
  obtain ⟨hm2, ht2⟩ := hm1.held hb ha (-n) hblk1
  rw [← Int.sub_eq_add_neg, ← Int.sub_eq_add_neg] at hm2 ht2
  have c1 : (w.alloc (.cells #[.int .i64 n] 3)).cell? ⟨b, 1, none⟩ = some (.int .i64 h) := by rw [cell_of hblk1]; rfl
  have f1 : (w.alloc (.cells #[.int .i64 n] 3)).frozen? ⟨b, 1, none⟩ = false := free_of hblk1 1
  have d1 : (w.alloc (.cells #[.int .i64 n] 3)).cell? ⟨p, 1, none⟩ = some (.int .i64 st.total) := by rw [cell_of hm1.self]; rfl
  have g1 : (w.alloc (.cells #[.int .i64 n] 3)).frozen? ⟨p, 1, none⟩ = false := free_of hm1.self 1
  have hpb : p ≠ b := by rintro rfl; rw [hm.self] at hblk; simp [bookCells] at hblk
  have ne1 : ∀ (W : World) (u : Value), (W.setCell ⟨b, 1, none⟩ u).cell? ⟨p, 1, none⟩ = W.cell? ⟨p, 1, none⟩ := fun W u => World.cell?_setCell_other _ _ _ _ (by simp)
  have C4 := note_any p ⟨4, o, 0, n, 0, 0⟩ _ F _ N ⟨mb, blk, lv, ev, D, hm2⟩ hn
  have HC4 := Lib.hid C4
  have HT := Lib.hid ht2
  have HM1 := Lib.hid hm1
  have HB1 := Lib.hid B1
  obtain ⟨hn1, hn2⟩ := hn0
  obtain ⟨h1a, h1b⟩ := h1
  obtain ⟨h4a, h4b⟩ := h4
  clear A C4 hm hm1 hm2 ht2 hb ha hblk hblk1 B1
  by_cases e2 : h < n
  · have HE := Lib.hid (show giveE h n = 5 from if_pos e2)
    have HS := Lib.hid (show giveSt st o l h s n = st by unfold giveSt; rw [if_neg (by rw [HE.out]; simp)])
    have FIN : Hid (BookAt (w.alloc (.cells #[.int .i64 n] 3)) (fun k => F k ∨ w.heap.size ≤ k) p st N) := Lib.hid ((show BookAt _ F p st N from ⟨mb, blk, lv, ev, D, HM1.out⟩).wider (fun k hk => Or.inl hk))
    clear HC4 HT
    generalize st.total = tt at *
    go_enter Tryz.func79, Tryz.ntmps79
    go_wp2_with fail
    refine HA.out.mono ?_
    rintro e w1 ⟨rfl, rfl⟩
    unfold ptrOf
    go_wp2_with fail
    go_ret
    refine ⟨by rw [HE.out]; rfl, ?_, Touch.of_below HB1.out⟩
    rw [HS.out]
    exact FIN.out
  · have HE := Lib.hid (show giveE h n = 0 from if_neg e2)
    have HS := Lib.hid (show giveSt st o l h s n = { heldSt st o l h s (-n) with entries := trimE (st.entries ++ [⟨4, o, 0, n, 0, 0⟩]) } by unfold giveSt; rw [if_pos HE.out])
    generalize st.total = tt at *
    go_enter Tryz.func79, Tryz.ntmps79
    go_wp2_with fail
    refine HA.out.mono ?_
    rintro e w1 ⟨rfl, rfl⟩
    unfold ptrOf
    go_wp2_with fail
    refine HC4.out.mono ?_
    rintro e w3 ⟨rfl, hb3, ht3⟩
    have hs1 := HB1.out.size
    have hs3 := HT.out.size
    have HB3 := Lib.hid (hb3.wider (G := fun k => F k ∨ w.heap.size ≤ k) (fun k hk => hk.imp id (fun x => Nat.le_trans hs1 (Nat.le_trans hs3 x))))
    have HT3 := Lib.hid (((Touch.of_below (F := F) HB1.out).then HT.out).then ht3)
    clear hb3 ht3
    go_wp2_with fail
    go_ret
    refine ⟨by rw [HE.out]; rfl, ?_, HT3.out⟩
    rw [HS.out]
    exact HB3.out

end
end Go.Proofs.YtfnmjlnpfoclbaaGreat
