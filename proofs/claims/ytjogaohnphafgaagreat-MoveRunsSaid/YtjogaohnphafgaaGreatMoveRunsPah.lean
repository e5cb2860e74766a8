/-
  counts, left, hold, Change: what they give. Conditions: numbers that are not too large.
  Change: what it gives. Conditions: numbers that are not too large.
  The book's Take and Give: what they give. Conditions: numbers that are not too large.
  A region that draws its order: one operation in its midst turns the world; what stands ahead of it and behind it only reads. No conditions.
-/
import Derived.Test.YtjogaohnphafgaaGreatMoveRunsPag
import Derived.Test.YtjogaohnphafgaaGreatMoveRunsPad
import Derived.Test.YtjogaohnphafgaaGreatMoveRunsPac
import Derived.StillTail
import Derived.BigQuiet
import Derived.Deep.RegionWith
import Derived.Test.YtjogaohnphafgaaGreatMoveRunsPaa

namespace Go.Proofs.YtjogaohnphafgaaGreat
section
open Go.RowKit

def trimE (l : List Ent) : List Ent := if 10000 < l.length then l.drop 5001 else l
theorem trimE_len (l : List Ent) (h : l.length ≤ 10001) : (trimE l).length ≤ 10000 := by
  unfold trimE; split
  · rw [List.length_drop]; omega
  · omega

theorem note_any (p : Nat) (en : Ent) (w : World) (F : Nat → Prop) (st : BookSt) (N : Nat) (hb : BookAt w F p st N) (hn : st.entries.length ≤ 10000) :
    Calls Tryz.prog 83 #[.pointer (some ⟨p, 0, none⟩), .agg #[.int .i64 en.kind, .int .i64 en.owner, .int .i64 en.other, .int .i64 en.amount, .int .i64 en.lease, .int .i64 en.untl]] w
      (NotePost F p { st with entries := trimE (st.entries ++ [en]) } N w) := by
  by_cases h : st.entries.length ≤ 9999
  · have := note_few p en w F st N hb h
    unfold trimE
    rw [if_neg (by simp; omega)]
    exact this
  · have := note_full p en w F st N hb (by omega)
    unfold trimE
    rw [if_pos (by simp; omega)]
    exact this

set_option maxHeartbeats 1000000 in
set_option maxRecDepth 100000 in
theorem counts_any (b : Nat) (l h s : Int) (w : World) (hb : w.heap[b]? = some (.cells #[.int .i64 l, .int .i64 h, .int .i64 s] 119 (0, 0))) (h1 : 0 ≤ h ∧ h ≤ 1000000000000) (h2 : 0 ≤ s ∧ s ≤ 1000000000000) :
    Calls Tryz.prog 116 #[.pointer (some ⟨b, 0, none⟩)] w (fun e w' => e = .returned (.int .i64 (h + s)) ∧ ∃ q, w' = w.drewN q) := by
  have c1 : w.cell? ⟨b, 1, none⟩ = some (.int .i64 h) := by rw [cell_of hb]; rfl
  have c2 : w.cell? ⟨b, 2, none⟩ = some (.int .i64 s) := by rw [cell_of hb]; rfl
  obtain ⟨h1a, h1b⟩ := h1
  obtain ⟨h2a, h2b⟩ := h2
  clear hb
  go_enter Tryz.func116, Tryz.ntmps116
  go_wp2_with fail
  go_quiet (fail)
  go_wp2_with fail
  go_ret
  exact ⟨rfl, _, rfl⟩

set_option maxHeartbeats 1000000 in
set_option maxRecDepth 100000 in
theorem left_any (p b : Nat) (st : BookSt) (mb : Nat) (lv ev : Value) (l h s : Int) (w : World) (hp : w.heap[p]? = some (.cells (bookCells st mb lv ev) 115 (0, 0))) (hb : w.heap[b]? = some (.cells #[.int .i64 l, .int .i64 h, .int .i64 s] 119 (0, 0)))
    (h0 : 0 ≤ l ∧ l ≤ 1000000000000) (h1 : 0 ≤ h ∧ h ≤ 1000000000000) (h2 : 0 ≤ s ∧ s ≤ 1000000000000) (h3 : 0 ≤ st.budget ∧ st.budget ≤ 1000000000000) (h4 : 0 ≤ st.total ∧ st.total ≤ 1000000000000) :
    Calls Tryz.prog 110 #[.pointer (some ⟨p, 0, none⟩), .pointer (some ⟨b, 0, none⟩)] w (fun e w' => e = .returned (.int .i64 (min (l - (h + s)) (st.budget - st.total))) ∧ ∃ q, w' = w.drewN q) := by
  have c0 : w.cell? ⟨b, 0, none⟩ = some (.int .i64 l) := by rw [cell_of hb]; rfl
  have d0 : w.cell? ⟨p, 0, none⟩ = some (.int .i64 st.budget) := by rw [cell_of hp]; rfl
  have d1 : w.cell? ⟨p, 1, none⟩ = some (.int .i64 st.total) := by rw [cell_of hp]; rfl
  have C := Lib.hid (fun n => counts_any b l h s (w.drewN n) hb h1 h2)
  obtain ⟨h0a, h0b⟩ := h0
  obtain ⟨h1a, h1b⟩ := h1
  obtain ⟨h2a, h2b⟩ := h2
  obtain ⟨h3a, h3b⟩ := h3
  obtain ⟨h4a, h4b⟩ := h4
  generalize st.budget = bu at *
  generalize st.total = tt at *
  clear hb hp
  go_enter Tryz.func110, Tryz.ntmps110
  go_wp2_with fail
  go_quiet ((go_at_call 116; exact Calls.quiet_of (C.out _)))
  go_wp2_with fail
  all_goals
    go_ret
    exact ⟨ret_int (by omega), _, rfl⟩


/-- What an account holds has turned, and the total with it. -/
def heldSt (st : BookSt) (o l h s n : Int) : BookSt := { st with total := st.total + n, acc := fun x => if x = o then some (l, h + n, s) else st.acc x }

theorem BookMem.held {w : World} {F : Nat → Prop} {p : Nat} {st : BookSt} {N mb : Nat} {blk : Int → Option Nat} {lv ev : Value} {D : DataW Unit} (hm : BookMem w F p st N mb blk lv ev D) {o l h s : Int} {b : Nat} (hb : blk o = some b) (ha : st.acc o = some (l, h, s)) (n : Int)
    (hblk : w.heap[b]? = some (.cells #[.int .i64 l, .int .i64 h, .int .i64 s] 119 (0, 0))) :
    BookMem ((w.setCell ⟨b, 1, none⟩ (.int .i64 (h + n))).setCell ⟨p, 1, none⟩ (.int .i64 (st.total + n))) F p (heldSt st o l h s n) N mb blk lv ev D ∧
      Touch F w ((w.setCell ⟨b, 1, none⟩ (.int .i64 (h + n))).setCell ⟨p, 1, none⟩ (.int .i64 (st.total + n))) := by
  obtain ⟨_, _, _, _, _, hFb⟩ := hm.asome o b hb
  have hpb : p ≠ b := by rintro rfl; rw [hm.self] at hblk; simp [bookCells] at hblk
  have far : ∀ k, k ≠ b → k ≠ p → ((w.setCell ⟨b, 1, none⟩ (.int .i64 (h + n))).setCell ⟨p, 1, none⟩ (.int .i64 (st.total + n))).heap[k]? = w.heap[k]? := fun k h1 h2 =>
    (Below.heap_setCell _ _ _ k h2).trans (Below.heap_setCell _ _ _ k h1)
  have hp1 : (w.setCell ⟨b, 1, none⟩ (.int .i64 (h + n))).heap[p]? = some (.cells (bookCells st mb lv ev) 115 (0, 0)) := (Below.heap_setCell _ _ _ p hpb).trans hm.self
  have hb1 := block_setCell hblk 1 (.int .i64 (h + n))
  have nmap : mb ≠ b ∧ mb ≠ p := by
    obtain ⟨xs, clock, hx, _⟩ := hm.map
    refine ⟨?_, ?_⟩
    · rintro rfl; rw [hblk] at hx; simp at hx
    · rintro rfl; rw [hm.self] at hx; simp at hx
  have nrow : ∀ (v : Value) (e n sz : Nat) (xs : List Value), w.ownsRow 0 e sz v n xs → e ≠ 119 → e ≠ 115 → ∀ k, v.ownBlock = some k → k ≠ b ∧ k ≠ p := by
    intro v e n sz xs hr h1 h2 k hk
    obtain ⟨cur, hc⟩ := row_block hr hk
    refine ⟨?_, ?_⟩
    · rintro rfl; rw [hblk] at hc; simp at hc; exact h1 hc.2.symm
    · rintro rfl; rw [hm.self] at hc; simp at hc; exact h2 hc.2.symm
  refine ⟨⟨?_, hm.fp, ownsMap_same hm.map (far mb nmap.1 nmap.2), hm.fmap, hm.look, ?_, ?_, hm.inj, ?_, hm.flea, ?_, hm.fent⟩, ?_⟩
  · rw [block_setCell hp1]; rfl
  · intro x
    rw [hm.anone x]
    unfold heldSt
    by_cases hx : x = o
    · simp [hx, ha]
    · simp [hx]
  · intro x c hc
    by_cases hx : x = o
    · subst hx
      rw [hb] at hc
      obtain rfl : b = c := by simpa using hc
      refine ⟨l, h + n, s, by simp [heldSt], ?_, hFb⟩
      rw [Below.heap_setCell _ _ _ b (Ne.symm hpb), hb1]; rfl
    · obtain ⟨l', h', s', h1, h2, h3⟩ := hm.asome x c hc
      have hcb : c ≠ b := by rintro rfl; exact hx (hm.inj x o c hc hb)
      have hcp : c ≠ p := by rintro rfl; rw [hm.self] at h2; simp [bookCells] at h2
      exact ⟨l', h', s', by simp [heldSt, hx, h1], (far c hcb hcp).trans h2, h3⟩
  · exact ownsRow_same hm.lrow (fun k hk => by
      have := nrow _ _ _ _ _ hm.lrow (by decide) (by decide) k hk
      exact far k this.1 this.2)
  · exact ownsRow_same hm.erow (fun k hk => by
      have := nrow _ _ _ _ _ hm.erow (by decide) (by decide) k hk
      exact far k this.1 this.2)
  · exact ((Touch.refl F w).setCell (p := ⟨b, 1, none⟩) (Or.inl hFb) _).setCell (p := ⟨p, 1, none⟩) (Or.inl hm.fp) _

def holdEnt (o n : Int) : Ent := if 0 ≤ n then ⟨3, o, 0, n, 0, 0⟩ else ⟨4, o, 0, -n, 0, 0⟩

set_option maxHeartbeats 2000000 in
set_option maxRecDepth 100000 in
theorem hold_any (p b : Nat) (o n l h s : Int) (w : World) (F : Nat → Prop) (st : BookSt) (N mb : Nat) (blk : Int → Option Nat) (lv ev : Value) (D : DataW Unit) (hm : BookMem w F p st N mb blk lv ev D) (hb : blk o = some b) (ha : st.acc o = some (l, h, s))
    (h1 : -1000000000000 ≤ n ∧ n ≤ 1000000000000) (h2 : -1000000000000 ≤ h ∧ h ≤ 1000000000000) (h3 : -1000000000000 ≤ st.total ∧ st.total ≤ 1000000000000) (hn : st.entries.length ≤ 10000) :
    Calls Tryz.prog 111 #[.pointer (some ⟨p, 0, none⟩), .pointer (some ⟨b, 0, none⟩), .int .i64 o, .int .i64 n] w
      (NotePost F p { heldSt st o l h s n with entries := trimE (st.entries ++ [holdEnt o n]) } N w) := by
  obtain ⟨l', h', s', ha', hblk, _⟩ := hm.asome o b hb
  rw [ha] at ha'
  simp only [Option.some.injEq, Prod.mk.injEq] at ha'
  obtain ⟨rfl, rfl, rfl⟩ := ha'
  obtain ⟨hm2, ht2⟩ := hm.held hb ha n hblk
  have c1 : w.cell? ⟨b, 1, none⟩ = some (.int .i64 h) := by rw [cell_of hblk]; rfl
  have f1 : w.frozen? ⟨b, 1, none⟩ = false := free_of hblk 1
  have d1 : w.cell? ⟨p, 1, none⟩ = some (.int .i64 st.total) := by rw [cell_of hm.self]; rfl
  have g1 : w.frozen? ⟨p, 1, none⟩ = false := free_of hm.self 1
  have hpb : p ≠ b := by rintro rfl; rw [hm.self] at hblk; simp [bookCells] at hblk
  have ne1 : ∀ (W : World) (u : Value), (W.setCell ⟨b, 1, none⟩ u).cell? ⟨p, 1, none⟩ = W.cell? ⟨p, 1, none⟩ := fun W u => World.cell?_setCell_other _ _ _ _ (by simp)
  have C3 := note_any p ⟨3, o, 0, n, 0, 0⟩ _ F _ N ⟨mb, blk, lv, ev, D, hm2⟩ hn
  have C4 := note_any p ⟨4, o, 0, -n, 0, 0⟩ _ F _ N ⟨mb, blk, lv, ev, D, hm2⟩ hn
  have HC3 := Lib.hid C3
  have HC4 := Lib.hid C4
  have HT := Lib.hid ht2
  obtain ⟨h1a, h1b⟩ := h1
  obtain ⟨h2a, h2b⟩ := h2
  obtain ⟨h3a, h3b⟩ := h3
  generalize st.total = tt at *
  clear C3 C4 hm2 ht2 hblk hm ha hb
  by_cases h0 : 0 ≤ n
  · have HE := Lib.hid (show holdEnt o n = ⟨3, o, 0, n, 0, 0⟩ by unfold holdEnt; rw [if_pos h0])
    go_enter Tryz.func111, Tryz.ntmps111
    go_wp2_with fail
    refine HC3.out.mono ?_
    rintro e w1 ⟨rfl, hb1, ht1⟩
    have hs := HT.out.size
    have HB1 := Lib.hid (hb1.wider (G := fun k => F k ∨ w.heap.size ≤ k) (fun k hk => hk.imp id (fun x => Nat.le_trans hs x)))
    have HT1 := Lib.hid (HT.out.then ht1)
    clear hb1 ht1
    go_wp2_with fail
    go_end0
    refine ⟨rfl, ?_, HT1.out⟩
    rw [HE.out]
    exact HB1.out
  · have HE := Lib.hid (show holdEnt o n = ⟨4, o, 0, -n, 0, 0⟩ by unfold holdEnt; rw [if_neg h0])
    go_enter Tryz.func111, Tryz.ntmps111
    go_wp2_with fail
    refine HC4.out.mono ?_
    rintro e w1 ⟨rfl, hb1, ht1⟩
    have hs := HT.out.size
    have HB1 := Lib.hid (hb1.wider (G := fun k => F k ∨ w.heap.size ≤ k) (fun k hk => hk.imp id (fun x => Nat.le_trans hs x)))
    have HT1 := Lib.hid (HT.out.then ht1)
    clear hb1 ht1
    go_wp2_with fail
    go_end0
    refine ⟨rfl, ?_, HT1.out⟩
    rw [HE.out]
    exact HB1.out

end
end Go.Proofs.YtjogaohnphafgaaGreat

namespace Go.Proofs.YtjogaohnphafgaaGreat
section
open Go.RowKit

theorem reads_two (w : World) (a b : Int) : Reads (w.alloc (.cells #[.int .i64 a, .int .i64 b] 3)) .i64 (.slice (some ⟨w.heap.size, 0, none⟩) 2 2) [a, b] := by
  have h := heap_alloc_new w (.cells #[.int .i64 a, .int .i64 b] 3)
  refine ⟨_, 2, rfl, by simp, fun _ => ⟨w.heap.size, 0, rfl, fun j hj => ?_⟩⟩
  rw [cell_of h]
  match j, hj with
  | 0, _ => rfl
  | 1, _ => rfl

def changeE (st : BookSt) (l h s fr tw : Int) : Int := if h < fr then 5 else if min (l - (h + s)) (st.budget - st.total) < tw - fr then 12 else 0
def changeSt (st : BookSt) (o l h s fr tw : Int) : BookSt := if changeE st l h s fr tw = 0 ∧ fr ≠ tw then { heldSt st o l h s (tw - fr) with entries := trimE (st.entries ++ [holdEnt o (tw - fr)]) } else st
def ChangePost (F : Nat → Prop) (p : Nat) (st : BookSt) (o l h s fr tw : Int) (N : Nat) (w : World) : Ending → World → Prop := fun e w' =>
  e = .returned (.int .i64 (changeE st l h s fr tw)) ∧ BookAt w' (fun k => F k ∨ w.heap.size ≤ k) p (changeSt st o l h s fr tw) N ∧ Touch F w w'

set_option maxHeartbeats 2000000 in
set_option maxRecDepth 100000 in
theorem change_any (p : Nat) (o fr tw l h s : Int) (w : World) (F : Nat → Prop) (st : BookSt) (N : Nat) (hbk : BookAt w F p st N) (ha : st.acc o = some (l, h, s)) (ho : 1 ≤ o ∧ o ≤ 40) (hfr : 0 ≤ fr ∧ fr ≤ 10000000) (hto : 0 ≤ tw ∧ tw ≤ 10000000)
    (h0 : 0 ≤ l ∧ l ≤ 1000000000) (h1 : 0 ≤ h ∧ h ≤ 1000000000) (h2 : 0 ≤ s ∧ s ≤ 1000000000) (h3 : 0 ≤ st.budget ∧ st.budget ≤ 1000000000) (h4 : 0 ≤ st.total ∧ st.total ≤ 1000000000) (hn : st.entries.length ≤ 10000) :
    Calls Tryz.prog 94 #[.pointer (some ⟨p, 0, none⟩), .int .i64 o, .int .i64 fr, .int .i64 tw] w (ChangePost F p st o l h s fr tw N w) := by
  obtain ⟨mb, blk, lv, ev, D, hm⟩ := hbk
  obtain ⟨b, hb⟩ : ∃ b, blk o = some b := by
    cases hb : blk o with
    | none => rw [(hm.anone o).1 hb] at ha; cases ha
    | some b => exact ⟨b, rfl⟩
  obtain ⟨l', h', s', ha', hblk, hFb⟩ := hm.asome o b hb
  rw [ha] at ha'
  simp only [Option.some.injEq, Prod.mk.injEq] at ha'
  obtain ⟨rfl, rfl, rfl⟩ := ha'
  have B1 : Below w.heap.size w (w.alloc (.cells #[.int .i64 fr, .int .i64 tw] 3)) := (Below.refl _ _).alloc (Nat.le_refl _) _
  have hm1 := hm.same (Below.same_on B1)
  have A := account_any p o _ [fr, tw] _ F st N mb blk lv ev D (reads_two w fr tw) (by unfold chkE; rw [if_pos ⟨ho, by simp; omega⟩]) hm1
  rw [hb] at A
  have HA := Lib.hid A
  have hblk1 := (B1.block b (lt_of hblk)).trans hblk
  have c1 : (w.alloc (.cells #[.int .i64 fr, .int .i64 tw] 3)).cell? ⟨b, 1, none⟩ = some (.int .i64 h) := by rw [cell_of hblk1]; rfl
  have L := left_any p b st mb lv ev l h s _ hm1.self hblk1 (by omega) (by omega) (by omega) (by omega) (by omega)
  have HL := Lib.hid L
  have HM1 := Lib.hid hm1
  have HB := Lib.hid hb
  have HACC := Lib.hid ha
  have HB1 := Lib.hid B1
  obtain ⟨hfr1, hfr2⟩ := hfr
  obtain ⟨hto1, hto2⟩ := hto
  clear A L hm hm1 hb ha hblk hblk1 B1
  have fin : ∀ q, BookAt ((w.alloc (.cells #[.int .i64 fr, .int .i64 tw] 3)).drewN q) (fun k => F k ∨ w.heap.size ≤ k) p st N ∧ Touch F w ((w.alloc (.cells #[.int .i64 fr, .int .i64 tw] 3)).drewN q) := fun q =>
    ⟨(show BookAt _ F p st N from ⟨mb, blk, lv, ev, D, HM1.out.same (Below.same_on (bdrewN (Below.refl _ _) q))⟩).wider (fun k hk => Or.inl hk), (Touch.of_below HB1.out).drewN q⟩
  have FIN := Lib.hid fin
  clear fin
  by_cases e1 : h < fr
  · have HE := Lib.hid (show changeE st l h s fr tw = 5 by unfold changeE; rw [if_pos e1])
    have HS := Lib.hid (show changeSt st o l h s fr tw = st by unfold changeSt; rw [if_neg (by rw [HE.out]; simp)])
    go_enter Tryz.func94, Tryz.ntmps94
    go_wp2_with fail
    refine HA.out.mono ?_
    rintro e w1 ⟨rfl, rfl⟩
    unfold ptrOf
    go_wp2_with fail
    go_ret
    refine ⟨by rw [HE.out]; rfl, ?_, (FIN.out 0).2⟩
    rw [HS.out]
    exact (FIN.out 0).1
  · have e1' : changeE st l h s fr tw = if min (l - (h + s)) (st.budget - st.total) < tw - fr then 12 else 0 := by unfold changeE; rw [if_neg e1]
    have HSH := Lib.hid (fun (q : Nat) (hne : fr ≠ tw) => hold_any p b o (tw - fr) l h s ((w.alloc (.cells #[.int .i64 fr, .int .i64 tw] 3)).drewN q) F st N mb blk lv ev D (HM1.out.same (Below.same_on (bdrewN (Below.refl _ _) q))) HB.out HACC.out (by omega) (by omega) (by omega) hn)
    generalize hm0 : min (l - (h + s)) (st.budget - st.total) = m at *
    have mb1 : -4000000000 ≤ m ∧ m ≤ 4000000000 := by omega
    obtain ⟨mb1a, mb1b⟩ := mb1
    clear hm0
    by_cases e2 : m < tw - fr
    · have HE := Lib.hid (show changeE st l h s fr tw = 12 by rw [e1', if_pos e2])
      have HS := Lib.hid (show changeSt st o l h s fr tw = st by unfold changeSt; rw [if_neg (by rw [HE.out]; simp)])
      clear e1' HSH
      go_enter Tryz.func94, Tryz.ntmps94
      go_wp2_with fail
      refine HA.out.mono ?_
      rintro e w1 ⟨rfl, rfl⟩
      unfold ptrOf
      go_wp2_with fail
      refine HL.out.mono ?_
      rintro e w2 ⟨rfl, q, rfl⟩
      go_wp2_with fail
      go_ret
      refine ⟨by rw [HE.out]; rfl, ?_, (FIN.out q).2⟩
      rw [HS.out]
      exact (FIN.out q).1
    · have HE := Lib.hid (show changeE st l h s fr tw = 0 by rw [e1', if_neg e2])
      clear e1'
      by_cases e3 : fr = tw
      · subst e3
        have HS := Lib.hid (show changeSt st o l h s fr fr = st by unfold changeSt; rw [if_neg (by simp)])
        clear HSH
        go_enter Tryz.func94, Tryz.ntmps94
        go_wp2_with fail
        refine HA.out.mono ?_
        rintro e w1 ⟨rfl, rfl⟩
        unfold ptrOf
        go_wp2_with fail
        refine HL.out.mono ?_
        rintro e w2 ⟨rfl, q, rfl⟩
        go_wp2_with fail
        go_ret
        refine ⟨by rw [HE.out]; rfl, ?_, (FIN.out q).2⟩
        rw [HS.out]
        exact (FIN.out q).1
      · have HS := Lib.hid (show changeSt st o l h s fr tw = { heldSt st o l h s (tw - fr) with entries := trimE (st.entries ++ [holdEnt o (tw - fr)]) } by unfold changeSt; rw [if_pos ⟨HE.out, e3⟩])
        go_enter Tryz.func94, Tryz.ntmps94
        go_wp2_with fail
        refine HA.out.mono ?_
        rintro e w1 ⟨rfl, rfl⟩
        unfold ptrOf
        go_wp2_with fail
        refine HL.out.mono ?_
        rintro e w2 ⟨rfl, q, rfl⟩
        go_wp2_with fail
        refine (HSH.out q e3).mono ?_
        rintro e w3 ⟨rfl, hb3, ht3⟩
        have hs3 := (FIN.out q).2.size
        have HB3 := Lib.hid (hb3.wider (G := fun k => F k ∨ w.heap.size ≤ k) (fun k hk => hk.imp id (fun x => Nat.le_trans hs3 x)))
        have HT3 := Lib.hid ((FIN.out q).2.then ht3)
        clear hb3 ht3
        go_wp2_with fail
        go_ret
        refine ⟨by rw [HE.out]; rfl, ?_, HT3.out⟩
        rw [HS.out]
        exact HB3.out

end
end Go.Proofs.YtjogaohnphafgaaGreat

namespace Go.Proofs.YtjogaohnphafgaaGreat
section
open Go.RowKit

def takeE (st : BookSt) (l h s n : Int) : Int := if min (l - (h + s)) (st.budget - st.total) < n then 12 else 0
def takeSt (st : BookSt) (o l h s n : Int) : BookSt := if takeE st l h s n = 0 then { heldSt st o l h s n with entries := trimE (st.entries ++ [holdEnt o n]) } else st
def TakePost (F : Nat → Prop) (p : Nat) (st : BookSt) (o l h s n : Int) (N : Nat) (w : World) : Ending → World → Prop := fun e w' =>
  e = .returned (.int .i64 (takeE st l h s n)) ∧ BookAt w' (fun k => F k ∨ w.heap.size ≤ k) p (takeSt st o l h s n) N ∧ Touch F w w'

def giveE (h n : Int) : Int := if h < n then 5 else 0
def giveSt (st : BookSt) (o l h s n : Int) : BookSt := if giveE h n = 0 then { heldSt st o l h s (-n) with entries := trimE (st.entries ++ [⟨4, o, 0, n, 0, 0⟩]) } else st
def GivePost (F : Nat → Prop) (p : Nat) (st : BookSt) (o l h s n : Int) (N : Nat) (w : World) : Ending → World → Prop := fun e w' =>
  e = .returned (.int .i64 (giveE h n)) ∧ BookAt w' (fun k => F k ∨ w.heap.size ≤ k) p (giveSt st o l h s n) N ∧ Touch F w w'

end
end Go.Proofs.YtjogaohnphafgaaGreat

namespace Go.Proofs.YtjogaohnphafgaaGreat
section
open Go Go.RowKit

section
variable {P : Program} {ops : Array Oper} {md : Region.Mode} {C : World → Prop}

/-- What comes behind number n waits for something from n on. -/
def laterB (md : Region.Mode) (ops : Array Oper) (n : Nat) : Bool :=
  (List.range ops.size).all fun t => decide (t ≤ n) || (List.range t).any fun j => decide (n ≤ j) && Region.waitsFor md ops t j

theorem head_first {n : Nat} {listed : Array Bool} (hs : Region.sinkB md ops n = true) (hl : laterB md ops n = true) (hn : n < ops.size) (inv : HeadInv md ops n listed) :
    ∀ (d i : Nat), n - i = d → i < n → listed.getD i true = false → ∀ t, n ≤ t → t ∉ Region.ready md ops listed := by
  intro d
  induction d using Nat.strongRecOn with
  | _ d ih =>
    intro i hd hi hun t ht hr
    obtain ⟨_, ot, hot, hall⟩ := mem_ready.1 hr
    have htlt : t < ops.size := (Array.getElem?_eq_some_iff.1 hot).1
    rcases Nat.lt_or_ge n t with hnt | hnt
    · have h1 := List.all_eq_true.1 hl t (List.mem_range.2 htlt)
      rw [Bool.or_eq_true, decide_eq_true_eq] at h1
      obtain ⟨j, hj, hj2⟩ := List.any_eq_true.1 (h1.resolve_left (by omega))
      rw [Bool.and_eq_true, decide_eq_true_eq] at hj2
      obtain ⟨o2, ho2, ed, hed, hbd, hon⟩ := Region.waitsFor_spec hj2.2
      have e2 : o2 = ot := Option.some.inj (ho2.symm.trans hot)
      rw [e2] at hed
      have h3 := hall ed hed hbd
      have hjt := List.mem_range.1 hj
      rw [hon, getD_both (inv.tail j hj2.1 (by omega))] at h3
      exact Bool.noConfusion h3
    · obtain rfl : t = n := by omega
      obtain ⟨j, hj, hj2⟩ := List.any_eq_true.1 (List.all_eq_true.1 hs i (List.mem_range.2 hi))
      rw [Bool.and_eq_true, decide_eq_true_eq] at hj2
      obtain ⟨o2, ho2, ed, hed, hbd, hon⟩ := Region.waitsFor_spec hj2.2
      have hjle := List.mem_range.1 hj
      by_cases hjt : j = t
      · have e2 : o2 = ot := Option.some.inj (by rw [← ho2, hjt]; exact hot)
        rw [e2] at hed
        have h3 := hall ed hed hbd
        rw [hon, getD_both hun] at h3
        exact Bool.noConfusion h3
      · by_cases hlj : listed.getD j false = true
        · have h3 := inv.closed j o2 ho2 hlj ed hed hbd
          rw [hon, getD_both hun] at h3
          exact Bool.noConfusion h3
        · exact ih (t - j) (by omega) j rfl (by omega) (getD_in (by rw [inv.size]; omega) (by simpa using hlj)) t (Nat.le_refl _) hr

/-- Whatever order the head is carried out in. -/
def wpHead (P : Program) (md : Region.Mode) (ops : Array Oper) (C : World → Prop) (n : Nat) (L : Array Bool → Act → Prop) : Nat → Array Bool → Act → Prop
  | 0, listed, a => L listed a
  | f + 1, listed, a => Region.ready md ops listed ≠ [] ∧ ∀ i ∈ Region.ready md ops listed, i < n ∧ qOp P ops C i (wpHead P md ops C n L f (listed.setIfInBounds i true)) a

theorem wpAny_of_wpHead {n g : Nat} {L : Array Bool → Act → Prop} {Q : Exit → Act → World → Prop} (hL : ∀ listed a w, C w → L listed a → wpAny P md ops Q g listed a w) :
    ∀ (f : Nat) (listed : Array Bool) (a : Act) (w : World), C w → wpHead P md ops C n L f listed a → wpAny P md ops Q (f + g) listed a w := by
  intro f
  induction f with
  | zero => intro listed a w hw h; rw [Nat.zero_add]; exact hL listed a w hw h
  | succ f ih =>
    intro listed a w hw h
    rw [show f + 1 + g = (f + g) + 1 by omega]
    exact ⟨fun e => absurd e h.1, fun i hi => wpOp_of_qOp hw (fun a' w' hw' h' => ih _ a' w' hw' h') (h.2 i hi).2⟩

theorem wpHead_first {n i : Nat} {oi : Oper} {v : Value} {L : Array Bool → Act → Prop} (hi : ops[i]? = some oi) (hsel : ∀ (j : Nat) (o : Oper) cs b, ops[j]? = some o → o.op ≠ .select cs b)
    (hs : Region.sinkB md ops n = true) (hl : laterB md ops n = true) (hn : n < ops.size) (hin : i < n) (hL : ∀ listed a, L listed a → ∀ j ∈ Region.ready md ops listed, n ≤ j) :
    ∀ (f : Nat) (listed : Array Bool) (a : Act), HeadInv md ops n listed →
      (∀ j oj, ops[j]? = some oj → j ≠ i → listed.getD j true = false → (∀ e ∈ oj.after, Region.binds md e = true → e.on ≠ i) → oi.apart ops oj = true) →
      i ∈ Region.ready md ops listed → YieldsIn P ops C oi v a →
      wpHead P md ops C n L f (listed.setIfInBounds i true) (a.put oi.dst v) → wpHead P md ops C n L (f + 1) listed a := by
  intro f
  induction f with
  | zero =>
    intro listed a inv _ hr hy H
    refine ⟨List.ne_nil_of_mem hr, fun j hj => ?_⟩
    have hjn : j < n := Nat.lt_of_not_le fun x => head_first hs hl hn inv _ i rfl hin (mem_ready.1 hr).1 j x hj
    by_cases e : j = i
    · rw [e]; exact ⟨hin, hy.qOp hi H⟩
    · have := hL _ _ H j (ready_mono hj e); omega
  | succ f ih =>
    intro listed a inv hfree hr hy H
    have hun := (mem_ready.1 hr).1
    refine ⟨List.ne_nil_of_mem hr, fun j hj => ?_⟩
    have hjn : j < n := Nat.lt_of_not_le fun x => head_first hs hl hn inv _ i rfl hin hun j x hj
    by_cases e : j = i
    · rw [e]; exact ⟨hin, hy.qOp hi H⟩
    · obtain ⟨hjun, oj, hoj, hall⟩ := mem_ready.1 hj
      have hno : ∀ e ∈ oj.after, Region.binds md e = true → e.on ≠ i := fun d hd hb heq => by
        have h1 := hall d hd hb
        rw [heq, getD_both hun] at h1
        exact Bool.noConfusion h1
      have h2 := qOp_put hoj (hfree j oj hoj e hjun hno) (fun cs b => hsel i oi cs b hi) (fun cs b => hsel j oj cs b hoj) hy (H.2 j (ready_mono hj e)).2
      refine ⟨hjn, qOp_mono (fun a' h3 => ih (listed.setIfInBounds j true) a' (inv.set hj hjn) (fun k ok hk hki hku hkn => hfree k ok hk hki ?_ hkn) (ready_mono hr (Ne.symm e)) h3.1 ?_) h2⟩
      · by_cases hjk : j = k
        · rw [← hjk]; exact hjun
        · rwa [getD_set_ne true hjk] at hku
      · rw [Array.setIfInBounds_comm _ _ e]; exact h3.2

/-- The head in the text's order; then number n alone may come up; then the rest in the text's order. -/
def midHead (md : Region.Mode) (ops : Array Oper) : Nat → Nat → Array Bool → Bool
  | 0, k, listed => decide (Region.ready md ops listed = [k]) && Region.lexFrom md ops (ops.size - (k + 1)) (k + 1) (listed.setIfInBounds k true)
  | f + 1, k, listed => (Region.ready md ops listed).contains k && Region.free md ops listed k && midHead md ops f (k + 1) (listed.setIfInBounds k true)
def midB (md : Region.Mode) (ops : Array Oper) (n : Nat) : Bool :=
  Region.noSelect ops && decide (n < ops.size) && Region.sinkB md ops n && laterB md ops n && midHead md ops n 0 (Array.replicate ops.size false)

theorem wpHead_lex {n : Nat} {R : Act → Prop} (hsel : Region.noSelect ops = true) (hs : Region.sinkB md ops n = true) (hl : laterB md ops n = true) (hn : n < ops.size) :
    ∀ (l : List Oper) (k : Nat) (listed : Array Bool) (a : Act), (∀ j, j < l.length → l[j]? = ops[k + j]?) → k + l.length = n → HeadInv md ops n listed →
    midHead md ops l.length k listed = true → wpQuiet P ops C R l a →
    wpHead P md ops C n (fun listed' a' => midHead md ops 0 n listed' = true ∧ R a') l.length listed a := by
  intro l
  induction l with
  | nil =>
    intro k listed a _ hk _ hB h
    obtain rfl : k = n := by simpa using hk
    exact ⟨hB, h⟩
  | cons o l ih =>
    intro k listed a hll hk inv hB h
    have h0 : ops[k]? = some o := by simpa using (hll 0 (by simp)).symm
    rw [List.length_cons, midHead, Bool.and_eq_true, Bool.and_eq_true] at hB
    rw [List.length_cons] at hk
    have hr : k ∈ Region.ready md ops listed := by simpa using hB.1.1
    have hq : qOp P ops C k (wpQuiet P ops C R l) a := by unfold qOp; simp only [h0]; exact h
    obtain ⟨v, hy, hK⟩ := yieldsIn_of_qOp h0 hq
    refine wpHead_first h0 (Region.noSelect_spec hsel) hs hl hn (by omega) (fun listed' a' hL j hj => ?_) l.length listed a inv (Region.free_spec h0 hB.1.2) hr hy
      (ih (k + 1) _ _ (fun j hj => ?_) (by omega) (inv.set hr (by omega)) hB.2 hK)
    · have h1 := hL.1
      rw [midHead, Bool.and_eq_true, decide_eq_true_eq] at h1
      rw [h1.1] at hj
      have : j = n := by simpa using hj
      omega
    · have := hll (j + 1) (by simp; omega)
      simpa [Nat.add_assoc, Nat.add_comm 1 j] using this

/-- What is asked at the operation in the midst: a way through it that leaves some world, from which the rest only reads. -/
def MidAt (P : Program) (ops : Array Oper) (Q : Exit → Act → World → Prop) (o : Oper) (rest : List Oper) (a : Act) (w : World) : Prop :=
  ∀ K : Act → World → Prop, (∀ a2 w2, wpQuiet P ops (fun w' => ∃ n, w' = w2.drewN n) (fun a3 => ∀ w3, (∃ n, w3 = w2.drewN n) → Q .normal a3 w3) rest a2 → K a2 w2) →
    if Region.wanted o (yielded ops a.tmps) = true then Oper.wp P o a w K Q else K (a.put o.dst undef) w

theorem wp_region_mid {id : Nat} {Q : Exit → Act → World → Prop} {a : Act} {w : World} {l : List Oper} (n : Nat) (o : Oper) (hm : P.follows .mixedOrders = true) (hB : midB .any l.toArray n = true) (ho : l[n]? = some o)
    (h : wpQuiet P l.toArray (fun w' => ∃ n, w' = w.drewN n) (fun a1 => ∀ w1, (∃ n, w1 = w.drewN n) → MidAt P l.toArray Q o (l.drop (n + 1)) a1 w1) (l.take n) a) : (Code.region id l.toArray true).wp P Q a w := by
  unfold midB at hB
  rw [Bool.and_eq_true, Bool.and_eq_true, Bool.and_eq_true, Bool.and_eq_true, decide_eq_true_eq] at hB
  obtain ⟨⟨⟨⟨hsel, hn⟩, hs⟩, hl⟩, hlex⟩ := hB
  have hn' : n < l.length := by simpa using hn
  have htl : (l.take n).length = n := by rw [List.length_take]; omega
  have inv0 : HeadInv .any l.toArray n (Array.replicate l.toArray.size false) :=
    ⟨by simp, fun j oj _ hx => (by rw [getD_replicate_false] at hx; cases hx), fun t _ ht => getD_in (by simpa using ht) (getD_replicate_false _ _)⟩
  have H := wpHead_lex (md := .any) hsel hs hl hn (l.take n) 0 _ a (fun j hj => by
    have hj' : j < n := by rw [htl] at hj; exact hj
    simp [hj']) (by rw [htl]; omega) inv0 (by rw [htl]; exact hlex) h
  refine wp_region_any hm ?_
  have hdl : (l.drop (n + 1)).length = l.toArray.size - (n + 1) := by simp
  have := wpAny_of_wpHead (Q := Q) (C := fun w' => ∃ n, w' = w.drewN n) (g := l.toArray.size - n) (fun listed a' w1 hw1 hLL => by
    obtain ⟨h1, h2⟩ := hLL
    rw [midHead, Bool.and_eq_true, decide_eq_true_eq] at h1
    rw [show l.toArray.size - n = (l.toArray.size - (n + 1)) + 1 by omega]
    refine ⟨fun e => (by rw [h1.1] at e; cases e), fun i hi => ?_⟩
    rw [h1.1] at hi
    obtain rfl : i = n := by simpa using hi
    refine wpOp_step (o := o) (by simpa using ho) (fun K' hK' => h2 w1 hw1 K' (fun a2 w2 hq => hK' a2 w2 ?_))
    have hx := wpAnyQ_lex (C := fun w' => ∃ n, w' = w2.drewN n) (md := .any) hsel (l.drop (i + 1)) (i + 1) (listed.setIfInBounds i true) a2 (fun j => by simp [List.getElem?_drop]) (by rw [hdl]; exact h1.2) hq
    rw [hdl] at hx
    exact wpAny_of_quiet (Q := fun a3 => ∀ w3, (∃ n, w3 = w2.drewN n) → Q .normal a3 w3) (fun _ w3 hw3 h => h w3 hw3) _ _ _ _ ⟨0, rfl⟩ hx) _ _ _ w.drew ⟨1, rfl⟩ H
  rw [htl, show n + (l.toArray.size - n) = l.toArray.size by omega] at this
  exact this

end

end
end Go.Proofs.YtjogaohnphafgaaGreat
