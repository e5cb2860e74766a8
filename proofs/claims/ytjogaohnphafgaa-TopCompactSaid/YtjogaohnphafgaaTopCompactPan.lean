/-
  counts, left, hold, Change: what they give. Conditions: numbers that are not too large.
-/
import Derived.Test.YtjogaohnphafgaaTopCompactPam
import Derived.Test.YtjogaohnphafgaaTopCompactPag
import Derived.Test.YtjogaohnphafgaaTopCompactPaj
namespace Go.Proofs.Ytjogaohnphafgaa
open Go.RowKit

def trimE (l : List Ent) : List Ent := if 10000 < l.length then l.drop 5001 else l
theorem trimE_len (l : List Ent) (h : l.length ≤ 10001) : (trimE l).length ≤ 10000 := by
  unfold trimE; split
  · rw [List.length_drop]; omega
  · omega

theorem note_any (p : Nat) (en : Ent) (w : World) (F : Nat → Prop) (st : BookSt) (N : Nat) (hb : BookAt w F p st N) (hn : st.entries.length ≤ 10000) :
    Calls Try.prog 46 #[.pointer (some ⟨p, 0, none⟩), .agg #[.int .i64 en.kind, .int .i64 en.owner, .int .i64 en.other, .int .i64 en.amount, .int .i64 en.lease, .int .i64 en.untl]] w
      (NotePost F p { st with entries := trimE (st.entries ++ [en]) } N w) := by
  by_cases h : st.entries.length ≤ 9999
  · have := note_few p en w F st N hb h
    unfold trimE
    rw [if_neg (by simp; omega)]
    exact this
  · have := note_full p en w F st N hb (by omega)
    unfold trimE
    rw [if_pos (by simp; omega)]
    exact this

set_option maxHeartbeats 1000000 in
set_option maxRecDepth 100000 in
theorem counts_any (b : Nat) (l h s : Int) (w : World) (hb : w.heap[b]? = some (.cells #[.int .i64 l, .int .i64 h, .int .i64 s] 98 (0, 0))) (h1 : 0 ≤ h ∧ h ≤ 1000000000000) (h2 : 0 ≤ s ∧ s ≤ 1000000000000) :
    Calls Try.prog 75 #[.pointer (some ⟨b, 0, none⟩)] w (fun e w' => e = .returned (.int .i64 (h + s)) ∧ ∃ q, w' = w.drewN q) := by
  have c1 : w.cell? ⟨b, 1, none⟩ = some (.int .i64 h) := by rw [cell_of hb]; rfl
  have c2 : w.cell? ⟨b, 2, none⟩ = some (.int .i64 s) := by rw [cell_of hb]; rfl
  obtain ⟨h1a, h1b⟩ := h1
  obtain ⟨h2a, h2b⟩ := h2
  clear hb
  go_enter Try.func75, Try.ntmps75
  go_wp2_with fail
  go_quiet (fail)
  go_wp2_with fail
  go_ret
  exact ⟨rfl, _, rfl⟩

set_option maxHeartbeats 1000000 in
set_option maxRecDepth 100000 in
theorem left_any (p b : Nat) (st : BookSt) (mb : Nat) (lv ev : Value) (l h s : Int) (w : World) (hp : w.heap[p]? = some (.cells (bookCells st mb lv ev) 94 (0, 0))) (hb : w.heap[b]? = some (.cells #[.int .i64 l, .int .i64 h, .int .i64 s] 98 (0, 0)))
    (h0 : 0 ≤ l ∧ l ≤ 1000000000000) (h1 : 0 ≤ h ∧ h ≤ 1000000000000) (h2 : 0 ≤ s ∧ s ≤ 1000000000000) (h3 : 0 ≤ st.budget ∧ st.budget ≤ 1000000000000) (h4 : 0 ≤ st.total ∧ st.total ≤ 1000000000000) :
    Calls Try.prog 71 #[.pointer (some ⟨p, 0, none⟩), .pointer (some ⟨b, 0, none⟩)] w (fun e w' => e = .returned (.int .i64 (min (l - (h + s)) (st.budget - st.total))) ∧ ∃ q, w' = w.drewN q) := by
  have c0 : w.cell? ⟨b, 0, none⟩ = some (.int .i64 l) := by rw [cell_of hb]; rfl
  have d0 : w.cell? ⟨p, 0, none⟩ = some (.int .i64 st.budget) := by rw [cell_of hp]; rfl
  have d1 : w.cell? ⟨p, 1, none⟩ = some (.int .i64 st.total) := by rw [cell_of hp]; rfl
  have C := Lib.hid (fun n => counts_any b l h s (w.drewN n) hb h1 h2)
  obtain ⟨h0a, h0b⟩ := h0
  obtain ⟨h1a, h1b⟩ := h1
  obtain ⟨h2a, h2b⟩ := h2
  obtain ⟨h3a, h3b⟩ := h3
  obtain ⟨h4a, h4b⟩ := h4
  generalize st.budget = bu at *
  generalize st.total = tt at *
  clear hb hp
  go_enter Try.func71, Try.ntmps71
  go_wp2_with fail
  go_quiet ((go_at_call 75; exact Calls.quiet_of (C.out _)))
  go_wp2_with fail
  all_goals
    go_ret
    exact ⟨ret_int (by omega), _, rfl⟩


/-- What an account holds has turned, and the total with it. -/
def heldSt (st : BookSt) (o l h s n : Int) : BookSt := { st with total := st.total + n, acc := fun x => if x = o then some (l, h + n, s) else st.acc x }

theorem BookMem.held {w : World} {F : Nat → Prop} {p : Nat} {st : BookSt} {N mb : Nat} {blk : Int → Option Nat} {lv ev : Value} {D : DataW Unit} (hm : BookMem w F p st N mb blk lv ev D) {o l h s : Int} {b : Nat} (hb : blk o = some b) (ha : st.acc o = some (l, h, s)) (n : Int)
    (hblk : w.heap[b]? = some (.cells #[.int .i64 l, .int .i64 h, .int .i64 s] 98 (0, 0))) :
    BookMem ((w.setCell ⟨b, 1, none⟩ (.int .i64 (h + n))).setCell ⟨p, 1, none⟩ (.int .i64 (st.total + n))) F p (heldSt st o l h s n) N mb blk lv ev D ∧
      Touch F w ((w.setCell ⟨b, 1, none⟩ (.int .i64 (h + n))).setCell ⟨p, 1, none⟩ (.int .i64 (st.total + n))) := by
  obtain ⟨_, _, _, _, _, hFb⟩ := hm.asome o b hb
  have hpb : p ≠ b := by rintro rfl; rw [hm.self] at hblk; simp [bookCells] at hblk
  have far : ∀ k, k ≠ b → k ≠ p → ((w.setCell ⟨b, 1, none⟩ (.int .i64 (h + n))).setCell ⟨p, 1, none⟩ (.int .i64 (st.total + n))).heap[k]? = w.heap[k]? := fun k h1 h2 =>
    (Below.heap_setCell _ _ _ k h2).trans (Below.heap_setCell _ _ _ k h1)
  have hp1 : (w.setCell ⟨b, 1, none⟩ (.int .i64 (h + n))).heap[p]? = some (.cells (bookCells st mb lv ev) 94 (0, 0)) := (Below.heap_setCell _ _ _ p hpb).trans hm.self
  have hb1 := block_setCell hblk 1 (.int .i64 (h + n))
  have nmap : mb ≠ b ∧ mb ≠ p := by
    obtain ⟨xs, clock, hx, _⟩ := hm.map
    refine ⟨?_, ?_⟩
    · rintro rfl; rw [hblk] at hx; simp at hx
    · rintro rfl; rw [hm.self] at hx; simp at hx
  have nrow : ∀ (v : Value) (e n sz : Nat) (xs : List Value), w.ownsRow 0 e sz v n xs → e ≠ 98 → e ≠ 94 → ∀ k, v.ownBlock = some k → k ≠ b ∧ k ≠ p := by
    intro v e n sz xs hr h1 h2 k hk
    obtain ⟨cur, hc⟩ := row_block hr hk
    refine ⟨?_, ?_⟩
    · rintro rfl; rw [hblk] at hc; simp at hc; exact h1 hc.2.symm
    · rintro rfl; rw [hm.self] at hc; simp at hc; exact h2 hc.2.symm
  refine ⟨⟨?_, hm.fp, ownsMap_same hm.map (far mb nmap.1 nmap.2), hm.fmap, hm.look, ?_, ?_, hm.inj, ?_, hm.flea, ?_, hm.fent⟩, ?_⟩
  · rw [block_setCell hp1]; rfl
  · intro x
    rw [hm.anone x]
    unfold heldSt
    by_cases hx : x = o
    · simp [hx, ha]
    · simp [hx]
  · intro x c hc
    by_cases hx : x = o
    · subst hx
      rw [hb] at hc
      obtain rfl : b = c := by simpa using hc
      refine ⟨l, h + n, s, by simp [heldSt], ?_, hFb⟩
      rw [Below.heap_setCell _ _ _ b (Ne.symm hpb), hb1]; rfl
    · obtain ⟨l', h', s', h1, h2, h3⟩ := hm.asome x c hc
      have hcb : c ≠ b := by rintro rfl; exact hx (hm.inj x o c hc hb)
      have hcp : c ≠ p := by rintro rfl; rw [hm.self] at h2; simp [bookCells] at h2
      exact ⟨l', h', s', by simp [heldSt, hx, h1], (far c hcb hcp).trans h2, h3⟩
  · exact ownsRow_same hm.lrow (fun k hk => by
      have := nrow _ _ _ _ _ hm.lrow (by decide) (by decide) k hk
      exact far k this.1 this.2)
  · exact ownsRow_same hm.erow (fun k hk => by
      have := nrow _ _ _ _ _ hm.erow (by decide) (by decide) k hk
      exact far k this.1 this.2)
  · exact ((Touch.refl F w).setCell (p := ⟨b, 1, none⟩) (Or.inl hFb) _).setCell (p := ⟨p, 1, none⟩) (Or.inl hm.fp) _

def holdEnt (o n : Int) : Ent := if 0 ≤ n then ⟨3, o, 0, n, 0, 0⟩ else ⟨4, o, 0, -n, 0, 0⟩

set_option maxHeartbeats 2000000 in
set_option maxRecDepth 100000 in
theorem hold_any (p b : Nat) (o n l h s : Int) (w : World) (F : Nat → Prop) (st : BookSt) (N mb : Nat) (blk : Int → Option Nat) (lv ev : Value) (D : DataW Unit) (hm : BookMem w F p st N mb blk lv ev D) (hb : blk o = some b) (ha : st.acc o = some (l, h, s))
    (h1 : -1000000000000 ≤ n ∧ n ≤ 1000000000000) (h2 : -1000000000000 ≤ h ∧ h ≤ 1000000000000) (h3 : -1000000000000 ≤ st.total ∧ st.total ≤ 1000000000000) (hn : st.entries.length ≤ 10000) :
    Calls Try.prog 72 #[.pointer (some ⟨p, 0, none⟩), .pointer (some ⟨b, 0, none⟩), .int .i64 o, .int .i64 n] w
      (NotePost F p { heldSt st o l h s n with entries := trimE (st.entries ++ [holdEnt o n]) } N w) := by
  obtain ⟨l', h', s', ha', hblk, _⟩ := hm.asome o b hb
  rw [ha] at ha'
  simp only [Option.some.injEq, Prod.mk.injEq] at ha'
  obtain ⟨rfl, rfl, rfl⟩ := ha'
  obtain ⟨hm2, ht2⟩ := hm.held hb ha n hblk
  have c1 : w.cell? ⟨b, 1, none⟩ = some (.int .i64 h) := by rw [cell_of hblk]; rfl
  have f1 : w.frozen? ⟨b, 1, none⟩ = false := free_of hblk 1
  have d1 : w.cell? ⟨p, 1, none⟩ = some (.int .i64 st.total) := by rw [cell_of hm.self]; rfl
  have g1 : w.frozen? ⟨p, 1, none⟩ = false := free_of hm.self 1
  have hpb : p ≠ b := by rintro rfl; rw [hm.self] at hblk; simp [bookCells] at hblk
  have ne1 : ∀ (W : World) (u : Value), (W.setCell ⟨b, 1, none⟩ u).cell? ⟨p, 1, none⟩ = W.cell? ⟨p, 1, none⟩ := fun W u => World.cell?_setCell_other _ _ _ _ (by simp)
  have C3 := note_any p ⟨3, o, 0, n, 0, 0⟩ _ F _ N ⟨mb, blk, lv, ev, D, hm2⟩ hn
  have C4 := note_any p ⟨4, o, 0, -n, 0, 0⟩ _ F _ N ⟨mb, blk, lv, ev, D, hm2⟩ hn
  have HC3 := Lib.hid C3
  have HC4 := Lib.hid C4
  have HT := Lib.hid ht2
  obtain ⟨h1a, h1b⟩ := h1
  obtain ⟨h2a, h2b⟩ := h2
  obtain ⟨h3a, h3b⟩ := h3
  generalize st.total = tt at *
  clear C3 C4 hm2 ht2 hblk hm ha hb
  by_cases h0 : 0 ≤ n
  · have HE := Lib.hid (show holdEnt o n = ⟨3, o, 0, n, 0, 0⟩ by unfold holdEnt; rw [if_pos h0])
    go_enter Try.func72, Try.ntmps72
    go_wp2_with fail
    refine HC3.out.mono ?_
    rintro e w1 ⟨rfl, hb1, ht1⟩
    have hs := HT.out.size
    have HB1 := Lib.hid (hb1.wider (G := fun k => F k ∨ w.heap.size ≤ k) (fun k hk => hk.imp id (fun x => Nat.le_trans hs x)))
    have HT1 := Lib.hid (HT.out.then ht1)
    clear hb1 ht1
    go_wp2_with fail
    go_end0
    refine ⟨rfl, ?_, HT1.out⟩
    rw [HE.out]
    exact HB1.out
  · have HE := Lib.hid (show holdEnt o n = ⟨4, o, 0, -n, 0, 0⟩ by unfold holdEnt; rw [if_neg h0])
    go_enter Try.func72, Try.ntmps72
    go_wp2_with fail
    refine HC4.out.mono ?_
    rintro e w1 ⟨rfl, hb1, ht1⟩
    have hs := HT.out.size
    have HB1 := Lib.hid (hb1.wider (G := fun k => F k ∨ w.heap.size ≤ k) (fun k hk => hk.imp id (fun x => Nat.le_trans hs x)))
    have HT1 := Lib.hid (HT.out.then ht1)
    clear hb1 ht1
    go_wp2_with fail
    go_end0
    refine ⟨rfl, ?_, HT1.out⟩
    rw [HE.out]
    exact HB1.out

end Go.Proofs.Ytjogaohnphafgaa
