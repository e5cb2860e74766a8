/-
  The book's Take and Give: what they give. Conditions: numbers that are not too large.
-/
import Derived.Test.YtiaedonhbafpjaaTopSlabPam
namespace Go.Proofs.Ytiaedonhbafpjaa
open Go.RowKit

def takeE (st : BookSt) (l h s n : Int) : Int := if min (l - (h + s)) (st.budget - st.total) < n then 12 else 0
def takeSt (st : BookSt) (o l h s n : Int) : BookSt := if takeE st l h s n = 0 then { heldSt st o l h s n with entries := trimE (st.entries ++ [holdEnt o n]) } else st
def TakePost (F : Nat → Prop) (p : Nat) (st : BookSt) (o l h s n : Int) (N : Nat) (w : World) : Ending → World → Prop := fun e w' =>
  e = .returned (.int .i64 (takeE st l h s n)) ∧ BookAt w' (fun k => F k ∨ w.heap.size ≤ k) p (takeSt st o l h s n) N ∧ Touch F w w'

set_option maxHeartbeats 2000000 in
set_option maxRecDepth 100000 in
theorem take_any (p : Nat) (o n l h s : Int) (w : World) (F : Nat → Prop) (st : BookSt) (N : Nat) (hbk : BookAt w F p st N) (ha : st.acc o = some (l, h, s)) (ho : 1 ≤ o ∧ o ≤ 40) (hn0 : 0 ≤ n ∧ n ≤ 10000000)
    (h0 : 0 ≤ l ∧ l ≤ 1000000000) (h1 : 0 ≤ h ∧ h ≤ 1000000000) (h2 : 0 ≤ s ∧ s ≤ 1000000000) (h3 : 0 ≤ st.budget ∧ st.budget ≤ 1000000000) (h4 : 0 ≤ st.total ∧ st.total ≤ 1000000000) (hn : st.entries.length ≤ 10000) :
    Calls Try.prog 51 #[.pointer (some ⟨p, 0, none⟩), .int .i64 o, .int .i64 n] w (TakePost F p st o l h s n N w) := by
  obtain ⟨mb, blk, lv, ev, D, hm⟩ := hbk
  obtain ⟨b, hb⟩ : ∃ b, blk o = some b := by
    cases hb : blk o with
    | none => rw [(hm.anone o).1 hb] at ha; cases ha
    | some b => exact ⟨b, rfl⟩
  obtain ⟨l', h', s', ha', hblk, hFb⟩ := hm.asome o b hb
  rw [ha] at ha'
  simp only [Option.some.injEq, Prod.mk.injEq] at ha'
  obtain ⟨rfl, rfl, rfl⟩ := ha'
  have B1 : Below w.heap.size w (w.alloc (.cells #[.int .i64 n] 3)) := (Below.refl _ _).alloc (Nat.le_refl _) _
  have hm1 := hm.same (Below.same_on B1)
  have A := account_any p o _ [n] _ F st N mb blk lv ev D (reads_one w n 3) (by unfold chkE; rw [if_pos ⟨ho, by simp; omega⟩]) hm1
  rw [hb] at A
  have HA := Lib.hid A
  have hblk1 := (B1.block b (lt_of hblk)).trans hblk
  have L := left_any p b st mb lv ev l h s _ hm1.self hblk1 (by omega) (by omega) (by omega) (by omega) (by omega)
  have HL := Lib.hid L
  have HM1 := Lib.hid hm1
  have HB := Lib.hid hb
  have HACC := Lib.hid ha
  have HB1 := Lib.hid B1
  obtain ⟨hn1, hn2⟩ := hn0
  clear A L hm hm1 hb ha hblk hblk1 B1
  have fin : ∀ q, BookAt ((w.alloc (.cells #[.int .i64 n] 3)).drewN q) (fun k => F k ∨ w.heap.size ≤ k) p st N ∧ Touch F w ((w.alloc (.cells #[.int .i64 n] 3)).drewN q) := fun q =>
    ⟨(show BookAt _ F p st N from ⟨mb, blk, lv, ev, D, HM1.out.same (Below.same_on (bdrewN (Below.refl _ _) q))⟩).wider (fun k hk => Or.inl hk), (Touch.of_below HB1.out).drewN q⟩
  have FIN := Lib.hid fin
  clear fin
  have e1' : takeE st l h s n = if min (l - (h + s)) (st.budget - st.total) < n then 12 else 0 := rfl
  have HSH := Lib.hid (fun (q : Nat) => hold_any p b o n l h s ((w.alloc (.cells #[.int .i64 n] 3)).drewN q) F st N mb blk lv ev D (HM1.out.same (Below.same_on (bdrewN (Below.refl _ _) q))) HB.out HACC.out (by omega) (by omega) (by omega) hn)
  generalize hm0 : min (l - (h + s)) (st.budget - st.total) = m at *
  have mb1 : -4000000000 ≤ m ∧ m ≤ 4000000000 := by omega
  obtain ⟨mb1a, mb1b⟩ := mb1
  clear hm0
  by_cases e2 : m < n
  · have HE := Lib.hid (show takeE st l h s n = 12 by rw [e1', if_pos e2])
    have HS := Lib.hid (show takeSt st o l h s n = st by unfold takeSt; rw [if_neg (by rw [HE.out]; simp)])
    clear e1' HSH
    go_enter Try.func51, Try.ntmps51
    go_wp2_with fail
    refine HA.out.mono ?_
    rintro e w1 ⟨rfl, rfl⟩
    unfold ptrOf
    go_wp2_with fail
    refine HL.out.mono ?_
    rintro e w2 ⟨rfl, q, rfl⟩
    go_wp2_with fail
    go_ret
    refine ⟨by rw [HE.out]; rfl, ?_, (FIN.out q).2⟩
    rw [HS.out]
    exact (FIN.out q).1
  · have HE := Lib.hid (show takeE st l h s n = 0 by rw [e1', if_neg e2])
    clear e1'
    have HS := Lib.hid (show takeSt st o l h s n = { heldSt st o l h s n with entries := trimE (st.entries ++ [holdEnt o n]) } by unfold takeSt; rw [if_pos HE.out])
    go_enter Try.func51, Try.ntmps51
    go_wp2_with fail
    refine HA.out.mono ?_
    rintro e w1 ⟨rfl, rfl⟩
    unfold ptrOf
    go_wp2_with fail
    refine HL.out.mono ?_
    rintro e w2 ⟨rfl, q, rfl⟩
    go_wp2_with fail
    refine (HSH.out q).mono ?_
    rintro e w3 ⟨rfl, hb3, ht3⟩
    have hs3 := (FIN.out q).2.size
    have HB3 := Lib.hid (hb3.wider (G := fun k => F k ∨ w.heap.size ≤ k) (fun k hk => hk.imp id (fun x => Nat.le_trans hs3 x)))
    have HT3 := Lib.hid ((FIN.out q).2.then ht3)
    clear hb3 ht3
    go_wp2_with fail
    go_ret
    refine ⟨by rw [HE.out]; rfl, ?_, HT3.out⟩
    rw [HS.out]
    exact HB3.out

def giveE (h n : Int) : Int := if h < n then 5 else 0
def giveSt (st : BookSt) (o l h s n : Int) : BookSt := if giveE h n = 0 then { heldSt st o l h s (-n) with entries := trimE (st.entries ++ [⟨4, o, 0, n, 0, 0⟩]) } else st
def GivePost (F : Nat → Prop) (p : Nat) (st : BookSt) (o l h s n : Int) (N : Nat) (w : World) : Ending → World → Prop := fun e w' =>
  e = .returned (.int .i64 (giveE h n)) ∧ BookAt w' (fun k => F k ∨ w.heap.size ≤ k) p (giveSt st o l h s n) N ∧ Touch F w w'

set_option maxHeartbeats 2000000 in
set_option maxRecDepth 100000 in
theorem give_any (p : Nat) (o n l h s : Int) (w : World) (F : Nat → Prop) (st : BookSt) (N : Nat) (hbk : BookAt w F p st N) (ha : st.acc o = some (l, h, s)) (ho : 1 ≤ o ∧ o ≤ 40) (hn0 : 0 ≤ n ∧ n ≤ 10000000)
    (h1 : 0 ≤ h ∧ h ≤ 1000000000) (h4 : 0 ≤ st.total ∧ st.total ≤ 1000000000) (hn : st.entries.length ≤ 10000) :
    Calls Try.prog 56 #[.pointer (some ⟨p, 0, none⟩), .int .i64 o, .int .i64 n] w (GivePost F p st o l h s n N w) := by
  obtain ⟨mb, blk, lv, ev, D, hm⟩ := hbk
  obtain ⟨b, hb⟩ : ∃ b, blk o = some b := by
    cases hb : blk o with
    | none => rw [(hm.anone o).1 hb] at ha; cases ha
    | some b => exact ⟨b, rfl⟩
  obtain ⟨l', h', s', ha', hblk, hFb⟩ := hm.asome o b hb
  rw [ha] at ha'
  simp only [Option.some.injEq, Prod.mk.injEq] at ha'
  obtain ⟨rfl, rfl, rfl⟩ := ha'
  have B1 : Below w.heap.size w (w.alloc (.cells #[.int .i64 n] 3)) := (Below.refl _ _).alloc (Nat.le_refl _) _
  have hm1 := hm.same (Below.same_on B1)
  have A := account_any p o _ [n] _ F st N mb blk lv ev D (reads_one w n 3) (by unfold chkE; rw [if_pos ⟨ho, by simp; omega⟩]) hm1
  rw [hb] at A
  have HA := Lib.hid A
  have hblk1 := (B1.block b (lt_of hblk)).trans hblk
  obtain ⟨hm2, ht2⟩ := hm1.held hb ha (-n) hblk1
  rw [← Int.sub_eq_add_neg, ← Int.sub_eq_add_neg] at hm2 ht2
  have c1 : (w.alloc (.cells #[.int .i64 n] 3)).cell? ⟨b, 1, none⟩ = some (.int .i64 h) := by rw [cell_of hblk1]; rfl
  have f1 : (w.alloc (.cells #[.int .i64 n] 3)).frozen? ⟨b, 1, none⟩ = false := free_of hblk1 1
  have d1 : (w.alloc (.cells #[.int .i64 n] 3)).cell? ⟨p, 1, none⟩ = some (.int .i64 st.total) := by rw [cell_of hm1.self]; rfl
  have g1 : (w.alloc (.cells #[.int .i64 n] 3)).frozen? ⟨p, 1, none⟩ = false := free_of hm1.self 1
  have hpb : p ≠ b := by rintro rfl; rw [hm.self] at hblk; simp [bookCells] at hblk
  have ne1 : ∀ (W : World) (u : Value), (W.setCell ⟨b, 1, none⟩ u).cell? ⟨p, 1, none⟩ = W.cell? ⟨p, 1, none⟩ := fun W u => World.cell?_setCell_other _ _ _ _ (by simp)
  have C4 := note_any p ⟨4, o, 0, n, 0, 0⟩ _ F _ N ⟨mb, blk, lv, ev, D, hm2⟩ hn
  have HC4 := Lib.hid C4
  have HT := Lib.hid ht2
  have HM1 := Lib.hid hm1
  have HB1 := Lib.hid B1
  obtain ⟨hn1, hn2⟩ := hn0
  obtain ⟨h1a, h1b⟩ := h1
  obtain ⟨h4a, h4b⟩ := h4
  clear A C4 hm hm1 hm2 ht2 hb ha hblk hblk1 B1
  by_cases e2 : h < n
  · have HE := Lib.hid (show giveE h n = 5 from if_pos e2)
    have HS := Lib.hid (show giveSt st o l h s n = st by unfold giveSt; rw [if_neg (by rw [HE.out]; simp)])
    have FIN : Hid (BookAt (w.alloc (.cells #[.int .i64 n] 3)) (fun k => F k ∨ w.heap.size ≤ k) p st N) := Lib.hid ((show BookAt _ F p st N from ⟨mb, blk, lv, ev, D, HM1.out⟩).wider (fun k hk => Or.inl hk))
    clear HC4 HT
    generalize st.total = tt at *
    go_enter Try.func56, Try.ntmps56
    go_wp2_with fail
    refine HA.out.mono ?_
    rintro e w1 ⟨rfl, rfl⟩
    unfold ptrOf
    go_wp2_with fail
    go_ret
    refine ⟨by rw [HE.out]; rfl, ?_, Touch.of_below HB1.out⟩
    rw [HS.out]
    exact FIN.out
  · have HE := Lib.hid (show giveE h n = 0 from if_neg e2)
    have HS := Lib.hid (show giveSt st o l h s n = { heldSt st o l h s (-n) with entries := trimE (st.entries ++ [⟨4, o, 0, n, 0, 0⟩]) } by unfold giveSt; rw [if_pos HE.out])
    generalize st.total = tt at *
    go_enter Try.func56, Try.ntmps56
    go_wp2_with fail
    refine HA.out.mono ?_
    rintro e w1 ⟨rfl, rfl⟩
    unfold ptrOf
    go_wp2_with fail
    refine HC4.out.mono ?_
    rintro e w3 ⟨rfl, hb3, ht3⟩
    have hs1 := HB1.out.size
    have hs3 := HT.out.size
    have HB3 := Lib.hid (hb3.wider (G := fun k => F k ∨ w.heap.size ≤ k) (fun k hk => hk.imp id (fun x => Nat.le_trans hs1 (Nat.le_trans hs3 x))))
    have HT3 := Lib.hid (((Touch.of_below (F := F) HB1.out).then HT.out).then ht3)
    clear hb3 ht3
    go_wp2_with fail
    go_ret
    refine ⟨by rw [HE.out]; rfl, ?_, HT3.out⟩
    rw [HS.out]
    exact HB3.out

end Go.Proofs.Ytiaedonhbafpjaa
