/-
  The book's Take and Give: what they give. Conditions: numbers that are not too large.
  A region by a plan where unused operations, for which nobody waits, lie ahead of the sink: only those of X lead to it. No conditions.
  added, take: what they give. Conditions: numbers in their bounds.
-/
import Derived.Test.YtbndknbjjdoanaaTopSharedPam
import Derived.Test.YtbndknbjjdoanaaTopSharedPak
import Derived.Test.YtbndknbjjdoanaaTopSharedPal

namespace Go.Proofs.Ytbndknbjjdoanaa
section
open Go.RowKit

def takeE (st : BookSt) (l h s n : Int) : Int := if min (l - (h + s)) (st.budget - st.total) < n then 12 else 0
def takeSt (st : BookSt) (o l h s n : Int) : BookSt := if takeE st l h s n = 0 then { heldSt st o l h s n with entries := trimE (st.entries ++ [holdEnt o n]) } else st
def TakePost (F : Nat → Prop) (p : Nat) (st : BookSt) (o l h s n : Int) (N : Nat) (w : World) : Ending → World → Prop := fun e w' =>
  e = .returned (.int .i64 (takeE st l h s n)) ∧ BookAt w' (fun k => F k ∨ w.heap.size ≤ k) p (takeSt st o l h s n) N ∧ Touch F w w'

set_option maxHeartbeats 2000000 in
set_option maxRecDepth 100000 in
theorem take_any (p : Nat) (o n l h s : Int) (w : World) (F : Nat → Prop) (st : BookSt) (N : Nat) (hbk : BookAt w F p st N) (ha : st.acc o = some (l, h, s)) (ho : 1 ≤ o ∧ o ≤ 40) (hn0 : 0 ≤ n ∧ n ≤ 10000000)
    (h0 : 0 ≤ l ∧ l ≤ 1000000000) (h1 : 0 ≤ h ∧ h ≤ 1000000000) (h2 : 0 ≤ s ∧ s ≤ 1000000000) (h3 : 0 ≤ st.budget ∧ st.budget ≤ 1000000000) (h4 : 0 ≤ st.total ∧ st.total ≤ 1000000000) (hn : st.entries.length ≤ 10000) :
    Calls Try.prog 60 #[.pointer (some ⟨p, 0, none⟩), .int .i64 o, .int .i64 n] w (TakePost F p st o l h s n N w) := by
  obtain ⟨mb, blk, lv, ev, D, hm⟩ := hbk
  obtain ⟨b, hb⟩ : ∃ b, blk o = some b := by
    cases hb : blk o with
    | none => rw [(hm.anone o).1 hb] at ha; cases ha
    | some b => exact ⟨b, rfl⟩
  obtain ⟨l', h', s', ha', hblk, hFb⟩ := hm.asome o b hb
  rw [ha] at ha'
  simp only [Option.some.injEq, Prod.mk.injEq] at ha'
  obtain ⟨rfl, rfl, rfl⟩ := ha'
  have B1 : Below w.heap.size w (w.alloc (.cells #[.int .i64 n] 3)) := (Below.refl _ _).alloc (Nat.le_refl _) _
  have hm1 := hm.same (Below.same_on B1)
  have A := account_any p o _ [n] _ F st N mb blk lv ev D (reads_one w n 3) (by unfold chkE; rw [if_pos ⟨ho, by simp; omega⟩]) hm1
  rw [hb] at A
  have HA := Lib.hid A
  have hblk1 := (B1.block b (lt_of hblk)).trans hblk
  have L := left_any p b st mb lv ev l h s _ hm1.self hblk1 (by omega) (by omega) (by omega) (by omega) (by omega)
  have HL := Lib.hid L
  have HM1 := Lib.hid hm1
  have HB := Lib.hid hb
  have HACC := Lib.hid ha
  have HB1 := Lib.hid B1
  obtain ⟨hn1, hn2⟩ := hn0
  clear A L hm hm1 hb ha hblk hblk1 B1
  have fin : ∀ q, BookAt ((w.alloc (.cells #[.int .i64 n] 3)).drewN q) (fun k => F k ∨ w.heap.size ≤ k) p st N ∧ Touch F w ((w.alloc (.cells #[.int .i64 n] 3)).drewN q) := fun q =>
    ⟨(show BookAt _ F p st N from ⟨mb, blk, lv, ev, D, HM1.out.same (Below.same_on (bdrewN (Below.refl _ _) q))⟩).wider (fun k hk => Or.inl hk), (Touch.of_below HB1.out).drewN q⟩
  have FIN := Lib.hid fin
  clear fin
  have e1' : takeE st l h s n = if min (l - (h + s)) (st.budget - st.total) < n then 12 else 0 := rfl
  have HSH := Lib.hid (fun (q : Nat) => hold_any p b o n l h s ((w.alloc (.cells #[.int .i64 n] 3)).drewN q) F st N mb blk lv ev D (HM1.out.same (Below.same_on (bdrewN (Below.refl _ _) q))) HB.out HACC.out (by omega) (by omega) (by omega) hn)
  generalize hm0 : min (l - (h + s)) (st.budget - st.total) = m at *
  have mb1 : -4000000000 ≤ m ∧ m ≤ 4000000000 := by omega
  obtain ⟨mb1a, mb1b⟩ := mb1
  clear hm0
  by_cases e2 : m < n
  · have HE := Lib.hid (show takeE st l h s n = 12 by rw [e1', if_pos e2])
    have HS := Lib.hid (show takeSt st o l h s n = st by unfold takeSt; rw [if_neg (by rw [HE.out]; simp)])
    clear e1' HSH
    go_enter Try.func60, Try.ntmps60
    go_wp2_with fail
    refine HA.out.mono ?_
    rintro e w1 ⟨rfl, rfl⟩
    unfold ptrOf
    go_wp2_with fail
    refine HL.out.mono ?_
    rintro e w2 ⟨rfl, q, rfl⟩
    go_wp2_with fail
    go_ret
    refine ⟨by rw [HE.out]; rfl, ?_, (FIN.out q).2⟩
    rw [HS.out]
    exact (FIN.out q).1
  · have HE := Lib.hid (show takeE st l h s n = 0 by rw [e1', if_neg e2])
    clear e1'
    have HS := Lib.hid (show takeSt st o l h s n = { heldSt st o l h s n with entries := trimE (st.entries ++ [holdEnt o n]) } by unfold takeSt; rw [if_pos HE.out])
    go_enter Try.func60, Try.ntmps60
    go_wp2_with fail
    refine HA.out.mono ?_
    rintro e w1 ⟨rfl, rfl⟩
    unfold ptrOf
    go_wp2_with fail
    refine HL.out.mono ?_
    rintro e w2 ⟨rfl, q, rfl⟩
    go_wp2_with fail
    refine (HSH.out q).mono ?_
    rintro e w3 ⟨rfl, hb3, ht3⟩
    have hs3 := (FIN.out q).2.size
    have HB3 := Lib.hid (hb3.wider (G := fun k => F k ∨ w.heap.size ≤ k) (fun k hk => hk.imp id (fun x => Nat.le_trans hs3 x)))
    have HT3 := Lib.hid ((FIN.out q).2.then ht3)
    clear hb3 ht3
    go_wp2_with fail
    go_ret
    refine ⟨by rw [HE.out]; rfl, ?_, HT3.out⟩
    rw [HS.out]
    exact HB3.out

def giveE (h n : Int) : Int := if h < n then 5 else 0
def giveSt (st : BookSt) (o l h s n : Int) : BookSt := if giveE h n = 0 then { heldSt st o l h s (-n) with entries := trimE (st.entries ++ [⟨4, o, 0, n, 0, 0⟩]) } else st
def GivePost (F : Nat → Prop) (p : Nat) (st : BookSt) (o l h s n : Int) (N : Nat) (w : World) : Ending → World → Prop := fun e w' =>
  e = .returned (.int .i64 (giveE h n)) ∧ BookAt w' (fun k => F k ∨ w.heap.size ≤ k) p (giveSt st o l h s n) N ∧ Touch F w w'

set_option maxHeartbeats 2000000 in
set_option maxRecDepth 100000 in
theorem give_any (p : Nat) (o n l h s : Int) (w : World) (F : Nat → Prop) (st : BookSt) (N : Nat) (hbk : BookAt w F p st N) (ha : st.acc o = some (l, h, s)) (ho : 1 ≤ o ∧ o ≤ 40) (hn0 : 0 ≤ n ∧ n ≤ 10000000)
    (h1 : 0 ≤ h ∧ h ≤ 1000000000) (h4 : 0 ≤ st.total ∧ st.total ≤ 1000000000) (hn : st.entries.length ≤ 10000) :
    Calls Try.prog 63 #[.pointer (some ⟨p, 0, none⟩), .int .i64 o, .int .i64 n] w (GivePost F p st o l h s n N w) := by
  obtain ⟨mb, blk, lv, ev, D, hm⟩ := hbk
  obtain ⟨b, hb⟩ : ∃ b, blk o = some b := by
    cases hb : blk o with
    | none => rw [(hm.anone o).1 hb] at ha; cases ha
    | some b => exact ⟨b, rfl⟩
  obtain ⟨l', h', s', ha', hblk, hFb⟩ := hm.asome o b hb
  rw [ha] at ha'
  simp only [Option.some.injEq, Prod.mk.injEq] at ha'
  obtain ⟨rfl, rfl, rfl⟩ := ha'
  have B1 : Below w.heap.size w (w.alloc (.cells #[.int .i64 n] 3)) := (Below.refl _ _).alloc (Nat.le_refl _) _
  have hm1 := hm.same (Below.same_on B1)
  have A := account_any p o _ [n] _ F st N mb blk lv ev D (reads_one w n 3) (by unfold chkE; rw [if_pos ⟨ho, by simp; omega⟩]) hm1
  rw [hb] at A
  have HA := Lib.hid A
  have hblk1 := (B1.block b (lt_of hblk)).trans hblk
  obtain ⟨hm2, ht2⟩ := hm1.held hb ha (-n) hblk1
  rw [← Int.sub_eq_add_neg, ← Int.sub_eq_add_neg] at hm2 ht2
  have c1 : (w.alloc (.cells #[.int .i64 n] 3)).cell? ⟨b, 1, none⟩ = some (.int .i64 h) := by rw [cell_of hblk1]; rfl
  have f1 : (w.alloc (.cells #[.int .i64 n] 3)).frozen? ⟨b, 1, none⟩ = false := free_of hblk1 1
  have d1 : (w.alloc (.cells #[.int .i64 n] 3)).cell? ⟨p, 1, none⟩ = some (.int .i64 st.total) := by rw [cell_of hm1.self]; rfl
  have g1 : (w.alloc (.cells #[.int .i64 n] 3)).frozen? ⟨p, 1, none⟩ = false := free_of hm1.self 1
  have hpb : p ≠ b := by rintro rfl; rw [hm.self] at hblk; simp [bookCells] at hblk
  have ne1 : ∀ (W : World) (u : Value), (W.setCell ⟨b, 1, none⟩ u).cell? ⟨p, 1, none⟩ = W.cell? ⟨p, 1, none⟩ := fun W u => World.cell?_setCell_other _ _ _ _ (by simp)
  have C4 := note_any p ⟨4, o, 0, n, 0, 0⟩ _ F _ N ⟨mb, blk, lv, ev, D, hm2⟩ hn
  have HC4 := Lib.hid C4
  have HT := Lib.hid ht2
  have HM1 := Lib.hid hm1
  have HB1 := Lib.hid B1
  obtain ⟨hn1, hn2⟩ := hn0
  obtain ⟨h1a, h1b⟩ := h1
  obtain ⟨h4a, h4b⟩ := h4
  clear A C4 hm hm1 hm2 ht2 hb ha hblk hblk1 B1
  by_cases e2 : h < n
  · have HE := Lib.hid (show giveE h n = 5 from if_pos e2)
    have HS := Lib.hid (show giveSt st o l h s n = st by unfold giveSt; rw [if_neg (by rw [HE.out]; simp)])
    have FIN : Hid (BookAt (w.alloc (.cells #[.int .i64 n] 3)) (fun k => F k ∨ w.heap.size ≤ k) p st N) := Lib.hid ((show BookAt _ F p st N from ⟨mb, blk, lv, ev, D, HM1.out⟩).wider (fun k hk => Or.inl hk))
    clear HC4 HT
    generalize st.total = tt at *
    go_enter Try.func63, Try.ntmps63
    go_wp2_with fail
    refine HA.out.mono ?_
    rintro e w1 ⟨rfl, rfl⟩
    unfold ptrOf
    go_wp2_with fail
    go_ret
    refine ⟨by rw [HE.out]; rfl, ?_, Touch.of_below HB1.out⟩
    rw [HS.out]
    exact FIN.out
  · have HE := Lib.hid (show giveE h n = 0 from if_neg e2)
    have HS := Lib.hid (show giveSt st o l h s n = { heldSt st o l h s (-n) with entries := trimE (st.entries ++ [⟨4, o, 0, n, 0, 0⟩]) } by unfold giveSt; rw [if_pos HE.out])
    generalize st.total = tt at *
    go_enter Try.func63, Try.ntmps63
    go_wp2_with fail
    refine HA.out.mono ?_
    rintro e w1 ⟨rfl, rfl⟩
    unfold ptrOf
    go_wp2_with fail
    refine HC4.out.mono ?_
    rintro e w3 ⟨rfl, hb3, ht3⟩
    have hs1 := HB1.out.size
    have hs3 := HT.out.size
    have HB3 := Lib.hid (hb3.wider (G := fun k => F k ∨ w.heap.size ≤ k) (fun k hk => hk.imp id (fun x => Nat.le_trans hs1 (Nat.le_trans hs3 x))))
    have HT3 := Lib.hid (((Touch.of_below (F := F) HB1.out).then HT.out).then ht3)
    clear hb3 ht3
    go_wp2_with fail
    go_ret
    refine ⟨by rw [HE.out]; rfl, ?_, HT3.out⟩
    rw [HS.out]
    exact HB3.out

end
end Go.Proofs.Ytbndknbjjdoanaa

namespace Go.Proofs.Ytbndknbjjdoanaa
section
open Go Go.RowKit
set_option linter.unusedVariables false

section
variable {P : Program} {ops : Array Oper} {Q : Exit → Act → World → Prop} {md : Region.Mode} {S T : World → Prop} {n : Nat}

/-- Each number of X but n has a later one in X, not past n, that waits for it. -/
def sinkX (md : Region.Mode) (ops : Array Oper) (n : Nat) (X : List Nat) : Bool :=
  X.all fun i => decide (i = n) || X.any fun j => decide (i < j) && decide (j ≤ n) && Region.waitsFor md ops j i

theorem sinkX_all {X : List Nat} {listed : Array Bool} (hs : sinkX md ops n X = true) (inv : ClosedL md ops listed) (hn : listed.getD n false = true) : ∀ (d i : Nat), n - i = d → i ∈ X → i ≤ n → listed.getD i false = true := by
  intro d
  induction d using Nat.strongRecOn with
  | _ d ih =>
    intro i hd hX hi
    by_cases e : i = n
    · rw [e]; exact hn
    · have h1 := List.all_eq_true.1 hs i hX
      rw [Bool.or_eq_true] at h1
      rcases h1 with h1 | h1
      · exact absurd (of_decide_eq_true h1) e
      obtain ⟨j, hj, hj2⟩ := List.any_eq_true.1 h1
      rw [Bool.and_eq_true, Bool.and_eq_true, decide_eq_true_eq, decide_eq_true_eq] at hj2
      obtain ⟨⟨hlt, hjle⟩, hw⟩ := hj2
      obtain ⟨oj, hoj, ed, hed, hbd, hon⟩ := Region.waitsFor_spec hw
      have h2 := ih (n - j) (by omega) j rfl hj hjle
      rw [← hon]
      exact inv.2 j oj hoj h2 ed hed hbd

theorem wpN_segX0 {l : List Oper} {X : List Nat} (hsel : Region.noSelect l.toArray = true) (hQ : ∀ c d v a w, Q (.panic c) (Act.put a d v) w → Q (.panic c) a w)
    (hT : ∀ i (L : Array Bool) w', i ∈ X → i < n → ClosedL .any l.toArray L → L.getD i true = false → (needL n L = true → S w') → T w') :
    ∀ (is : List Nat) (done : List Nat) (a : Act) (w : World), (∀ i ∈ is, i ∈ X) → segB l.toArray n true done is = true → ClosedL .any l.toArray (lst l.toArray done) → (needL n (lst l.toArray done) = true → S w) →
      wpQuiet P l.toArray T (fun a' => wpN P l.toArray Q S n (done ++ is) a' w) (pick l is) a → wpN P l.toArray Q S n done a w := by
  intro is
  induction is with
  | nil =>
    intro done a w _ _ _ _ h
    have h : wpN P l.toArray Q S n (done ++ []) a w := h
    rwa [List.append_nil] at h
  | cons i is ih =>
    intro done a w hX hB hcl hS h
    simp only [segB, Bool.and_eq_true, decide_eq_true_eq] at hB
    obtain ⟨⟨⟨⟨⟨⟨hr, hf⟩, hp⟩, hne⟩, hlt⟩, hlen⟩, hrest⟩ := hB
    have hr' : i ∈ Region.ready .any l.toArray (lst l.toArray done) := by simpa using hr
    obtain ⟨_, oi, hoi, _⟩ := mem_ready.1 hr'
    rw [hoi] at hp
    simp only [Option.map_some, Option.getD_some] at hp
    have hol : l[i]? = some oi := by simpa using hoi
    have hpk : pick l (i :: is) = oi :: pick l is := by simp [pick, hol]
    rw [hpk] at h
    have hq : qOp P l.toArray T i (wpQuiet P l.toArray T (fun a' => wpN P l.toArray Q S n (done ++ (i :: is)) a' w) (pick l is)) a := by unfold qOp; simp only [hoi]; exact h
    obtain ⟨v, hy, hK⟩ := yieldsIn_of_qOp hoi hq
    have e : done ++ i :: is = (done ++ [i]) ++ is := by simp
    rw [e] at hK
    have H := ih (done ++ [i]) (a.put oi.dst v) w (fun k hk => hX k (List.mem_cons_of_mem _ hk)) hrest (by rw [lst_snoc]; exact hcl.set hr') (by rw [lst_snoc, needL_ne hne]; exact hS) hK
    unfold wpN at H ⊢
    rw [lst_snoc, List.length_append] at H
    have e2 : l.toArray.size - done.length = (l.toArray.size - (done.length + 1)) + 1 := by omega
    rw [e2]
    exact wpAnyP_first hoi (Region.noSelect_spec hsel) (fun c a w => hQ c oi.dst v a w) hne (fun L w' h1 h2 h3 => hT i L w' (hX i (List.mem_cons_self)) (by simpa using hlt) h1 h2 h3) _ _ _ _ hcl (Region.free_spec hoi hf) hr' (YieldsIn.toP hp hy) hS H

/-- What only reads, under S, the numbers in X. -/
theorem wpN_segX {l : List Oper} {done : List Nat} {a : Act} {w : World} (X is : List Nat) (hsel : Region.noSelect l.toArray = true) (hs : sinkX .any l.toArray n X = true) (hB : segB l.toArray n true done is = true) (hcl : closedB .any l.toArray (lst l.toArray done) = true)
    (hn : decide (n < l.toArray.size ∧ ∀ i ∈ is, i ∈ X) = true) (hQ : ∀ c d v a w, Q (.panic c) (Act.put a d v) w → Q (.panic c) a w) (hS : S w) (h : wpQuiet P l.toArray (fun w' => ∃ x : WIn S, w' = x.w) (fun a' => wpN P l.toArray Q S n (done ++ is) a' w) (pick l is) a) : wpN P l.toArray Q S n done a w :=
  wpN_segX0 hsel hQ (fun i L w' hX hi hL hun hx => ⟨⟨w', hx (by
    unfold needL
    cases hg : L.getD n true with
    | false => rfl
    | true =>
      exfalso
      have hn' : n < L.size := by
        rw [hL.1]
        exact (of_decide_eq_true hn).1
      have hg' : L.getD n false = true := by simp [hn'] at hg ⊢; exact hg
      have h2 := sinkX_all hs hL hg' (n - i) i rfl hX (by omega)
      rw [getD_both hun] at h2
      cases h2)⟩, rfl⟩) is done a w (of_decide_eq_true hn).2 hB (closedB_spec (lst_size _) hcl) (fun _ => hS) h

end

end
end Go.Proofs.Ytbndknbjjdoanaa

namespace Go.Proofs.Ytbndknbjjdoanaa
section
open Go.RowKit
set_option linter.unusedVariables false

def SameAt (a : Nat) (w W : World) : Prop := W.heap[a]? = w.heap[a]?
theorem cell_at {w W : World} {a : Nat} (h : SameAt a w W) (j : Nat) : W.cell? ⟨a, j, none⟩ = w.cell? ⟨a, j, none⟩ := by
  unfold World.cell?
  unfold SameAt at h
  simp only [h]

set_option maxHeartbeats 1000000 in
set_option maxRecDepth 100000 in
theorem added_any {w : World} {F : Nat → Prop} {h bp : Nat} {P : PoolSt} {mb ms N1 N2 : Nat} {D1 D2 : DataW Unit} (m : PoolMem w F h bp P mb ms N1 N2 D1 D2) (o : Option (Nat × Nat × Nat)) (l : List Pt)
    (hr : w.ownsRow 0 75 3 (rowOf o) l.length (ptCells l)) (hpt : ∀ x ∈ l, ∃ y, lookN P.bl x.b = some y ∧ x.f ≤ x.t ∧ x.t ≤ y.used) (hl : l.length ≤ 500 ∧ lenP l ≤ 100000) (hfew : P.st.length < 200) (hS : P.lastS < 1000000000) (hN : N2 < 9223372036854775807) :
    Calls Try.prog 33 #[.pointer (some ⟨h, 0, none⟩), rowOf o] w (fun e w' => e = .returned (.tuple #[.int .i64 ((P.lastS + 1 : Nat) : Int), .int .i64 0]) ∧ (∃ D2', PoolMem w' (fun k => F k ∨ (rowOf o).ownBlock = some k) h bp (P.add o l) mb ms N1 (N2 + 1) D1 D2') ∧ Touch F w w') := by
  obtain ⟨c0, c1, c2, c3, c4, c5, c6, c7⟩ := m.cells
  have hkey := Maps.keyOf_int_mk (P := Try.prog) (k := 3) Try.underlying3 (a := ((P.lastS + 1 : Nat) : Int)) (WalkArith.wf_i64 (by omega))
  have f5 : w.frozen? ⟨h, 5, none⟩ = false := free_of m.self 5
  have s1 := block_setCell m.self 5 (.int .i64 ((P.lastS : Int) + 1))
  have hms : ms ≠ h := fun e => by
    obtain ⟨es, clock, hb, _⟩ := m.m2
    have h1 := m.self
    rw [← e, hb] at h1
    simp at h1
  have m2 : (w.setCell ⟨h, 5, none⟩ (.int .i64 ((P.lastS : Int) + 1))).drew.ownsMap Try.prog 3 rowElem ms N2 D2 := ownsMap_same m.m2 (Below.heap_setCell _ _ _ _ hms)
  obtain ⟨w3, hrun, hm3, hg3⟩ := m2.update (Maps.int_keyed Try.underlying3) Try.underlying61 (by unfold maxLen; omega) hkey (rowElem_of o)
  obtain ⟨new, ht⟩ := m.add rfl hm3 hg3 hr hpt hl hfew hS
  have n5 := new.cells.2.2.2.2.2.1
  have FIN := Lib.hid (And.intro (⟨_, new⟩ : ∃ D2', PoolMem w3 (fun k => F k ∨ (rowOf o).ownBlock = some k) h bp (P.add o l) mb ms N1 (N2 + 1) D1 D2') ht)
  have e5 : ((P.lastS + 1 : Nat) : Int) = (P.lastS : Int) + 1 := by omega
  rw [e5] at hrun
  have n5 : w3.cell? ⟨h, 5, none⟩ = some (.int .i64 ((P.lastS : Int) + 1)) := by
    rw [n5]
    show some (Value.int .i64 ((P.lastS + 1 : Nat) : Int)) = _
    rw [e5]
  have HRUN := Lib.hid hrun
  have N5 := Lib.hid n5
  have HS1 := Lib.hid s1
  have hS' := hS
  clear m hr hpt hl hkey m2 hm3 hg3 new ht n5 s1 hrun
  go_enter Try.func33, Try.ntmps33
  go_upto_region 2 with fail
  clear c0 c1 c2 c3 c4 c5 c6 c7 f5
  have hrun := HRUN.out
  generalize w.setCell ⟨h, 5, none⟩ (.int .i64 ((P.lastS : Int) + 1)) = W1 at *
  have d5 : W1.cell? ⟨h, 5, none⟩ = some (.int .i64 ((P.lastS : Int) + 1)) := by rw [cell_of HS1.out]; rfl
  have d7 : W1.cell? ⟨h, 7, none⟩ = some (.map (some ms)) := by rw [cell_of HS1.out]; rfl
  have S0 : SameAt h W1 W1.drew := rfl
  have s5 : ∀ y : WIn (SameAt h W1), y.w.cell? ⟨h, 5, none⟩ = some (.int .i64 ((P.lastS : Int) + 1)) := fun y => (cell_at y.h _).trans d5
  have s7 : ∀ y : WIn (SameAt h W1), y.w.cell? ⟨h, 7, none⟩ = some (.map (some ms)) := fun y => (cell_at y.h _).trans d7
  haveI ne : Nonempty (WIn (SameAt h W1)) := ⟨⟨W1.drew, S0⟩⟩
  clear d5 d7
  refine wp_normal ?_
  refine wp_region_plan 9 (SameAt h W1) rfl ?_
  refine wpN_seg [0, 1, 2, 3, 4, 5, 6, 7, 8] (by kernel_rfl) (by kernel_rfl) (by kernel_rfl) (by kernel_rfl) (by decide) (fun _ _ _ _ _ h => h) S0 ?_
  simp only [pick, List.map_cons, List.map_nil, List.getElem?_cons_succ, List.getElem?_cons_zero, Option.getD_some]
  repeat (go_big_quiet_step (fail))
  refine wpQuiet_nil ?_
  clear s5 s7 ne S0
  refine wpN_one 9 _ (by kernel_rfl) rfl ?_
  refine NextAt.free (by kernel_rfl) ?_
  intro K hK
  refine step_update_here rfl _ _ _ _ rfl _ _ _ (by go_simp) (by go_simp) (by go_simp) hrun ?_
  go_simp
  refine hK _ _ ?_
  clear hK K hrun
  refine wpN_done (by kernel_rfl) ?_
  have n5 := N5.out
  go_wp2_with fail
  go_ret2
  exact ⟨by rw [e5]; rfl, FIN.out.1, FIN.out.2⟩

end
end Go.Proofs.Ytbndknbjjdoanaa
