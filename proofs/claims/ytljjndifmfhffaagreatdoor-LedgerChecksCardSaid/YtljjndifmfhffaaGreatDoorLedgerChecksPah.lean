/-
  The book's Take and Give: what they give. Conditions: numbers that are not too large.
  The book as a plain machine: what each call gives, the error and the book behind it. No conditions.
-/
import Derived.Test.YtljjndifmfhffaaGreatDoorLedgerChecksPag

namespace Go.Proofs.YtljjndifmfhffaaGreatDoor
section
open Go.RowKit

def takeE (st : BookSt) (l h s n : Int) : Int := if min (l - (h + s)) (st.budget - st.total) < n then 12 else 0
def takeSt (st : BookSt) (o l h s n : Int) : BookSt := if takeE st l h s n = 0 then { heldSt st o l h s n with entries := trimE (st.entries ++ [holdEnt o n]) } else st
def TakePost (F : Nat → Prop) (p : Nat) (st : BookSt) (o l h s n : Int) (N : Nat) (w : World) : Ending → World → Prop := fun e w' =>
  e = .returned (.int .i64 (takeE st l h s n)) ∧ BookAt w' (fun k => F k ∨ w.heap.size ≤ k) p (takeSt st o l h s n) N ∧ Touch F w w'

set_option maxHeartbeats 2000000 in
set_option maxRecDepth 100000 in
theorem take_any (p : Nat) (o n l h s : Int) (w : World) (F : Nat → Prop) (st : BookSt) (N : Nat) (hbk : BookAt w F p st N) (ha : st.acc o = some (l, h, s)) (ho : 1 ≤ o ∧ o ≤ 40) (hn0 : 0 ≤ n ∧ n ≤ 10000000)
    (h0 : 0 ≤ l ∧ l ≤ 1000000000) (h1 : 0 ≤ h ∧ h ≤ 1000000000) (h2 : 0 ≤ s ∧ s ≤ 1000000000) (h3 : 0 ≤ st.budget ∧ st.budget ≤ 1000000000) (h4 : 0 ≤ st.total ∧ st.total ≤ 1000000000) (hn : st.entries.length ≤ 10000) :
    Calls Tryz.prog 25 #[.pointer (some ⟨p, 0, none⟩), .int .i64 o, .int .i64 n] w (TakePost F p st o l h s n N w) := by
  obtain ⟨mb, blk, lv, ev, D, hm⟩ := hbk
  obtain ⟨b, hb⟩ : ∃ b, blk o = some b := by
    cases hb : blk o with
    | none => rw [(hm.anone o).1 hb] at ha; cases ha
    | some b => exact ⟨b, rfl⟩
  obtain ⟨l', h', s', ha', hblk, hFb⟩ := hm.asome o b hb
  rw [ha] at ha'
  simp only [Option.some.injEq, Prod.mk.injEq] at ha'
  obtain ⟨rfl, rfl, rfl⟩ := ha'
  have B1 : Below w.heap.size w (w.alloc (.cells #[.int .i64 n] 3)) := (Below.refl _ _).alloc (Nat.le_refl _) _
  have hm1 := hm.same (Below.same_on B1)
  have A := account_any p o _ [n] _ F st N mb blk lv ev D (reads_one w n 3) (by unfold chkE; rw [if_pos ⟨ho, by simp; omega⟩]) hm1
  rw [hb] at A
  have HA := Lib.hid A
  have hblk1 := (B1.block b (lt_of hblk)).trans hblk
  have L := left_any p b st mb lv ev l h s _ hm1.self hblk1 (by omega) (by omega) (by omega) (by omega) (by omega)
  have HL := Lib.hid L
  have HM1 := Lib.hid hm1
  have HB := Lib.hid hb
  have HACC := Lib.hid ha
  have HB1 := Lib.hid B1
  obtain ⟨hn1, hn2⟩ := hn0
  clear A L hm hm1 hb ha hblk hblk1 B1
  have fin : ∀ q, BookAt ((w.alloc (.cells #[.int .i64 n] 3)).drewN q) (fun k => F k ∨ w.heap.size ≤ k) p st N ∧ Touch F w ((w.alloc (.cells #[.int .i64 n] 3)).drewN q) := fun q =>
    ⟨(show BookAt _ F p st N from ⟨mb, blk, lv, ev, D, HM1.out.same (Below.same_on (bdrewN (Below.refl _ _) q))⟩).wider (fun k hk => Or.inl hk), (Touch.of_below HB1.out).drewN q⟩
  have FIN := Lib.hid fin
  clear fin
  have e1' : takeE st l h s n = if min (l - (h + s)) (st.budget - st.total) < n then 12 else 0 := rfl
  have HSH := Lib.hid (fun (q : Nat) => hold_any p b o n l h s ((w.alloc (.cells #[.int .i64 n] 3)).drewN q) F st N mb blk lv ev D (HM1.out.same (Below.same_on (bdrewN (Below.refl _ _) q))) HB.out HACC.out (by omega) (by omega) (by omega) hn)
  generalize hm0 : min (l - (h + s)) (st.budget - st.total) = m at *
  have mb1 : -4000000000 ≤ m ∧ m ≤ 4000000000 := by omega
  obtain ⟨mb1a, mb1b⟩ := mb1
  clear hm0
  by_cases e2 : m < n
  · have HE := Lib.hid (show takeE st l h s n = 12 by rw [e1', if_pos e2])
    have HS := Lib.hid (show takeSt st o l h s n = st by unfold takeSt; rw [if_neg (by rw [HE.out]; simp)])
    clear e1' HSH
    go_enter Tryz.func25, Tryz.ntmps25
    go_wp2_with fail
    refine HA.out.mono ?_
    rintro e w1 ⟨rfl, rfl⟩
    unfold ptrOf
    go_wp2_with fail
    refine HL.out.mono ?_
    rintro e w2 ⟨rfl, q, rfl⟩
    go_wp2_with fail
    go_ret
    refine ⟨by rw [HE.out]; rfl, ?_, (FIN.out q).2⟩
    rw [HS.out]
    exact (FIN.out q).1
  · have HE := Lib.hid (show takeE st l h s n = 0 by rw [e1', if_neg e2])
    clear e1'
    have HS := Lib.hid (show takeSt st o l h s n = { heldSt st o l h s n with entries := trimE (st.entries ++ [holdEnt o n]) } by unfold takeSt; rw [if_pos HE.out])
    go_enter Tryz.func25, Tryz.ntmps25
    go_wp2_with fail
    refine HA.out.mono ?_
    rintro e w1 ⟨rfl, rfl⟩
    unfold ptrOf
    go_wp2_with fail
    refine HL.out.mono ?_
    rintro e w2 ⟨rfl, q, rfl⟩
    go_wp2_with fail
    refine (HSH.out q).mono ?_
    rintro e w3 ⟨rfl, hb3, ht3⟩
    have hs3 := (FIN.out q).2.size
    have HB3 := Lib.hid (hb3.wider (G := fun k => F k ∨ w.heap.size ≤ k) (fun k hk => hk.imp id (fun x => Nat.le_trans hs3 x)))
    have HT3 := Lib.hid ((FIN.out q).2.then ht3)
    clear hb3 ht3
    go_wp2_with fail
    go_ret
    refine ⟨by rw [HE.out]; rfl, ?_, HT3.out⟩
    rw [HS.out]
    exact HB3.out

def giveE (h n : Int) : Int := if h < n then 5 else 0
def giveSt (st : BookSt) (o l h s n : Int) : BookSt := if giveE h n = 0 then { heldSt st o l h s (-n) with entries := trimE (st.entries ++ [⟨4, o, 0, n, 0, 0⟩]) } else st
def GivePost (F : Nat → Prop) (p : Nat) (st : BookSt) (o l h s n : Int) (N : Nat) (w : World) : Ending → World → Prop := fun e w' =>
  e = .returned (.int .i64 (giveE h n)) ∧ BookAt w' (fun k => F k ∨ w.heap.size ≤ k) p (giveSt st o l h s n) N ∧ Touch F w w'

set_option maxHeartbeats 2000000 in
set_option maxRecDepth 100000 in
theorem give_any (p : Nat) (o n l h s : Int) (w : World) (F : Nat → Prop) (st : BookSt) (N : Nat) (hbk : BookAt w F p st N) (ha : st.acc o = some (l, h, s)) (ho : 1 ≤ o ∧ o ≤ 40) (hn0 : 0 ≤ n ∧ n ≤ 10000000)
    (h1 : 0 ≤ h ∧ h ≤ 1000000000) (h4 : 0 ≤ st.total ∧ st.total ≤ 1000000000) (hn : st.entries.length ≤ 10000) :
    Calls Tryz.prog 26 #[.pointer (some ⟨p, 0, none⟩), .int .i64 o, .int .i64 n] w (GivePost F p st o l h s n N w) := by
  obtain ⟨mb, blk, lv, ev, D, hm⟩ := hbk
  obtain ⟨b, hb⟩ : ∃ b, blk o = some b := by
    cases hb : blk o with
    | none => rw [(hm.anone o).1 hb] at ha; cases ha
    | some b => exact ⟨b, rfl⟩
  obtain ⟨l', h', s', ha', hblk, hFb⟩ := hm.asome o b hb
  rw [ha] at ha'
  simp only [Option.some.injEq, Prod.mk.injEq] at ha'
  obtain ⟨rfl, rfl, rfl⟩ := ha'
  have B1 : Below w.heap.size w (w.alloc (.cells #[.int .i64 n] 3)) := (Below.refl _ _).alloc (Nat.le_refl _) _
  have hm1 := hm.same (Below.same_on B1)
  have A := account_any p o _ [n] _ F st N mb blk lv ev D (reads_one w n 3) (by unfold chkE; rw [if_pos ⟨ho, by simp; omega⟩]) hm1
  rw [hb] at A
  have HA := Lib.hid A
  have hblk1 := (B1.block b (lt_of hblk)).trans hblk
  obtain ⟨hm2, ht2⟩ := hm1.held hb ha (-n) hblk1
  rw [← Int.sub_eq_add_neg, ← Int.sub_eq_add_neg] at hm2 ht2
  have c1 : (w.alloc (.cells #[.int .i64 n] 3)).cell? ⟨b, 1, none⟩ = some (.int .i64 h) := by rw [cell_of hblk1]; rfl
  have f1 : (w.alloc (.cells #[.int .i64 n] 3)).frozen? ⟨b, 1, none⟩ = false := free_of hblk1 1
  have d1 : (w.alloc (.cells #[.int .i64 n] 3)).cell? ⟨p, 1, none⟩ = some (.int .i64 st.total) := by rw [cell_of hm1.self]; rfl
  have g1 : (w.alloc (.cells #[.int .i64 n] 3)).frozen? ⟨p, 1, none⟩ = false := free_of hm1.self 1
  have hpb : p ≠ b := by rintro rfl; rw [hm.self] at hblk; simp [bookCells] at hblk
  have ne1 : ∀ (W : World) (u : Value), (W.setCell ⟨b, 1, none⟩ u).cell? ⟨p, 1, none⟩ = W.cell? ⟨p, 1, none⟩ := fun W u => World.cell?_setCell_other _ _ _ _ (by simp)
  have C4 := note_any p ⟨4, o, 0, n, 0, 0⟩ _ F _ N ⟨mb, blk, lv, ev, D, hm2⟩ hn
  have HC4 := Lib.hid C4
  have HT := Lib.hid ht2
  have HM1 := Lib.hid hm1
  have HB1 := Lib.hid B1
  obtain ⟨hn1, hn2⟩ := hn0
  obtain ⟨h1a, h1b⟩ := h1
  obtain ⟨h4a, h4b⟩ := h4
  clear A C4 hm hm1 hm2 ht2 hb ha hblk hblk1 B1
  by_cases e2 : h < n
  · have HE := Lib.hid (show giveE h n = 5 from if_pos e2)
    have HS := Lib.hid (show giveSt st o l h s n = st by unfold giveSt; rw [if_neg (by rw [HE.out]; simp)])
    have FIN : Hid (BookAt (w.alloc (.cells #[.int .i64 n] 3)) (fun k => F k ∨ w.heap.size ≤ k) p st N) := Lib.hid ((show BookAt _ F p st N from ⟨mb, blk, lv, ev, D, HM1.out⟩).wider (fun k hk => Or.inl hk))
    clear HC4 HT
    generalize st.total = tt at *
    go_enter Tryz.func26, Tryz.ntmps26
    go_wp2_with fail
    refine HA.out.mono ?_
    rintro e w1 ⟨rfl, rfl⟩
    unfold ptrOf
    go_wp2_with fail
    go_ret
    refine ⟨by rw [HE.out]; rfl, ?_, Touch.of_below HB1.out⟩
    rw [HS.out]
    exact FIN.out
  · have HE := Lib.hid (show giveE h n = 0 from if_neg e2)
    have HS := Lib.hid (show giveSt st o l h s n = { heldSt st o l h s (-n) with entries := trimE (st.entries ++ [⟨4, o, 0, n, 0, 0⟩]) } by unfold giveSt; rw [if_pos HE.out])
    generalize st.total = tt at *
    go_enter Tryz.func26, Tryz.ntmps26
    go_wp2_with fail
    refine HA.out.mono ?_
    rintro e w1 ⟨rfl, rfl⟩
    unfold ptrOf
    go_wp2_with fail
    refine HC4.out.mono ?_
    rintro e w3 ⟨rfl, hb3, ht3⟩
    have hs1 := HB1.out.size
    have hs3 := HT.out.size
    have HB3 := Lib.hid (hb3.wider (G := fun k => F k ∨ w.heap.size ≤ k) (fun k hk => hk.imp id (fun x => Nat.le_trans hs1 (Nat.le_trans hs3 x))))
    have HT3 := Lib.hid (((Touch.of_below (F := F) HB1.out).then HT.out).then ht3)
    clear hb3 ht3
    go_wp2_with fail
    go_ret
    refine ⟨by rw [HE.out]; rfl, ?_, HT3.out⟩
    rw [HS.out]
    exact HB3.out

end
end Go.Proofs.YtljjndifmfhffaaGreatDoor

namespace Go.Proofs.YtljjndifmfhffaaGreatDoor
section
set_option linter.unusedVariables false

/-! What each call gives: the error, and the book behind it. -/
def BookSt.note (st : BookSt) (e : Ent) : BookSt := { st with entries := trimE (st.entries ++ [e]) }
def BookSt.put (st : BookSt) (o : Int) (a : Option (Int × Int × Int)) : BookSt := { st with acc := fun x => if x = o then a else st.acc x }

def openR (st : BookSt) (o l : Int) : Int × BookSt :=
  if chkE o [l] = 0 then (match st.acc o with | none => (0, (st.put o (some (l, 0, 0))).note ⟨1, o, 0, l, 0, 0⟩) | some _ => (6, st)) else (2, st)
def shutR (st : BookSt) (o : Int) : Int × BookSt :=
  if chkE o [] = 0 then (match st.acc o with | none => (7, st) | some (_, h, s) => if 0 < h + s then (11, st) else (0, (st.put o none).note ⟨2, o, 0, 0, 0, 0⟩)) else (2, st)
def takeR (st : BookSt) (o n : Int) : Int × BookSt :=
  if chkE o [n] = 0 then (match st.acc o with | none => (7, st) | some (l, h, s) => (takeE st l h s n, takeSt st o l h s n)) else (2, st)
def giveR (st : BookSt) (o n : Int) : Int × BookSt :=
  if chkE o [n] = 0 then (match st.acc o with | none => (7, st) | some (l, h, s) => (giveE h n, giveSt st o l h s n)) else (2, st)
def changeR (st : BookSt) (o f t : Int) : Int × BookSt :=
  if chkE o [f, t] = 0 then (match st.acc o with | none => (7, st) | some (l, h, s) => (changeE st l h s f t, changeSt st o l h s f t)) else (2, st)
def limR (st : BookSt) (o n : Int) : Int × BookSt :=
  if chkE o [n] = 0 then (match st.acc o with | none => (7, st) | some (_, h, s) => if n < h + s then (12, st) else (0, (st.put o (some (n, h, s))).note ⟨6, o, 0, n, 0, 0⟩)) else (2, st)
def budR (st : BookSt) (b : Int) : Int × BookSt :=
  if 0 ≤ b ∧ b ≤ 10000000 then (if b < st.total then (12, st) else (0, ({ st with budget := b } : BookSt).note ⟨7, 0, 0, b, 0, 0⟩)) else (2, st)
/-- What Pay leaves of the two accounts. -/
def paid (st : BookSt) (f t n : Int) (a b : Int × Int × Int) : BookSt :=
  if f = t then st.put f (some a) else (st.put f (some (a.1, a.2.1 - n, a.2.2))).put t (some (b.1, b.2.1 + n, b.2.2))
def payR (st : BookSt) (f t n : Int) : Int × BookSt :=
  if chkE f [] = 0 ∧ chkE t [n] = 0 then (match st.acc f, st.acc t with
    | some a, some b => if a.2.1 < n then (5, st) else if f ≠ t ∧ b.1 - (b.2.1 + b.2.2) < n then (12, st) else (0, (paid st f t n a b).note ⟨5, f, t, n, 0, 0⟩)
    | _, _ => (7, st)) else (2, st)
def untilE (st : BookSt) (u : Int) : Int := if 0 ≤ u ∧ u ≤ 1000000 then (if u ≤ st.time then 5 else 0) else 2
def leaseSt (st : BookSt) (o n u l h s : Int) : BookSt :=
  ({ st with total := st.total + n, last := st.last + 1, leases := st.leases ++ [⟨st.last + 1, o, n, u⟩], acc := fun x => if x = o then some (l, h, s + n) else st.acc x } : BookSt).note ⟨8, o, 0, n, st.last + 1, u⟩
def leaseE (st : BookSt) (o n u : Int) : Int :=
  if chkE o [n] = 0 then (match st.acc o with | none => 7 | some (l, h, s) => if untilE st u = 0 then (if st.leases.length = 200 then 4 else if min (l - (h + s)) (st.budget - st.total) < n then 12 else 0) else untilE st u) else 2
def leaseR (st : BookSt) (o n u : Int) : Int × BookSt :=
  if leaseE st o n u = 0 then (match st.acc o with | none => (0, st) | some (l, h, s) => (0, leaseSt st o n u l h s)) else (leaseE st o n u, st)
/-- Where a lease stands. -/
def findL (no : Int) : List Lea → Option Nat
  | [] => none
  | x :: xs => if x.no = no then some 0 else (findL no xs).map (· + 1)
def setUntl (u : Int) : Nat → List Lea → List Lea
  | _, [] => []
  | 0, x :: xs => { x with untl := u } :: xs
  | i + 1, x :: xs => x :: setUntl u i xs
def renewR (st : BookSt) (no u : Int) : Int × BookSt :=
  match findL no st.leases with
  | none => (13, st)
  | some i => if untilE st u = 0 then (0, ({ st with leases := setUntl u i st.leases } : BookSt).note ⟨9, 0, 0, 0, no, u⟩) else (untilE st u, st)
def endAcc (st : BookSt) (l : Lea) : Int → Option (Int × Int × Int) := fun x => if x = l.owner then (st.acc x).map (fun a => (a.1, a.2.1, a.2.2 - l.amount)) else st.acc x
def endR (st : BookSt) (no : Int) : Int × BookSt :=
  match findL no st.leases with
  | none => (13, st)
  | some i => match st.leases[i]? with
    | none => (13, st)
    | some l => (0, ({ st with total := st.total - l.amount, leases := st.leases.eraseIdx i, acc := endAcc st l } : BookSt).note ⟨10, 0, 0, 0, no, 0⟩)
def leLea (x y : Lea) : Bool := decide (x.untl < y.untl ∨ (x.untl = y.untl ∧ x.no ≤ y.no))
def overL (st : BookSt) (now : Int) : List Lea := (st.leases.filter fun l => decide (l.untl ≤ now)).mergeSort leLea
def endAll (st : BookSt) (l : List Lea) : BookSt := l.foldl (fun s x => (endR s x.no).2) st
def passE (st : BookSt) (now : Int) : Int := if 0 ≤ now ∧ now ≤ 1000000 then (if now < st.time then 5 else 0) else 2
def passR (st : BookSt) (now : Int) : Int × BookSt :=
  if passE st now = 0 then (0, endAll (({ st with time := now } : BookSt).note ⟨11, 0, 0, 0, 0, now⟩) (overL st now)) else (passE st now, st)

/-! Entries. -/
def Ent.same (x y : Ent) : Prop := x.kind = y.kind ∧ x.owner = y.owner ∧ x.other = y.other ∧ x.amount = y.amount ∧ x.lease = y.lease ∧ x.untl = y.untl
instance (x y : Ent) : Decidable (x.same y) := by unfold Ent.same; exact inferInstance
theorem Ent.same_iff {x y : Ent} : x.same y ↔ x = y := by
  constructor
  · rintro ⟨h1, h2, h3, h4, h5, h6⟩; cases x; cases y; simp_all
  · rintro rfl; exact ⟨rfl, rfl, rfl, rfl, rfl, rfl⟩
def useOwner (k : Int) : Bool := k == 1 || k == 2 || k == 3 || k == 4 || k == 5 || k == 6 || k == 8
def useOther (k : Int) : Bool := k == 5
def useAmount (k : Int) : Bool := k == 1 || k == 3 || k == 4 || k == 5 || k == 6 || k == 7 || k == 8
def useLease (k : Int) : Bool := k == 8 || k == 9 || k == 10
def useUntl (k : Int) : Bool := k == 8 || k == 9 || k == 11
def formE (e : Ent) : Bool := (useOwner e.kind || e.owner == 0) && (useOther e.kind || e.other == 0) && (useAmount e.kind || e.amount == 0) && (useLease e.kind || e.lease == 0) && (useUntl e.kind || e.untl == 0)
def againR (st : BookSt) (e : Ent) : Int × BookSt :=
  if e.kind = 1 then openR st e.owner e.amount else if e.kind = 2 then shutR st e.owner else if e.kind = 3 then takeR st e.owner e.amount
  else if e.kind = 4 then giveR st e.owner e.amount else if e.kind = 5 then payR st e.owner e.other e.amount else if e.kind = 6 then limR st e.owner e.amount
  else if e.kind = 7 then budR st e.amount else if e.kind = 8 then leaseR st e.owner e.amount e.untl else if e.kind = 9 then renewR st e.lease e.untl
  else if e.kind = 10 then endR st e.lease else if e.kind = 11 then passR st e.untl else (0, st)
/-- CheckEntries from entry i on. -/
def chkFrom : List Ent → Nat → BookSt → Int × Int
  | [], i, st => if i < st.entries.length then ((i : Int), 1) else (st.total, 0)
  | x :: xs, i, st =>
    if ¬ (1 ≤ x.kind ∧ x.kind ≤ 11) then ((i : Int), 10) else if formE x = false then ((i : Int), 1)
    else
      let r := if i = st.entries.length then againR st x else (0, st)
      if r.1 ≠ 0 then ((i : Int), r.1) else match r.2.entries[i]? with
        | none => ((i : Int), 1)
        | some y => if y.same x then chkFrom xs (i + 1) r.2 else ((i : Int), 1)
def chkAll (b : Int) (l : List Ent) : Int × Int := if 5000 < l.length then (0, 4) else if 0 ≤ b ∧ b ≤ 10000000 then chkFrom l 0 (newSt b) else (0, 2)

end
end Go.Proofs.YtljjndifmfhffaaGreatDoor
