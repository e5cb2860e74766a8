/-
  The book as a plain machine: what each call gives, the error and the book behind it. No conditions.
-/
import Derived.Test.YtfgpophbgjeefaaTakeGive
namespace Go.Proofs.Ytfgpophbgjeefaa
set_option linter.unusedVariables false

/-! What each call gives: the error, and the book behind it. -/
def BookSt.note (st : BookSt) (e : Ent) : BookSt := { st with entries := trimE (st.entries ++ [e]) }
def BookSt.put (st : BookSt) (o : Int) (a : Option (Int × Int × Int)) : BookSt := { st with acc := fun x => if x = o then a else st.acc x }

def openR (st : BookSt) (o l : Int) : Int × BookSt :=
  if chkE o [l] = 0 then (match st.acc o with | none => (0, (st.put o (some (l, 0, 0))).note ⟨1, o, 0, l, 0, 0⟩) | some _ => (6, st)) else (2, st)
def shutR (st : BookSt) (o : Int) : Int × BookSt :=
  if chkE o [] = 0 then (match st.acc o with | none => (7, st) | some (_, h, s) => if 0 < h + s then (11, st) else (0, (st.put o none).note ⟨2, o, 0, 0, 0, 0⟩)) else (2, st)
def takeR (st : BookSt) (o n : Int) : Int × BookSt :=
  if chkE o [n] = 0 then (match st.acc o with | none => (7, st) | some (l, h, s) => (takeE st l h s n, takeSt st o l h s n)) else (2, st)
def giveR (st : BookSt) (o n : Int) : Int × BookSt :=
  if chkE o [n] = 0 then (match st.acc o with | none => (7, st) | some (l, h, s) => (giveE h n, giveSt st o l h s n)) else (2, st)
def changeR (st : BookSt) (o f t : Int) : Int × BookSt :=
  if chkE o [f, t] = 0 then (match st.acc o with | none => (7, st) | some (l, h, s) => (changeE st l h s f t, changeSt st o l h s f t)) else (2, st)
def limR (st : BookSt) (o n : Int) : Int × BookSt :=
  if chkE o [n] = 0 then (match st.acc o with | none => (7, st) | some (_, h, s) => if n < h + s then (12, st) else (0, (st.put o (some (n, h, s))).note ⟨6, o, 0, n, 0, 0⟩)) else (2, st)
def budR (st : BookSt) (b : Int) : Int × BookSt :=
  if 0 ≤ b ∧ b ≤ 10000000 then (if b < st.total then (12, st) else (0, ({ st with budget := b } : BookSt).note ⟨7, 0, 0, b, 0, 0⟩)) else (2, st)
/-- What Pay leaves of the two accounts. -/
def paid (st : BookSt) (f t n : Int) (a b : Int × Int × Int) : BookSt :=
  if f = t then st.put f (some a) else (st.put f (some (a.1, a.2.1 - n, a.2.2))).put t (some (b.1, b.2.1 + n, b.2.2))
def payR (st : BookSt) (f t n : Int) : Int × BookSt :=
  if chkE f [] = 0 ∧ chkE t [n] = 0 then (match st.acc f, st.acc t with
    | some a, some b => if a.2.1 < n then (5, st) else if f ≠ t ∧ b.1 - (b.2.1 + b.2.2) < n then (12, st) else (0, (paid st f t n a b).note ⟨5, f, t, n, 0, 0⟩)
    | _, _ => (7, st)) else (2, st)
def untilE (st : BookSt) (u : Int) : Int := if 0 ≤ u ∧ u ≤ 1000000 then (if u ≤ st.time then 5 else 0) else 2
def leaseSt (st : BookSt) (o n u l h s : Int) : BookSt :=
  ({ st with total := st.total + n, last := st.last + 1, leases := st.leases ++ [⟨st.last + 1, o, n, u⟩], acc := fun x => if x = o then some (l, h, s + n) else st.acc x } : BookSt).note ⟨8, o, 0, n, st.last + 1, u⟩
def leaseE (st : BookSt) (o n u : Int) : Int :=
  if chkE o [n] = 0 then (match st.acc o with | none => 7 | some (l, h, s) => if untilE st u = 0 then (if st.leases.length = 200 then 4 else if min (l - (h + s)) (st.budget - st.total) < n then 12 else 0) else untilE st u) else 2
def leaseR (st : BookSt) (o n u : Int) : Int × BookSt :=
  if leaseE st o n u = 0 then (match st.acc o with | none => (0, st) | some (l, h, s) => (0, leaseSt st o n u l h s)) else (leaseE st o n u, st)
/-- Where a lease stands. -/
def findL (no : Int) : List Lea → Option Nat
  | [] => none
  | x :: xs => if x.no = no then some 0 else (findL no xs).map (· + 1)
def setUntl (u : Int) : Nat → List Lea → List Lea
  | _, [] => []
  | 0, x :: xs => { x with untl := u } :: xs
  | i + 1, x :: xs => x :: setUntl u i xs
def renewR (st : BookSt) (no u : Int) : Int × BookSt :=
  match findL no st.leases with
  | none => (13, st)
  | some i => if untilE st u = 0 then (0, ({ st with leases := setUntl u i st.leases } : BookSt).note ⟨9, 0, 0, 0, no, u⟩) else (untilE st u, st)
def endAcc (st : BookSt) (l : Lea) : Int → Option (Int × Int × Int) := fun x => if x = l.owner then (st.acc x).map (fun a => (a.1, a.2.1, a.2.2 - l.amount)) else st.acc x
def endR (st : BookSt) (no : Int) : Int × BookSt :=
  match findL no st.leases with
  | none => (13, st)
  | some i => match st.leases[i]? with
    | none => (13, st)
    | some l => (0, ({ st with total := st.total - l.amount, leases := st.leases.eraseIdx i, acc := endAcc st l } : BookSt).note ⟨10, 0, 0, 0, no, 0⟩)
def leLea (x y : Lea) : Bool := decide (x.untl < y.untl ∨ (x.untl = y.untl ∧ x.no ≤ y.no))
def overL (st : BookSt) (now : Int) : List Lea := (st.leases.filter fun l => decide (l.untl ≤ now)).mergeSort leLea
def endAll (st : BookSt) (l : List Lea) : BookSt := l.foldl (fun s x => (endR s x.no).2) st
def passE (st : BookSt) (now : Int) : Int := if 0 ≤ now ∧ now ≤ 1000000 then (if now < st.time then 5 else 0) else 2
def passR (st : BookSt) (now : Int) : Int × BookSt :=
  if passE st now = 0 then (0, endAll (({ st with time := now } : BookSt).note ⟨11, 0, 0, 0, 0, now⟩) (overL st now)) else (passE st now, st)

/-! Entries. -/
def Ent.same (x y : Ent) : Prop := x.kind = y.kind ∧ x.owner = y.owner ∧ x.other = y.other ∧ x.amount = y.amount ∧ x.lease = y.lease ∧ x.untl = y.untl
instance (x y : Ent) : Decidable (x.same y) := by unfold Ent.same; exact inferInstance
theorem Ent.same_iff {x y : Ent} : x.same y ↔ x = y := by
  constructor
  · rintro ⟨h1, h2, h3, h4, h5, h6⟩; cases x; cases y; simp_all
  · rintro rfl; exact ⟨rfl, rfl, rfl, rfl, rfl, rfl⟩
def useOwner (k : Int) : Bool := k == 1 || k == 2 || k == 3 || k == 4 || k == 5 || k == 6 || k == 8
def useOther (k : Int) : Bool := k == 5
def useAmount (k : Int) : Bool := k == 1 || k == 3 || k == 4 || k == 5 || k == 6 || k == 7 || k == 8
def useLease (k : Int) : Bool := k == 8 || k == 9 || k == 10
def useUntl (k : Int) : Bool := k == 8 || k == 9 || k == 11
def formE (e : Ent) : Bool := (useOwner e.kind || e.owner == 0) && (useOther e.kind || e.other == 0) && (useAmount e.kind || e.amount == 0) && (useLease e.kind || e.lease == 0) && (useUntl e.kind || e.untl == 0)
def againR (st : BookSt) (e : Ent) : Int × BookSt :=
  if e.kind = 1 then openR st e.owner e.amount else if e.kind = 2 then shutR st e.owner else if e.kind = 3 then takeR st e.owner e.amount
  else if e.kind = 4 then giveR st e.owner e.amount else if e.kind = 5 then payR st e.owner e.other e.amount else if e.kind = 6 then limR st e.owner e.amount
  else if e.kind = 7 then budR st e.amount else if e.kind = 8 then leaseR st e.owner e.amount e.untl else if e.kind = 9 then renewR st e.lease e.untl
  else if e.kind = 10 then endR st e.lease else if e.kind = 11 then passR st e.untl else (0, st)
/-- CheckEntries from entry i on. -/
def chkFrom : List Ent → Nat → BookSt → Int × Int
  | [], i, st => if i < st.entries.length then ((i : Int), 1) else (st.total, 0)
  | x :: xs, i, st =>
    if ¬ (1 ≤ x.kind ∧ x.kind ≤ 11) then ((i : Int), 10) else if formE x = false then ((i : Int), 1)
    else
      let r := if i = st.entries.length then againR st x else (0, st)
      if r.1 ≠ 0 then ((i : Int), r.1) else match r.2.entries[i]? with
        | none => ((i : Int), 1)
        | some y => if y.same x then chkFrom xs (i + 1) r.2 else ((i : Int), 1)
def chkAll (b : Int) (l : List Ent) : Int × Int := if 5000 < l.length then (0, 4) else if 0 ≤ b ∧ b ≤ 10000000 then chkFrom l 0 (newSt b) else (0, 2)

end Go.Proofs.Ytfgpophbgjeefaa
