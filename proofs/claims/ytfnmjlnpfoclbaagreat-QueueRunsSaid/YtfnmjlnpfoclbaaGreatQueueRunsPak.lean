/-
  A region that draws its order: one operation in its midst turns the world; what stands ahead of it and behind it only reads. No conditions.
  The book as a plain machine: what each call gives, the error and the book behind it. No conditions.
-/
import Derived.StillTail
import Derived.BigQuiet
import Derived.Deep.RegionWith
import Derived.Test.YtfnmjlnpfoclbaaGreatQueueRunsPaa
import Derived.Test.YtfnmjlnpfoclbaaGreatQueueRunsPag

namespace Go.Proofs.YtfnmjlnpfoclbaaGreat
section
open Go Go.RowKit

section
variable {P : Program} {ops : Array Oper} {md : Region.Mode} {C : World → Prop}

/-- What comes behind number n waits for something from n on. -/
def laterB (md : Region.Mode) (ops : Array Oper) (n : Nat) : Bool :=
  (List.range ops.size).all fun t => decide (t ≤ n) || (List.range t).any fun j => decide (n ≤ j) && Region.waitsFor md ops t j

theorem head_first {n : Nat} {listed : Array Bool} (hs : Region.sinkB md ops n = true) (hl : laterB md ops n = true) (hn : n < ops.size) (inv : HeadInv md ops n listed) :
    ∀ (d i : Nat), n - i = d → i < n → listed.getD i true = false → ∀ t, n ≤ t → t ∉ Region.ready md ops listed := by
  intro d
  induction d using Nat.strongRecOn with
  | _ d ih =>
    intro i hd hi hun t ht hr
    obtain ⟨_, ot, hot, hall⟩ := mem_ready.1 hr
    have htlt : t < ops.size := (Array.getElem?_eq_some_iff.1 hot).1
    rcases Nat.lt_or_ge n t with hnt | hnt
    · have h1 := List.all_eq_true.1 hl t (List.mem_range.2 htlt)
      rw [Bool.or_eq_true, decide_eq_true_eq] at h1
      obtain ⟨j, hj, hj2⟩ := List.any_eq_true.1 (h1.resolve_left (by omega))
      rw [Bool.and_eq_true, decide_eq_true_eq] at hj2
      obtain ⟨o2, ho2, ed, hed, hbd, hon⟩ := Region.waitsFor_spec hj2.2
      have e2 : o2 = ot := Option.some.inj (ho2.symm.trans hot)
      rw [e2] at hed
      have h3 := hall ed hed hbd
      have hjt := List.mem_range.1 hj
      rw [hon, getD_both (inv.tail j hj2.1 (by omega))] at h3
      exact Bool.noConfusion h3
    · obtain rfl : t = n := by omega
      obtain ⟨j, hj, hj2⟩ := List.any_eq_true.1 (List.all_eq_true.1 hs i (List.mem_range.2 hi))
      rw [Bool.and_eq_true, decide_eq_true_eq] at hj2
      obtain ⟨o2, ho2, ed, hed, hbd, hon⟩ := Region.waitsFor_spec hj2.2
      have hjle := List.mem_range.1 hj
      by_cases hjt : j = t
      · have e2 : o2 = ot := Option.some.inj (by rw [← ho2, hjt]; exact hot)
        rw [e2] at hed
        have h3 := hall ed hed hbd
        rw [hon, getD_both hun] at h3
        exact Bool.noConfusion h3
      · by_cases hlj : listed.getD j false = true
        · have h3 := inv.closed j o2 ho2 hlj ed hed hbd
          rw [hon, getD_both hun] at h3
          exact Bool.noConfusion h3
        · exact ih (t - j) (by omega) j rfl (by omega) (getD_in (by rw [inv.size]; omega) (by simpa using hlj)) t (Nat.le_refl _) hr

/-- Whatever order the head is carried out in. -/
def wpHead (P : Program) (md : Region.Mode) (ops : Array Oper) (C : World → Prop) (n : Nat) (L : Array Bool → Act → Prop) : Nat → Array Bool → Act → Prop
  | 0, listed, a => L listed a
  | f + 1, listed, a => Region.ready md ops listed ≠ [] ∧ ∀ i ∈ Region.ready md ops listed, i < n ∧ qOp P ops C i (wpHead P md ops C n L f (listed.setIfInBounds i true)) a

theorem wpAny_of_wpHead {n g : Nat} {L : Array Bool → Act → Prop} {Q : Exit → Act → World → Prop} (hL : ∀ listed a w, C w → L listed a → wpAny P md ops Q g listed a w) :
    ∀ (f : Nat) (listed : Array Bool) (a : Act) (w : World), C w → wpHead P md ops C n L f listed a → wpAny P md ops Q (f + g) listed a w := by
  intro f
  induction f with
  | zero => intro listed a w hw h; rw [Nat.zero_add]; exact hL listed a w hw h
  | succ f ih =>
    intro listed a w hw h
    rw [show f + 1 + g = (f + g) + 1 by omega]
    exact ⟨fun e => absurd e h.1, fun i hi => wpOp_of_qOp hw (fun a' w' hw' h' => ih _ a' w' hw' h') (h.2 i hi).2⟩

theorem wpHead_first {n i : Nat} {oi : Oper} {v : Value} {L : Array Bool → Act → Prop} (hi : ops[i]? = some oi) (hsel : ∀ (j : Nat) (o : Oper) cs b, ops[j]? = some o → o.op ≠ .select cs b)
    (hs : Region.sinkB md ops n = true) (hl : laterB md ops n = true) (hn : n < ops.size) (hin : i < n) (hL : ∀ listed a, L listed a → ∀ j ∈ Region.ready md ops listed, n ≤ j) :
    ∀ (f : Nat) (listed : Array Bool) (a : Act), HeadInv md ops n listed →
      (∀ j oj, ops[j]? = some oj → j ≠ i → listed.getD j true = false → (∀ e ∈ oj.after, Region.binds md e = true → e.on ≠ i) → oi.apart ops oj = true) →
      i ∈ Region.ready md ops listed → YieldsIn P ops C oi v a →
      wpHead P md ops C n L f (listed.setIfInBounds i true) (a.put oi.dst v) → wpHead P md ops C n L (f + 1) listed a := by
  intro f
  induction f with
  | zero =>
    intro listed a inv _ hr hy H
    refine ⟨List.ne_nil_of_mem hr, fun j hj => ?_⟩
    have hjn : j < n := Nat.lt_of_not_le fun x => head_first hs hl hn inv _ i rfl hin (mem_ready.1 hr).1 j x hj
    by_cases e : j = i
    · rw [e]; exact ⟨hin, hy.qOp hi H⟩
    · have := hL _ _ H j (ready_mono hj e); omega
  | succ f ih =>
    intro listed a inv hfree hr hy H
    have hun := (mem_ready.1 hr).1
    refine ⟨List.ne_nil_of_mem hr, fun j hj => ?_⟩
    have hjn : j < n := Nat.lt_of_not_le fun x => head_first hs hl hn inv _ i rfl hin hun j x hj
    by_cases e : j = i
    · rw [e]; exact ⟨hin, hy.qOp hi H⟩
    · obtain ⟨hjun, oj, hoj, hall⟩ := mem_ready.1 hj
      have hno : ∀ e ∈ oj.after, Region.binds md e = true → e.on ≠ i := fun d hd hb heq => by
        have h1 := hall d hd hb
        rw [heq, getD_both hun] at h1
        exact Bool.noConfusion h1
      have h2 := qOp_put hoj (hfree j oj hoj e hjun hno) (fun cs b => hsel i oi cs b hi) (fun cs b => hsel j oj cs b hoj) hy (H.2 j (ready_mono hj e)).2
      refine ⟨hjn, qOp_mono (fun a' h3 => ih (listed.setIfInBounds j true) a' (inv.set hj hjn) (fun k ok hk hki hku hkn => hfree k ok hk hki ?_ hkn) (ready_mono hr (Ne.symm e)) h3.1 ?_) h2⟩
      · by_cases hjk : j = k
        · rw [← hjk]; exact hjun
        · rwa [getD_set_ne true hjk] at hku
      · rw [Array.setIfInBounds_comm _ _ e]; exact h3.2

/-- The head in the text's order; then number n alone may come up; then the rest in the text's order. -/
def midHead (md : Region.Mode) (ops : Array Oper) : Nat → Nat → Array Bool → Bool
  | 0, k, listed => decide (Region.ready md ops listed = [k]) && Region.lexFrom md ops (ops.size - (k + 1)) (k + 1) (listed.setIfInBounds k true)
  | f + 1, k, listed => (Region.ready md ops listed).contains k && Region.free md ops listed k && midHead md ops f (k + 1) (listed.setIfInBounds k true)
def midB (md : Region.Mode) (ops : Array Oper) (n : Nat) : Bool :=
  Region.noSelect ops && decide (n < ops.size) && Region.sinkB md ops n && laterB md ops n && midHead md ops n 0 (Array.replicate ops.size false)

theorem wpHead_lex {n : Nat} {R : Act → Prop} (hsel : Region.noSelect ops = true) (hs : Region.sinkB md ops n = true) (hl : laterB md ops n = true) (hn : n < ops.size) :
    ∀ (l : List Oper) (k : Nat) (listed : Array Bool) (a : Act), (∀ j, j < l.length → l[j]? = ops[k + j]?) → k + l.length = n → HeadInv md ops n listed →
    midHead md ops l.length k listed = true → wpQuiet P ops C R l a →
    wpHead P md ops C n (fun listed' a' => midHead md ops 0 n listed' = true ∧ R a') l.length listed a := by
  intro l
  induction l with
  | nil =>
    intro k listed a _ hk _ hB h
    obtain rfl : k = n := by simpa using hk
    exact ⟨hB, h⟩
  | cons o l ih =>
    intro k listed a hll hk inv hB h
    have h0 : ops[k]? = some o := by simpa using (hll 0 (by simp)).symm
    rw [List.length_cons, midHead, Bool.and_eq_true, Bool.and_eq_true] at hB
    rw [List.length_cons] at hk
    have hr : k ∈ Region.ready md ops listed := by simpa using hB.1.1
    have hq : qOp P ops C k (wpQuiet P ops C R l) a := by unfold qOp; simp only [h0]; exact h
    obtain ⟨v, hy, hK⟩ := yieldsIn_of_qOp h0 hq
    refine wpHead_first h0 (Region.noSelect_spec hsel) hs hl hn (by omega) (fun listed' a' hL j hj => ?_) l.length listed a inv (Region.free_spec h0 hB.1.2) hr hy
      (ih (k + 1) _ _ (fun j hj => ?_) (by omega) (inv.set hr (by omega)) hB.2 hK)
    · have h1 := hL.1
      rw [midHead, Bool.and_eq_true, decide_eq_true_eq] at h1
      rw [h1.1] at hj
      have : j = n := by simpa using hj
      omega
    · have := hll (j + 1) (by simp; omega)
      simpa [Nat.add_assoc, Nat.add_comm 1 j] using this

/-- What is asked at the operation in the midst: a way through it that leaves some world, from which the rest only reads. -/
def MidAt (P : Program) (ops : Array Oper) (Q : Exit → Act → World → Prop) (o : Oper) (rest : List Oper) (a : Act) (w : World) : Prop :=
  ∀ K : Act → World → Prop, (∀ a2 w2, wpQuiet P ops (fun w' => ∃ n, w' = w2.drewN n) (fun a3 => ∀ w3, (∃ n, w3 = w2.drewN n) → Q .normal a3 w3) rest a2 → K a2 w2) →
    if Region.wanted o (yielded ops a.tmps) = true then Oper.wp P o a w K Q else K (a.put o.dst undef) w

theorem wp_region_mid {id : Nat} {Q : Exit → Act → World → Prop} {a : Act} {w : World} {l : List Oper} (n : Nat) (o : Oper) (hm : P.follows .mixedOrders = true) (hB : midB .any l.toArray n = true) (ho : l[n]? = some o)
    (h : wpQuiet P l.toArray (fun w' => ∃ n, w' = w.drewN n) (fun a1 => ∀ w1, (∃ n, w1 = w.drewN n) → MidAt P l.toArray Q o (l.drop (n + 1)) a1 w1) (l.take n) a) : (Code.region id l.toArray true).wp P Q a w := by
  unfold midB at hB
  rw [Bool.and_eq_true, Bool.and_eq_true, Bool.and_eq_true, Bool.and_eq_true, decide_eq_true_eq] at hB
  obtain ⟨⟨⟨⟨hsel, hn⟩, hs⟩, hl⟩, hlex⟩ := hB
  have hn' : n < l.length := by simpa using hn
  have htl : (l.take n).length = n := by rw [List.length_take]; omega
  have inv0 : HeadInv .any l.toArray n (Array.replicate l.toArray.size false) :=
    ⟨by simp, fun j oj _ hx => (by rw [getD_replicate_false] at hx; cases hx), fun t _ ht => getD_in (by simpa using ht) (getD_replicate_false _ _)⟩
  have H := wpHead_lex (md := .any) hsel hs hl hn (l.take n) 0 _ a (fun j hj => by
    have hj' : j < n := by rw [htl] at hj; exact hj
    simp [hj']) (by rw [htl]; omega) inv0 (by rw [htl]; exact hlex) h
  refine wp_region_any hm ?_
  have hdl : (l.drop (n + 1)).length = l.toArray.size - (n + 1) := by simp
  have := wpAny_of_wpHead (Q := Q) (C := fun w' => ∃ n, w' = w.drewN n) (g := l.toArray.size - n) (fun listed a' w1 hw1 hLL => by
    obtain ⟨h1, h2⟩ := hLL
    rw [midHead, Bool.and_eq_true, decide_eq_true_eq] at h1
    rw [show l.toArray.size - n = (l.toArray.size - (n + 1)) + 1 by omega]
    refine ⟨fun e => (by rw [h1.1] at e; cases e), fun i hi => ?_⟩
    rw [h1.1] at hi
    obtain rfl : i = n := by simpa using hi
    refine wpOp_step (o := o) (by simpa using ho) (fun K' hK' => h2 w1 hw1 K' (fun a2 w2 hq => hK' a2 w2 ?_))
    have hx := wpAnyQ_lex (C := fun w' => ∃ n, w' = w2.drewN n) (md := .any) hsel (l.drop (i + 1)) (i + 1) (listed.setIfInBounds i true) a2 (fun j => by simp [List.getElem?_drop]) (by rw [hdl]; exact h1.2) hq
    rw [hdl] at hx
    exact wpAny_of_quiet (Q := fun a3 => ∀ w3, (∃ n, w3 = w2.drewN n) → Q .normal a3 w3) (fun _ w3 hw3 h => h w3 hw3) _ _ _ _ ⟨0, rfl⟩ hx) _ _ _ w.drew ⟨1, rfl⟩ H
  rw [htl, show n + (l.toArray.size - n) = l.toArray.size by omega] at this
  exact this

end

end
end Go.Proofs.YtfnmjlnpfoclbaaGreat

namespace Go.Proofs.YtfnmjlnpfoclbaaGreat
section
set_option linter.unusedVariables false

/-! What each call gives: the error, and the book behind it. -/
def BookSt.note (st : BookSt) (e : Ent) : BookSt := { st with entries := trimE (st.entries ++ [e]) }
def BookSt.put (st : BookSt) (o : Int) (a : Option (Int × Int × Int)) : BookSt := { st with acc := fun x => if x = o then a else st.acc x }

def openR (st : BookSt) (o l : Int) : Int × BookSt :=
  if chkE o [l] = 0 then (match st.acc o with | none => (0, (st.put o (some (l, 0, 0))).note ⟨1, o, 0, l, 0, 0⟩) | some _ => (6, st)) else (2, st)
def shutR (st : BookSt) (o : Int) : Int × BookSt :=
  if chkE o [] = 0 then (match st.acc o with | none => (7, st) | some (_, h, s) => if 0 < h + s then (11, st) else (0, (st.put o none).note ⟨2, o, 0, 0, 0, 0⟩)) else (2, st)
def takeR (st : BookSt) (o n : Int) : Int × BookSt :=
  if chkE o [n] = 0 then (match st.acc o with | none => (7, st) | some (l, h, s) => (takeE st l h s n, takeSt st o l h s n)) else (2, st)
def giveR (st : BookSt) (o n : Int) : Int × BookSt :=
  if chkE o [n] = 0 then (match st.acc o with | none => (7, st) | some (l, h, s) => (giveE h n, giveSt st o l h s n)) else (2, st)
def changeR (st : BookSt) (o f t : Int) : Int × BookSt :=
  if chkE o [f, t] = 0 then (match st.acc o with | none => (7, st) | some (l, h, s) => (changeE st l h s f t, changeSt st o l h s f t)) else (2, st)
def limR (st : BookSt) (o n : Int) : Int × BookSt :=
  if chkE o [n] = 0 then (match st.acc o with | none => (7, st) | some (_, h, s) => if n < h + s then (12, st) else (0, (st.put o (some (n, h, s))).note ⟨6, o, 0, n, 0, 0⟩)) else (2, st)
def budR (st : BookSt) (b : Int) : Int × BookSt :=
  if 0 ≤ b ∧ b ≤ 10000000 then (if b < st.total then (12, st) else (0, ({ st with budget := b } : BookSt).note ⟨7, 0, 0, b, 0, 0⟩)) else (2, st)
/-- What Pay leaves of the two accounts. -/
def paid (st : BookSt) (f t n : Int) (a b : Int × Int × Int) : BookSt :=
  if f = t then st.put f (some a) else (st.put f (some (a.1, a.2.1 - n, a.2.2))).put t (some (b.1, b.2.1 + n, b.2.2))
def payR (st : BookSt) (f t n : Int) : Int × BookSt :=
  if chkE f [] = 0 ∧ chkE t [n] = 0 then (match st.acc f, st.acc t with
    | some a, some b => if a.2.1 < n then (5, st) else if f ≠ t ∧ b.1 - (b.2.1 + b.2.2) < n then (12, st) else (0, (paid st f t n a b).note ⟨5, f, t, n, 0, 0⟩)
    | _, _ => (7, st)) else (2, st)
def untilE (st : BookSt) (u : Int) : Int := if 0 ≤ u ∧ u ≤ 1000000 then (if u ≤ st.time then 5 else 0) else 2
def leaseSt (st : BookSt) (o n u l h s : Int) : BookSt :=
  ({ st with total := st.total + n, last := st.last + 1, leases := st.leases ++ [⟨st.last + 1, o, n, u⟩], acc := fun x => if x = o then some (l, h, s + n) else st.acc x } : BookSt).note ⟨8, o, 0, n, st.last + 1, u⟩
def leaseE (st : BookSt) (o n u : Int) : Int :=
  if chkE o [n] = 0 then (match st.acc o with | none => 7 | some (l, h, s) => if untilE st u = 0 then (if st.leases.length = 200 then 4 else if min (l - (h + s)) (st.budget - st.total) < n then 12 else 0) else untilE st u) else 2
def leaseR (st : BookSt) (o n u : Int) : Int × BookSt :=
  if leaseE st o n u = 0 then (match st.acc o with | none => (0, st) | some (l, h, s) => (0, leaseSt st o n u l h s)) else (leaseE st o n u, st)
/-- Where a lease stands. -/
def findL (no : Int) : List Lea → Option Nat
  | [] => none
  | x :: xs => if x.no = no then some 0 else (findL no xs).map (· + 1)
def setUntl (u : Int) : Nat → List Lea → List Lea
  | _, [] => []
  | 0, x :: xs => { x with untl := u } :: xs
  | i + 1, x :: xs => x :: setUntl u i xs
def renewR (st : BookSt) (no u : Int) : Int × BookSt :=
  match findL no st.leases with
  | none => (13, st)
  | some i => if untilE st u = 0 then (0, ({ st with leases := setUntl u i st.leases } : BookSt).note ⟨9, 0, 0, 0, no, u⟩) else (untilE st u, st)
def endAcc (st : BookSt) (l : Lea) : Int → Option (Int × Int × Int) := fun x => if x = l.owner then (st.acc x).map (fun a => (a.1, a.2.1, a.2.2 - l.amount)) else st.acc x
def endR (st : BookSt) (no : Int) : Int × BookSt :=
  match findL no st.leases with
  | none => (13, st)
  | some i => match st.leases[i]? with
    | none => (13, st)
    | some l => (0, ({ st with total := st.total - l.amount, leases := st.leases.eraseIdx i, acc := endAcc st l } : BookSt).note ⟨10, 0, 0, 0, no, 0⟩)
def leLea (x y : Lea) : Bool := decide (x.untl < y.untl ∨ (x.untl = y.untl ∧ x.no ≤ y.no))
def overL (st : BookSt) (now : Int) : List Lea := (st.leases.filter fun l => decide (l.untl ≤ now)).mergeSort leLea
def endAll (st : BookSt) (l : List Lea) : BookSt := l.foldl (fun s x => (endR s x.no).2) st
def passE (st : BookSt) (now : Int) : Int := if 0 ≤ now ∧ now ≤ 1000000 then (if now < st.time then 5 else 0) else 2
def passR (st : BookSt) (now : Int) : Int × BookSt :=
  if passE st now = 0 then (0, endAll (({ st with time := now } : BookSt).note ⟨11, 0, 0, 0, 0, now⟩) (overL st now)) else (passE st now, st)

/-! Entries. -/
def Ent.same (x y : Ent) : Prop := x.kind = y.kind ∧ x.owner = y.owner ∧ x.other = y.other ∧ x.amount = y.amount ∧ x.lease = y.lease ∧ x.untl = y.untl
instance (x y : Ent) : Decidable (x.same y) := by unfold Ent.same; exact inferInstance
theorem Ent.same_iff {x y : Ent} : x.same y ↔ x = y := by
  constructor
  · rintro ⟨h1, h2, h3, h4, h5, h6⟩; cases x; cases y; simp_all
  · rintro rfl; exact ⟨rfl, rfl, rfl, rfl, rfl, rfl⟩
def useOwner (k : Int) : Bool := k == 1 || k == 2 || k == 3 || k == 4 || k == 5 || k == 6 || k == 8
def useOther (k : Int) : Bool := k == 5
def useAmount (k : Int) : Bool := k == 1 || k == 3 || k == 4 || k == 5 || k == 6 || k == 7 || k == 8
def useLease (k : Int) : Bool := k == 8 || k == 9 || k == 10
def useUntl (k : Int) : Bool := k == 8 || k == 9 || k == 11
def formE (e : Ent) : Bool := (useOwner e.kind || e.owner == 0) && (useOther e.kind || e.other == 0) && (useAmount e.kind || e.amount == 0) && (useLease e.kind || e.lease == 0) && (useUntl e.kind || e.untl == 0)
def againR (st : BookSt) (e : Ent) : Int × BookSt :=
  if e.kind = 1 then openR st e.owner e.amount else if e.kind = 2 then shutR st e.owner else if e.kind = 3 then takeR st e.owner e.amount
  else if e.kind = 4 then giveR st e.owner e.amount else if e.kind = 5 then payR st e.owner e.other e.amount else if e.kind = 6 then limR st e.owner e.amount
  else if e.kind = 7 then budR st e.amount else if e.kind = 8 then leaseR st e.owner e.amount e.untl else if e.kind = 9 then renewR st e.lease e.untl
  else if e.kind = 10 then endR st e.lease else if e.kind = 11 then passR st e.untl else (0, st)
/-- CheckEntries from entry i on. -/
def chkFrom : List Ent → Nat → BookSt → Int × Int
  | [], i, st => if i < st.entries.length then ((i : Int), 1) else (st.total, 0)
  | x :: xs, i, st =>
    if ¬ (1 ≤ x.kind ∧ x.kind ≤ 11) then ((i : Int), 10) else if formE x = false then ((i : Int), 1)
    else
      let r := if i = st.entries.length then againR st x else (0, st)
      if r.1 ≠ 0 then ((i : Int), r.1) else match r.2.entries[i]? with
        | none => ((i : Int), 1)
        | some y => if y.same x then chkFrom xs (i + 1) r.2 else ((i : Int), 1)
def chkAll (b : Int) (l : List Ent) : Int × Int := if 5000 < l.length then (0, 4) else if 0 ≤ b ∧ b ≤ 10000000 then chkFrom l 0 (newSt b) else (0, 2)

end
end Go.Proofs.YtfnmjlnpfoclbaaGreat
