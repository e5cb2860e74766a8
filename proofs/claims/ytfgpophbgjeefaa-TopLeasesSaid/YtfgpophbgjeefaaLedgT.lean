/-
  TopLeases: the limits, the sum over the accounts; what is held while calls turn the book; the way out over a row of marks. No conditions.
-/
import Derived.Test.YtfgpophbgjeefaaLedgU
import Derived.Test.YtfgpophbgjeefaaLedgS
namespace Go.Proofs.Ytfgpophbgjeefaa
open Go.RowKit Go.Maps
set_option linter.unusedVariables false

/-! The limits. -/
def limAt (xs : List Int) (k : Nat) (o : Int) : Option Int :=
  if 1 ≤ o ∧ o ≤ 40 ∧ o ≤ (k : Int) then (if 0 ≤ xs.getD (o.toNat - 1) 0 ∧ xs.getD (o.toNat - 1) 0 ≤ 10000000 then some (xs.getD (o.toNat - 1) 0) else none) else none
theorem limAt_zero (xs : List Int) (o : Int) : limAt xs 0 o = none := if_neg (by omega)
theorem limAt_step (xs : List Int) (k : Nat) (o : Int) : limAt xs (k + 1) o = if (k < 40 ∧ 0 ≤ xs.getD k 0 ∧ xs.getD k 0 ≤ 10000000) ∧ o = (k : Int) + 1 then some (xs.getD k 0) else limAt xs k o := by
  unfold limAt
  by_cases h : o = (k : Int) + 1
  · subst h
    have e : ((k : Int) + 1).toNat - 1 = k := by omega
    rw [e]
    by_cases h40 : k < 40
    · rw [if_pos (by omega)]
      by_cases hl : 0 ≤ xs.getD k 0 ∧ xs.getD k 0 ≤ 10000000
      · rw [if_pos hl, if_pos ⟨⟨h40, hl⟩, rfl⟩]
      · rw [if_neg hl, if_neg (fun x => hl x.1.2), if_neg (by omega)]
    · rw [if_neg (by omega), if_neg (fun x => h40 x.1.1), if_neg (by omega)]
  · rw [if_neg (c := _ ∧ o = _) (fun x => h x.2)]
    by_cases h1 : 1 ≤ o ∧ o ≤ 40 ∧ o ≤ (k : Int)
    · rw [if_pos (by omega), if_pos h1]
    · rw [if_neg (by omega), if_neg h1]
theorem limAt_own {xs : List Int} {k : Nat} {o l : Int} (h : limAt xs k o = some l) : (1 ≤ o ∧ o ≤ 40) ∧ 0 ≤ l ∧ l ≤ 10000000 := by
  unfold limAt at h
  split at h
  · next h1 =>
    split at h
    · next h2 => simp only [Option.some.injEq] at h; subst h; exact ⟨⟨h1.1, h1.2.1⟩, h2⟩
    · cases h
  · cases h
theorem chkE_lim (k : Nat) (l : Int) : chkE ((k : Int) + 1) [l] = 0 ↔ k < 40 ∧ 0 ≤ l ∧ l ≤ 10000000 := by
  constructor
  · intro h
    have := chkE_zero h
    have h2 := this.2 l (by simp)
    omega
  · intro h
    unfold chkE; rw [if_pos ⟨by omega, fun z hz => by simp at hz; subst hz; exact h.2⟩]

theorem openR_last (st : BookSt) (o l : Int) : (openR st o l).2.last = st.last := by
  unfold openR; split
  · split <;> rfl
  · rfl

/-- What the law knows of its book. -/
structure LawSt (budget : Int) (lims : List Int) (k : Nat) (st : BookSt) : Prop where
  good : Good st
  log : Logged budget st
  bud : st.budget = budget
  lim : ∀ o, (st.acc o).map Prod.fst = limAt lims k o
theorem LawSt.new {b : Int} (h : 0 ≤ b ∧ b ≤ 10000000) (lims : List Int) : LawSt b lims 0 (newSt b) where
  good := Good.new b h
  log := Or.inr .new
  bud := rfl
  lim := fun o => (limAt_zero lims o).symm
theorem LawSt.opened {b : Int} {lims : List Int} {k : Nat} {st : BookSt} (h : LawSt b lims k st) : LawSt b lims (k + 1) (openR st ((k : Int) + 1) (lims.getD k 0)).2 ∧ (openR st ((k : Int) + 1) (lims.getD k 0)).2.time = st.time := by
  have hno : st.acc ((k : Int) + 1) = none := by
    have := h.lim ((k : Int) + 1)
    rw [show limAt lims k ((k : Int) + 1) = none from if_neg (by omega)] at this
    simpa using this
  obtain ⟨h1, h2, h3, h4⟩ := open_log h.good h.log ((k : Int) + 1) (lims.getD k 0) hno
  refine ⟨⟨openR_good h.good _ _, h1, h2.trans h.bud, fun o => ?_⟩, h3⟩
  rw [h4 o, limAt_step, ← h.lim o]
  simp only [chkE_lim]
  split <;> rfl
theorem LawSt.kept {b : Int} {lims : List Int} {k : Nat} {st st' : BookSt} (h : LawSt b lims k st) (g : Good st') (l : Logged b st') (kp : Kept st st') : LawSt b lims k st' := ⟨g, l, kp.bud.trans h.bud, fun o => (kp.lim o).trans (h.lim o)⟩
theorem LawSt.take {b : Int} {lims : List Int} {k : Nat} {st : BookSt} (h : LawSt b lims k st) (o n : Int) : LawSt b lims k (takeR st o n).2 ∧ (takeR st o n).2.time = st.time := by
  obtain ⟨h1, h2, h3⟩ := take_log h.good h.log o n
  exact ⟨h.kept (takeR_good h.good o n) h1 h2, h3⟩
theorem LawSt.give {b : Int} {lims : List Int} {k : Nat} {st : BookSt} (h : LawSt b lims k st) (o n : Int) : LawSt b lims k (giveR st o n).2 ∧ (giveR st o n).2.time = st.time := by
  obtain ⟨h1, h2, h3⟩ := give_log h.good h.log o n
  exact ⟨h.kept (giveR_good h.good o n) h1 h2, h3⟩
theorem LawSt.lease {b : Int} {lims : List Int} {k : Nat} {st : BookSt} (h : LawSt b lims k st) (o n u : Int) : LawSt b lims k (leaseR st o n u).2 ∧ (leaseR st o n u).2.time = st.time := by
  obtain ⟨h1, h2, h3⟩ := lease_log h.good h.log o n u
  exact ⟨h.kept (leaseR_good h.good o n u) h1 h2, h3⟩
theorem LawSt.end_ {b : Int} {lims : List Int} {k : Nat} {st : BookSt} (h : LawSt b lims k st) (no : Int) : LawSt b lims k (endR st no).2 ∧ (endR st no).2.time = st.time := by
  obtain ⟨h1, h2, h3⟩ := end_log h.good h.log no
  exact ⟨h.kept (endR_good h.good no) h1 h2, h3⟩
theorem LawSt.pass {b : Int} {lims : List Int} {k : Nat} {st : BookSt} (h : LawSt b lims k st) (now : Int) : LawSt b lims k (passR st now).2 ∧ ((passR st now).1 = 0 → (passR st now).2.time = now) := by
  obtain ⟨h1, h2, h3, _⟩ := pass_log h.good h.log now
  exact ⟨h.kept (passR_good h.good now) h1 h2, h3⟩
theorem takeR_last (st : BookSt) (o n : Int) : (takeR st o n).2.last = st.last := by
  unfold takeR; split
  · split
    · rfl
    · show (takeSt _ _ _ _ _ _).last = _
      unfold takeSt; split <;> rfl
  · rfl
theorem giveR_last (st : BookSt) (o n : Int) : (giveR st o n).2.last = st.last := by
  unfold giveR; split
  · split
    · rfl
    · show (giveSt _ _ _ _ _ _).last = _
      unfold giveSt; split <;> rfl
  · rfl
theorem leaseR_last (st : BookSt) (o n u : Int) : (leaseR st o n u).2.last ≤ st.last + 1 := by
  unfold leaseR; split
  · split
    · show st.last ≤ _; omega
    · show (leaseSt _ _ _ _ _ _ _).last ≤ _
      exact Int.le_refl _
  · show st.last ≤ _; omega
theorem passR_last (st : BookSt) (now : Int) : (passR st now).2.last = st.last := by
  unfold passR; split
  · exact endAll_last _ _
  · rfl

/-! The sum over the accounts. -/
def sumL (f : Int → Int) : List Int → Int
  | [] => 0
  | x :: xs => f x + sumL f xs
theorem sumL_snoc (f : Int → Int) (x : Int) : ∀ xs : List Int, sumL f (xs ++ [x]) = sumL f xs + f x
  | [] => by simp [sumL]
  | y :: ys => by simp only [List.cons_append, sumL]; rw [sumL_snoc f x ys]; omega
theorem sumL_congr {f g : Int → Int} : ∀ xs : List Int, (∀ x ∈ xs, f x = g x) → sumL f xs = sumL g xs
  | [], _ => rfl
  | y :: ys, h => by simp only [sumL]; rw [h y (by simp), sumL_congr ys (fun x hx => h x (by simp [hx]))]
theorem sumL_all (n : Nat) : ∀ (xs : List Int) (f : Int → Int), xs.Nodup → (∀ x ∈ xs, 1 ≤ x ∧ x ≤ n) → (∀ x : Int, 1 ≤ x → x ≤ n → x ∉ xs → f x = 0) → sumL f xs = sumN f n
  | [], f, _, _, h0 => by
    have : sumN f n = sumN (fun _ => 0) n := sumN_congr n (fun o h1 h2 => h0 o h1 h2 (by simp))
    rw [this]
    have z : ∀ m : Nat, sumN (fun _ => 0) m = 0 := by
      intro m; induction m with
      | zero => rfl
      | succ m ih => simp [sumN, ih]
    rw [z]; rfl
  | y :: ys, f, hn, hin, h0 => by
    obtain ⟨hy, hys⟩ := List.nodup_cons.1 hn
    have hy1 := hin y (by simp)
    have e := sumN_upd f y 0 n hy1.1 hy1.2
    have ih := sumL_all n ys (fun x => if x = y then 0 else f x) hys (fun x hx => hin x (by simp [hx])) (fun x h1 h2 hx => by
      by_cases e : x = y
      · simp [e]
      · simp only [if_neg e]; exact h0 x h1 h2 (by simp [e, hx]))
    have c : sumL (fun x => if x = y then 0 else f x) ys = sumL f ys := sumL_congr ys (fun x hx => by
      have : x ≠ y := fun e => hy (e ▸ hx)
      simp [this])
    simp only [sumL]
    omega
theorem sumL_bound {f : Int → Int} {M : Int} (h0 : 0 ≤ M) : ∀ xs : List Int, (∀ x ∈ xs, 0 ≤ f x ∧ f x ≤ M) → 0 ≤ sumL f xs ∧ sumL f xs ≤ M * xs.length
  | [], _ => by simp [sumL]
  | y :: ys, h => by
    have h1 := h y (by simp)
    have h2 := sumL_bound h0 ys (fun x hx => h x (by simp [hx]))
    simp only [sumL, List.length_cons]
    rw [Int.natCast_add, Int.mul_add]
    omega
theorem LawSt.sum {b : Int} {lims : List Int} {k : Nat} {st : BookSt} (h : LawSt b lims k st) {xs : List Int} (hn : xs.Nodup) (hx : ∀ o, o ∈ xs ↔ (limAt lims k o).isSome = true) : sumL (fun o => cntA (st.acc o)) xs = st.total := by
  rw [h.good.tot]
  refine sumL_all 40 xs _ hn (fun x hm => ?_) (fun x h1 h2 hm => ?_)
  · have := (hx x).1 hm
    cases e : limAt lims k x with
    | none => rw [e] at this; cases this
    | some l => exact (limAt_own e).1
  · have e : limAt lims k x = none := by
      cases e : limAt lims k x with
      | none => rfl
      | some l => exact absurd ((hx x).2 (by rw [e]; rfl)) hm
    have := h.lim x
    rw [e] at this
    have : st.acc x = none := by simpa using this
    show cntA (st.acc x) = 0
    rw [this]; rfl
/-- An account that is there: what Held and Leased give of it. -/
theorem LawSt.acct {b : Int} {lims : List Int} {k : Nat} {st : BookSt} (h : LawSt b lims k st) {o l : Int} (hl : limAt lims k o = some l) :
    ∃ x s, heldV st o = x ∧ heldE st o = 0 ∧ leasedV st o = s ∧ cntA (st.acc o) = x + s ∧ 0 ≤ x ∧ 0 ≤ s ∧ x + s ≤ l ∧ l ≤ 10000000 := by
  have hm := h.lim o
  rw [hl] at hm
  have ho := limAt_own hl
  cases ha : st.acc o with
  | none => rw [ha] at hm; cases hm
  | some a =>
    obtain ⟨l', x, s⟩ := a
    rw [ha] at hm
    simp at hm
    subst hm
    have h0 := h.good.s0 ha
    have hg := h.good.own o l' x s ha
    refine ⟨x, s, ?_, ?_, ?_, rfl, hg.2.2.1, h0, hg.2.2.2.1, ho.2.2⟩
    · unfold heldV; rw [if_pos ho.1, ha]
    · unfold heldE; rw [if_pos ho.1, ha]
    · unfold leasedV; rw [if_pos ho.1, ha]

/-! The law's own map. -/
def MostAt (D : DataW Unit) (xs : List Int) (k : Nat) : Prop :=
  IsMap D ∧ ∀ o : Int, Maps.has D (.int .i64 o) = (limAt xs k o).isSome ∧ ∀ l, limAt xs k o = some l → D.atKey (.int .i64 o) (.lit (.int .i64 0)) = .lit (.int .i64 l)
theorem MostAt.zero (xs : List Int) : MostAt (.map []) xs 0 := ⟨isMap_empty, fun o => by rw [limAt_zero]; exact ⟨rfl, fun l h => by cases h⟩⟩
theorem MostAt.skip {D : DataW Unit} {xs : List Int} {k : Nat} (h : MostAt D xs k) (hn : ¬ (k < 40 ∧ 0 ≤ xs.getD k 0 ∧ xs.getD k 0 ≤ 10000000)) : MostAt D xs (k + 1) :=
  ⟨h.1, fun o => by rw [limAt_step, if_neg (fun x => hn x.1)]; exact h.2 o⟩
theorem MostAt.put {D : DataW Unit} {xs : List Int} {k : Nat} (h : MostAt D xs k) (hn : k < 40 ∧ 0 ≤ xs.getD k 0 ∧ xs.getD k 0 ≤ 10000000) : MostAt (D.put (.int .i64 ((k : Int) + 1)) (.lit (.int .i64 (xs.getD k 0)))) xs (k + 1) := by
  refine ⟨h.1.put _ _, fun o => ?_⟩
  rw [limAt_step]
  by_cases e : o = (k : Int) + 1
  · subst e
    rw [if_pos ⟨hn, rfl⟩]
    refine ⟨has_put_same h.1 (by trivial) _, fun l hl => ?_⟩
    simp only [Option.some.injEq] at hl
    subst hl
    exact atKey_put_same h.1 (by trivial) _ _
  · rw [if_neg (fun x => e x.2)]
    have hne : Lit.int .i64 o ≠ Lit.int .i64 ((k : Int) + 1) := by simp [e]
    refine ⟨(has_put_other hne _).trans (h.2 o).1, fun l hl => ?_⟩
    rw [atKey_put_other hne]
    exact (h.2 o).2 l hl

/-! What is held. -/
structure HeldAt (w wr : World) (G : Nat → Prop) (K : List (Nat × Obj)) (p : Nat) (st : BookSt) (N : Nat) : Prop where
  book : BookAt wr G p st N
  lt : ∀ k, G k → k < wr.heap.size
  low : ∀ k, G k → w.heap.size ≤ k
  keep : ∀ x ∈ K, wr.heap[x.1]? = some x.2 ∧ ¬ G x.1
  below : Below w.heap.size w wr
theorem HeldAt.touch {w wr w' : World} {G : Nat → Prop} {K : List (Nat × Obj)} {p : Nat} {st st' : BookSt} {N N' : Nat} (h : HeldAt w wr G K p st N) (hb : BookAt w' (fun k => G k ∨ wr.heap.size ≤ k) p st' N') (ht : Touch G wr w') :
    HeldAt w w' (fun k => (G k ∨ wr.heap.size ≤ k) ∧ k < w'.heap.size) K p st' N' where
  book := hb.narrow'
  lt := fun k hk => hk.2
  low := fun k hk => hk.1.elim (h.low k) (fun x => Nat.le_trans h.below.size x)
  keep := fun x hx => by
    obtain ⟨h1, h2⟩ := h.keep x hx
    exact ⟨(ht.block _ (lt_of h1) h2).trans h1, fun hk => hk.1.elim h2 (fun y => by have := lt_of h1; omega)⟩
  below := h.below.trans (ht.below h.below.size h.low)
theorem HeldAt.under {w wr w' : World} {G : Nat → Prop} {K : List (Nat × Obj)} {p : Nat} {st : BookSt} {N : Nat} (h : HeldAt w wr G K p st N) (hb : Below wr.heap.size wr w') : HeldAt w w' G K p st N where
  book := h.book.same (fun k _ hk => hb.block k hk)
  lt := fun k hk => Nat.lt_of_lt_of_le (h.lt k hk) hb.size
  low := h.low
  keep := fun x hx => by
    obtain ⟨h1, h2⟩ := h.keep x hx
    exact ⟨(hb.block _ (lt_of h1)).trans h1, h2⟩
  below := h.below.trans (hb.mono h.below.size)
theorem HeldAt.add {w wr : World} {G : Nat → Prop} {K : List (Nat × Obj)} {p : Nat} {st : BookSt} {N : Nat} (h : HeldAt w wr G K p st N) {b : Nat} {o : Obj} (hb : wr.heap[b]? = some o) (hn : ¬ G b) : HeldAt w wr G ((b, o) :: K) p st N :=
  ⟨h.book, h.lt, h.low, fun x hx => by
    rcases List.mem_cons.1 hx with rfl | hx
    · exact ⟨hb, hn⟩
    · exact h.keep x hx, h.below⟩
theorem HeldAt.new {w wr : World} {G : Nat → Prop} {K : List (Nat × Obj)} {p : Nat} {st : BookSt} {N : Nat} (h : HeldAt w wr G K p st N) (ob : Obj) {w' : World} (hb : Below wr.heap.size wr w') (ho : w'.heap[wr.heap.size]? = some ob) : HeldAt w w' G ((wr.heap.size, ob) :: K) p st N :=
  (h.under hb).add ho (fun x => by have := h.lt _ x; omega)
/-- A block that is held is stored to. -/
theorem HeldAt.put {w wr w' : World} {G : Nat → Prop} {K : List (Nat × Obj)} {p : Nat} {st : BookSt} {N b : Nat} {o o' : Obj} (h : HeldAt w wr G ((b, o) :: K) p st N) (hne : ∀ x ∈ K, x.1 ≠ b) (hw : w.heap.size ≤ b) (hg : wr.grownBy w' (some b)) (ho : w'.heap[b]? = some o') : HeldAt w w' G ((b, o') :: K) p st N := by
  have hnb := (h.keep _ (List.mem_cons_self)).2
  refine ⟨h.book.same (fun k hG hk => hg.block k hk (fun e => by cases e; exact hnb hG)), fun k hk => Nat.lt_of_lt_of_le (h.lt k hk) hg.size, h.low, fun x hx => ?_, h.below.grown hg h.below.size (fun k e => by cases e; exact hw)⟩
  rcases List.mem_cons.1 hx with rfl | hx
  · exact ⟨ho, hnb⟩
  · obtain ⟨h1, h2⟩ := h.keep x (List.mem_cons_of_mem _ hx)
    exact ⟨(hg.block _ (lt_of h1) (fun e => hne x hx (by simpa using e))).trans h1, h2⟩
theorem HeldAt.less {w wr : World} {G : Nat → Prop} {K K' : List (Nat × Obj)} {p : Nat} {st : BookSt} {N : Nat} (h : HeldAt w wr G K p st N) (hK : ∀ x ∈ K', x ∈ K) : HeldAt w wr G K' p st N := ⟨h.book, h.lt, h.low, fun x hx => h.keep x (hK x hx), h.below⟩
theorem HeldAt.own {w W W' : World} {G : Nat → Prop} {K : List (Nat × Obj)} {p : Nat} {st : BookSt} {N B : Nat} {row : Option Nat} (h : HeldAt w W G K p st N) (hK : ∀ x ∈ K, x.1 < B) (hG : ∀ k, G k → k < B) (hB : w.heap.size ≤ B) (hg : W.grownBy W' row) (hr : ∀ r, row = some r → B ≤ r) : HeldAt w W' G K p st N := by
  refine ⟨h.book.same (fun k hk h' => hg.block k h' (fun e => by have := hr k e.symm; have := hG k hk; omega)), fun k hk => Nat.lt_of_lt_of_le (h.lt k hk) hg.size, h.low, fun x hx => ?_, h.below.grown hg h.below.size (fun k e => Nat.le_trans hB (hr k e))⟩
  obtain ⟨h1, h2⟩ := h.keep x hx
  exact ⟨(hg.block _ (lt_of h1) (fun e => by have := hr _ e.symm; have := hK x hx; omega)).trans h1, h2⟩

/-! The way out, over a row of marks. -/
def marksOf (Ds : List Nat) : List Deferred := Ds.map fun D => { target := .collected D, args := #[] }
theorem Touch.putMark {W : World} {D : Nat} (o : Obj) : Touch (fun k => k = D) W (W.putObj D o) :=
  ⟨rfl, rfl, rfl, by simp, fun k hk hn => World.putObj_heap_other hn⟩
theorem leaves_marks {F : Fence} {n : Nat} {P : Program} {fn : Func} {tmps : Array Value} {R : Ending → World → Prop} : ∀ (Ds : List Nat) (W : World), Ds.Nodup → (∀ D ∈ Ds, W.heap[D]? = some (.deferred (some []))) →
    (∀ W', Touch (fun k => k ∈ Ds) W W' → LeavesInM F n P fn tmps R [] .returning W') → LeavesInM F n P fn tmps R (marksOf Ds) .returning W
  | [], W, _, _, h => h W (Touch.refl _ W)
  | D :: Ds, W, hn, hd, h => by
    obtain ⟨h1, h2⟩ := List.nodup_cons.1 hn
    refine ⟨by simp, .inl ⟨_, _, rfl, run_takeDeferred (hd D (by simp)), ?_⟩⟩
    have t := Touch.putMark (W := W) (D := D) (.deferred none)
    refine leaves_marks Ds _ h2 (fun x hx => ?_) (fun W' hW' => h W' ?_)
    · have hx' := hd x (by simp [hx])
      exact (t.block x (lt_of hx') (fun e => h1 (e ▸ hx))).trans hx'
    · exact (t.mono (fun k hk => by simp [hk])).trans hW' (fun k hk => Or.inl (by simp [hk]))

end Go.Proofs.Ytfgpophbgjeefaa
