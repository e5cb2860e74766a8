/-
  Push of a queue where there is too much: refused. (Push's other ways: under way.)
  A region that draws its order, walked by a plan: what only reads is taken first under a condition on the world, then one after the other what turns the world. No conditions.
-/
import Derived.Test.YtfnmjlnpfoclbaaGreatQueueRunsPao
import Derived.Test.YtfnmjlnpfoclbaaGreatQueueRunsPap
import Derived.OrdersHeld
import Derived.Test.YtfnmjlnpfoclbaaGreatQueueRunsPak

namespace Go.Proofs.YtfnmjlnpfoclbaaGreat
section
open Go.RowKit Go.Shelf
attribute [local go_sem] Oper.semAt_some
set_option linter.unusedVariables false

set_option maxHeartbeats 4000000 in
set_option maxRecDepth 100000 in
theorem push_long (I : QuId) (L : List QCh) (bst : BookSt) (K : Nat) (F G : Nat → Prop) (a : Option Addr) (N cap : Nat) (w : World) (h : QR w I L bst K F G) (hN : N ≤ 140737488351232) (hlong : 100000 < N + qsum QCh.len L) :
    Calls Tryz.prog 29 #[.pointer (some ⟨I.r, 0, none⟩), .slice a N cap] w (fun e w' => e = .returned (.int .i64 4) ∧ QRPost w w' I L bst K F G) := by
  obtain ⟨cv, hm⟩ := h.qu
  have W1 : Below w.heap.size w (w.alloc (.cells #[.pointer (some ⟨I.r, 0, none⟩)] 30)) := (Below.refl _ _).alloc (Nat.le_refl _) _
  have AB1 := Lib.hid (h.below W1)
  have AB0 := Lib.hid h
  have HLEN := Lib.hid (qLen_any I F L cv _ (hm.below W1) h.ok)
  have hsum := h.ok.sum L.length
  rw [List.take_length] at hsum
  have c6 : w.cell? ⟨I.r, 6, none⟩ = some (.bool false) := by rw [cell_of hm.self]; rfl
  have k6 : (w.alloc (.cells #[.pointer (some ⟨I.r, 0, none⟩)] 30)).cell? ⟨I.r, 6, none⟩ = some (.bool false) := by rw [cell_of (hm.below W1).self]; rfl
  have HW1 := Lib.hid W1
  generalize hS : qsum QCh.len L = S at *
  clear h hm W1
  refine callsIn_wide (n := 9).1 ?_
  refine callsIn_of_wp_marks Tryz.func29 rfl trivial ?_ rfl
  simp only [Tryz.ntmps29, List.size_toArray, List.length_cons, List.length_nil, Nat.reduceAdd, Nat.reduceSub, Array.replicate_succ, Array.replicate_zero, List.push_toArray, List.append_toArray, List.nil_append, List.cons_append]
  refine wpIn_wide.2 ?_
  go_wp2_with fail
  refine HLEN.out.mono ?_
  rintro e w1 ⟨rfl, hb1⟩
  have HB1 := Lib.hid hb1
  clear hb1
  go_wp2_with fail
  refine ⟨_, results_tmp rfl _ _ _, rfl, ?_⟩
  exact QRPost.of_below AB0.out (HW1.out.trans (HB1.out.mono HW1.out.size))

end
end Go.Proofs.YtfnmjlnpfoclbaaGreat

namespace Go.Proofs.YtfnmjlnpfoclbaaGreat
section
open Go Go.RowKit
set_option linter.unusedVariables false

section
variable {P : Program} {ops : Array Oper} {Q : Exit → Act → World → Prop} {md : Region.Mode} {S T : World → Prop} {n : Nat}

/-- What enters no function and only hands on a value. -/
def plainOp (o : Oper) : Bool := match o.op with
  | .move _ | .assign _ | .load .. | .binOp .. | .unOp .. | .convert .. | .slice .. | .fieldAddr .. | .indexAddr .. | .extract .. | .index .. | .field .. | .lookup .. => true
  | .nilCheck _ => true
  | .call c => match c.callee with | .builtin .len => true | .builtin .cap => true | .builtin .min => true | .builtin .max => true | _ => false
  | _ => false

theorem run_gives {s : Sem Value} {w w' : World} {n : Next} (h : (do pure (.value (← s)) : Sem Next).run P w = .ok n w') : ∃ u, n = .value u := by
  simp only [Sem.run_bind, Sem.run_pure] at h
  cases hs : s.run P w with
  | ok u w2 =>
    rw [hs] at h
    simp only [Result.andThen, Result.ok.injEq] at h
    exact ⟨u, h.1.symm⟩
  | halt x w2 =>
    rw [hs] at h
    simp only [Result.andThen] at h
    cases h

/-- What an operation that only hands on a value does under a class of worlds. -/
theorem plain_quiet {o : Oper} {a : Act} {w : World} {v : Value} (hp : plainOp o = true) (h : o.quietAt P a T w v) : (execOp a.eval o).run P w = .ok (.value v) w ∨ ((execOp a.eval o).run P w = .ok .skip w ∧ v = undef) := by
  unfold Oper.quietAt at h
  generalize hr : (execOp a.eval o).run P w = r at *
  cases r with
  | halt x w' => simp only [Oper.quietUpon] at h
  | ok n w' =>
    cases n <;> simp only [Oper.quietUpon] at h
    case value u => obtain ⟨rfl, rfl⟩ := h; exact Or.inl rfl
    case skip => obtain ⟨rfl, rfl⟩ := h; exact Or.inr ⟨rfl, rfl⟩
    case enter f args =>
      exfalso
      obtain ⟨d, op, b, c, e, g⟩ := o
      unfold plainOp at hp
      unfold execOp at hr
      cases op <;> simp only [Bool.false_eq_true] at hp <;> simp only at hr
      all_goals try (obtain ⟨u, hu⟩ := run_gives hr; cases hu; done)
      all_goals try (simp only [Sem.run_pure, Result.ok.injEq] at hr; obtain ⟨hu, _⟩ := hr; cases hu; done)
      case nilCheck x =>
        split at hr
        · simp [runtimePanic, Sem.run_bind] at hr
        · simp [runtimePanic, Sem.run_bind] at hr
        · simp [runtimePanic, Sem.run_bind] at hr
        · split at hr
          · simp [runtimePanic, Sem.run_bind] at hr
          · simp only [Sem.run_bind, run_program, Result.andThen_ok] at hr
            generalize Sem.run P (nilAhead _ _ _ _) w = r at hr
            cases r with
            | halt x w2 => simp only [Result.andThen] at hr; cases hr
            | ok u w2 =>
              simp only [Result.andThen] at hr
              split at hr
              · simp [unsupported] at hr
              · simp only [Sem.run_pure, Result.ok.injEq] at hr; obtain ⟨hu, _⟩ := hr; cases hu
          · simp only [Sem.run_pure, Result.ok.injEq] at hr; obtain ⟨hu, _⟩ := hr; cases hu
        · simp only [Sem.run_pure, Result.ok.injEq] at hr; obtain ⟨hu, _⟩ := hr; cases hu
      case call c =>
        obtain ⟨ce, cas, ats⟩ := c
        cases ce with
        | builtin bt =>
          simp only [resolve, Sem.run_bind, Sem.run_pure, Result.andThen, invoke] at hr
          cases bt <;> simp only [Bool.false_eq_true] at hp <;> simp only [builtin] at hr <;> (obtain ⟨u, hu⟩ := run_gives hr; cases hu)
        | invoke r nm => simp at hp
        | value r => simp at hp

/-- It yields under S. -/
theorem plain_yields {o : Oper} {a : Act} {v : Value} (hp : plainOp o = true) (h : YieldsIn P ops T o v a) : YieldsIf P ops T o v a ∨ (Region.wanted o (yielded ops a.tmps) = true ∧ ∀ w, T w → (execOp a.eval o).run P w = .ok (.value v) w ∨ ((execOp a.eval o).run P w = .ok .skip w ∧ v = undef)) := by
  rcases h with ⟨h1, h2⟩ | ⟨h1, h2⟩
  · exact Or.inr ⟨h1, fun w hw => plain_quiet hp (h2 w hw)⟩
  · exact Or.inl (Or.inr ⟨h1, h2⟩)

def YieldsP (P : Program) (ops : Array Oper) (S : World → Prop) (o : Oper) (v : Value) (a : Act) : Prop :=
  (Region.wanted o (yielded ops a.tmps) = true ∧ ∀ w, S w → (execOp a.eval o).run P w = .ok (.value v) w ∨ ((execOp a.eval o).run P w = .ok .skip w ∧ v = undef)) ∨
  (Region.wanted o (yielded ops a.tmps) = false ∧ v = undef)

theorem YieldsIn.toP {o : Oper} {a : Act} {v : Value} (hp : plainOp o = true) (h : YieldsIn P ops T o v a) : YieldsP P ops T o v a :=
  h.imp (fun ⟨h1, h2⟩ => ⟨h1, fun w hw => plain_quiet hp (h2 w hw)⟩) id

theorem YieldsP.wpOp {i : Nat} {o : Oper} {v : Value} {a : Act} (hi : ops[i]? = some o) (hy : YieldsP P ops S o v a)
    {K : Act → World → Prop} {w : World} (hS : S w) (h : K (a.put o.dst v) w) : wpOp P ops Q i K a w := by
  unfold Go.wpOp
  simp only [hi]
  rcases hy with ⟨hw, hv⟩ | ⟨hw, rfl⟩
  · simp only [hw, if_true]
    rcases hv w hS with h1 | ⟨h1, rfl⟩
    · simp only [Oper.wp, h1, Oper.upon]; exact .inl h
    · simp only [Oper.wp, h1, Oper.upon]; exact .inl h
  · simp only [hw, Bool.false_eq_true, if_false]; exact h

theorem YieldsP.of_same {o : Oper} {v : Value} {a a' : Act} (hy : YieldsP P ops S o v a) (he : execOp a'.eval o = execOp a.eval o)
    (hw : Region.wanted o (yielded ops a'.tmps) = Region.wanted o (yielded ops a.tmps)) : YieldsP P ops S o v a' := by
  unfold YieldsP at *
  rw [he, hw]
  exact hy

theorem wpOp_putP {j : Nat} {oi oj : Oper} {v : Value} (hj : ops[j]? = some oj) (hap : oi.apart ops oj = true)
    (hsi : ∀ cs b, oi.op ≠ .select cs b) (hsj : ∀ cs b, oj.op ≠ .select cs b)
    (hQ : ∀ c a w, Q (.panic c) (a.put oi.dst v) w → Q (.panic c) a w) {K : Act → World → Prop} {a : Act} {w : World}
    (hy : YieldsP P ops S oi v a) (h : wpOp P ops Q j K (a.put oi.dst v) w) :
    wpOp P ops Q j (fun a' w' => YieldsP P ops S oi v a' ∧ K (a'.put oi.dst v) w') a w := by
  obtain ⟨h1, h2, h3⟩ := Oper.apart_spec hap
  have keep : ∀ (a : Act), YieldsP P ops S oi v a → ∀ u, YieldsP P ops S oi v (a.put oj.dst u) := fun a hy u =>
    hy.of_same (execOp_put oi hsi a oj.dst u h3) (wanted_put oi a oj.dst u h3)
  have keepD : ∀ d, YieldsP P ops S oi v { a with defers := d :: a.defers } := fun d => hy.of_same rfl rfl
  unfold wpOp at *
  simp only [hj] at *
  rw [wanted_put oj a oi.dst v h1] at h
  split
  · rename_i hw
    simp only [hw, if_true] at h
    rcases h with h | ⟨hasks, hlets⟩
    case inr => exact .inr ⟨by unfold Oper.asks at *; rw [execOp_put oj hsj a oi.dst v h1] at hasks; exact hasks, hlets⟩
    refine .inl ?_
    unfold Oper.wp at *
    rw [execOp_put oj hsj a oi.dst v h1] at h
    generalize (execOp a.eval oj).run P w = r at *
    cases r with
    | ok n w' =>
      cases n <;> simp only [Oper.upon] at h ⊢
      case value u => exact ⟨keep a hy u, by rw [← Act.put_comm a v u h2]; exact h⟩
      case skip => exact ⟨keep a hy _, by rw [← Act.put_comm a v undef h2]; exact h⟩
      case defer d =>
        refine ⟨keep _ (keepD d) _, ?_⟩
        rw [← Act.put_comm _ v undef h2, ← Act.put_defers]
        exact h
      case enter f args =>
        refine Calls.mono h fun e w'' he => ?_
        cases e with
        | returned u => exact ⟨keep a hy u, by rw [← Act.put_comm a v u h2]; exact he⟩
        | panicked c => exact hQ _ _ _ he
        | outgrown => exact he
      case row row args => exact Rows.mono h fun u w'' he => ⟨keep a hy u, by rw [← Act.put_comm a v u h2]; exact he⟩
    | halt x w' =>
      cases x <;> simp only [Oper.upon] at h ⊢
      case panic u => exact hQ _ _ _ h
  · rename_i hw
    simp only [hw] at h
    exact ⟨keep a hy _, by rw [← Act.put_comm a v undef h2]; exact h⟩

def ClosedL (md : Region.Mode) (ops : Array Oper) (listed : Array Bool) : Prop :=
  listed.size = ops.size ∧ ∀ j oj, ops[j]? = some oj → listed.getD j false = true → ∀ e ∈ oj.after, Region.binds md e = true → listed.getD e.on false = true
theorem ClosedL.set {i : Nat} {listed : Array Bool} (inv : ClosedL md ops listed) (hi : i ∈ Region.ready md ops listed) : ClosedL md ops (listed.setIfInBounds i true) := by
  obtain ⟨_, oi, hoi, hall⟩ := mem_ready.1 hi
  refine ⟨by simp [inv.1], fun j oj hj hl e he hb => ?_⟩
  by_cases hij : i = j
  · subst hij
    have : oj = oi := Option.some.inj (hj.symm.trans hoi)
    subst this
    exact getD_set_true (hall e he hb)
  · rw [getD_set_ne false hij] at hl
    exact getD_set_true (inv.2 j oj hj hl e he hb)
theorem sink_all {listed : Array Bool} (hs : Region.sinkB md ops n = true) (inv : ClosedL md ops listed) (hn : listed.getD n false = true) : ∀ (d i : Nat), n - i = d → i ≤ n → listed.getD i false = true := by
  intro d
  induction d using Nat.strongRecOn with
  | _ d ih =>
    intro i hd hi
    by_cases e : i = n
    · rw [e]; exact hn
    · obtain ⟨j, hj, hj2⟩ := List.any_eq_true.1 (List.all_eq_true.1 hs i (List.mem_range.2 (by omega)))
      rw [Bool.and_eq_true, decide_eq_true_eq] at hj2
      obtain ⟨oj, hoj, ed, hed, hbd, hon⟩ := Region.waitsFor_spec hj2.2
      have hjle := List.mem_range.1 hj
      have h1 := ih (n - j) (by omega) j rfl (by omega)
      rw [← hon]
      exact inv.2 j oj hoj h1 ed hed hbd
theorem sink_later {listed : Array Bool} (hs : Region.sinkB md ops n = true) (inv : ClosedL md ops listed) {i : Nat} (hi : i < n) (hun : listed.getD i true = false) : n ∉ Region.ready md ops listed := by
  intro hr
  have h2 := sink_all hs (inv.set hr) (getD_set_in hr) (n - i) i rfl (by omega)
  rw [getD_set_ne false (by omega), getD_both hun] at h2
  cases h2
where
  getD_set_in {listed : Array Bool} {n : Nat} {md : Region.Mode} {ops : Array Oper} (hr : n ∈ Region.ready md ops listed) : (listed.setIfInBounds n true).getD n false = true := by
    have h0 := (mem_ready.1 hr).1
    have : n < listed.size := by
      rcases Nat.lt_or_ge n listed.size with h | h
      · exact h
      · simp [Array.getElem?_eq_none h] at h0
    simp [this]

def needL (n : Nat) (L : Array Bool) : Bool := !(L.getD n true)

/-- Whatever order is picked from here on; S holds behind every operation as long as number n has not come up. -/
def wpAnyP (P : Program) (md : Region.Mode) (ops : Array Oper) (Q : Exit → Act → World → Prop) (S : World → Prop) (n : Nat) : Nat → Array Bool → Act → World → Prop
  | 0, listed, a, w => Region.ready md ops listed = [] ∧ Q .normal a w
  | fuel + 1, listed, a, w =>
    (Region.ready md ops listed = [] → Q .normal a w) ∧
    ∀ i ∈ Region.ready md ops listed, wpOp P ops Q i (fun a' w' => (needL n (listed.setIfInBounds i true) = true → S w') ∧ wpAnyP P md ops Q S n fuel (listed.setIfInBounds i true) a' w') a w

theorem wpAny_of_plan : ∀ (fuel : Nat) (listed : Array Bool) (a : Act) (w : World), wpAnyP P md ops Q S n fuel listed a w → wpAny P md ops Q fuel listed a w
  | 0, _, _, _, h => h
  | fuel + 1, _, _, _, h => ⟨h.1, fun i hi => wpOp_mono (fun a' w' h' => wpAny_of_plan fuel _ a' w' h'.2) (h.2 i hi)⟩

theorem needL_ne {L : Array Bool} {i : Nat} (h : i ≠ n) : needL n (L.setIfInBounds i true) = needL n L := by
  unfold needL; rw [getD_set_ne true h]
theorem needL_set {L : Array Bool} {i j : Nat} (h : i ≠ n) : needL n ((L.setIfInBounds i true).setIfInBounds j true) = needL n (L.setIfInBounds j true) := by
  by_cases e : i = j
  · subst e
    congr 1
    simp
  · rw [Array.setIfInBounds_comm _ _ e, needL_ne h]

theorem wpAnyP_first {i : Nat} {oi : Oper} {v : Value} (hi : ops[i]? = some oi) (hsel : ∀ (j : Nat) (o : Oper) cs b, ops[j]? = some o → o.op ≠ .select cs b)
    (hQ : ∀ c a w, Q (.panic c) (a.put oi.dst v) w → Q (.panic c) a w) (hin : i ≠ n) (hT : ∀ (L : Array Bool) w', ClosedL md ops L → L.getD i true = false → (needL n L = true → S w') → T w') :
    ∀ (fuel : Nat) (listed : Array Bool) (a : Act) (w : World), ClosedL md ops listed →
      (∀ j oj, ops[j]? = some oj → j ≠ i → listed.getD j true = false → (∀ e ∈ oj.after, Region.binds md e = true → e.on ≠ i) → oi.apart ops oj = true) →
      i ∈ Region.ready md ops listed → YieldsP P ops T oi v a → (needL n listed = true → S w) →
      wpAnyP P md ops Q S n fuel (listed.setIfInBounds i true) (a.put oi.dst v) w → wpAnyP P md ops Q S n (fuel + 1) listed a w := by
  intro fuel
  induction fuel with
  | zero =>
    intro listed a w hcl _ hr hy hS H
    refine ⟨fun h => (by rw [h] at hr; cases hr), fun j hj => ?_⟩
    by_cases hji : j = i
    · subst hji; exact hy.wpOp hi (hT listed w hcl (mem_ready.1 hr).1 hS) ⟨fun hn => hS (by rwa [needL_ne hin] at hn), H⟩
    · have := ready_mono hj hji
      rw [H.1] at this
      cases this
  | succ fuel ih =>
    intro listed a w hcl hfree hr hy hS H
    refine ⟨fun h => (by rw [h] at hr; cases hr), fun j hj => ?_⟩
    by_cases hji : j = i
    · subst hji; exact hy.wpOp hi (hT listed w hcl (mem_ready.1 hr).1 hS) ⟨fun hn => hS (by rwa [needL_ne hin] at hn), H⟩
    · have h1 := H.2 j (ready_mono hj hji)
      obtain ⟨hjun, oj, hoj, hall⟩ := mem_ready.1 hj
      have hnot : ∀ e ∈ oj.after, Region.binds md e = true → e.on ≠ i := fun e he hb heq => by
        have h1 := hall e he hb
        have h0 := (mem_ready.1 hr).1
        rw [heq, getD_both h0] at h1
        cases h1
      have h2 := wpOp_putP hoj (hfree j oj hoj hji hjun hnot) (fun cs b => hsel i oi cs b hi) (fun cs b => hsel j oj cs b hoj) hQ hy h1
      have hfree' : ∀ k ok, ops[k]? = some ok → k ≠ i → (listed.setIfInBounds j true).getD k true = false →
          (∀ e ∈ ok.after, Region.binds md e = true → e.on ≠ i) → oi.apart ops ok = true := fun k ok hk hki hun hno => by
        refine hfree k ok hk hki ?_ hno
        by_cases hjk : j = k
        · subst hjk; exact hjun
        · rw [getD_set_ne true hjk] at hun; exact hun
      have hcomm : (listed.setIfInBounds i true).setIfInBounds j true = (listed.setIfInBounds j true).setIfInBounds i true := Array.setIfInBounds_comm _ _ (Ne.symm hji)
      refine wpOp_mono (fun a' w' h3 => ?_) h2
      have hn : needL n (listed.setIfInBounds j true) = true → S w' := fun hn => h3.2.1 (by rw [needL_set hin]; exact hn)
      exact ⟨hn, ih (listed.setIfInBounds j true) a' w' (hcl.set hj) hfree' (ready_mono hr (Ne.symm hji)) h3.1 hn (by rw [← hcomm]; exact h3.2.2)⟩

/-- What has come up. -/
def lst (ops : Array Oper) (done : List Nat) : Array Bool := done.foldl (fun L i => L.setIfInBounds i true) (Array.replicate ops.size false)
theorem lst_snoc (done : List Nat) (i : Nat) : lst ops (done ++ [i]) = (lst ops done).setIfInBounds i true := by unfold lst; rw [List.foldl_append]; rfl
theorem lst_size (done : List Nat) : (lst ops done).size = ops.size := by
  unfold lst
  suffices ∀ (L : Array Bool), (done.foldl (fun L i => L.setIfInBounds i true) L).size = L.size by rw [this]; simp
  induction done with
  | nil => intro L; rfl
  | cons x l ih => intro L; rw [List.foldl_cons, ih]; simp

def wpN (P : Program) (ops : Array Oper) (Q : Exit → Act → World → Prop) (S : World → Prop) (n : Nat) (done : List Nat) (a : Act) (w : World) : Prop :=
  wpAnyP P .any ops Q S n (ops.size - done.length) (lst ops done) a w

def closedB (md : Region.Mode) (ops : Array Oper) (L : Array Bool) : Bool :=
  (List.range ops.size).all fun j => !(L.getD j false) || ((ops[j]?).map fun o => o.after.all fun e => !(Region.binds md e) || L.getD e.on false).getD true
theorem closedB_spec {L : Array Bool} (hsz : L.size = ops.size) (h : closedB md ops L = true) : ClosedL md ops L := by
  refine ⟨hsz, fun j oj hj hl e he hb => ?_⟩
  have h1 := List.all_eq_true.1 h j (List.mem_range.2 (Array.getElem?_eq_some_iff.1 hj).1)
  rw [hl, hj] at h1
  simp only [Bool.not_true, Bool.false_or, Option.map_some, Option.getD_some] at h1
  have h2 := Array.all_eq_true_iff_forall_mem.1 h1 e he
  simpa [hb] using h2

/-- The numbers may be taken first, in this order. -/
def segB (ops : Array Oper) (n : Nat) (b : Bool) : List Nat → List Nat → Bool
  | _, [] => true
  | done, i :: is => (Region.ready .any ops (lst ops done)).contains i && Region.free .any ops (lst ops done) i && ((ops[i]?).map plainOp).getD false && decide (i ≠ n) && (!b || decide (i < n)) && decide (done.length < ops.size) && segB ops n b (done ++ [i]) is
def pick (l : List Oper) (is : List Nat) : List Oper := is.map fun i => (l[i]?).getD default

theorem wpN_seg0 {l : List Oper} (b : Bool) (hsel : Region.noSelect l.toArray = true) (hQ : ∀ c d v a w, Q (.panic c) (Act.put a d v) w → Q (.panic c) a w)
    (hT : ∀ i (L : Array Bool) w', (b = true → i < n) → ClosedL .any l.toArray L → L.getD i true = false → (needL n L = true → S w') → T w') :
    ∀ (is : List Nat) (done : List Nat) (a : Act) (w : World), segB l.toArray n b done is = true → ClosedL .any l.toArray (lst l.toArray done) → (needL n (lst l.toArray done) = true → S w) →
      wpQuiet P l.toArray T (fun a' => wpN P l.toArray Q S n (done ++ is) a' w) (pick l is) a → wpN P l.toArray Q S n done a w := by
  intro is
  induction is with
  | nil =>
    intro done a w _ _ _ h
    have h : wpN P l.toArray Q S n (done ++ []) a w := h
    rwa [List.append_nil] at h
  | cons i is ih =>
    intro done a w hB hcl hS h
    simp only [segB, Bool.and_eq_true, decide_eq_true_eq] at hB
    obtain ⟨⟨⟨⟨⟨⟨hr, hf⟩, hp⟩, hne⟩, hlt⟩, hlen⟩, hrest⟩ := hB
    have hr' : i ∈ Region.ready .any l.toArray (lst l.toArray done) := by simpa using hr
    obtain ⟨_, oi, hoi, _⟩ := mem_ready.1 hr'
    rw [hoi] at hp
    simp only [Option.map_some, Option.getD_some] at hp
    have hol : l[i]? = some oi := by simpa using hoi
    have hpk : pick l (i :: is) = oi :: pick l is := by simp [pick, hol]
    rw [hpk] at h
    have hq : qOp P l.toArray T i (wpQuiet P l.toArray T (fun a' => wpN P l.toArray Q S n (done ++ (i :: is)) a' w) (pick l is)) a := by unfold qOp; simp only [hoi]; exact h
    obtain ⟨v, hy, hK⟩ := yieldsIn_of_qOp hoi hq
    have e : done ++ i :: is = (done ++ [i]) ++ is := by simp
    rw [e] at hK
    have H := ih (done ++ [i]) (a.put oi.dst v) w hrest (by rw [lst_snoc]; exact hcl.set hr') (by rw [lst_snoc, needL_ne hne]; exact hS) hK
    unfold wpN at H ⊢
    rw [lst_snoc, List.length_append] at H
    have e2 : l.toArray.size - done.length = (l.toArray.size - (done.length + 1)) + 1 := by omega
    rw [e2]
    exact wpAnyP_first hoi (Region.noSelect_spec hsel) (fun c a w => hQ c oi.dst v a w) hne (fun L w' h1 h2 h3 => hT i L w' (fun hb => by rw [hb] at hlt; simpa using hlt) h1 h2 h3) _ _ _ _ hcl (Region.free_spec hoi hf) hr' (YieldsIn.toP hp hy) hS H

/-- A world that meets S. -/
structure WIn (S : World → Prop) where
  w : World
  h : S w
/-- What only reads, under S. -/
theorem wpN_seg {l : List Oper} {done : List Nat} {a : Act} {w : World} (is : List Nat) (hsel : Region.noSelect l.toArray = true) (hs : Region.sinkB .any l.toArray n = true) (hB : segB l.toArray n true done is = true) (hcl : closedB .any l.toArray (lst l.toArray done) = true)
    (hn : decide (n < l.toArray.size) = true) (hQ : ∀ c d v a w, Q (.panic c) (Act.put a d v) w → Q (.panic c) a w) (hS : S w) (h : wpQuiet P l.toArray (fun w' => ∃ x : WIn S, w' = x.w) (fun a' => wpN P l.toArray Q S n (done ++ is) a' w) (pick l is) a) : wpN P l.toArray Q S n done a w :=
  wpN_seg0 true hsel hQ (fun i L w' hi hL hun hx => ⟨⟨w', hx (by
    unfold needL
    cases hg : L.getD n true with
    | false => rfl
    | true =>
      exfalso
      have hn' : n < L.size := by
        rw [hL.1]
        exact of_decide_eq_true hn
      have hg' : L.getD n false = true := by simp [hn'] at hg ⊢; exact hg
      have h2 := sink_all hs hL hg' (n - i) i rfl (by have := hi rfl; omega)
      rw [getD_both hun] at h2
      cases h2)⟩, rfl⟩) is done a w hB (closedB_spec (lst_size _) hcl) (fun _ => hS) h
/-- What needs no world. -/
theorem wpN_pure {l : List Oper} {done : List Nat} {a : Act} {w : World} (is : List Nat) (hsel : Region.noSelect l.toArray = true) (hB : segB l.toArray n false done is = true) (hcl : closedB .any l.toArray (lst l.toArray done) = true)
    (hQ : ∀ c d v a w, Q (.panic c) (Act.put a d v) w → Q (.panic c) a w) (hS : needL n (lst l.toArray done) = true → S w) (h : wpQuiet P l.toArray (fun w' => ∃ x : World, w' = x) (fun a' => wpN P l.toArray Q S n (done ++ is) a' w) (pick l is) a) : wpN P l.toArray Q S n done a w :=
  wpN_seg0 false hsel hQ (fun i L w' _ _ _ _ => ⟨w', rfl⟩) is done a w hB (closedB_spec (lst_size _) hcl) hS h

def NextAt (P : Program) (l : List Oper) (Q : Exit → Act → World → Prop) (S : World → Prop) (n : Nat) (done : List Nat) (i : Nat) (o : Oper) (a : Act) (w : World) : Prop :=
  ∀ K : Act → World → Prop, (∀ a2 w2, (needL n (lst l.toArray (done ++ [i])) = true → S w2) ∧ wpN P l.toArray Q S n (done ++ [i]) a2 w2 → K a2 w2) →
    if Region.wanted o (yielded l.toArray a.tmps) = true then Oper.wp P o a w K Q else K (a.put o.dst undef) w

theorem NextAt.free {l : List Oper} {done : List Nat} {i : Nat} {o : Oper} {a : Act} {w : World} (hb : needL n (lst l.toArray (done ++ [i])) = false)
    (h : ∀ K : Act → World → Prop, (∀ a2 w2, wpN P l.toArray Q S n (done ++ [i]) a2 w2 → K a2 w2) → if Region.wanted o (yielded l.toArray a.tmps) = true then Oper.wp P o a w K Q else K (a.put o.dst undef) w) : NextAt P l Q S n done i o a w :=
  fun K hK => h K (fun a2 w2 hx => hK a2 w2 ⟨fun hy => (by rw [hb] at hy; cases hy), hx⟩)
theorem NextAt.held {l : List Oper} {done : List Nat} {i : Nat} {o : Oper} {a : Act} {w : World}
    (h : ∀ K : Act → World → Prop, (∀ a2 w2, S w2 → wpN P l.toArray Q S n (done ++ [i]) a2 w2 → K a2 w2) → if Region.wanted o (yielded l.toArray a.tmps) = true then Oper.wp P o a w K Q else K (a.put o.dst undef) w) : NextAt P l Q S n done i o a w :=
  fun K hK => h K (fun a2 w2 hs hx => hK a2 w2 ⟨fun _ => hs, hx⟩)

theorem wpN_one {l : List Oper} {done : List Nat} {a : Act} {w : World} (i : Nat) (o : Oper) (hr : decide (Region.ready .any l.toArray (lst l.toArray done) = [i] ∧ done.length < l.toArray.size) = true) (ho : l[i]? = some o) (h : NextAt P l Q S n done i o a w) : wpN P l.toArray Q S n done a w := by
  obtain ⟨hr, hlen⟩ := of_decide_eq_true hr
  unfold wpN
  rw [show l.toArray.size - done.length = (l.toArray.size - (done.length + 1)) + 1 by omega]
  refine ⟨fun e => (by rw [hr] at e; cases e), fun j hj => ?_⟩
  rw [hr] at hj
  obtain rfl : j = i := by simpa using hj
  refine wpOp_step (o := o) (by simpa using ho) (fun K' hK' => h K' (fun a2 w2 hx => hK' a2 w2 ?_))
  unfold wpN at hx
  rw [lst_snoc, List.length_append] at hx
  exact hx

theorem wpN_two {l : List Oper} {done : List Nat} {a : Act} {w : World} (i i2 : Nat) (o o2 : Oper) (hr : decide (Region.ready .any l.toArray (lst l.toArray done) = [i, i2] ∧ done.length < l.toArray.size) = true) (ho : l[i]? = some o) (ho2 : l[i2]? = some o2)
    (h : NextAt P l Q S n done i o a w) (h2 : NextAt P l Q S n done i2 o2 a w) : wpN P l.toArray Q S n done a w := by
  obtain ⟨hr, hlen⟩ := of_decide_eq_true hr
  unfold wpN
  rw [show l.toArray.size - done.length = (l.toArray.size - (done.length + 1)) + 1 by omega]
  refine ⟨fun e => (by rw [hr] at e; cases e), fun j hj => ?_⟩
  rw [hr] at hj
  have hj' : j = i ∨ j = i2 := by simpa using hj
  rcases hj' with rfl | rfl
  · refine wpOp_step (o := o) (by simpa using ho) (fun K' hK' => h K' (fun a2 w2 hx => hK' a2 w2 ?_))
    unfold wpN at hx
    rw [lst_snoc, List.length_append] at hx
    exact hx
  · refine wpOp_step (o := o2) (by simpa using ho2) (fun K' hK' => h2 K' (fun a2 w2 hx => hK' a2 w2 ?_))
    unfold wpN at hx
    rw [lst_snoc, List.length_append] at hx
    exact hx

theorem wpN_done {l : List Oper} {done : List Nat} {a : Act} {w : World} (hr : decide (Region.ready .any l.toArray (lst l.toArray done) = []) = true) (h : Q .normal a w) : wpN P l.toArray Q S n done a w := by
  have hr := of_decide_eq_true hr
  unfold wpN
  cases l.toArray.size - done.length with
  | zero => exact ⟨hr, h⟩
  | succ k => exact ⟨fun _ => h, fun j hj => by rw [hr] at hj; cases hj⟩

/-- Nothing else than an ordinary end. -/
theorem wp_normal {P : Program} {c : Code} {Q : Exit → Act → World → Prop} {a : Act} {w : World} (h : c.wp P (fun e a w => match e with | .normal => Q .normal a w | _ => False) a w) : c.wp P Q a w :=
  Code.wp_mono (fun e a w h => by cases e <;> first | exact h | exact h.elim) h

theorem wp_region_plan {id : Nat} {a : Act} {w : World} {l : List Oper} (n : Nat) (S : World → Prop) (hm : P.follows .mixedOrders = true) (h : wpN P l.toArray Q S n [] a w.drew) : (Code.region id l.toArray true).wp P Q a w :=
  wp_region_any hm (wpAny_of_plan _ _ _ _ h)

end

end
end Go.Proofs.YtfnmjlnpfoclbaaGreat
