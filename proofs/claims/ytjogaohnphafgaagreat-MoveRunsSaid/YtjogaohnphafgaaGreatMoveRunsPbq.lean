/-
  A place, a length, a compaction are one: the plain part of MoveRuns. No conditions.
  Two rows more that show the same. No conditions.
  A region that draws its order: a load is taken first although its cell is stored to later in the region. No conditions.
-/
import Derived.Test.YtjogaohnphafgaaGreatMoveRunsPbp
import Derived.Test.YtjogaohnphafgaaGreatMoveRunsPag
import Derived.OrdersHeld
import Derived.Deep.RegionLaw

namespace Go.Proofs.YtjogaohnphafgaaGreat
section
open Go.RowKit
set_option linter.unusedVariables false

theorem plno_one {S : HpSt} {M n : Nat} {way e1 e2 : Int} (ha : S.bl.Pairwise apartB) (h1 : PlNo S M n way e1) (h2 : PlNo S M n way e2) : e1 = e2 := by
  obtain ⟨L, L', s1, s2, g1, c1⟩ := h1
  obtain ⟨K, K', t1, t2, g2, c2⟩ := h2
  rw [sorted_one t2 s2 ha] at c2
  rcases c1 with ⟨a1, a2⟩ | ⟨a1, a2, a3⟩ | ⟨a1, a2, z, a3, a4, a5, a6⟩ <;> rcases c2 with ⟨b1, b2⟩ | ⟨b1, b2, b3⟩ | ⟨b1, b2, z', b3, b4, b5, b6⟩ <;> omega
theorem plno_ok {S : HpSt} {M n : Nat} {way e : Int} {at' : Nat} {m : List Int} (ha : S.bl.Pairwise apartB) (h1 : PlNo S M n way e) (h2 : PlOk S M n way at' m) : False := by
  obtain ⟨L, L', s1, s2, g1, c1⟩ := h1
  obtain ⟨K, K', t1, t2, c2⟩ := h2
  have e1 : K = L := sorted_one t1 s1 ha
  have e2 : K' = L' := sorted_one t2 s2 ha
  subst e1 e2
  rcases c2 with ⟨g, g2, _⟩ | ⟨_, b1, b2, _, z, b3, b4, _⟩
  · rw [g1] at g2; cases g2
  · rcases c1 with ⟨a1, a2⟩ | ⟨a1, a2, a3⟩ | ⟨a1, a2, z', a3, a4, a5, a6⟩
    · omega
    · omega
    · rw [a3] at b3
      omega
theorem plok_one {S : HpSt} {M n : Nat} {way : Int} {a a' : Nat} {m m' : List Int} (ha : S.bl.Pairwise apartB) (h1 : PlOk S M n way a m) (h2 : PlOk S M n way a' m') : a = a' ∧ m = m' := by
  obtain ⟨L, L', s1, s2, c1⟩ := h1
  obtain ⟨K, K', t1, t2, c2⟩ := h2
  have e1 : K = L := sorted_one t1 s1 ha
  have e2 : K' = L' := sorted_one t2 s2 ha
  subst e1 e2
  rcases c1 with ⟨g, a1, a2, a3⟩ | ⟨a1, _, _, a2, z, a3, _, _, _, _, a4⟩ <;> rcases c2 with ⟨g', b1, b2, b3⟩ | ⟨b1, _, _, b2, z', b3, _, _, _, _, b4⟩
  · rw [a1] at b1
    simp only [Option.some.injEq] at b1
    subst b1
    exact ⟨by rw [a2, b2], by rw [a3, b3]⟩
  · rw [a1] at b1; cases b1
  · rw [a1] at b1; cases b1
  · rw [a3] at b3
    have e : z = z' := by omega
    subst e
    exact ⟨by rw [a2, b2], by rw [a4, b4]⟩
theorem stays_one {S : HpSt} {x : Blk} {n : Nat} {p q : Bool} (ha : S.bl.Pairwise apartB) (h1 : ∃ L, SortedL (lieL S.bl) L ∧ (decide (0 < x.len) && (gapsOf S.mem.length L).any (stB x n)) = p) (h2 : ∃ L, SortedL (lieL S.bl) L ∧ (decide (0 < x.len) && (gapsOf S.mem.length L).any (stB x n)) = q) : p = q := by
  obtain ⟨L, s1, e1⟩ := h1
  obtain ⟨L', s2, e2⟩ := h2
  rw [sorted_one s2 s1 ha] at e2
  exact e1.symm.trans e2
theorem rz_one {S : HpSt} {M n : Nat} {x y y' : Blk} {m m' : List Int} (ha : S.bl.Pairwise apartB) (h1 : RzOk S M x n y m) (h2 : RzOk S M x n y' m') : y = y' ∧ m = m' := by
  have st : ∀ {L}, 0 < x.len → SortedL (lieL S.bl) L → (gapsOf S.mem.length L).any (stB x n) = true → ∃ L, SortedL (lieL S.bl) L ∧ (decide (0 < x.len) && (gapsOf S.mem.length L).any (stB x n)) = true := fun {L} h0 hs h => ⟨L, hs, by rw [h, decide_eq_true h0]; rfl⟩
  rcases h1 with ⟨a1, a2, a3⟩ | ⟨a1, a2, ⟨L, a3, a4⟩, a5, a6⟩ | ⟨a1, a2, at1, m1, a3, _, _, a4, a5⟩ <;> rcases h2 with ⟨b1, b2, b3⟩ | ⟨b1, b2, ⟨L', b3, b4⟩, b5, b6⟩ | ⟨b1, b2, at2, m2, b3, _, _, b4, b5⟩
  · exact ⟨by rw [a2, b2], by rw [a3, b3]⟩
  · omega
  · omega
  · omega
  · exact ⟨by rw [a5, b5], by rw [a6, b6]⟩
  · exact absurd (stays_one ha (st a2 a3 a4) b2) (by simp)
  · omega
  · exact absurd (stays_one ha a2 (st b2 b3 b4)) (by simp)
  · obtain ⟨rfl, rfl⟩ := plok_one ha a3 b3
    exact ⟨by rw [a4, b4], by rw [a5, b5]⟩
theorem rz_no {S : HpSt} {M n : Nat} {x y : Blk} {m : List Int} {er : Int} (ha : S.bl.Pairwise apartB) (h0 : x.len < n) (h1 : ∃ L, SortedL (lieL S.bl) L ∧ (decide (0 < x.len) && (gapsOf S.mem.length L).any (stB x n)) = false) (h2 : PlNo S M n 1 er) (h3 : RzOk S M x n y m) : False := by
  rcases h3 with ⟨a1, _⟩ | ⟨_, a2, ⟨L, a3, a4⟩, _⟩ | ⟨_, _, at1, m1, a3, _⟩
  · omega
  · exact absurd (stays_one (q := true) ha h1 ⟨L, a3, by rw [a4, decide_eq_true a2]; rfl⟩) (by simp)
  · exact plno_ok ha h2 a3

/-- Empty blocks lie at 0. -/
def Zer (S : HpSt) : Prop := ∀ x ∈ S.bl, x.len = 0 → x.at' = 0
theorem zer_set {l : List Blk} {i : Nat} {y : Blk} (h : ∀ x ∈ l, x.len = 0 → x.at' = 0) (hy : y.len = 0 → y.at' = 0) : ∀ x ∈ l.set i y, x.len = 0 → x.at' = 0 := fun x hx h0 => by
  rcases List.mem_or_eq_of_mem_set hx with h1 | rfl
  · exact h x h1 h0
  · exact hy h0
theorem zer_cp : ∀ (l : List Blk) (S : HpSt) (a : Nat), (∀ x ∈ l, x.len ≠ 0) → Zer S → Zer (cpF S a l)
  | [], S, a, _, h => h
  | x :: l, S, a, hl, h => by
    unfold cpF
    split
    · exact zer_cp l S _ (fun y hy => hl y (List.mem_cons_of_mem _ hy)) h
    · cases hf : findB S.bl (x.h : Int) with
      | none => exact h
      | some p => exact zer_cp l _ _ (fun y hy => hl y (List.mem_cons_of_mem _ hy)) (zer_set h (fun e => absurd e (hl x List.mem_cons_self)))
theorem zer_rz {S : HpSt} {M n i : Nat} {x y : Blk} {m : List Int} (h : Zer S) (h1 : RzOk S M x n y m) : ∀ z ∈ S.bl.set i y, z.len = 0 → z.at' = 0 := by
  refine zer_set h (fun e => ?_)
  rcases h1 with ⟨a1, rfl, _⟩ | ⟨a1, a2, _, rfl, _⟩ | ⟨a1, _, at1, m1, _, _, _, rfl, _⟩
  · have e' : n = 0 := e
    show (if n = 0 then 0 else x.at') = 0
    rw [if_pos e']
  · have e' : n = 0 := e
    omega
  · have e' : n = 0 := e
    omega
/-- cpF leaves the rest. -/
theorem cpF_rest : ∀ (l : List Blk) (S : HpSt) (a : Nat), (cpF S a l).k = S.k ∧ (cpF S a l).s = S.s ∧ (cpF S a l).m = S.m ∧ (cpF S a l).closed = S.closed ∧ (cpF S a l).last = S.last
  | [], S, a => ⟨rfl, rfl, rfl, rfl, rfl⟩
  | x :: l, S, a => by
    unfold cpF
    split
    · exact cpF_rest l S _
    · cases hf : findB S.bl (x.h : Int) with
      | none => exact ⟨rfl, rfl, rfl, rfl, rfl⟩
      | some p => exact cpF_rest l _ _
theorem keep8_last8 {α : Type} (l : List α) (x : α) : keep8 (keep8 l ++ [x]) = keep8 (l ++ [x]) := by
  unfold keep8
  rw [List.length_append, List.length_append, List.length_drop]
  simp only [List.length_singleton]
  by_cases h : l.length ≤ 8
  · rw [Nat.sub_eq_zero_of_le h, List.drop_zero, Nat.sub_zero]
  · rw [← List.drop_append_of_le_length (by omega), List.drop_drop]
    congr 1
    omega

end
end Go.Proofs.YtjogaohnphafgaaGreat

namespace Go.Proofs.YtjogaohnphafgaaGreat
section
open Go.RowKit

def noR : Rel := fun _ _ _ _ => False
def addR (R : Rel) (g g' n : Nat) : Rel := fun b o c p => R b o c p ∨ (b = g ∧ c = g' ∧ o = p ∧ o < n)

theorem Twins.none (w : World) (B : Nat) : Twins w B noR :=
  ⟨fun _ _ _ _ h => h.elim, fun _ _ _ _ h => h.elim, fun _ _ _ _ _ _ h => h.elim, fun _ _ _ _ _ _ h => h.elim, fun _ _ _ _ _ _ _ _ h => h.elim⟩

theorem CellsAt.new (w : World) {B : Nat} (hB : B ≤ w.heap.size) : CellsAt (w.alloc (.cells #[.slice none 0 0, .slice none 0 0] 46)) B w.heap.size [] :=
  ⟨hB, _, _, heap_alloc_new w _, World.ownsRow_nil _ _ _ _, World.ownsRow_nil _ _ _ _, fun k hk => by simp [Value.ownBlock] at hk, by simp⟩

theorem Pr.mono {R R' : Rel} {xy : Value × Value} (h : Pr R xy) (hR : ∀ b o c p, R b o c p → R' b o c p) : Pr R' xy := by
  obtain ⟨p, q, len, cap, e, h1, h2, h3⟩ := h
  refine ⟨p, q, len, cap, e, h1, h2, fun h0 => ?_⟩
  obtain ⟨b, o, c, r, e1, e2, h4⟩ := h3 h0
  exact ⟨b, o, c, r, e1, e2, fun j hj => hR _ _ _ _ (h4 j hj)⟩
theorem Pr.nil (R : Rel) : Pr R (.slice none 0 0, .slice none 0 0) := ⟨none, none, 0, 0, rfl, Nat.le_refl _, by omega, fun h => absurd h (by omega)⟩
theorem Pr.new (R : Rel) (g g' len n : Nat) (h1 : len ≤ n) (h2 : n ≤ 140737488355200) : Pr (addR R g g' n) (.slice (some ⟨g, 0, none⟩) len n, .slice (some ⟨g', 0, none⟩) len n) :=
  ⟨_, _, len, n, rfl, h1, h2, fun _ => ⟨g, 0, g', 0, rfl, rfl, fun j hj => Or.inr ⟨rfl, rfl, rfl, by omega⟩⟩⟩

theorem Twins.lt {w : World} {B : Nat} {R : Rel} (h : Twins w B R) {b o c p : Nat} (hr : R b o c p) : b < w.heap.size ∧ c < w.heap.size := by
  obtain ⟨_, _, ⟨cs, h1⟩, ⟨ds, h2⟩⟩ := h.row _ _ _ _ hr
  exact ⟨lt_of h1, lt_of h2⟩

theorem Twins.add {w : World} {B : Nat} {R : Rel} (h : Twins w B R) {g g' : Nat} {cs : List Int} (hne : g ≠ g') (r1 : byteRow w g cs) (r2 : byteRow w g' cs) (hb : bytes cs) (b1 : B ≤ g) (b2 : B ≤ g')
    (hn : ∀ b o c p, R b o c p → b ≠ g ∧ b ≠ g' ∧ c ≠ g ∧ c ≠ g') : Twins w B (addR R g g' cs.length) := by
  refine ⟨?_, ?_, ?_, ?_, ?_⟩
  · rintro b o c p (hr | ⟨rfl, rfl, rfl, ho⟩)
    · exact h.val _ _ _ _ hr
    · have hz := hb (cs.getD o 0) (by rw [List.getD_eq_getElem?_getD, List.getElem?_eq_getElem ho]; simp)
      exact ⟨cs.getD o 0, hz.1, hz.2, r1.cell o ho, r2.cell o ho⟩
  · rintro b o c p (hr | ⟨rfl, rfl, rfl, ho⟩)
    · exact h.row _ _ _ _ hr
    · exact ⟨b1, b2, ⟨_, r1⟩, ⟨_, r2⟩⟩
  · rintro b o c p c' p' (hr | ⟨rfl, rfl, rfl, ho⟩) (hr' | ⟨e, rfl, rfl, ho'⟩)
    · exact h.one _ _ _ _ _ _ hr hr'
    · exact absurd e (hn _ _ _ _ hr).1
    · exact absurd rfl (hn _ _ _ _ hr').1
    · exact ⟨rfl, rfl⟩
  · rintro b o c p b' o' (hr | ⟨rfl, rfl, rfl, ho⟩) (hr' | ⟨rfl, e, rfl, ho'⟩)
    · exact h.inj _ _ _ _ _ _ hr hr'
    · exact absurd e (hn _ _ _ _ hr).2.2.2
    · exact absurd rfl (hn _ _ _ _ hr').2.2.2
    · exact ⟨rfl, rfl⟩
  · rintro b o c p b' o' c' p' (hr | ⟨rfl, rfl, rfl, ho⟩) (hr' | ⟨e1, e2, rfl, ho'⟩) ⟨e3, e4⟩
    · exact h.apart _ _ _ _ _ _ _ _ hr hr' ⟨e3, e4⟩
    · exact (hn _ _ _ _ hr).2.1 (e3.trans e2)
    · exact (hn _ _ _ _ hr').2.2.1 e3.symm
    · exact hne (e3.trans e2)

end
end Go.Proofs.YtjogaohnphafgaaGreat

namespace Go.Proofs.YtjogaohnphafgaaGreat
section
open Go.RowKit

section
variable {P : Program} {ops : Array Oper} {Q : Exit → Act → World → Prop} {md : Region.Mode} {S : World → Prop} {need : Array Bool → Bool}

/-- Whatever order is picked from here on, and S holds behind every operation as long as it is needed. -/
def wpAnyN (P : Program) (md : Region.Mode) (ops : Array Oper) (Q : Exit → Act → World → Prop) (S : World → Prop) (need : Array Bool → Bool) : Nat → Array Bool → Act → World → Prop
  | 0, listed, a, w => Region.ready md ops listed = [] ∧ Q .normal a w
  | fuel + 1, listed, a, w =>
    (Region.ready md ops listed = [] → Q .normal a w) ∧
    ∀ i ∈ Region.ready md ops listed, wpOp P ops Q i (fun a' w' => (need (listed.setIfInBounds i true) = true → S w') ∧ wpAnyN P md ops Q S need fuel (listed.setIfInBounds i true) a' w') a w

theorem wpAny_of_stage : ∀ (fuel : Nat) (listed : Array Bool) (a : Act) (w : World), wpAnyN P md ops Q S need fuel listed a w → wpAny P md ops Q fuel listed a w
  | 0, _, _, _, h => h
  | fuel + 1, _, _, _, h => ⟨h.1, fun i hi => wpOp_mono (fun a' w' h' => wpAny_of_stage fuel _ a' w' h'.2) (h.2 i hi)⟩

theorem wpAnyN_first {T : World → Prop} {i k : Nat} {oi : Oper} {v : Value} (hi : ops[i]? = some oi) (hsel : ∀ (j : Nat) (o : Oper) cs b, ops[j]? = some o → o.op ≠ .select cs b)
    (hQ : ∀ c a w, Q (.panic c) (a.put oi.dst v) w → Q (.panic c) a w) (hni : ∀ L : Array Bool, need (L.setIfInBounds i true) = need L)
    (hk : ∀ j oj, ops[j]? = some oj → j ≠ i → (∀ e ∈ oj.after, Region.binds md e = true → e.on ≠ i) → j ≠ k)
    (hT : ∀ (L : Array Bool) w', L.getD k true = false → (need L = true → S w') → T w') :
    ∀ (fuel : Nat) (listed : Array Bool) (a : Act) (w : World),
      (∀ j oj, ops[j]? = some oj → j ≠ i → listed.getD j true = false → (∀ e ∈ oj.after, Region.binds md e = true → e.on ≠ i) → oi.apart ops oj = true) →
      i ∈ Region.ready md ops listed → YieldsIf P ops T oi v a → listed.getD k true = false → (need listed = true → S w) →
      wpAnyN P md ops Q S need fuel (listed.setIfInBounds i true) (a.put oi.dst v) w → wpAnyN P md ops Q S need (fuel + 1) listed a w := by
  intro fuel
  induction fuel with
  | zero =>
    intro listed a w _ hr hy hkl hS H
    refine ⟨fun h => (by rw [h] at hr; cases hr), fun j hj => ?_⟩
    by_cases hji : j = i
    · subst hji; exact hy.wpOp hi (hT listed w hkl hS) ⟨fun hn => hS (by rw [← hni]; exact hn), H⟩
    · have := ready_mono hj hji
      rw [H.1] at this
      cases this
  | succ fuel ih =>
    intro listed a w hfree hr hy hkl hS H
    refine ⟨fun h => (by rw [h] at hr; cases hr), fun j hj => ?_⟩
    by_cases hji : j = i
    · subst hji; exact hy.wpOp hi (hT listed w hkl hS) ⟨fun hn => hS (by rw [← hni]; exact hn), H⟩
    · have h1 := H.2 j (ready_mono hj hji)
      obtain ⟨hjun, oj, hoj, hall⟩ := mem_ready.1 hj
      have hnot : ∀ e ∈ oj.after, Region.binds md e = true → e.on ≠ i := fun e he hb heq => by
        have h1 := hall e he hb
        have h0 := (mem_ready.1 hr).1
        rw [heq] at h1
        rcases Nat.lt_or_ge i listed.size with h' | h'
        · simp [h'] at h0 h1; rw [h0] at h1; cases h1
        · simp [Array.getElem?_eq_none h'] at h1
      have h2 := wpOp_putIf hoj (hfree j oj hoj hji hjun hnot) (fun cs b => hsel i oi cs b hi) (fun cs b => hsel j oj cs b hoj) hQ hy h1
      have hfree' : ∀ k ok, ops[k]? = some ok → k ≠ i → (listed.setIfInBounds j true).getD k true = false →
          (∀ e ∈ ok.after, Region.binds md e = true → e.on ≠ i) → oi.apart ops ok = true := fun k ok hk hki hun hno => by
        refine hfree k ok hk hki ?_ hno
        by_cases hjk : j = k
        · subst hjk; exact hjun
        · rw [getD_set_ne true hjk] at hun; exact hun
      have hjk : j ≠ k := hk j oj hoj hji hnot
      have hcomm : (listed.setIfInBounds i true).setIfInBounds j true = (listed.setIfInBounds j true).setIfInBounds i true := Array.setIfInBounds_comm _ _ (Ne.symm hji)
      refine wpOp_mono (fun a' w' h3 => ?_) h2
      have hn : need (listed.setIfInBounds j true) = true → S w' := fun hn => h3.2.1 (by rw [hcomm, hni]; exact hn)
      exact ⟨hn, ih (listed.setIfInBounds j true) a' w' hfree' (ready_mono hr (Ne.symm hji)) h3.1 (by rw [getD_set_ne true hjk]; exact hkl) hn (by rw [← hcomm]; exact h3.2.2)⟩

/-- Op k waits for op i. -/
def waitsFor (md : Region.Mode) (ops : Array Oper) (k i : Nat) : Bool := (ops[k]?.map fun o => o.after.any fun e => Region.binds md e && e.on == i).getD false

theorem waitsFor_ne {k i : Nat} (h : waitsFor md ops k i = true) (j : Nat) (oj : Oper) (hj : ops[j]? = some oj) (_ : j ≠ i) (hno : ∀ e ∈ oj.after, Region.binds md e = true → e.on ≠ i) : j ≠ k := by
  rintro rfl
  simp only [waitsFor, hj, Option.map_some, Option.getD_some] at h
  obtain ⟨e, he, hb⟩ := Array.any_eq_true'.1 h
  simp only [Bool.and_eq_true, beq_iff_eq] at hb
  exact hno e he hb.1 hb.2

/-- What yields in whatever world may be taken first. -/
theorem wpAnyN_take {i : Nat} {oi : Oper} {v : Value} {fuel : Nat} {listed : Array Bool} {a : Act} {w : World} (hi : ops[i]? = some oi)
    (hs : Region.noSelect ops = true) (hf : Region.free md ops listed i = true) (hr : (Region.ready md ops listed).contains i = true)
    (hni : ∀ L : Array Bool, need (L.setIfInBounds i true) = need L)
    (hQ : ∀ c a w, Q (.panic c) (a.put oi.dst v) w → Q (.panic c) a w) (hy : Yields P ops oi v a) (hS : need listed = true → S w)
    (h : wpAnyN P md ops Q S need fuel (listed.setIfInBounds i true) (a.put oi.dst v) w) : wpAnyN P md ops Q S need (fuel + 1) listed a w :=
  wpAnyN_first (T := fun _ => True) (k := i) hi (Region.noSelect_spec hs) hQ hni (fun _ _ _ h _ => h) (fun _ _ _ _ => trivial) fuel listed a w (Region.free_spec hi hf) (by simpa using hr) (hy.yieldsIf) (mem_ready.1 (by simpa using hr)).1 hS h

/-- A load may be taken first: what waits for it (operation k) has to come up before S need no longer hold. -/
theorem wpAnyN_load {i : Nat} (k : Nat) {oi : Oper} {v : Value} {fuel : Nat} {listed : Array Bool} {a : Act} {w : World} (hi : ops[i]? = some oi)
    (hs : Region.noSelect ops = true) (hf : Region.free md ops listed i = true) (hr : (Region.ready md ops listed).contains i = true)
    (hni : ∀ L : Array Bool, need (L.setIfInBounds i true) = need L) (hkn : ∀ L : Array Bool, L.getD k true = false → need L = true) (hkw : waitsFor md ops k i = true) (hkl : listed.getD k true = false)
    (hQ : ∀ c a w, Q (.panic c) (a.put oi.dst v) w → Q (.panic c) a w) (hy : YieldsIf P ops S oi v a) (hS : S w)
    (h : wpAnyN P md ops Q S need fuel (listed.setIfInBounds i true) (a.put oi.dst v) w) : wpAnyN P md ops Q S need (fuel + 1) listed a w :=
  wpAnyN_first (T := S) (k := k) hi (Region.noSelect_spec hs) hQ hni (waitsFor_ne hkw) (fun L _ hL hN => hN (hkn L hL)) fuel listed a w (Region.free_spec hi hf) (by simpa using hr) hy hkl (fun _ => hS) h

def AllReadyN (P : Program) (md : Region.Mode) (ops : Array Oper) (Q : Exit → Act → World → Prop) (S : World → Prop) (need : Array Bool → Bool) (fuel : Nat) (listed : Array Bool) (a : Act) (w : World) (rs : List Nat) : Prop :=
  ∀ i ∈ rs, wpOp P ops Q i (fun a' w' => (need (listed.setIfInBounds i true) = true → S w') ∧ wpAnyN P md ops Q S need fuel (listed.setIfInBounds i true) a' w') a w

theorem AllReadyN.nil {fuel : Nat} {listed : Array Bool} {a : Act} {w : World} : AllReadyN P md ops Q S need fuel listed a w [] := fun _ h => by cases h
theorem AllReadyN.cons {fuel : Nat} {listed : Array Bool} {a : Act} {w : World} {i : Nat} {o : Oper} {rs : List Nat} (ho : ops[i]? = some o)
    (h : ∀ K' : Act → World → Prop, (∀ a w, (need (listed.setIfInBounds i true) = true → S w) ∧ wpAnyN P md ops Q S need fuel (listed.setIfInBounds i true) a w → K' a w) → if Region.wanted o (yielded ops a.tmps) = true then Oper.wp P o a w K' Q else K' (a.put o.dst undef) w)
    (hs : AllReadyN P md ops Q S need fuel listed a w rs) : AllReadyN P md ops Q S need fuel listed a w (i :: rs) := fun j hj => by
  rcases List.mem_cons.1 hj with rfl | hj
  · exact wpOp_step ho h
  · exact hs j hj

theorem wpAnyN_ready {rs : List Nat} {fuel : Nat} {listed : Array Bool} {a : Act} {w : World} (hr : Region.ready md ops listed = rs) (hne : rs ≠ [])
    (h : AllReadyN P md ops Q S need fuel listed a w rs) : wpAnyN P md ops Q S need (fuel + 1) listed a w :=
  ⟨fun h0 => absurd (hr ▸ h0) hne, hr ▸ h⟩

theorem wpAnyN_done {listed : Array Bool} {a : Act} {w : World} (hr : Region.ready md ops listed = []) (h : Q .normal a w) :
    ∀ fuel, wpAnyN P md ops Q S need fuel listed a w
  | 0 => ⟨hr, h⟩
  | _ + 1 => ⟨fun _ => h, by rw [hr]; simp⟩

theorem wp_region_stage (S : World → Prop) (need : Array Bool → Bool) {id : Nat} {a : Act} {w : World} (hm : P.follows .mixedOrders = true)
    (h : wpAnyN P .any ops Q S need ops.size (Array.replicate ops.size false) a w.drew) : (Code.region id ops true).wp P Q a w :=
  wp_region_any hm (wpAny_of_stage _ _ _ _ h)

end

end
end Go.Proofs.YtjogaohnphafgaaGreat
