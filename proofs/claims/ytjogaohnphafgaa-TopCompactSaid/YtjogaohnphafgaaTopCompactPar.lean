/-
  A region by a plan where unused operations, for which nobody waits, lie ahead of the sink: only those of X lead to it. No conditions.
  Rows that a call owns: a cell of one, one written, an element of several cells put at the end. No conditions.
  Several cells of a block stored to. No conditions.
-/
import Derived.Test.YtjogaohnphafgaaTopCompactPaq
import Derived.Test.YtjogaohnphafgaaTopCompactPae
import Derived.Test.YtjogaohnphafgaaTopCompactPab

namespace Go.Proofs.Ytjogaohnphafgaa
section
open Go Go.RowKit
set_option linter.unusedVariables false

section
variable {P : Program} {ops : Array Oper} {Q : Exit → Act → World → Prop} {md : Region.Mode} {S T : World → Prop} {n : Nat}

/-- Each number of X but n has a later one in X, not past n, that waits for it. -/
def sinkX (md : Region.Mode) (ops : Array Oper) (n : Nat) (X : List Nat) : Bool :=
  X.all fun i => decide (i = n) || X.any fun j => decide (i < j) && decide (j ≤ n) && Region.waitsFor md ops j i

theorem sinkX_all {X : List Nat} {listed : Array Bool} (hs : sinkX md ops n X = true) (inv : ClosedL md ops listed) (hn : listed.getD n false = true) : ∀ (d i : Nat), n - i = d → i ∈ X → i ≤ n → listed.getD i false = true := by
  intro d
  induction d using Nat.strongRecOn with
  | _ d ih =>
    intro i hd hX hi
    by_cases e : i = n
    · rw [e]; exact hn
    · have h1 := List.all_eq_true.1 hs i hX
      rw [Bool.or_eq_true] at h1
      rcases h1 with h1 | h1
      · exact absurd (of_decide_eq_true h1) e
      obtain ⟨j, hj, hj2⟩ := List.any_eq_true.1 h1
      rw [Bool.and_eq_true, Bool.and_eq_true, decide_eq_true_eq, decide_eq_true_eq] at hj2
      obtain ⟨⟨hlt, hjle⟩, hw⟩ := hj2
      obtain ⟨oj, hoj, ed, hed, hbd, hon⟩ := Region.waitsFor_spec hw
      have h2 := ih (n - j) (by omega) j rfl hj hjle
      rw [← hon]
      exact inv.2 j oj hoj h2 ed hed hbd

theorem wpN_segX0 {l : List Oper} {X : List Nat} (hsel : Region.noSelect l.toArray = true) (hQ : ∀ c d v a w, Q (.panic c) (Act.put a d v) w → Q (.panic c) a w)
    (hT : ∀ i (L : Array Bool) w', i ∈ X → i < n → ClosedL .any l.toArray L → L.getD i true = false → (needL n L = true → S w') → T w') :
    ∀ (is : List Nat) (done : List Nat) (a : Act) (w : World), (∀ i ∈ is, i ∈ X) → segB l.toArray n true done is = true → ClosedL .any l.toArray (lst l.toArray done) → (needL n (lst l.toArray done) = true → S w) →
      wpQuiet P l.toArray T (fun a' => wpN P l.toArray Q S n (done ++ is) a' w) (pick l is) a → wpN P l.toArray Q S n done a w := by
  intro is
  induction is with
  | nil =>
    intro done a w _ _ _ _ h
    have h : wpN P l.toArray Q S n (done ++ []) a w := h
    rwa [List.append_nil] at h
  | cons i is ih =>
    intro done a w hX hB hcl hS h
    simp only [segB, Bool.and_eq_true, decide_eq_true_eq] at hB
    obtain ⟨⟨⟨⟨⟨⟨hr, hf⟩, hp⟩, hne⟩, hlt⟩, hlen⟩, hrest⟩ := hB
    have hr' : i ∈ Region.ready .any l.toArray (lst l.toArray done) := by simpa using hr
    obtain ⟨_, oi, hoi, _⟩ := mem_ready.1 hr'
    rw [hoi] at hp
    simp only [Option.map_some, Option.getD_some] at hp
    have hol : l[i]? = some oi := by simpa using hoi
    have hpk : pick l (i :: is) = oi :: pick l is := by simp [pick, hol]
    rw [hpk] at h
    have hq : qOp P l.toArray T i (wpQuiet P l.toArray T (fun a' => wpN P l.toArray Q S n (done ++ (i :: is)) a' w) (pick l is)) a := by unfold qOp; simp only [hoi]; exact h
    obtain ⟨v, hy, hK⟩ := yieldsIn_of_qOp hoi hq
    have e : done ++ i :: is = (done ++ [i]) ++ is := by simp
    rw [e] at hK
    have H := ih (done ++ [i]) (a.put oi.dst v) w (fun k hk => hX k (List.mem_cons_of_mem _ hk)) hrest (by rw [lst_snoc]; exact hcl.set hr') (by rw [lst_snoc, needL_ne hne]; exact hS) hK
    unfold wpN at H ⊢
    rw [lst_snoc, List.length_append] at H
    have e2 : l.toArray.size - done.length = (l.toArray.size - (done.length + 1)) + 1 := by omega
    rw [e2]
    exact wpAnyP_first hoi (Region.noSelect_spec hsel) (fun c a w => hQ c oi.dst v a w) hne (fun L w' h1 h2 h3 => hT i L w' (hX i (List.mem_cons_self)) (by simpa using hlt) h1 h2 h3) _ _ _ _ hcl (Region.free_spec hoi hf) hr' (YieldsIn.toP hp hy) hS H

/-- What only reads, under S, the numbers in X. -/
theorem wpN_segX {l : List Oper} {done : List Nat} {a : Act} {w : World} (X is : List Nat) (hsel : Region.noSelect l.toArray = true) (hs : sinkX .any l.toArray n X = true) (hB : segB l.toArray n true done is = true) (hcl : closedB .any l.toArray (lst l.toArray done) = true)
    (hn : decide (n < l.toArray.size ∧ ∀ i ∈ is, i ∈ X) = true) (hQ : ∀ c d v a w, Q (.panic c) (Act.put a d v) w → Q (.panic c) a w) (hS : S w) (h : wpQuiet P l.toArray (fun w' => ∃ x : WIn S, w' = x.w) (fun a' => wpN P l.toArray Q S n (done ++ is) a' w) (pick l is) a) : wpN P l.toArray Q S n done a w :=
  wpN_segX0 hsel hQ (fun i L w' hX hi hL hun hx => ⟨⟨w', hx (by
    unfold needL
    cases hg : L.getD n true with
    | false => rfl
    | true =>
      exfalso
      have hn' : n < L.size := by
        rw [hL.1]
        exact (of_decide_eq_true hn).1
      have hg' : L.getD n false = true := by simp [hn'] at hg ⊢; exact hg
      have h2 := sinkX_all hs hL hg' (n - i) i rfl hX (by omega)
      rw [getD_both hun] at h2
      cases h2)⟩, rfl⟩) is done a w (of_decide_eq_true hn).2 hB (closedB_spec (lst_size _) hcl) (fun _ => hS) h

end

end
end Go.Proofs.Ytjogaohnphafgaa

namespace Go.Proofs.Ytjogaohnphafgaa
section
open Go.RowKit
set_option linter.unusedVariables false

theorem wrow_set {w : World} {B e size n g cap : Nat} {xs : List Value} (h : w.ownsRow B e size (.slice (some ⟨g, 0, none⟩) n cap) n xs) (j : Nat) (u : Value) : (w.setCell ⟨g, j, none⟩ u).ownsRow B e size (.slice (some ⟨g, 0, none⟩) n cap) n (xs.set j u) := by
  refine ⟨by rw [List.length_set]; exact h.1, ?_⟩
  rcases h.2 with ⟨h1, h2⟩ | ⟨g', cap', cur, h1, hb, hg, hn, hm, hs, ht⟩
  · cases h1
  · simp only [Value.slice.injEq, Option.some.injEq, Addr.mk.injEq, and_true] at h1
    obtain ⟨rfl, _, rfl⟩ := h1
    refine Or.inr ⟨g, cap, cur.setIfInBounds j u, rfl, hb, block_setCell hg j u, hn, hm, by simpa using hs, ?_⟩
    rw [Array.toList_setIfInBounds, List.take_set, ht]
theorem wrow_cell {w : World} {B e size n c : Nat} {a : Option Addr} {xs : List Value} (h : w.ownsRow B e size (.slice a n c) n xs) {j : Nat} {u : Value} (hu : xs[j]? = some u) : ∃ g, a = some ⟨g, 0, none⟩ ∧ w.cell? ⟨g, j, none⟩ = some u ∧ w.frozen? ⟨g, j, none⟩ = false := by
  rcases h.2 with ⟨hv, h0⟩ | ⟨g, cap, cur, hv, _, hg, _⟩
  · have := h.1
    have hj := (List.getElem?_eq_some_iff.1 hu).1
    rw [h0, Nat.zero_mul] at this
    omega
  · simp only [Value.slice.injEq] at hv
    obtain ⟨rfl, _, rfl⟩ := hv
    have := h.cells (g := g) rfl j _ hu
    have e1 : (⟨g, 0, none⟩ : Addr).add j = ⟨g, j, none⟩ := by unfold Addr.add; split <;> simp_all
    rw [e1] at this
    exact ⟨g, rfl, this, free_of hg j⟩

theorem wrow_sh {w : World} {B e size n : Nat} {v : Value} {xs : List Value} (h : w.ownsRow B e size v n xs) : ∃ a c, v = .slice a n c := by
  rcases h.2 with ⟨rfl, rfl⟩ | ⟨g, cap, cur, rfl, _⟩
  · exact ⟨_, _, rfl⟩
  · exact ⟨_, _, rfl⟩
/-- 'append(s, e)', where e's cells lie in the block just made. -/
theorem wpList_append_w {P : Program} {ops : Array Oper} {rest : List Oper} {o : Oper} {a : Act} {Q : Exit → Act → World → Prop} (hgd : o.guard = none) (s x : Operand) (t : TypeId)
    (ho : o.op = .call { callee := .builtin .append, args := #[s, x], argTypes := #[t, t] })
    (base : Nat) (e : TypeId) (i : TypeInfo) (z : Value) (size bytes : Nat) (ht : P.underlying t = some (.slice e)) (hi : P.info? e = some i) (hz : i.zero = some z)
    (hsize : i.size = size) (hby : i.bytes = bytes) (hzs : z.cells.size = size) (hsz : 0 < size)
    (v : Value) (n : Nat) (xs : List Value) (wr : World) (e' : TypeId) (us : List Value) (hs : a.eval s = v) (hown : wr.ownsRow base e size v n xs)
    (hx : a.eval x = .slice (some ⟨wr.heap.size, 0, none⟩) 1 1) (hl : us.length = size) (h1 : ∀ u ∈ us, u.oneCell' = true)
    (h63 : n + 1 ≤ maxLen) (hbytes : (n + 1) * bytes ≤ 140737488355328) (hbase : base ≤ wr.heap.size)
    (h : ∀ v' w', w'.ownsRow base e size v' (n + 1) (xs ++ us) → wr.grownBy w' v.ownBlock → Below base wr w' → wpList P ops Q rest (a.put o.dst v') w') :
    wpList P ops Q (o :: rest) a (wr.alloc (.cells us.toArray e')) := by
  refine wpList_append_own _ hgd s x t ho base e i z size bytes ht hi hz hsize hby hzs hsz v n xs hs (hown.alloc _) ⟨wr.heap.size, 0, none⟩ 1 1 us hx (by omega) ?_ h1 h63 hbytes (by simp; omega) ?_
  · intro j u hj
    have e1 : (⟨wr.heap.size, 0, none⟩ : Addr).add j = ⟨wr.heap.size, j, none⟩ := by unfold Addr.add; split <;> simp_all
    rw [e1, cell_of (heap_alloc_new wr _)]
    simpa using hj
  · intro v' w' hown' hg _
    refine h v' w' hown' ?_ ?_
    · exact ⟨hg.os, hg.tape, hg.output, Nat.le_trans (by simp) hg.size, fun k hk hne => (hg.block k (by simp; omega) hne).trans (heap_alloc_old wr _ hk)⟩
    · exact ((Below.refl base wr).alloc hbase _).grown hg (by simp; omega) (fun q hq => (hown.lt q hq).1)

theorem row_low {w : World} {B B' e size n : Nat} {v : Value} {xs : List Value} (h : w.ownsRow B e size v n xs) (hB : B' ≤ B) : w.ownsRow B' e size v n xs := by
  refine ⟨h.1, ?_⟩
  rcases h.2 with hn | ⟨g, cap, cur, rfl, hb, rest⟩
  · exact .inl hn
  · exact .inr ⟨g, cap, cur, rfl, Nat.le_trans hB hb, rest⟩
theorem row_kept {w w' : World} {B e size n : Nat} {v : Value} {zs : List Value} (h : w.ownsRow B e size v n zs) (hb : Below w.heap.size w w') : w'.ownsRow B e size v n zs := ownsRow_same h (fun k hk => hb.block k (h.lt k hk).2)

end
end Go.Proofs.Ytjogaohnphafgaa

namespace Go.Proofs.Ytjogaohnphafgaa
section
open Go.RowKit
set_option linter.unusedVariables false

theorem heap_setCells_other (b : Nat) : ∀ (vs : List Value) (o : Nat) (w : World) (k : Nat), k ≠ b → (w.setCells b o vs).heap[k]? = w.heap[k]?
  | [], _, _, _, _ => rfl
  | v :: vs, o, w, k, h => (heap_setCells_other b vs (o + 1) _ k h).trans (Below.heap_setCell w ⟨b, o, none⟩ v k h)
theorem size_setCells (b : Nat) : ∀ (vs : List Value) (o : Nat) (w : World), (w.setCells b o vs).heap.size = w.heap.size
  | [], _, _ => rfl
  | v :: vs, o, w => (size_setCells b vs (o + 1) _).trans (by simp [World.setCell])
theorem setCells_rest (b : Nat) : ∀ (vs : List Value) (o : Nat) (w : World), (w.setCells b o vs).os = w.os ∧ (w.setCells b o vs).tape = w.tape ∧ (w.setCells b o vs).output = w.output
  | [], _, _ => ⟨rfl, rfl, rfl⟩
  | v :: vs, o, w => setCells_rest b vs (o + 1) _
theorem block_setCells {b : Nat} {t : TypeId} : ∀ (vs : List Value) (o : Nat) (w : World) (cur : Array Value), w.heap[b]? = some (.cells cur t (0, 0)) → o + vs.length ≤ cur.size →
    ∃ cur', (w.setCells b o vs).heap[b]? = some (.cells cur' t (0, 0)) ∧ cur'.size = cur.size ∧ cur'.toList = cur.toList.take o ++ vs ++ cur.toList.drop (o + vs.length)
  | [], o, w, cur, h, _ => ⟨cur, h, rfl, by simp⟩
  | v :: vs, o, w, cur, h, hl => by
    simp at hl
    obtain ⟨cur', h1, h2, h3⟩ := block_setCells vs (o + 1) (w.setCell ⟨b, o, none⟩ v) (cur.setIfInBounds o v) (block_setCell h o v) (by simp; omega)
    refine ⟨cur', h1, by simpa using h2, ?_⟩
    rw [h3, Array.toList_setIfInBounds]
    have ho : o < cur.toList.length := by simp; omega
    rw [List.drop_set_of_lt (by omega), List.take_add_one, List.take_set_of_le (by omega), List.getElem?_set_self ho]
    simp [Nat.add_comm, Nat.add_left_comm]

end
end Go.Proofs.Ytjogaohnphafgaa
