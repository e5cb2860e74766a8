/-
  A region that draws its order, in a round of a range over a function: by a plan. No conditions.
  The rounds of Push: what they find and what they leave. Conditions: numbers in their bounds.
-/
import Derived.RangeFuncNested
import Derived.RangeFuncCalls
import Derived.OrdersIn
import Derived.TacticsIn
import Derived.Test.YtfnmjlnpfoclbaaGreatQueueRunsPaq

namespace Go.Proofs.YtfnmjlnpfoclbaaGreat
section
open Go Go.RowKit
set_option linter.unusedVariables false

section
variable {P : Program} {ops : Array Oper} {Q : Exit → Act → World → Prop} {md : Region.Mode} {S T : World → Prop} {n : Nat}

theorem oper_round (l m : Nat) {o : Oper} {a : Act} {w : World} {K : Act → World → Prop} (hnd : ∀ c, o.op ≠ .defer c) (h : o.wp P a w K Q) : o.wpIn (Fence.wide.inRound l) m P a w K Q := by
  refine ⟨fun _ _ => trivial, ?_⟩
  rw [Fence.inRound_round, Oper.semAt_some _ _ _ hnd]
  unfold Oper.wp at h
  generalize (execOp a.eval o).run P w = r at *
  cases r with
  | ok x w' =>
    cases x <;> simp only [Oper.upon, Oper.uponIn] at h ⊢
    case value => exact h
    case skip => exact h
    case defer => exact h
    case enter f args => exact ⟨(fun hx => by cases hx), CallsIn.inRound l (callsIn_wide.2 h)⟩
    case row row args =>
      refine ⟨(fun hx => by cases hx), fun c cs _ => ?_⟩
      obtain ⟨v, w2, h1, h2⟩ := h c cs
      exact ⟨v, w2, h1, stepsIn_wide.2 h2⟩
  | halt x w' => cases x <;> simp only [Oper.upon, Oper.uponIn] at h ⊢ <;> exact h

def noDefer (ops : Array Oper) : Bool := ops.all fun o => match o.op with | .defer .. => false | _ => true
theorem noDefer_spec (h : noDefer ops = true) (j : Nat) (o : Oper) (ho : ops[j]? = some o) (c : Call) : o.op ≠ .defer c := by
  intro heq
  have := Array.all_eq_true_iff_forall_mem.1 h o (Array.mem_of_getElem? ho)
  simp [heq] at this

theorem wpAnyIn_round (l m : Nat) (hnd : noDefer ops = true) (hL : ¬ LetsOut Q) : ∀ (fuel : Nat) (listed : Array Bool) (a : Act) (w : World), wpAny P md ops Q fuel listed a w → wpAnyIn (Fence.wide.inRound l) m P md ops Q fuel listed a w
  | 0, _, _, _, h => h
  | fuel + 1, listed, a, w, h => ⟨h.1, fun i hi => by
    have h1 := h.2 i hi
    unfold wpOp at h1
    unfold wpOpIn
    split
    · rename_i ho; simp only [ho] at h1; exact wpAnyIn_round l m hnd hL _ _ _ _ h1
    · rename_i o ho
      simp only [ho] at h1
      split
      · rename_i hw
        simp only [hw, if_true] at h1
        rcases h1 with h1 | ⟨_, h1⟩
        · exact oper_round l m (noDefer_spec hnd i o ho) (Oper.wp_mono (fun a w hx => wpAnyIn_round l m hnd hL _ _ _ _ hx) h1)
        · exact absurd h1 hL
      · rename_i hw
        simp only [hw] at h1
        exact ⟨fun _ _ => trivial, wpAnyIn_round l m hnd hL _ _ _ _ h1⟩⟩

theorem wpIn_region_plan {id m : Nat} (lr : Nat) {a : Act} {w : World} {l : List Oper} (n : Nat) (S : World → Prop) (hm : P.follows .mixedOrders = true) (hnd : noDefer l.toArray = true)
    (h : wpN P l.toArray (fun e a w => match e with | .normal => Q .normal a w | _ => False) S n [] a w.drew) : (Code.region id l.toArray true).wpIn (Fence.wide.inRound lr) m P Q a w :=
  Code.wpIn_mono (fun e a w h => by cases e <;> first | exact h | exact h.elim) (wpIn_region_any hm (wpAnyIn_round lr m hnd (fun ⟨_, _, hx⟩ => hx) _ _ _ _ (wpAny_of_plan _ _ _ _ h)))

end

end
end Go.Proofs.YtfnmjlnpfoclbaaGreat

namespace Go.Proofs.YtfnmjlnpfoclbaaGreat
section
open Go.RowKit Go.Shelf
set_option linter.unusedVariables false

def partZ (zs : List Int) (size j : Nat) : List Int := (zs.drop (j * size)).take size
theorem partZ_len (zs : List Int) (size j : Nat) : (partZ zs size j).length = min size (zs.length - j * size) := by unfold partZ; rw [List.length_take, List.length_drop]
theorem partZ_flat (zs : List Int) (size : Nat) : ∀ k, (List.range k).flatMap (partZ zs size) = zs.take (k * size)
  | 0 => by simp
  | k + 1 => by
    rw [List.range_succ, List.flatMap_append, partZ_flat zs size k]
    simp only [List.flatMap_cons, List.flatMap_nil, List.append_nil, partZ]
    rw [Nat.succ_mul, List.take_add]

/-- The parts of what is left of a row. -/
theorem chunk_seq {w : World} {B N sp gn M : Nat} {la : Option Addr} {lc : Nat} {zs : List Int} (hrow : w.ownsRow B 5 1 (.slice la N lc) N (zs.map (Value.int .u8))) (hz : zs.length = N) (hN : N ≤ 100000) (hsp : sp ≤ N) (hg1 : 1 ≤ gn) (hg2 : gn ≤ 100000) (hM : Parts' (N - sp) gn M)
    {Bs Bn : Nat} (hBs : w.heap[Bs]? = some (.cells #[.slice (if lc = sp then la else Option.map (fun x => x.add sp) la) (N - sp) (lc - sp)] 42 (0, 0))) (hBn : w.heap[Bn]? = some (.cells #[.int .i64 gn] 3 (0, 0))) :
    ∃ b off, SeqStopsK Fence.wide 8 Tryz.prog 89 #[.pointer (some ⟨Bs, 0, none⟩), .pointer (some ⟨Bn, 0, none⟩)] (fun j : Nat => #[chunkPart b off (N - sp) gn j]) (KpC Bs Bn) (fun ys => ys = List.range M) (fun pre => ∃ k, k ≤ M ∧ pre = List.range k) M w ∧
      ∀ W j, W.ownsRow B 5 1 (.slice la N lc) N (zs.map (Value.int .u8)) → Reads W .u8 (chunkPart b off (N - sp) gn j) (partZ (zs.drop sp) gn j) := by
  by_cases h0 : N - sp = 0
  · have hM0 : M = 0 := by
      rcases Nat.eq_zero_or_pos M with h | h
      · exact h
      · have := hM.2 0 h; omega
    subst hM0
    rw [h0] at hBs ⊢
    refine ⟨0, 0, chunk_stops0 8 Bs Bn 0 0 _ gn _ hg1 w hBs, fun W j _ => ?_⟩
    have e : partZ (zs.drop sp) gn j = [] := by
      apply List.eq_nil_of_length_eq_zero
      rw [partZ_len, List.length_drop]; omega
    rw [e]
    exact ⟨_, _, by unfold chunkPart; rw [Nat.zero_sub, Nat.min_zero]; rfl, by simp, fun h => absurd rfl h⟩
  · obtain ⟨g, rfl, hcap, hcm⟩ : ∃ g, la = some ⟨g, 0, none⟩ ∧ N ≤ lc ∧ lc ≤ 9223372036854775807 := by
      rcases hrow.2 with ⟨hh, _⟩ | ⟨g, cap, cur, hh, _, _, h2, h3, _⟩
      · simp only [Value.slice.injEq] at hh; omega
      · simp only [Value.slice.injEq, true_and] at hh
        obtain ⟨rfl, rfl⟩ := hh
        exact ⟨g, rfl, h2, by unfold maxLen at h3; omega⟩
    have e1 : (if lc = sp then some (⟨g, 0, none⟩ : Addr) else Option.map (fun x : Addr => x.add sp) (some (⟨g, 0, none⟩ : Addr))) = some ⟨g, sp, none⟩ := by
      rw [if_neg (by omega)]
      show some (Addr.add _ _) = _
      rw [qadd_spot, Nat.zero_add]
    rw [e1] at hBs
    refine ⟨g, sp, chunk_stops 8 (by omega) Bs Bn g sp (N - sp) (lc - sp) gn M hg1 hg2 (by omega) (by omega) (by omega) hM w hBs hBn, fun W j hW => ?_⟩
    have hR := Reads.own (k := .u8) (by rw [hz]; exact hW) (by omega)
    obtain ⟨a', c', he, _, hne⟩ := hR
    simp only [Value.slice.injEq] at he
    obtain ⟨rfl, _, _⟩ := he
    have hl : (partZ (zs.drop sp) gn j).length = min gn (N - sp - j * gn) := by rw [partZ_len, List.length_drop, hz]
    refine ⟨some ⟨g, sp + j * gn, none⟩, min gn (N - sp - j * gn), by unfold chunkPart; rw [hl], by rw [hl]; have := Nat.min_le_left gn (N - sp - j * gn); omega, fun hx => ⟨g, sp + j * gn, rfl, fun i hi => ?_⟩⟩
    rw [hl] at hi
    obtain ⟨b', o', hb, hh⟩ := hne (by intro e; rw [e] at hz; simp at hz; omega)
    simp only [Option.some.injEq, Addr.mk.injEq, and_true] at hb
    obtain ⟨rfl, rfl⟩ := hb
    have h1 := Nat.lt_min.1 hi
    have := hh (sp + j * gn + i) (by rw [hz]; omega)
    rw [Nat.zero_add] at this
    rw [this]
    unfold partZ
    rw [List.getD_eq_getElem?_getD, List.getD_eq_getElem?_getD, List.getElem?_take, if_pos h1.1, List.getElem?_drop, List.getElem?_drop, Nat.add_assoc]

/-- The chunk that a part makes. -/
def newCh (gn : Nat) (zs : List Int) (b x : Nat) : QCh := ⟨b, splice (zeros gn) 0 (partZ zs gn x), 0, (partZ zs gn x).length⟩
def newChs (gn : Nat) (zs : List Int) (bs xs : List Nat) : List QCh := List.zipWith (newCh gn zs) bs xs
theorem newChs_len (gn : Nat) (zs : List Int) (bs xs : List Nat) (h : bs.length = xs.length) : (newChs gn zs bs xs).length = xs.length := by simp [newChs, h]
theorem newChs_snoc (gn : Nat) (zs : List Int) (bs xs : List Nat) (b x : Nat) (h : bs.length = xs.length) : newChs gn zs (bs ++ [b]) (xs ++ [x]) = newChs gn zs bs xs ++ [newCh gn zs b x] := by
  unfold newChs
  rw [List.zipWith_append h]
  rfl

/-- Between two rounds of Push. -/
def PushI (w9 : World) (I : QuId) (L2 : List QCh) (gn : Nat) (bst : BookSt) (N : Nat) (F G : Nat → Prop) (zs : List Int) (pre : List Nat) (W : World) : Prop :=
  ∃ (bs : List Nat) (F' : Nat → Prop), bs.length = pre.length ∧ (∀ b ∈ bs, w9.heap.size ≤ b) ∧
    QR W I (L2 ++ newChs gn zs bs pre) bst N F' G ∧ (∀ k, F' k → F k ∨ (w9.heap.size ≤ k ∧ ∃ o : Obj, W.heap[k]? = some o ∧ o.isCells = true)) ∧ Touch F w9 W

theorem QR.grown {w w' : World} {I : QuId} {L : List QCh} {bst : BookSt} {N : Nat} {F G : Nat → Prop} {row : Option Nat} (h : QR w I L bst N F G) (hg : w.grownBy w' row) (hF : ∀ k, F k → row ≠ some k) (hG : ∀ k, G k → row ≠ some k) : QR w' I L bst N F G := by
  obtain ⟨cv, hm⟩ := h.qu
  have hs := hg.size
  exact ⟨⟨cv, hm.same (fun k hk hl => hg.block k hl (fun e => hF k hk e.symm))⟩, h.bk.same (fun k hk hl => hg.block k hl (fun e => hG k hk e.symm)), h.dis, fun k hk => by have := h.fl k hk; omega, fun k hk => by have := h.gl k hk; omega, h.pol, h.sz, h.good, h.ok⟩

theorem PushI.own {w9 : World} {I : QuId} {L2 : List QCh} {gn N : Nat} {bst : BookSt} {F G : Nat → Prop} {zs : List Int} (hF : ∀ k, F k → k < w9.heap.size) (hG : ∀ k, G k → k < w9.heap.size) : OwnFrom w9.heap.size (PushI w9 I L2 gn bst N F G zs) := by
  rintro pre W W' row ⟨bs, F', h1, h2, qb, hF', ht⟩ hg hr
  have hne : ∀ k, (F k ∨ (w9.heap.size ≤ k ∧ ∃ o : Obj, W.heap[k]? = some o ∧ o.isCells = true)) → row ≠ some k := fun k hk e => by
    obtain ⟨r1, o, r2, r3⟩ := hr k e
    rcases hk with hk | ⟨_, o', r4, r5⟩
    · have := hF k hk; omega
    · rw [r2] at r4
      cases r4
      rw [r3] at r5
      cases r5
  refine ⟨bs, F', h1, h2, qb.grown hg (fun k hk => hne k (hF' k hk)) (fun k hk e => by have := hG k hk; have := (hr k e).1; omega), fun k hk => (hF' k hk).imp id (fun ⟨x1, o, x2, x3⟩ => ⟨x1, o, ?_, x3⟩), ht.grown hg (fun k e => Or.inr (hr k e).1)⟩
  rw [← x2]
  exact hg.block k (Array.getElem?_eq_some_iff.1 x2).1 (fun e => hne k (hF' k hk) e.symm)

/-- The blocks that a queue really is. -/
def onlyQ (I : QuId) (L : List QCh) (cv : Value) (k : Nat) : Prop := k = I.r ∨ cv.ownBlock = some k ∨ ∃ c ∈ L, k = c.b
theorem QuMem.only {w : World} {F : Nat → Prop} {I : QuId} {L : List QCh} {cv : Value} (h : QuMem w F I L cv) : QuMem w (onlyQ I L cv) I L cv where
  self := h.self
  fr := Or.inl rfl
  crow := h.crow
  fc := fun k hk => Or.inr (Or.inl hk)
  mem := fun c hc => ⟨(h.mem c hc).1, Or.inr (Or.inr ⟨c, hc, rfl⟩)⟩
  inj := h.inj
theorem QuMem.ofOnly {w : World} {F : Nat → Prop} {I : QuId} {L : List QCh} {cv : Value} (h : QuMem w F I L cv) {k : Nat} (hk : onlyQ I L cv k) : F k := by
  rcases hk with rfl | hk | ⟨c, hc, rfl⟩
  · exact h.fr
  · exact h.fc k hk
  · exact (h.mem c hc).2
theorem QuMem.onlyCells {w : World} {F : Nat → Prop} {I : QuId} {L : List QCh} {cv : Value} (h : QuMem w F I L cv) {k : Nat} (hk : onlyQ I L cv k) : ∃ o : Obj, w.heap[k]? = some o ∧ o.isCells = true := by
  rcases hk with rfl | hk | ⟨c, hc, rfl⟩
  · exact ⟨_, h.self, rfl⟩
  · obtain ⟨cur, hcur⟩ := row_block h.crow hk
    exact ⟨_, hcur, rfl⟩
  · exact ⟨_, (h.mem c hc).1, rfl⟩

/-- A round: a chunk more. -/
theorem PushI.round {w9 W W2 w' : World} {I : QuId} {L2 : List QCh} {gn M N : Nat} {bst : BookSt} {F G : Nat → Prop} {zs ys : List Int} {pre : List Nat} {x : Nat} (hlt : pre.length < M) (hLM : L2.length + M ≤ 500) (hg2 : gn ≤ 100000) (hF9 : ∀ k, F k → k < w9.heap.size) (hIF : F I.r)
    {bs : List Nat} {F' : Nat → Prop} (h1 : bs.length = pre.length) (h2 : ∀ b ∈ bs, w9.heap.size ≤ b)
    (qb : QR W I (L2 ++ newChs gn zs bs pre) bst N F' G) (hF' : ∀ k, F' k → F k ∨ (w9.heap.size ≤ k ∧ ∃ o : Obj, W.heap[k]? = some o ∧ o.isCells = true)) (ht : Touch F w9 W) {cv : Value} (hm : QuMem W F' I (L2 ++ newChs gn zs bs pre) cv)
    (hys : ys = partZ zs gn x) (hl : ys.length ≤ gn) (hrow : byteRow W2 W.heap.size (splice (zeros gn) 0 ys)) (hT : Touch (fun k => k = W.heap.size) W W2) {g cap : Nat}
    (hown : w'.ownsRow 0 103 3 (.slice (some ⟨g, 0, none⟩) ((L2 ++ newChs gn zs bs pre).length + 1) cap) ((L2 ++ newChs gn zs bs pre).length + 1) ((L2 ++ newChs gn zs bs pre).flatMap QCh.cells ++ QCh.cells ⟨W.heap.size, splice (zeros gn) 0 ys, 0, ys.length⟩)) (hgr : W2.grownBy w' cv.ownBlock) (hgn : cv.ownBlock = some g ∨ W2.heap.size ≤ g)
    {Bs Bn : Nat} (hBs : Bs < w9.heap.size ∧ ¬ F Bs) (hBn : Bn < w9.heap.size ∧ ¬ F Bn) :
    KeepsOthers W (w'.setCell ⟨I.r, 7, none⟩ (.slice (some ⟨g, 0, none⟩) ((L2 ++ newChs gn zs bs pre).length + 1) cap)) ∧ KpC Bs Bn W (w'.setCell ⟨I.r, 7, none⟩ (.slice (some ⟨g, 0, none⟩) ((L2 ++ newChs gn zs bs pre).length + 1) cap)) ∧
      PushI w9 I L2 gn bst N F G zs (pre ++ [x]) (w'.setCell ⟨I.r, 7, none⟩ (.slice (some ⟨g, 0, none⟩) ((L2 ++ newChs gn zs bs pre).length + 1) cap)) := by
  have hxl : (L2 ++ newChs gn zs bs pre).length = L2.length + pre.length := by rw [List.length_append, newChs_len _ _ _ _ h1]
  have hsnoc : L2 ++ newChs gn zs (bs ++ [W.heap.size]) (pre ++ [x]) = (L2 ++ newChs gn zs bs pre) ++ [⟨W.heap.size, splice (zeros gn) 0 ys, 0, ys.length⟩] := by
    rw [newChs_snoc _ _ _ _ _ _ h1, ← List.append_assoc, hys]; rfl
  have hbs : ∀ b ∈ bs ++ [W.heap.size], w9.heap.size ≤ b := fun b hb => by
    rcases List.mem_append.1 hb with hb | hb
    · exact h2 b hb
    · have := List.mem_singleton.1 hb; have := ht.size; omega
  generalize L2 ++ newChs gn zs bs pre = Lx at *
  have hsl : (splice (zeros gn) 0 ys).length = gn := by rw [splice_len _ _ _ (by simp [zeros]; omega)]; simp [zeros]
  have hTT : Touch (fun k => ¬ F' k) W W2 := hT.mono (fun k e x => by have := qb.fl k x; omega)
  obtain ⟨M2, T2⟩ := hm.add ⟨W.heap.size, splice (zeros gn) 0 ys, 0, ys.length⟩ hTT (Nat.le_refl _) hrow hown hgr (fun k hk => by
    simp only [Value.ownBlock, Option.some.injEq] at hk
    subst hk
    exact hgn)
  replace T2 := T2.mono (G := F') (fun k hk => hk.elim (fun e => e ▸ hm.fr) (fun e => hm.fc k e))
  have hkv : (Value.slice (some ⟨g, 0, none⟩) (Lx.length + 1) cap).ownBlock = some g := rfl
  rw [hkv] at M2
  have s1 := hT.size
  have s2 := T2.size
  have hs9 := ht.size
  have hcvc : ∀ (j : Nat) (o : Obj), cv.ownBlock = some j → W2.heap[j]? = some o → o.isCells = true := fun j o e ho => by
    obtain ⟨cur, hcur⟩ := row_block hm.crow e
    have h1 : W2.heap[j]? = W.heap[j]? := hT.block j (lt_of hcur) (by have := lt_of hcur; omega)
    rw [h1, hcur] at ho
    cases ho
    rfl
  have K1 : KeepsOthers W W2 := ⟨s1, fun k o ho _ => (hT.block k (Array.getElem?_eq_some_iff.1 ho).1 (by have := (Array.getElem?_eq_some_iff.1 ho).1; omega)).trans ho⟩
  have hcell : ∀ k, (F' k ∨ some g = some k ∨ k = W.heap.size) → F k ∨ w9.heap.size ≤ k := fun k hk => by
    rcases hk with hk | hk | hk
    · exact (hF' k hk).imp id (fun x => x.1)
    · cases hk
      rcases hgn with e | e
      · exact (hF' _ (hm.fc _ e)).imp id (fun x => x.1)
      · exact Or.inr (by omega)
    · exact Or.inr (by omega)
  have T9 : Touch F w9 (w'.setCell ⟨I.r, 7, none⟩ (.slice (some ⟨g, 0, none⟩) (Lx.length + 1) cap)) := (ht.trans hT (fun k e => Or.inr (by omega))).trans T2 (fun k hk => hcell k (Or.inl hk))
  have hKp : ∀ k, k < w9.heap.size → ¬ F k → (w'.setCell ⟨I.r, 7, none⟩ (.slice (some ⟨g, 0, none⟩) (Lx.length + 1) cap)).heap[k]? = W.heap[k]? := fun k h1 h2 =>
    (T2.block k (by omega) (fun x => (hcell k (Or.inl x)).elim h2 (fun y => by omega))).trans (hT.block k (by omega) (by omega))
  have M3 := M2.only
  refine ⟨K1.trans ((KeepsOthers.of_grownBy hgr hcvc).trans (KeepsOthers.setCell _ _ _)), ⟨hKp _ hBs.1 hBs.2, hKp _ hBn.1 hBn.2⟩, bs ++ [W.heap.size], onlyQ I (Lx ++ [⟨W.heap.size, splice (zeros gn) 0 ys, 0, ys.length⟩]) (.slice (some ⟨g, 0, none⟩) (Lx.length + 1) cap), by simp [h1], hbs, ?_, ?_, T9⟩
  · rw [hsnoc]
    refine ⟨⟨_, M3⟩, qb.bk.same (fun k hk hl => (T2.block k (by omega) (fun x => qb.dis k x hk)).trans (hT.block k hl (by omega))), ?_, ?_, fun k hk => by have := qb.gl k hk; omega, qb.pol, qb.sz, qb.good, ⟨?_, ?_⟩⟩
    · intro k hk hGk
      rcases M2.ofOnly hk with x | x | x
      · exact qb.dis k x hGk
      · cases x
        rcases hgn with e | e
        · exact qb.dis _ (hm.fc _ e) hGk
        · have := qb.gl _ hGk; omega
      · have := qb.gl _ hGk
        have x : k = W.heap.size := x
        omega
    · intro k hk
      obtain ⟨o, ho, _⟩ := M2.onlyCells hk
      exact (Array.getElem?_eq_some_iff.1 ho).1
    · simp; omega
    · intro c hc
      rcases List.mem_append.1 hc with hc | hc
      · exact qb.ok.2 c hc
      · obtain rfl := List.mem_singleton.1 hc
        exact ⟨Nat.zero_le _, by rw [hsl]; exact hl, by rw [hsl]; exact hg2⟩
  · intro k hk
    exact (hcell k (M2.ofOnly hk)).imp id (fun x => ⟨x, M2.onlyCells hk⟩)

end
end Go.Proofs.YtfnmjlnpfoclbaaGreat
