/-
  What QueueRuns keeps between two calls: two queues with their book, the reference's, the watched slices; how a call turns it. No conditions.
-/
import Derived.Test.YtfnmjlnpfoclbaaGreatQueueRunsPbl
import Derived.Test.YtfnmjlnpfoclbaaGreatQueueRunsPbn
namespace Go.Proofs.YtfnmjlnpfoclbaaGreat
open Go.RowKit
set_option linter.unusedVariables false

theorem celF_lt {w : World} {B c : Nat} {prs : List (Value × Value)} (h : CellsAt w B c prs) {k : Nat} (hk : CelF w c k) : k < w.heap.size := by
  obtain ⟨_, vo, vw, hc, ho, hw, _⟩ := h
  rcases hk with rfl | ⟨vo', vw', h1, h2⟩
  · exact lt_of hc
  · rw [hc] at h1
    simp at h1
    obtain ⟨rfl, rfl⟩ := h1
    rcases h2 with h2 | h2
    · exact (ho.lt k h2).2
    · exact (hw.lt k h2).2
theorem celF_low {w : World} {B c : Nat} {prs : List (Value × Value)} (h : CellsAt w B c prs) {k : Nat} (hk : CelF w c k) : B ≤ k := by
  obtain ⟨hB, vo, vw, hc, ho, hw, _⟩ := h
  rcases hk with rfl | ⟨vo', vw', h1, h2⟩
  · exact hB
  · rw [hc] at h1
    simp at h1
    obtain ⟨rfl, rfl⟩ := h1
    rcases h2 with h2 | h2
    · exact row_base ho h2
    · exact row_base hw h2
theorem cells_kept {w w' : World} {B c : Nat} {prs : List (Value × Value)} (h : CellsAt w B c prs) (hk : ∀ k, CelF w c k → w'.heap[k]? = w.heap[k]?) : CellsAt w' B c prs ∧ ∀ k, CelF w' c k → CelF w c k := by
  have h' := h
  obtain ⟨hB, vo, vw, hc, ho, hw, hs, hl⟩ := h
  have e := hk c (Or.inl rfl)
  refine ⟨⟨hB, vo, vw, e.trans hc, ownsRow_same ho (fun k h => hk k (Or.inr ⟨vo, vw, hc, Or.inl h⟩)), ownsRow_same hw (fun k h => hk k (Or.inr ⟨vo, vw, hc, Or.inr h⟩)), hs, hl⟩, fun k h => ?_⟩
  rcases h with h | ⟨a, b, h1, h2⟩
  · exact Or.inl h
  · exact Or.inr ⟨a, b, e.symm.trans h1, h2⟩

/-- The chunks that stand beside each other. -/
def CurQ (L M L' M' : List QCh) (x y : QCh) : Prop := (x, y) ∈ L.zip L' ∨ (x, y) ∈ M.zip M'
theorem zip_one : ∀ (l l' : List QCh) (x y x2 y2 : QCh), (l.map QCh.b).Nodup → (x, y) ∈ l.zip l' → (x2, y2) ∈ l.zip l' → x.b = x2.b → x = x2 ∧ y = y2
  | [], _, _, _, _, _, _, h, _, _ => by simp at h
  | a :: l, [], _, _, _, _, _, h, _, _ => by simp at h
  | a :: l, a' :: l', x, y, x2, y2, nd, h1, h2, e => by
    rw [List.map_cons, List.nodup_cons] at nd
    rw [List.zip_cons_cons] at h1 h2
    rcases List.mem_cons.1 h1 with h1 | h1 <;> rcases List.mem_cons.1 h2 with h2 | h2
    · simp only [Prod.mk.injEq] at h1 h2
      exact ⟨h1.1.trans h2.1.symm, h1.2.trans h2.2.symm⟩
    · simp only [Prod.mk.injEq] at h1
      exact absurd (List.mem_map.2 ⟨x2, (List.of_mem_zip h2).1, by rw [← e, h1.1]⟩) nd.1
    · simp only [Prod.mk.injEq] at h2
      exact absurd (List.mem_map.2 ⟨x, (List.of_mem_zip h1).1, by rw [e, h2.1]⟩) nd.1
    · exact zip_one l l' x y x2 y2 nd.2 h1 h2 e
theorem zip_inj : ∀ (l l' : List QCh) (x y x2 y2 : QCh), (l'.map QCh.b).Nodup → (x, y) ∈ l.zip l' → (x2, y2) ∈ l.zip l' → y.b = y2.b → x = x2 ∧ y = y2
  | [], _, _, _, _, _, _, h, _, _ => by simp at h
  | a :: l, [], _, _, _, _, _, h, _, _ => by simp at h
  | a :: l, a' :: l', x, y, x2, y2, nd, h1, h2, e => by
    rw [List.map_cons, List.nodup_cons] at nd
    rw [List.zip_cons_cons] at h1 h2
    rcases List.mem_cons.1 h1 with h1 | h1 <;> rcases List.mem_cons.1 h2 with h2 | h2
    · simp only [Prod.mk.injEq] at h1 h2
      exact ⟨h1.1.trans h2.1.symm, h1.2.trans h2.2.symm⟩
    · simp only [Prod.mk.injEq] at h1
      exact absurd (List.mem_map.2 ⟨y2, (List.of_mem_zip h2).2, by rw [← e, h1.2]⟩) nd.1
    · simp only [Prod.mk.injEq] at h2
      exact absurd (List.mem_map.2 ⟨y, (List.of_mem_zip h1).2, by rw [e, h2.2]⟩) nd.1
    · exact zip_inj l l' x y x2 y2 nd.2 h1 h2 e
theorem CurQ.iff {L M L' M' : List QCh} (hl : L.length = L'.length) (x y : QCh) : CurQ L M L' M' x y ↔ (x, y) ∈ (L ++ M).zip (L' ++ M') := by
  rw [List.zip_append hl, List.mem_append]; rfl
theorem CurQ.mem {L M L' M' : List QCh} {x y : QCh} (h : CurQ L M L' M' x y) : (x ∈ L ∨ x ∈ M) ∧ (y ∈ L' ∨ y ∈ M') := by
  rcases h with h | h
  · exact ⟨Or.inl (List.of_mem_zip h).1, Or.inl (List.of_mem_zip h).2⟩
  · exact ⟨Or.inr (List.of_mem_zip h).1, Or.inr (List.of_mem_zip h).2⟩
theorem zip_bare : ∀ (l l' : List QCh) (x y : QCh), SameQ l l' → (x, y) ∈ l.zip l' → x.bare = y.bare
  | [], _, _, _, _, h => by simp at h
  | a :: l, [], _, _, _, h => by simp at h
  | a :: l, a' :: l', x, y, hs, h => by
    unfold SameQ at hs
    simp only [List.map_cons, List.cons.injEq] at hs
    rw [List.zip_cons_cons] at h
    rcases List.mem_cons.1 h with h | h
    · simp only [Prod.mk.injEq] at h
      rw [h.1, h.2]; exact hs.1
    · exact zip_bare l l' x y hs.2 h
theorem CurQ.os {L M L' M' : List QCh} {x y : QCh} (hL : SameQ L L') (hM : SameQ M M') (h : CurQ L M L' M' x y) : x.os = y.os := by
  have e : x.bare = y.bare := h.elim (zip_bare _ _ _ _ hL) (zip_bare _ _ _ _ hM)
  have h2 := congrArg QCh.os e
  exact h2
theorem zip_left : ∀ (l l' : List QCh) (x : QCh), l.length = l'.length → x ∈ l → ∃ y, (x, y) ∈ l.zip l'
  | [], _, _, _, h => by simp at h
  | a :: l, [], _, hl, _ => by simp at hl
  | a :: l, a' :: l', x, hl, h => by
    rcases List.mem_cons.1 h with rfl | h
    · exact ⟨a', by simp⟩
    · obtain ⟨y, hy⟩ := zip_left l l' x (by simpa using hl) h
      exact ⟨y, by rw [List.zip_cons_cons]; exact List.mem_cons_of_mem _ hy⟩
theorem zip_right : ∀ (l l' : List QCh) (y : QCh), l.length = l'.length → y ∈ l' → ∃ x, (x, y) ∈ l.zip l'
  | _, [], _, _, h => by simp at h
  | [], a' :: l', _, hl, _ => by simp at hl
  | a :: l, a' :: l', y, hl, h => by
    rcases List.mem_cons.1 h with rfl | h
    · exact ⟨a, by simp⟩
    · obtain ⟨x, hx⟩ := zip_right l l' y (by simpa using hl) h
      exact ⟨x, by rw [List.zip_cons_cons]; exact List.mem_cons_of_mem _ hx⟩
theorem CurQ.left {L M L' M' : List QCh} {x : QCh} (hL : SameQ L L') (hM : SameQ M M') (h : x ∈ L ∨ x ∈ M) : ∃ y, CurQ L M L' M' x y := by
  rcases h with h | h
  · exact (zip_left _ _ _ hL.len h).imp fun _ => Or.inl
  · exact (zip_left _ _ _ hM.len h).imp fun _ => Or.inr
theorem CurQ.right {L M L' M' : List QCh} {y : QCh} (hL : SameQ L L') (hM : SameQ M M') (h : y ∈ L' ∨ y ∈ M') : ∃ x, CurQ L M L' M' x y := by
  rcases h with h | h
  · exact (zip_right _ _ _ hL.len h).imp fun _ => Or.inl
  · exact (zip_right _ _ _ hM.len h).imp fun _ => Or.inr
theorem CurQ.swap {L M L' M' : List QCh} {x y : QCh} (h : CurQ L M L' M' x y) : CurQ M L M' L' x y := h.symm

def SameI (I J : QuId) : Prop := J.o = I.o ∧ J.k = I.k ∧ J.s = I.s ∧ J.m = I.m ∧ J.sz = I.sz

structure QI (w0 : World) (I J I' J' : QuId) (cp n N : Nat) (X : Nat → Prop) (c d : Bool) (L M L' M' : List QCh) (b : BookSt) (A G A' G' : Nat → Prop) (R : Rel) (prs : List (Value × Value)) (w : World) : Prop where
  bel : Below w0.heap.size w0 w
  p : ProgAt w I J c d L M b N A G
  r : RfdAt w I' J' c d L' M' b A' G'
  ii : SameI I I'
  jj : SameI J J'
  sl : SameQ L L'
  sm : SameQ M M'
  byt : ∀ x, (x ∈ L ∨ x ∈ M) → bytes x.os
  z : ∀ k, (A k ∨ G k) ∨ (A' k ∨ G' k) → w0.heap.size ≤ k
  ds : ∀ k, A k ∨ G k → ¬ (A' k ∨ G' k)
  ca : CellsAt w w0.heap.size cp prs
  ct : Twins w w0.heap.size R
  pr : ∀ xy ∈ prs, Pr R xy
  cf : ∀ k, CelF w cp k → ¬ (A k ∨ G k) ∧ ¬ (A' k ∨ G' k)
  tw : ∀ b o c p, R b o c p → ((A b ∨ A' c) → ∃ x y, CurQ L M L' M' x y ∧ x.b = b ∧ y.b = c ∧ o = p ∧ o < x.os.length) ∧ ¬ G b ∧ ¬ (A' b ∨ G' b) ∧ ¬ G' c ∧ ¬ (A c ∨ G c)
  cur : ∀ x y, CurQ L M L' M' x y → ∀ o, o < x.os.length → R x.b o y.b o
  few : prs.length ≤ n
  xx : ∀ k, X k → ¬ (A k ∨ G k) ∧ ¬ (A' k ∨ G' k) ∧ ¬ CelF w cp k ∧ ¬ InR R k ∧ k < w.heap.size
/-- The foreign blocks stay. -/
def StayX (X : Nat → Prop) (w w' : World) : Prop := ∀ k, X k → w'.heap[k]? = w.heap[k]?
section
variable {w0 w w1 w2 : World} {I J I' J' : QuId} {cp n N : Nat} {X : Nat → Prop} {c d c2 d2 : Bool} {L M L' M' L2 M2 L2' M2' : List QCh} {b b2 : BookSt} {A G A' G' A2 G2 A2' G2' : Nat → Prop} {R : Rel} {prs : List (Value × Value)}
theorem QI.swap (h : QI w0 I J I' J' cp n N X c d L M L' M' b A G A' G' R prs w) : QI w0 J I J' I' cp n N X d c M L M' L' b A G A' G' R prs w :=
  ⟨h.bel, h.p.swap, h.r.swap, h.jj, h.ii, h.sm, h.sl, fun x hx => h.byt x hx.symm, h.z, h.ds, h.ca, h.ct, h.pr, h.cf, fun b o c p hR => ⟨fun e => by obtain ⟨x, y, h1, h2⟩ := (h.tw b o c p hR).1 e; exact ⟨x, y, h1.swap, h2⟩, (h.tw b o c p hR).2⟩, fun x y hxy => h.cur x y hxy.swap, h.few, h.xx⟩
theorem QI.turn (h : QI w0 I J I' J' cp n N X c d L M L' M' b A G A' G' R prs w) (hp : ProgAt w1 I J c2 d2 L2 M2 b2 N A2 G2) (a1 : ∀ k, A2 k → A k ∨ w.heap.size ≤ k) (g1 : ∀ k, G2 k → G k ∨ w.heap.size ≤ k) (t1 : Touch (fun k => A k ∨ G k) w w1)
    (hr : RfdAt w2 I' J' c2 d2 L2' M2' b2 A2' G2') (a2 : ∀ k, A2' k → A' k ∨ w1.heap.size ≤ k) (g2 : ∀ k, G2' k → G' k ∨ w1.heap.size ≤ k) (t2 : Touch (fun k => A' k ∨ G' k) w1 w2)
    (s1 : SameQ L2 L2') (s2 : SameQ M2 M2') (hby : ∀ x, (x ∈ L2 ∨ x ∈ M2) → bytes x.os)
    (step : ∀ x y, CurQ L2 M2 L2' M2' x y → (∃ x0 y0, CurQ L M L' M' x0 y0 ∧ x.b = x0.b ∧ y.b = y0.b ∧ x.os.length = x0.os.length) ∨ (w.heap.size ≤ x.b ∧ w1.heap.size ≤ y.b))
    (stay : ∀ x y, CurQ L M L' M' x y → (∃ x2 y2, CurQ L2 M2 L2' M2' x2 y2 ∧ x2.b = x.b ∧ y2.b = y.b ∧ x2.os.length = x.os.length) ∨ (w1.heap[x.b]? = w.heap[x.b]? ∧ w2.heap[y.b]? = w1.heap[y.b]?)) :
    (∃ R2, QI w0 I J I' J' cp n N X c2 d2 L2 M2 L2' M2' b2 A2 G2 A2' G2' R2 prs w2) ∧ StayX X w w2 := by
  have z1 := t1.size
  have z2 := t2.size
  have z0 := h.bel.size
  have agl : ∀ k, A k ∨ G k → k < w.heap.size := fun k hk => hk.elim h.p.al (h.p.gl k)
  have agl' : ∀ k, A' k ∨ G' k → k < w.heap.size := fun k hk => hk.elim h.r.al (h.r.gl k)
  have P2 : ∀ k, A2 k ∨ G2 k → (A k ∨ G k) ∨ w.heap.size ≤ k := fun k hk => by
    rcases hk with hk | hk
    · exact (a1 k hk).imp Or.inl id
    · exact (g1 k hk).imp Or.inr id
  have Q2 : ∀ k, A2' k ∨ G2' k → (A' k ∨ G' k) ∨ w1.heap.size ≤ k := fun k hk => by
    rcases hk with hk | hk
    · exact (a2 k hk).imp Or.inl id
    · exact (g2 k hk).imp Or.inr id
  have P2l : ∀ k, A2 k ∨ G2 k → k < w1.heap.size := fun k hk => hk.elim hp.al (hp.gl k)
  have Q2l : ∀ k, A2' k ∨ G2' k → k < w2.heap.size := fun k hk => hk.elim hr.al (hr.gl k)
  have off1 : ∀ k, A2 k ∨ G2 k → ¬ (A' k ∨ G' k) := fun k hk hq => (P2 k hk).elim (fun e => h.ds k e hq) (fun e => by have := agl' k hq; omega)
  have ds2 : ∀ k, A2 k ∨ G2 k → ¬ (A2' k ∨ G2' k) := fun k hk hq => (Q2 k hq).elim (off1 k hk) (fun e => by have := P2l k hk; omega)
  have hp2 : ProgAt w2 I J c2 d2 L2 M2 b2 N A2 G2 := hp.touch t2 off1
  have T : Touch (fun k => (A k ∨ G k) ∨ (A' k ∨ G' k)) w w2 := (t1.mono (fun k => Or.inl)).then (t2.mono (fun k => Or.inr))
  have bel2 : Below w0.heap.size w w2 := T.below z0 (fun k hk => h.z k hk)
  have keepC : ∀ k, CelF w cp k → w2.heap[k]? = w.heap[k]? := fun k hk => T.block k (celF_lt h.ca hk) (fun e => e.elim (h.cf k hk).1 (h.cf k hk).2)
  obtain ⟨ca, cf⟩ := cells_kept h.ca keepC
  have nd := h.p.nd
  have nd' := h.r.nd
  have ndn := hp.nd
  have ndn' := hr.nd
  have one := fun x y x2 y2 (h1 : CurQ L M L' M' x y) (h2 : CurQ L M L' M' x2 y2) => zip_one (L ++ M) (L' ++ M') x y x2 y2 nd ((CurQ.iff h.sl.len x y).1 h1) ((CurQ.iff h.sl.len x2 y2).1 h2)
  have inj := fun x y x2 y2 (h1 : CurQ L M L' M' x y) (h2 : CurQ L M L' M' x2 y2) => zip_inj (L ++ M) (L' ++ M') x y x2 y2 nd' ((CurQ.iff h.sl.len x y).1 h1) ((CurQ.iff h.sl.len x2 y2).1 h2)
  have oneN := fun x y x2 y2 (h1 : CurQ L2 M2 L2' M2' x y) (h2 : CurQ L2 M2 L2' M2' x2 y2) => zip_one (L2 ++ M2) (L2' ++ M2') x y x2 y2 ndn ((CurQ.iff s1.len x y).1 h1) ((CurQ.iff s1.len x2 y2).1 h2)
  have injN := fun x y x2 y2 (h1 : CurQ L2 M2 L2' M2' x y) (h2 : CurQ L2 M2 L2' M2' x2 y2) => zip_inj (L2 ++ M2) (L2' ++ M2') x y x2 y2 ndn' ((CurQ.iff s1.len x y).1 h1) ((CurQ.iff s1.len x2 y2).1 h2)
  -- octets of an old pair: unchanged, or those of a pair that is there now
  have old : ∀ bb o cc p, R bb o cc p → (w2.heap[bb]? = w.heap[bb]? ∧ w2.heap[cc]? = w.heap[cc]?) ∨ ∃ x y, CurQ L2 M2 L2' M2' x y ∧ x.b = bb ∧ y.b = cc ∧ o = p ∧ o < x.os.length := fun bb o cc p hR => by
    obtain ⟨lb, lc⟩ := h.ct.lt hR
    obtain ⟨i1, i2, i3, i4, i5⟩ := h.tw bb o cc p hR
    by_cases hA : A bb ∨ A' cc
    · obtain ⟨x, y, hxy, rfl, rfl, ho, hlt⟩ := i1 hA
      rcases stay x y hxy with ⟨x2, y2, k1, k2, k3, k4⟩ | ⟨k1, k2⟩
      · exact Or.inr ⟨x2, y2, k1, k2, k3, ho, by omega⟩
      · have hxA := (h.p.oct hxy.mem.1).2
        have hyA := (h.r.oct hxy.mem.2).2
        refine Or.inl ⟨(t2.block x.b (by omega) (fun e => h.ds _ (Or.inl hxA) e)).trans k1, k2.trans (t1.block y.b lc (fun e => h.ds _ e (Or.inl hyA)))⟩
    · have hnb : ¬ A bb := fun e => hA (Or.inl e)
      have hnc : ¬ A' cc := fun e => hA (Or.inr e)
      exact Or.inl ⟨T.block bb lb (fun e => e.elim (fun e => e.elim hnb i2) i3), T.block cc lc (fun e => e.elim i5 (fun e => e.elim hnc i4))⟩
  have valN : ∀ x y, CurQ L2 M2 L2' M2' x y → ∀ o, o < x.os.length → ∃ v : Int, 0 ≤ v ∧ v ≤ 255 ∧ w2.cell? ⟨x.b, o, none⟩ = some (.int .u8 v) ∧ w2.cell? ⟨y.b, o, none⟩ = some (.int .u8 v) := fun x y hxy o ho => by
    have hz := hby x hxy.mem.1 (x.os.getD o 0) (by rw [List.getD_eq_getElem?_getD, List.getElem?_eq_getElem ho]; simp)
    have e := hxy.os s1 s2
    refine ⟨x.os.getD o 0, hz.1, hz.2, (hp2.oct hxy.mem.1).1.cell o ho, ?_⟩
    rw [e]
    exact (hr.oct hxy.mem.2).1.cell o (by rw [← e]; exact ho)
  -- the new pairs
  let Nw : Rel := fun bb o cc p => ∃ x y, CurQ L2 M2 L2' M2' x y ∧ w.heap.size ≤ x.b ∧ w1.heap.size ≤ y.b ∧ x.b = bb ∧ y.b = cc ∧ o = p ∧ o < x.os.length
  let R2 : Rel := fun bb o cc p => R bb o cc p ∨ Nw bb o cc p
  have cur2 : ∀ x y, CurQ L2 M2 L2' M2' x y → ∀ o, o < x.os.length → R2 x.b o y.b o := fun x y hxy o ho => by
    rcases step x y hxy with ⟨x0, y0, k1, k2, k3, k4⟩ | ⟨k1, k2⟩
    · exact Or.inl (by rw [k2, k3]; exact h.cur x0 y0 k1 o (by omega))
    · exact Or.inr ⟨x, y, hxy, k1, k2, rfl, rfl, rfl, ho⟩
  have tw2 : ∀ bb o cc p, R2 bb o cc p → ((A2 bb ∨ A2' cc) → ∃ x y, CurQ L2 M2 L2' M2' x y ∧ x.b = bb ∧ y.b = cc ∧ o = p ∧ o < x.os.length) ∧ ¬ G2 bb ∧ ¬ (A2' bb ∨ G2' bb) ∧ ¬ G2' cc ∧ ¬ (A2 cc ∨ G2 cc) := fun bb o cc p hR => by
    rcases hR with hR | ⟨x, y, hxy, k1, k2, rfl, rfl, ho, hlt⟩
    · obtain ⟨lb, lc⟩ := h.ct.lt hR
      obtain ⟨i1, i2, i3, i4, i5⟩ := h.tw bb o cc p hR
      refine ⟨fun e => ?_, fun e => (g1 bb e).elim i2 (fun e => by omega), fun e => (Q2 bb e).elim i3 (fun e => by omega), fun e => (g2 cc e).elim i4 (fun e => by omega), fun e => (P2 cc e).elim i5 (fun e => by omega)⟩
      have hAA : A bb ∨ A' cc := e.imp (fun e => (a1 bb e).elim id (fun e => by omega)) (fun e => (a2 cc e).elim id (fun e => by omega))
      obtain ⟨x, y, hxy, rfl, rfl, ho, hlt⟩ := i1 hAA
      obtain ⟨_, _, ⟨u1, r1⟩, ⟨u2, r2⟩⟩ := h.ct.row _ _ _ _ hR
      rcases e with e | e
      · obtain ⟨cs, hcs⟩ : ∃ cs, w2.heap[x.b]? = some (.cells cs 5 (0, 0)) := by
          rcases old _ _ _ _ hR with ⟨q1, _⟩ | ⟨x2, y2, k1, k2, _⟩
          · exact ⟨u1, q1.trans r1⟩
          · exact ⟨_, k2 ▸ (hp2.oct k1.mem.1).1⟩
        obtain ⟨x2, hx2, e2⟩ := hp2.u8 e hcs
        obtain ⟨y2, hxy2⟩ := CurQ.left s1 s2 hx2
        rcases step x2 y2 hxy2 with ⟨x0, y0, k1, k2, k3, k4⟩ | ⟨k1, k2⟩
        · obtain ⟨rfl, rfl⟩ := one x y x0 y0 hxy k1 (by rw [e2, k2])
          exact ⟨x2, y2, hxy2, k2, k3, ho, by omega⟩
        · omega
      · obtain ⟨cs, hcs⟩ : ∃ cs, w2.heap[y.b]? = some (.cells cs 5 (0, 0)) := by
          rcases old _ _ _ _ hR with ⟨_, q1⟩ | ⟨x2, y2, k1, _, k2, _⟩
          · exact ⟨u2, q1.trans r2⟩
          · exact ⟨_, k2 ▸ (hr.oct k1.mem.2).1⟩
        obtain ⟨y2, hy2, e2⟩ := hr.u8 e hcs
        obtain ⟨x2, hxy2⟩ := CurQ.right s1 s2 hy2
        rcases step x2 y2 hxy2 with ⟨x0, y0, k1, k2, k3, k4⟩ | ⟨k1, k2⟩
        · obtain ⟨rfl, rfl⟩ := inj x y x0 y0 hxy k1 (by rw [e2, k3])
          exact ⟨x2, y2, hxy2, k2, k3, ho, by omega⟩
        · omega
    · have hxA := (hp2.oct hxy.mem.1).2
      have hyA := (hr.oct hxy.mem.2).2
      exact ⟨fun _ => ⟨x, y, hxy, rfl, rfl, ho, hlt⟩, fun e => hp2.ag _ hxA e, fun e => ds2 _ (Or.inl hxA) e, fun e => hr.ag _ hyA e, fun e => ds2 _ e (Or.inl hyA)⟩
  have ct2 : Twins w2 w0.heap.size R2 := by
    refine ⟨fun bb o cc p hR => ?_, fun bb o cc p hR => ?_, fun bb o cc p c' p' h1 h2 => ?_, fun bb o cc p b' o' h1 h2 => ?_, fun bb o cc p b' o' c' p' h1 h2 => ?_⟩
    · rcases hR with hR | ⟨x, y, hxy, k1, k2, rfl, rfl, rfl, hlt⟩
      · rcases old _ _ _ _ hR with ⟨q1, q2⟩ | ⟨x, y, hxy, rfl, rfl, rfl, hlt⟩
        · obtain ⟨v, v0, v1, h1, h2⟩ := h.ct.val _ _ _ _ hR
          exact ⟨v, v0, v1, (cell_blk q1).trans h1, (cell_blk q2).trans h2⟩
        · exact valN x y hxy o hlt
      · exact valN x y hxy o hlt
    · rcases hR with hR | ⟨x, y, hxy, k1, k2, rfl, rfl, rfl, hlt⟩
      · obtain ⟨b1, b2, ⟨u1, r1⟩, ⟨u2, r2⟩⟩ := h.ct.row _ _ _ _ hR
        rcases old _ _ _ _ hR with ⟨q1, q2⟩ | ⟨x, y, hxy, rfl, rfl, rfl, hlt⟩
        · exact ⟨b1, b2, ⟨u1, q1.trans r1⟩, ⟨u2, q2.trans r2⟩⟩
        · exact ⟨b1, b2, ⟨_, (hp2.oct hxy.mem.1).1⟩, ⟨_, (hr.oct hxy.mem.2).1⟩⟩
      · exact ⟨by omega, by omega, ⟨_, (hp2.oct hxy.mem.1).1⟩, ⟨_, (hr.oct hxy.mem.2).1⟩⟩
    · rcases h1 with h1 | ⟨x, y, hxy, k1, k2, rfl, rfl, rfl, hlt⟩ <;> rcases h2 with h2 | ⟨x', y', hxy', k1', k2', e1, e2, rfl, hlt'⟩
      · exact h.ct.one _ _ _ _ _ _ h1 h2
      · have := (h.ct.lt h1).1; omega
      · have := (h.ct.lt h2).1; omega
      · obtain ⟨rfl, rfl⟩ := oneN x y x' y' hxy hxy' e1.symm
        exact ⟨e2, rfl⟩
    · rcases h1 with h1 | ⟨x, y, hxy, k1, k2, rfl, rfl, rfl, hlt⟩ <;> rcases h2 with h2 | ⟨x', y', hxy', k1', k2', e1, e2, e3, hlt'⟩
      · exact h.ct.inj _ _ _ _ _ _ h1 h2
      · have := (h.ct.lt h1).2; omega
      · have := (h.ct.lt h2).2; omega
      · obtain ⟨rfl, rfl⟩ := injN x y x' y' hxy hxy' e2.symm
        exact ⟨e1, e3.symm⟩
    · rintro ⟨e1, e2⟩
      rcases h1 with h1 | ⟨x, y, hxy, k1, k2, rfl, rfl, rfl, hlt⟩ <;> rcases h2 with h2 | ⟨x', y', hxy', k1', k2', rfl, rfl, rfl, hlt'⟩
      · exact h.ct.apart _ _ _ _ _ _ _ _ h1 h2 ⟨e1, e2⟩
      · have := (h.ct.lt h1).1; omega
      · have := (h.ct.lt h2).2; omega
      · exact ds2 _ (Or.inl (hp2.oct hxy.mem.1).2) (Or.inl (e1 ▸ (hr.oct hxy'.mem.2).2))
  refine ⟨⟨R2, h.bel.trans bel2, hp2, hr, h.ii, h.jj, s1, s2, hby, fun k hk => ?_, ds2, ca, ct2, fun xy hxy => (h.pr xy hxy).mono (fun _ _ _ _ h => Or.inl h), fun k hk => ?_, tw2, cur2, h.few, fun k hk => ?_⟩, fun k hk => ?_⟩
  · rcases hk with hk | hk
    · exact (P2 k hk).elim (fun e => h.z k (Or.inl e)) (fun e => by omega)
    · exact (Q2 k hk).elim (fun e => h.z k (Or.inr e)) (fun e => by omega)
  · have hk' := cf k hk
    have hl := celF_lt h.ca hk'
    exact ⟨fun e => (P2 k e).elim (h.cf k hk').1 (fun e => by omega), fun e => (Q2 k e).elim (h.cf k hk').2 (fun e => by omega)⟩
  · obtain ⟨x1, x2, x3, x4, x5⟩ := h.xx k hk
    refine ⟨fun e => (P2 k e).elim x1 (fun e => by omega), fun e => (Q2 k e).elim x2 (fun e => by omega), fun e => x3 (cf k e), ?_, by omega⟩
    rintro ⟨bb, o, cc, p, hR | ⟨x, y, hxy, k1, k2, rfl, rfl, rfl, hlt⟩, hkb⟩
    · exact x4 ⟨bb, o, cc, p, hR, hkb⟩
    · rcases hkb with rfl | rfl <;> omega
  · obtain ⟨x1, x2, x3, x4, x5⟩ := h.xx k hk
    exact T.block k x5 (fun e => e.elim x1 x2)
/-- Nothing is turned. -/
theorem QI.below (h : QI w0 I J I' J' cp n N X c d L M L' M' b A G A' G' R prs w) (hb : Below w.heap.size w w1) : QI w0 I J I' J' cp n N X c d L M L' M' b A G A' G' R prs w1 := by
  obtain ⟨ca, cf⟩ := cells_kept h.ca (fun k hk => hb.block k (celF_lt h.ca hk))
  exact ⟨h.bel.trans (hb.mono h.bel.size), h.p.below hb, h.r.below hb, h.ii, h.jj, h.sl, h.sm, h.byt, h.z, h.ds, ca, h.ct.below hb, h.pr, fun k hk => h.cf k (cf k hk), h.tw, h.cur, h.few, fun k hk => by obtain ⟨x1, x2, x3, x4, x5⟩ := h.xx k hk; exact ⟨x1, x2, fun e => x3 (cf k e), x4, Nat.lt_of_lt_of_le x5 hb.size⟩⟩
theorem QI.more (h : QI w0 I J I' J' cp n N X c d L M L' M' b A G A' G' R prs w) {n' : Nat} (hn : n ≤ n') : QI w0 I J I' J' cp n' N X c d L M L' M' b A G A' G' R prs w :=
  ⟨h.bel, h.p, h.r, h.ii, h.jj, h.sl, h.sm, h.byt, h.z, h.ds, h.ca, h.ct, h.pr, h.cf, h.tw, h.cur, Nat.le_trans h.few hn, h.xx⟩
/-- Other foreign blocks. -/
theorem QI.other (h : QI w0 I J I' J' cp n N X c d L M L' M' b A G A' G' R prs w) {Y : Nat → Prop} (hy : ∀ k, Y k → X k) : QI w0 I J I' J' cp n N Y c d L M L' M' b A G A' G' R prs w :=
  ⟨h.bel, h.p, h.r, h.ii, h.jj, h.sl, h.sm, h.byt, h.z, h.ds, h.ca, h.ct, h.pr, h.cf, h.tw, h.cur, h.few, fun k hk => h.xx k (hy k hk)⟩
/-- Boxes of one's own besides. -/
theorem QI.box (h : QI w0 I J I' J' cp n N X c d L M L' M' b A G A' G' R prs w) (hb : Below w.heap.size w w1) : QI w0 I J I' J' cp n N (fun k => X k ∨ (w.heap.size ≤ k ∧ k < w1.heap.size)) c d L M L' M' b A G A' G' R prs w1 := by
  have h' := h.below hb
  obtain ⟨ca, cf⟩ := cells_kept h.ca (fun k hk => hb.block k (celF_lt h.ca hk))
  refine ⟨h'.bel, h'.p, h'.r, h'.ii, h'.jj, h'.sl, h'.sm, h'.byt, h'.z, h'.ds, h'.ca, h'.ct, h'.pr, h'.cf, h'.tw, h'.cur, h'.few, fun k hk => ?_⟩
  rcases hk with hk | ⟨k1, k2⟩
  · exact h'.xx k hk
  · refine ⟨fun e => ?_, fun e => ?_, fun e => ?_, ?_, k2⟩
    · have := e.elim h.p.al (h.p.gl k); omega
    · have := e.elim h.r.al (h.r.gl k); omega
    · have := celF_lt h.ca (cf k e); omega
    · rintro ⟨bb, o, cc, p, hR, e | e⟩
      · have := (h.ct.lt hR).1; omega
      · have := (h.ct.lt hR).2; omega
/-- A slice more is watched. -/
theorem QI.seen (h : QI w0 I J I' J' cp n N X c d L M L' M' b A G A' G' R prs w) {xy : Value × Value} (hc : CellsAt w1 w0.heap.size cp (prs ++ [xy])) (ht : Twins w1 w0.heap.size R) (hto : CelTo w0.heap.size cp w w1) (hxy : Pr R xy) : QI w0 I J I' J' cp (n + 1) N X c d L M L' M' b A G A' G' R (prs ++ [xy]) w1 ∧ StayX X w w1 := by
  obtain ⟨t1, t2, t3⟩ := hto
  refine ⟨⟨h.bel.trans t1, h.p.touch t2 (fun k hk e => (h.cf k e).1 hk), h.r.touch t2 (fun k hk e => (h.cf k e).2 hk), h.ii, h.jj, h.sl, h.sm, h.byt, h.z, h.ds, hc, ht, pr_snoc h.pr hxy, fun k hk => ?_, h.tw, h.cur, by rw [List.length_append]; have := h.few; simp; omega, fun k hk => ?_⟩, fun k hk => ?_⟩
  · rcases t3 k hk with e | e
    · exact h.cf k e
    · exact ⟨fun f => by have := f.elim h.p.al (h.p.gl k); omega, fun f => by have := f.elim h.r.al (h.r.gl k); omega⟩
  · obtain ⟨x1, x2, x3, x4, x5⟩ := h.xx k hk
    exact ⟨x1, x2, fun e => (t3 k e).elim x3 (fun e => by omega), x4, Nat.lt_of_lt_of_le x5 t2.size⟩
  · obtain ⟨x1, x2, x3, x4, x5⟩ := h.xx k hk
    exact t2.block k x5 x3
end

end Go.Proofs.YtfnmjlnpfoclbaaGreat
