/-
  QueueRuns: what holds when both queues are made; what is seen of them. No conditions.
  The edits (operations with octets) that came in, with the bound on each one's octets. No conditions.
-/
import Derived.Test.YtfnmjlnpfoclbaaGreatQueueRunsPbv
import Derived.Test.YtfnmjlnpfoclbaaGreatQueueRunsPbr

namespace Go.Proofs.YtfnmjlnpfoclbaaGreat
section
open Go.RowKit
set_option linter.unusedVariables false

theorem quErr_zero {st : BookSt} {k s m sz o : Int} (h : quErr st k s m sz o = 0) : polErr k s m = 0 ∧ 1 ≤ sz ∧ sz ≤ 100000 ∧ sz ≤ m := by
  unfold quErr at h
  by_cases h1 : polErr k s m = 0
  · rw [if_pos h1] at h
    by_cases h2 : 1 ≤ sz ∧ sz ≤ 100000
    · rw [if_pos h2] at h
      by_cases h3 : m < sz
      · rw [if_pos h3] at h; cases h
      · exact ⟨h1, h2.1, h2.2, by omega⟩
    · rw [if_neg h2] at h; cases h
  · rw [if_neg h1] at h; exact absurd h h1
structure Made2 (w : World) (p q : Nat) (k s m sz o1 o2 : Int) (st : BookSt) (r1 r2 r1' r2' : Nat) (B : Nat) (W : World) : Prop where
  q1 : W.heap[r1]? = some (.cells (quCells p o1 k s m sz (.slice none 0 0)) 79 (0, 0))
  q2 : W.heap[r2]? = some (.cells (quCells p o2 k s m sz (.slice none 0 0)) 79 (0, 0))
  p1 : W.heap[r1']? = some (.cells (rqCells q o1 k s m sz (.slice none 0 0) false) 83 (0, 0))
  p2 : W.heap[r2']? = some (.cells (rqCells q o2 k s m sz (.slice none 0 0) false) 83 (0, 0))
  lo : B ≤ r1 ∧ B ≤ r2 ∧ B ≤ r1' ∧ B ≤ r2'
  ne : r1 ≠ r2 ∧ r1' ≠ r2'
  e1 : quErr st k s m sz o1 = 0
theorem qst_new {W : World} {r p : Nat} {o k s m sz : Int} (h : W.heap[r]? = some (.cells (quCells p o k s m sz (.slice none 0 0)) 79 (0, 0))) : QSt W (fun x => x = r) ⟨r, p, o, k, s, m, sz⟩ [] false :=
  Or.inl ⟨rfl, ⟨by simp, by simp⟩, _, ⟨h, rfl, World.ownsRow_nil _ _ _ _, fun k hk => by simp [Value.ownBlock] at hk, by simp, by simp⟩, fun k hk => Or.inl hk⟩
theorem rst_new {W : World} {r p : Nat} {o k s m sz : Int} (h : W.heap[r]? = some (.cells (rqCells p o k s m sz (.slice none 0 0) false) 83 (0, 0))) : RSt W (fun x => x = r) ⟨r, p, o, k, s, m, sz⟩ [] false :=
  Or.inl ⟨rfl, ⟨by simp, by simp⟩, _, ⟨h, rfl, World.ownsRow_nil _ _ _ _, fun k hk => by simp [Value.ownBlock] at hk, by simp, by simp⟩, fun k hk => Or.inl hk⟩
theorem Made2.start {w W : World} {p q : Nat} {k s m sz o1 o2 : Int} {st : BookSt} {r1 r2 r1' r2' N B : Nat} {F G X : Nat → Prop} (h : Made2 w p q k s m sz o1 o2 st r1 r2 r1' r2' B W) (hB : BothAt w W p q st N F G) (g : Good st) (hF : ∀ k, F k ∨ G k → k < B) (hb : w.heap.size ≤ B)
    (hX : ∀ x, X x → ¬ (F x ∨ G x) ∧ x ≠ r1 ∧ x ≠ r2 ∧ x ≠ r1' ∧ x ≠ r2' ∧ x < W.heap.size) :
    QIx w ⟨r1, p, o1, k, s, m, sz⟩ ⟨r2, p, o2, k, s, m, sz⟩ ⟨r1', q, o1, k, s, m, sz⟩ ⟨r2', q, o2, k, s, m, sz⟩ W.heap.size 0 N X (W.alloc (.cells #[.slice none 0 0, .slice none 0 0] 41)) := by
  have hbel : Below W.heap.size W (W.alloc (.cells #[.slice none 0 0, .slice none 0 0] 41)) := (Below.refl _ _).alloc (Nat.le_refl _) _
  have hq := quErr_zero h.e1
  have q1 := (hbel.block _ (lt_of h.q1)).trans h.q1
  have q2 := (hbel.block _ (lt_of h.q2)).trans h.q2
  have p1 := (hbel.block _ (lt_of h.p1)).trans h.p1
  have p2 := (hbel.block _ (lt_of h.p2)).trans h.p2
  have l1 := lt_of h.q1
  have l2 := lt_of h.q2
  have l3 := lt_of h.p1
  have l4 := lt_of h.p2
  have hB2 := hB.under hbel
  obtain ⟨b1, b2, b3, b4⟩ := h.lo
  have ne12 : ∀ {a b : Nat} {c1 c2 : Array Value} {t1 t2 : TypeId}, W.heap[a]? = some (.cells c1 t1 (0, 0)) → W.heap[b]? = some (.cells c2 t2 (0, 0)) → t1 ≠ t2 → a ≠ b := fun {a b c1 c2 t1 t2} ha hb' hne e => by
    rw [e, hb'] at ha
    simp at ha
    exact hne ha.2.symm
  have n11 := ne12 h.q1 h.p1 (by decide)
  have n12 := ne12 h.q1 h.p2 (by decide)
  have n21 := ne12 h.q2 h.p1 (by decide)
  have n22 := ne12 h.q2 h.p2 (by decide)
  have cells := CellsAt.new W (Nat.le_trans hB.below.size (Nat.le_refl _))
  have hcf : ∀ x, CelF (W.alloc (.cells #[.slice none 0 0, .slice none 0 0] 41)) W.heap.size x → x = W.heap.size := fun x hx => by
    rcases hx with hx | ⟨vo, vw, h1, h2⟩
    · exact hx
    · rw [heap_alloc_new] at h1
      simp at h1
      obtain ⟨rfl, rfl⟩ := h1
      simp [Value.ownBlock] at h2
  have hWs := hB2.below.size
  refine ⟨false, false, [], [], [], [], st, fun x => x = r1 ∨ x = r2, F, fun x => x = r1' ∨ x = r2', G, noR, [], ?_⟩
  refine ⟨hB2.below, ⟨⟨_, _, qst_new q1, qst_new q2, fun x h1 h2 => h.ne.1 (h1.symm.trans h2), fun x => Iff.rfl⟩, hB2.own, hB2.flt, fun x hx hf => ?_, g, hq, hq, rfl⟩, ⟨⟨_, _, rst_new p1, rst_new p2, fun x h1 h2 => h.ne.2 (h1.symm.trans h2), fun x => Iff.rfl⟩, hB2.ref, hB2.glt, fun x hx hf => ?_, g, hq, hq, rfl⟩, ⟨rfl, rfl, rfl, rfl, rfl⟩, ⟨rfl, rfl, rfl, rfl, rfl⟩, SameQ.nil, SameQ.nil, fun x hx => by simp at hx, fun x hx => ?_, fun x hx hy => ?_, cells, Twins.none _ _, fun xy hxy => by simp at hxy, fun x hx => ?_, fun _ _ _ _ h => h.elim, fun x y hxy => ?_, Nat.le_refl _, fun x hx => ?_⟩
  · have := hF x (Or.inl hf); rcases hx with rfl | rfl <;> omega
  · have := hF x (Or.inr hf); rcases hx with rfl | rfl <;> omega
  · rcases hx with (hx | hx) | (hx | hx)
    · rcases hx with rfl | rfl <;> omega
    · exact hB.flo x hx
    · rcases hx with rfl | rfl <;> omega
    · exact hB.glo x hx
  · rcases hx with hx | hx
    · rcases hy with hy | hy
      · rcases hx with rfl | rfl <;> rcases hy with hy | hy <;> contradiction
      · have := hF x (Or.inr hy); rcases hx with rfl | rfl <;> omega
    · rcases hy with hy | hy
      · have := hF x (Or.inl hx); rcases hy with rfl | rfl <;> omega
      · exact hB.dis x hx hy
  · have e := hcf x hx
    subst e
    refine ⟨fun e => ?_, fun e => ?_⟩
    · rcases e with (e | e) | e
      · omega
      · omega
      · have := hB.flt _ e; omega
    · rcases e with (e | e) | e
      · omega
      · omega
      · have := hB.glt _ e; omega
  · rcases hxy with hxy | hxy <;> simp at hxy
  · obtain ⟨x1, x2, x3, x4, x5, x6⟩ := hX x hx
    refine ⟨fun e => ?_, fun e => ?_, fun e => ?_, ?_, Nat.lt_of_lt_of_le x6 hbel.size⟩
    · rcases e with (e | e) | e
      · exact x2 e
      · exact x3 e
      · exact x1 (Or.inl e)
    · rcases e with (e | e) | e
      · exact x4 e
      · exact x5 e
      · exact x1 (Or.inr e)
    · have := hcf x e; omega
    · rintro ⟨_, _, _, _, hR, _⟩
      exact hR.elim

section
variable {w0 w : World} {I J I' J' : QuId} {cp n N : Nat} {X : Nat → Prop}
theorem QIx.both (h : QIx w0 I J I' J' cp n N X w) : ∃ st F G, BothAt w0 w I.bp I'.bp st N F G ∧ Good st := by
  obtain ⟨c, d, L, M, L', M', b, A, G, A', G', R, prs, h⟩ := h
  exact ⟨b, G, G', ⟨h.p.bk, h.r.bk, fun k h1 h2 => h.ds k (Or.inr h1) (Or.inr h2), h.p.gl, h.r.gl, fun k hk => h.z k (Or.inl (Or.inr hk)), fun k hk => h.z k (Or.inr (Or.inr hk)), h.bel⟩, h.p.good⟩
theorem QIx.cells (h : QIx w0 I J I' J' cp n N X w) : ∃ R prs, CellsAt w w0.heap.size cp prs ∧ Twins w w0.heap.size R ∧ (∀ xy ∈ prs, Pr R xy) ∧ ∃ st F G, BothAt w0 w I.bp I'.bp st N F G ∧ Good st ∧ ∀ k, InR R k → ¬ F k ∧ ¬ G k ∧ w0.heap.size ≤ k := by
  obtain ⟨c, d, L, M, L', M', b, A, G, A', G', R, prs, h⟩ := h
  refine ⟨R, prs, h.ca, h.ct, h.pr, b, G, G', ⟨h.p.bk, h.r.bk, fun k h1 h2 => h.ds k (Or.inr h1) (Or.inr h2), h.p.gl, h.r.gl, fun k hk => h.z k (Or.inl (Or.inr hk)), fun k hk => h.z k (Or.inr (Or.inr hk)), h.bel⟩, h.p.good, ?_⟩
  rintro k ⟨bb, o, cc, p, hR, rfl | rfl⟩
  · obtain ⟨_, i2, i3, i4, i5⟩ := h.tw _ _ _ _ hR
    exact ⟨i2, fun e => i3 (Or.inr e), (h.ct.row _ _ _ _ hR).1⟩
  · obtain ⟨_, i2, i3, i4, i5⟩ := h.tw _ _ _ _ hR
    exact ⟨fun e => i5 (Or.inr e), i4, (h.ct.row _ _ _ _ hR).2.1⟩
theorem ck_bare : ∀ {L L' : List QCh}, SameQ L L' → L.flatMap ckCells = L'.flatMap ckCells
  | [], [], _ => rfl
  | [], _ :: _, h => by have := h.len; simp at this
  | _ :: _, [], h => by have := h.len; simp at this
  | a :: l, a' :: l', h => by
    unfold SameQ at h
    simp only [List.map_cons, List.cons.injEq] at h
    rw [List.flatMap_cons, List.flatMap_cons, ck_bare (L := l) (L' := l') h.2]
    congr 1
    have e1 : a.os = a'.os := by have := congrArg QCh.os h.1; exact this
    have e2 : a.fr = a'.fr := by have := congrArg QCh.fr h.1; exact this
    have e3 : a.to = a'.to := by have := congrArg QCh.to h.1; exact this
    unfold ckCells
    rw [e1, e2, e3]
structure View (I I' : QuId) (w : World) (a n : Nat) (C : List QCh) : Prop where
  few : C.length ≤ 500
  sz : ∀ W, Below w.heap.size w W → Calls Tryz.prog 10 #[.pointer (some ⟨I'.r, 0, none⟩)] W (fun e w' => e = .returned (.tuple #[.int .i64 (a : Int), .int .i64 (n : Int)]) ∧ Below W.heap.size W w')
  room : ∀ W, Below w.heap.size w W → Calls Tryz.prog 11 #[.pointer (some ⟨I.r, 0, none⟩)] W (fun e w' => e = .returned (.int .i64 (a : Int)) ∧ Below W.heap.size W w')
  len : ∀ W, Below w.heap.size w W → Calls Tryz.prog 12 #[.pointer (some ⟨I.r, 0, none⟩)] W (fun e w' => e = .returned (.int .i64 (n : Int)) ∧ Below W.heap.size W w')
  ck : ∀ W, Below w.heap.size w W → Calls Tryz.prog 14 #[.pointer (some ⟨I.r, 0, none⟩)] W (fun e w' => ∃ v, e = .returned v ∧ w'.ownsRow W.heap.size 55 3 v C.length (C.flatMap ckCells) ∧ Below W.heap.size W w')
  ckr : ∀ W, Below w.heap.size w W → Calls Tryz.prog 15 #[.pointer (some ⟨I'.r, 0, none⟩)] W (fun e w' => ∃ v, e = .returned v ∧ w'.ownsRow W.heap.size 55 3 v C.length (C.flatMap ckCells) ∧ Below W.heap.size W w')
theorem QI.view {c d : Bool} {L M L' M' : List QCh} {b : BookSt} {A G A' G' : Nat → Prop} {R : Rel} {prs : List (Value × Value)} (h : QI w0 I J I' J' cp n N X c d L M L' M' b A G A' G' R prs w) : View I I' w (qsum QCh.room L) (qsum QCh.len L) L := by
  have kp : ∀ W, Below w.heap.size w W → ∃ cv, W.cell? ⟨I.r, 7, none⟩ = some cv ∧ QChsIn W cv L ∧ QChsOk L := fun W hW => by
    obtain ⟨F, E, q, _⟩ := (h.below hW).p.qo
    obtain ⟨cv, h1, h2⟩ := q.raw
    exact ⟨cv, h1, h2, q.ok⟩
  have kr : ∀ W, Below w.heap.size w W → ∃ cv, W.cell? ⟨I'.r, 6, none⟩ = some cv ∧ QChsIn W cv L' ∧ QChsOk L' := fun W hW => by
    obtain ⟨F, E, q, _⟩ := (h.below hW).r.qo
    obtain ⟨cv, h1, h2⟩ := q.raw
    exact ⟨cv, h1, h2, q.ok⟩
  refine ⟨(kp w (Below.refl _ _)).elim fun _ h => h.2.2.1, fun W hW => ?_, fun W hW => ?_, fun W hW => ?_, fun W hW => ?_, fun W hW => ?_⟩
  · obtain ⟨cv, h1, h2, h3⟩ := kr W hW
    have := sizes_any I'.r L' cv W h1 h2 h3
    rw [h.sl.rooms, h.sl.lens]
    exact this
  · obtain ⟨cv, h1, h2, h3⟩ := kp W hW
    exact qRoom_at I.r L cv W h1 h2 h3
  · obtain ⟨cv, h1, h2, h3⟩ := kp W hW
    exact qLen_at I.r L cv W h1 h2 h3
  · obtain ⟨cv, h1, h2, h3⟩ := kp W hW
    exact chunksQ_any I.r L cv W h1 h2 h3
  · obtain ⟨cv, h1, h2, h3⟩ := kr W hW
    have := chunksR_any I'.r L' cv W h1 h2 h3
    rw [h.sl.len, ck_bare h.sl]
    exact this
theorem QIx.view (h : QIx w0 I J I' J' cp n N X w) (s : Bool) : ∃ a m C, View (pk s I J) (pk s I' J') w a m C ∧ a ≤ 50000000 ∧ m ≤ 50000000 := by
  obtain ⟨c, d, L, M, L', M', b, A, G, A', G', R, prs, h⟩ := h
  have bd : ∀ {L M : List QCh} {c d : Bool} {I J : QuId}, ProgAt w I J c d L M b N A G → qsum QCh.room L ≤ 50000000 ∧ qsum QCh.len L ≤ 50000000 := fun {L M c d I J} hp => by
    obtain ⟨F, E, q, _⟩ := hp.qo
    have h1 := q.ok.sumR L.length
    have h2 := q.ok.sum L.length
    rw [List.take_length] at h1 h2
    exact ⟨h1, h2⟩
  cases s with
  | false => exact ⟨_, _, _, h.view, (bd h.p).1, (bd h.p).2⟩
  | true => exact ⟨_, _, _, h.swap.view, (bd h.p.swap).1, (bd h.p.swap).2⟩
end

end
end Go.Proofs.YtfnmjlnpfoclbaaGreat

namespace Go.Proofs.YtfnmjlnpfoclbaaGreat
section
open Go.ChangeShapes Go.WideShapes Go.ChangeAt Go.RowKit Go.Deep
set_option linter.unusedVariables false

variable {H : Type} {enc : TypeId × Value → H} {P : Program} {W : World}

theorem weightsAll_mem {e : TypeId} {d : DataW H} : ∀ {l : List (DataW H)}, d ∈ l → ∀ {n : Nat}, n ∈ d.weights P e → n ∈ DataW.weightsAll P e l
  | x :: l, h, n, hn => by
    simp only [DataW.weightsAll, List.mem_append]
    rcases List.mem_cons.1 h with rfl | h
    · exact Or.inl hn
    · exact Or.inr (weightsAll_mem h hn)

theorem reads_of_trod_sized {t e : TypeId} {fuel : Nat} {cs : List Value} {x : DataW H × List MemPlace} (ht : P.underlying t = some (.slice e)) (he : P.underlying e = some (.int .u8)) (hc : P.cellsOf e = 1)
    (h : DataW.trod enc P W 0 (fun _ => true) true fuel t cs = some x) : ∃ v zs, cs = [v] ∧ Reads W .u8 v zs ∧ (∀ z ∈ zs, (Lit.int .u8 z).wf = true) ∧ (1 ≤ P.bytesOf e → (∀ n ∈ x.1.weights P t, n ≤ reachBytes) → zs.length ≤ 140737488351232) := by
  rcases open_ints ht he hc h with ⟨hcs, hx⟩ | ⟨x, len, cap, zs, hcs, _, hl, hm, hz, hx0, hcell, hwz⟩
  · exact ⟨_, [], hcs, ⟨none, 0, rfl, by simp, fun h => absurd rfl h⟩, by simp, by simp⟩
  · have hW : 1 ≤ P.bytesOf e → (∀ n ∈ DataW.weights P t (DataW.slice (H := H) (lits .u8 (zs.take len)) (lits .u8 (zs.drop len))), n ≤ reachBytes) → (zs.take len).length ≤ 140737488351232 := by
      intro hb hn
      have h1 := hn (((lits (H := H) .u8 (zs.take len)).length + (lits (H := H) .u8 (zs.drop len)).length) * P.bytesOf e) (by simp [DataW.weights, ht])
      have h2 : (lits (H := H) .u8 (zs.take len)).length = (zs.take len).length := by simp [lits]
      have h3 : (zs.take len).length * 1 ≤ ((lits (H := H) .u8 (zs.take len)).length + (lits (H := H) .u8 (zs.drop len)).length) * P.bytesOf e := Nat.mul_le_mul (by omega) hb
      unfold reachBytes at h1
      omega
    have hz' : zs.length = cap := by simpa using hz
    have hlen : (zs.take len).length = len := by simp; omega
    refine ⟨_, zs.take len, hcs, ⟨some x, cap, by rw [hlen], by rw [hlen]; unfold maxLen at hm; omega, fun hne => ?_⟩, fun z hz => hwz z (List.mem_of_mem_take hz), by rw [hx0]; exact hW⟩
    have h0 : 0 < len := by
      rcases Nat.eq_zero_or_pos len with h0 | h0
      · subst h0; simp at hne
      · exact h0
    obtain ⟨b, off, spot⟩ := x
    have h00 := hcell 0 (by omega)
    have hspot : spot = none := by simpa [Addr.add] using World.cell?_spot h00
    subst hspot
    refine ⟨b, off, rfl, fun j hj => ?_⟩
    rw [hlen] at hj
    have := hcell j (by omega)
    have e1 : (⟨b, off, none⟩ : Addr).add j = ⟨b, off + j, none⟩ := by unfold Addr.add; split <;> simp_all
    rw [e1] at this
    rw [this]
    simp [hj]

theorem openOps {t e q r u : TypeId} {fs : Array Field} {base : Nat} {v : Value} {d : DataW H} {p : List MemPlace} (ht : P.underlying t = some (.slice e)) (he : P.underlying e = some (.struct fs)) (hf : ∀ i, i < 4 → ∃ f, fs[i]? = some f ∧ f.type = q ∧ f.offset = i) (hr4 : ∃ f, fs[4]? = some f ∧ f.type = r ∧ f.offset = 4) (h5 : fs.size = 5)
    (hq : P.underlying q = some (.int .i64)) (hr : P.underlying r = some (.slice u)) (hu : P.underlying u = some (.int .u8)) (ce : P.cellsOf e = 5) (cq : P.cellsOf q = 1) (cr : P.cellsOf r = 1) (cu : P.cellsOf u = 1) (be : 56 ≤ P.bytesOf e) (bu : 1 ≤ P.bytesOf u)
    (hv : Value.okWide P W .any base t v) (h : DataW.Trod enc P W 0 (fun _ => true) true t v d p)
    {ts : List TypeId} {ds : List (DataW H)} {j : Nat} (hsz : (DataW.weightsEach P ts ds).all (· ≤ reachBytes) = true) (hts : ts[j]? = some t) (hds : ds[j]? = some d) : ∃ L, ClsIn W v L ∧ (∀ e ∈ L, e.d.length ≤ 140737488351232) ∧ ∃ a c, v = .slice a L.length c ∧ L.length ≤ c ∧ c ≤ 9223372036854775807 := by
  obtain ⟨a, len, cap, rfl⟩ := okWide_slice ht hv
  obtain ⟨fuel, hfu⟩ := h
  rcases open_slice ht hfu with ⟨hcs, hx⟩ | ⟨x, l, c, m, n, D, Pl, hcs, hb, hl, hm, hmm, hx, hel⟩
  · simp [Value.cells] at hcs
    obtain ⟨rfl, rfl, rfl⟩ := hcs
    exact ⟨[], ClsIn.nil W, by simp, none, 0, rfl, by simp, by omega⟩
  · simp [Value.cells] at hcs
    obtain ⟨rfl, rfl, rfl⟩ := hcs
    simp only [if_true] at hmm
    subst hmm
    have hd : d = .slice ((List.range len).map D) ((List.range (m - len)).map fun j => D (len + j)) := by
      have := congrArg Prod.fst hx
      simpa using this
    have hbig := sized_slice hsz hts (hd ▸ hds) ht
    have hlen : len ≤ 2513169434916 := by
      simp only [List.length_map, List.length_range, reachBytes] at hbig
      have h1 : len * 56 ≤ (len + (m - len)) * P.bytesOf e := Nat.mul_le_mul (by omega) be
      omega
    rcases Nat.eq_zero_or_pos len with h0 | h0
    · subst h0
      exact ⟨[], ⟨some x, m, rfl, by simp, fun k hk => by simp at hk⟩, by simp, some x, m, rfl, by simp, hm⟩
    have hspot : x.spot = none := by
      obtain ⟨cs', h1, _⟩ := hel 0 (by omega)
      rw [ce] at h1
      obtain ⟨_, hlen, hat⟩ := World.cells?_some h1
      have k0 := hat 0 (by omega)
      rw [add_add, List.getElem?_eq_getElem (by omega)] at k0
      obtain ⟨b, off, spot⟩ := x
      simpa [Addr.add] using World.cell?_spot k0
    obtain ⟨b, off, spot⟩ := x
    simp only at hspot
    subst hspot
    have hall : ∀ i, i < len → ∀ n ∈ DataW.weights P e (D i), n ≤ reachBytes := by
      intro i hi n hn
      have := List.all_eq_true.1 hsz n (DataW.weights_mem_each hts hds n (by
        rw [hd]
        simp only [DataW.weights, ht, List.mem_cons, List.mem_append]
        exact Or.inr (Or.inl (weightsAll_mem (List.mem_map.2 ⟨i, List.mem_range.2 hi, rfl⟩) hn))))
      simpa using this
    have each : ∀ i, i < m → ∃ y : Cl, call5 W b (off + i * 5) y ∧ (i < len → y.d.length ≤ 140737488351232) := by
      intro i hi
      obtain ⟨cs', h1, h2⟩ := hel i hi
      rw [ce] at h1
      obtain ⟨_, hlen, hat⟩ := World.cells?_some h1
      obtain ⟨xs, n', _, hDx, _, hxl, hfld⟩ := DataW.trod_struct he h2
      have tr : ∀ j, j < 4 → ∃ a : Int, cs'[j]? = some (.int .i64 a) ∧ (Lit.int .i64 a).wf = true := by
        intro j hj
        obtain ⟨f, f1, f2, f3⟩ := hf j hj
        have g := hfld j f f1
        rw [f2, f3, cq] at g
        have hy : xs[j]? = some (xs[j]'(by omega)) := List.getElem?_eq_getElem (by omega)
        rw [hy] at g
        obtain ⟨a, e0, _, hwf⟩ := DataW.trod_int hq g
        refine ⟨a, ?_, hwf⟩
        have := congrArg (·[0]?) e0
        simpa using this
      obtain ⟨a0, e0, w0⟩ := tr 0 (by omega)
      obtain ⟨a1, e1, w1⟩ := tr 1 (by omega)
      obtain ⟨a2, e2, w2⟩ := tr 2 (by omega)
      obtain ⟨a3, e3, w3⟩ := tr 3 (by omega)
      obtain ⟨dv, zs, e4, hrd, hwz, hln⟩ : ∃ dv zs, cs'[4]? = some dv ∧ Reads W .u8 dv zs ∧ (∀ z ∈ zs, (Lit.int .u8 z).wf = true) ∧ (i < len → zs.length ≤ 140737488351232) := by
        obtain ⟨f, f1, f2, f3⟩ := hr4
        have g := hfld 4 f f1
        rw [f2, f3, cr] at g
        have hy : xs[4]? = some (xs[4]'(by omega)) := List.getElem?_eq_getElem (by omega)
        rw [hy] at g
        obtain ⟨dv, zs, e0, h1, h2, h3⟩ := reads_of_trod_sized hr hu cu g
        refine ⟨dv, zs, ?_, h1, h2, fun hi => h3 bu (fun n hn => hall i hi n ?_)⟩
        rotate_left
        · have hD : D i = .agg (xs.map (·.1)) := congrArg Prod.fst hDx
          rw [hD]
          simp only [DataW.weights, he]
          refine DataW.weights_mem_each (j := 4) (t := r) (d := (xs[4]'(by omega)).1) ?_ ?_ n hn
          · rw [List.getElem?_map, Array.getElem?_toList, f1]
            simp [f2]
          · rw [List.getElem?_map, hy]
            rfl
        have := congrArg (·[0]?) e0
        simpa using this
      have k0 := hat 0 (by omega)
      have k1 := hat 1 (by omega)
      have k2 := hat 2 (by omega)
      have k3 := hat 3 (by omega)
      have k4 := hat 4 (by omega)
      rw [add_add] at k0 k1 k2 k3 k4
      rw [e0] at k0
      rw [e1] at k1
      rw [e2] at k2
      rw [e3] at k3
      rw [e4] at k4
      have e1 : ∀ j, (⟨b, off, none⟩ : Addr).add j = ⟨b, off + j, none⟩ := fun j => by unfold Addr.add; split <;> simp_all
      rw [e1] at k0 k1 k2 k3 k4
      exact ⟨⟨a0, a1, a2, a3, zs⟩, ⟨k0, k1, k2, k3, dv, k4, hrd, hwz, range_i64 w0, range_i64 w1, range_i64 w2, range_i64 w3⟩, hln⟩
    obtain ⟨es, hes⟩ := choose_to Cl.zero each
    refine ⟨(List.range len).map es, ⟨some ⟨b, off, none⟩, m, by simp, by simpa using hlen, fun k hk => ?_⟩, fun e he' => ?_, some ⟨b, off, none⟩, m, by simp, by simpa using hl, hm⟩
    rotate_left
    · obtain ⟨i, hi, rfl⟩ := List.mem_map.1 he'
      have hi' := List.mem_range.1 hi
      exact (hes i (by omega)).2 hi'
    have hk' : k < len := by simpa using hk
    have hgd : ((List.range len).map es).getD k Cl.zero = es k := by
      rw [List.getD_eq_getElem?_getD]
      simp [hk']
    rw [hgd]
    exact ⟨b, off, rfl, (hes k (by omega)).1⟩

end
end Go.Proofs.YtfnmjlnpfoclbaaGreat
