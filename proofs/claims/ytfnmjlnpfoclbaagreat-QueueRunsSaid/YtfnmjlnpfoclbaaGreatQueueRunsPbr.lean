/-
  Join of QueueRuns on both sides. No conditions.
  The calls of a script that came in. No conditions.
-/
import Derived.Test.YtfnmjlnpfoclbaaGreatQueueRunsPbq
import Derived.Test.YtfnmjlnpfoclbaaGreatQueueRunsPaa
import Derived.Test.YtfnmjlnpfoclbaaGreatQueueRunsPab
import Derived.Deep.Slices

namespace Go.Proofs.YtfnmjlnpfoclbaaGreat
section
open Go.RowKit
set_option linter.unusedVariables false

theorem flags_or {P Q : Option Value} {c d : Bool} (hp : P = some (.bool c)) (hq : Q = some (.bool d)) (h : c = true ∨ d = true) : P = some (.bool true) ∨ (P = some (.bool false) ∧ Q = some (.bool true)) := by
  cases c with
  | true => exact Or.inl hp
  | false => exact Or.inr ⟨hp, by rcases h with h | h
                                  · cases h
                                  · rw [← h]; exact hq⟩
theorem RSt.szk {w : World} {F : Nat → Prop} {I : QuId} {L : List QCh} {c : Bool} (h : RSt w F I L c) : SzKnown w I.r := by
  rcases h with ⟨h1, h2, cv, h3, h4⟩ | ⟨h1, h2, h3, h4⟩
  · exact szKnown_open h3 h2
  · exact szKnown_shut (by rw [cell_of h3]; rfl)
theorem ProgAt.opn2 {w : World} {I J : QuId} {L M : List QCh} {b : BookSt} {N : Nat} {A G : Nat → Prop} (h : ProgAt w I J false false L M b N A G) :
    ∃ F E, QR w I L b N F G ∧ QR w J M b N E G ∧ QSt w F I L false ∧ QSt w E J M false ∧ (∀ k, F k → ¬ E k) ∧ ∀ k, A k ↔ F k ∨ E k := by
  obtain ⟨F, E, qr, q, o, fe, hA⟩ := h.opn
  rcases id o with ⟨_, h2, cv, h3, h4⟩ | ⟨h1, _⟩
  · exact ⟨F, E, qr, ⟨⟨cv, h3⟩, by rw [h.bp]; exact h.bk, fun k hk => h.ag k ((hA k).2 (Or.inr hk)), fun k hk => o.lt hk, h.gl, h.pj.1, h.pj.2, h.good, h2⟩, q, o, fe, hA⟩
  · cases h1
theorem RfdAt.opn2 {w : World} {I J : QuId} {L M : List QCh} {b : BookSt} {A G : Nat → Prop} (h : RfdAt w I J false false L M b A G) :
    ∃ F E, RR w I L b F G ∧ RR w J M b E G ∧ RSt w F I L false ∧ RSt w E J M false ∧ (∀ k, F k → ¬ E k) ∧ ∀ k, A k ↔ F k ∨ E k := by
  obtain ⟨F, E, qr, q, o, fe, hA⟩ := h.opn
  rcases id o with ⟨_, h2, cv, h3, h4⟩ | ⟨h1, _⟩
  · exact ⟨F, E, qr, ⟨⟨cv, h3⟩, by rw [h.bp]; exact h.bk, fun k hk => h.ag k ((hA k).2 (Or.inr hk)), fun k hk => o.lt hk, h.gl, h.pj.1, h.pj.2, h.good, h2⟩, q, o, fe, hA⟩
  · cases h1
theorem ProgAt.book {w w1 : World} {I J : QuId} {c d : Bool} {L M : List QCh} {b b2 : BookSt} {N : Nat} {A G G2 : Nat → Prop} (h : ProgAt w I J c d L M b N A G) (hb : BookAt w1 G2 I.bp b2 N) (gg : Good b2) (gl : ∀ k, G2 k → k < w1.heap.size) (l2 : QLater w w1 G G2) (t : Touch G w w1) :
    ProgAt w1 I J c d L M b2 N A G2 := by
  obtain ⟨F, E, q, o, fe, hA⟩ := h.qo
  refine ⟨⟨F, E, q.touch t (fun k hk => h.ag k ((hA k).2 (Or.inl hk))), o.touch t (fun k hk => h.ag k ((hA k).2 (Or.inr hk))), fe, hA⟩, hb, gl, fun k hk hg => ?_, gg, h.pi, h.pj, h.bp⟩
  have hl := h.al hk
  rcases l2 k hg with x | x
  · exact h.ag k hk x
  · omega
theorem RfdAt.book {w w1 : World} {I J : QuId} {c d : Bool} {L M : List QCh} {b b2 : BookSt} {A G G2 : Nat → Prop} (h : RfdAt w I J c d L M b A G) (hb : RB w1 G2 I.bp b2 false) (gg : Good b2) (gl : ∀ k, G2 k → k < w1.heap.size) (l2 : QLater w w1 G G2) (t : Touch G w w1) :
    RfdAt w1 I J c d L M b2 A G2 := by
  obtain ⟨F, E, q, o, fe, hA⟩ := h.qo
  refine ⟨⟨F, E, q.touch t (fun k hk => h.ag k ((hA k).2 (Or.inl hk))), o.touch t (fun k hk => h.ag k ((hA k).2 (Or.inr hk))), fe, hA⟩, hb, gl, fun k hk hg => ?_, gg, h.pi, h.pj, h.bp⟩
  have hl := h.al hk
  rcases l2 k hg with x | x
  · exact h.ag k hk x
  · omega
theorem join_big {L M L' M' : List QCh} (h1 : SameQ L L') (h2 : SameQ M M') : bigJ L' M' ↔ bigJ L M := by
  unfold bigJ
  rw [h1.lens, h2.lens, h1.len, h2.len]
theorem join_paid {I J I' J' : QuId} {M M' : List QCh} (hi : SameI I I') (hj : SameI J J') (h2 : SameQ M M') : paidJ I' J' M' ↔ paidJ I J M := by
  unfold paidJ
  rw [hi.1, hj.1, h2.rooms]
theorem join_E {I J I' J' : QuId} {L M L' M' : List QCh} (hi : SameI I I') (hj : SameI J J') (h1 : SameQ L L') (h2 : SameQ M M') (b : BookSt) : joinE I' J' L' M' b = joinE I J L M b ∧ joinSt I' J' L' M' b = joinSt I J L M b := by
  unfold joinE joinSt
  simp only [join_big h1 h2, join_paid hi hj h2, hi.1, hj.1, h2.rooms, and_self]
section
variable {w0 w w1 w2 : World} {I J I' J' : QuId} {cp n N : Nat} {X : Nat → Prop} {c d c2 d2 : Bool} {L M L' M' L2 M2 L2' M2' : List QCh} {b b2 : BookSt} {A G A' G' A2 G2 A2' G2' : Nat → Prop} {R : Rel} {prs : List (Value × Value)}
theorem op_self (h : QI w0 I J I' J' cp n N X c d L M L' M' b A G A' G' R prs w) :
    Calls Tryz.prog 37 #[.pointer (some ⟨I.r, 0, none⟩), .pointer (some ⟨I.r, 0, none⟩)] w (IntEnd 38 #[.pointer (some ⟨I'.r, 0, none⟩), .pointer (some ⟨I'.r, 0, none⟩)] w X (QIx w0 I J I' J' cp n N X)) := by
  obtain ⟨F, E, q, o, fe, hA⟩ := h.p.qo
  have c6 := q.flag
  have key : ∀ z : Int, ∀ w1, Below w.heap.size w w1 → (∀ F' E', RSt w1 F' I' L' c → Calls Tryz.prog 38 #[.pointer (some ⟨I'.r, 0, none⟩), .pointer (some ⟨I'.r, 0, none⟩)] w1 (fun e2 w2 => e2 = .returned (.int .i64 z) ∧ Below w1.heap.size w1 w2)) →
      IntEnd 38 #[.pointer (some ⟨I'.r, 0, none⟩), .pointer (some ⟨I'.r, 0, none⟩)] w X (QIx w0 I J I' J' cp n N X) (.returned (.int .i64 z)) w1 := fun z w1 hb1 hc => by
    have h1 := h.below hb1
    obtain ⟨F', E', q', o', _, _⟩ := h1.r.qo
    refine ⟨z, rfl, StayX.below h.xl hb1, (hc F' E' q').mono ?_⟩
    rintro e w2 ⟨rfl, hb2⟩
    exact ⟨rfl, (h1.below hb2).ix, (StayX.below h.xl hb1).trans (StayX.below h1.xl hb2)⟩
  cases c with
  | true =>
    refine (joinQ_shut I.r I.r w (Or.inl c6)).mono ?_
    rintro e w1 ⟨rfl, hb1⟩
    exact key 11 w1 hb1 (fun F' E' q' => joinR_shut I'.r I'.r w1 q'.szk q'.szk (Or.inl q'.flag))
  | false =>
    refine (joinQ_self I.r w c6).mono ?_
    rintro e w1 ⟨rfl, hb1⟩
    exact key 6 w1 hb1 (fun F' E' q' => joinR_self I'.r w1 q'.szk q'.flag)

set_option maxHeartbeats 1000000 in
theorem op_join (h : QI w0 I J I' J' cp n N X c d L M L' M' b A G A' G' R prs w) :
    Calls Tryz.prog 37 #[.pointer (some ⟨I.r, 0, none⟩), .pointer (some ⟨J.r, 0, none⟩)] w (IntEnd 38 #[.pointer (some ⟨I'.r, 0, none⟩), .pointer (some ⟨J'.r, 0, none⟩)] w X (QIx w0 I J I' J' cp n N X)) := by
  by_cases hcd : c = true ∨ d = true
  case pos =>
    obtain ⟨F, E, q, o, fe, hA⟩ := h.p.qo
    have c6 := q.flag
    have d6 := o.flag
    refine (joinQ_shut I.r J.r w (flags_or c6 d6 hcd)).mono ?_
    rintro e w1 ⟨rfl, hb1⟩
    have h1 := h.below hb1
    obtain ⟨F', E', q', o', _, _⟩ := h1.r.qo
    have c7 := q'.flag
    have d7 := o'.flag
    refine ⟨11, rfl, StayX.below h.xl hb1, (joinR_shut I'.r J'.r w1 q'.szk o'.szk (flags_or c7 d7 hcd)).mono ?_⟩
    rintro e w2 ⟨rfl, hb2⟩
    exact ⟨rfl, (h1.below hb2).ix, (StayX.below h.xl hb1).trans (StayX.below h1.xl hb2)⟩
  obtain ⟨rfl, rfl⟩ : c = false ∧ d = false := by cases c <;> cases d <;> simp_all
  obtain ⟨F, E, qr, qo, q, o, fe, hA⟩ := h.p.opn2
  obtain ⟨jE, jS⟩ := join_E h.ii h.jj h.sl h.sm b
  refine (joinQ_any I J L M b N F E G w qr qo h.p.bp fe).mono ?_
  rintro e w1 ⟨rfl, G2, bk, gl, l2, hno, hyes⟩
  by_cases hE : joinE I J L M b = 0
  · obtain ⟨kv, k1, k2, k3, t⟩ := hyes hE
    have hbig : ¬ bigJ L M := fun e => by
      unfold joinE at hE
      rw [if_pos e] at hE
      cases hE
    have hlen : L.length + M.length ≤ 500 := Nat.le_of_not_lt (fun e => hbig (Or.inr e))
    have hne : I.r ≠ J.r := fun e => fe _ q.fr (e ▸ o.fr)
    have notc : ∀ c ∈ L ++ M, c.b ≠ J.r := fun c hc e => by
      obtain ⟨dv, hm⟩ := qo.qu
      have hu : ∃ cs, w.heap[c.b]? = some (.cells cs 5 (0, 0)) := (List.mem_append.1 hc).elim (fun hc => ⟨_, (q.oct hc).1⟩) (fun hc => ⟨_, (o.oct hc).1⟩)
      obtain ⟨cs, hu⟩ := hu
      have := hm.self
      rw [← e, hu] at this
      simp at this
    obtain ⟨A2, p2, a1, t1⟩ := h.p.joined (fun k hk => q.lt hk) (fun k hk => o.lt hk) hA hlen k1 k2 hne (fun k hk => (k3 k hk).1) qr.ok qo.ok bk (joinSt_good h.p.good I J L M) gl l2 (fun k hk => (k3 k hk).2) t q.fr o.fr notc (fun e => by have := (k3 _ e).1; have := o.lt o.fr; omega)
    obtain ⟨st1, r1⟩ := h.half t1
    obtain ⟨F', E', rr, ro, q', o', fe', hA'⟩ := r1.opn2
    refine ⟨_, rfl, st1, (joinR_any I' J' L' M' b F' E' G' w1 rr ro h.r.bp fe').mono ?_⟩
    rintro e w2 ⟨rfl, G3, bk2, gl2, m2, _, hyes2⟩
    obtain ⟨kv', j1, j2, j3, t2⟩ := hyes2 (jE.trans hE)
    rw [jS] at bk2
    have hne' : I'.r ≠ J'.r := fun e => fe' _ q'.fr (e ▸ o'.fr)
    have notc' : ∀ c ∈ L' ++ M', c.b ≠ J'.r := fun c hc e => by
      obtain ⟨dv, hm⟩ := ro.qu
      have hu : ∃ cs, w1.heap[c.b]? = some (.cells cs 5 (0, 0)) := (List.mem_append.1 hc).elim (fun hc => ⟨_, (q'.oct hc).1⟩) (fun hc => ⟨_, (o'.oct hc).1⟩)
      obtain ⟨cs, hu⟩ := hu
      have := hm.self
      rw [← e, hu] at this
      simp at this
    obtain ⟨A3, rd, a3, t3⟩ := r1.joined (fun k hk => q'.lt hk) (fun k hk => o'.lt hk) hA' (by rw [← h.sl.len, ← h.sm.len]; exact hlen) j1 j2 hne' (fun k hk => (j3 k hk).1) rr.ok ro.ok bk2 (joinSt_good h.p.good I J L M) gl2 m2 (fun k hk => (j3 k hk).2) t2 q'.fr o'.fr notc' (fun e => by have := (j3 _ e).1; have := o'.lt o'.fr; omega)
    have cur : ∀ x y, CurQ (L ++ M) [] (L' ++ M') [] x y ↔ CurQ L M L' M' x y := fun x y => by
      unfold CurQ
      rw [List.zip_append h.sl.len, List.mem_append]
      simp
    obtain ⟨⟨R2, hq⟩, hst⟩ := h.turn p2 a1 l2 t1 rd a3 m2 t3 (h.sl.app h.sm) SameQ.nil (fun x hx => hx.elim (fun hx => h.byt x (List.mem_append.1 hx)) (fun hx => by simp at hx))
      (fun x y hxy => Or.inl ⟨x, y, (cur x y).1 hxy, rfl, rfl, rfl⟩) (fun x y hxy => Or.inl ⟨x, y, (cur x y).2 hxy, rfl, rfl, rfl⟩)
    exact ⟨by rw [jE], hq.ix, hst⟩
  · have t := hno hE
    have p2 := h.p.book bk (joinSt_good h.p.good I J L M) gl l2 t
    have t1 : Touch (fun k => A k ∨ G k) w w1 := t.mono (fun k hk => Or.inr hk)
    obtain ⟨st1, r1⟩ := h.half t1
    obtain ⟨F', E', rr, ro, q', o', fe', hA'⟩ := r1.opn2
    refine ⟨_, rfl, st1, (joinR_any I' J' L' M' b F' E' G' w1 rr ro h.r.bp fe').mono ?_⟩
    rintro e w2 ⟨rfl, G3, bk2, gl2, m2, hno2, _⟩
    have t2 := hno2 (by rw [jE]; exact hE)
    rw [jS] at bk2
    have rd := r1.book bk2 (joinSt_good h.p.good I J L M) gl2 m2 t2
    obtain ⟨⟨R2, hq⟩, hst⟩ := h.turn p2 (fun k hk => Or.inl hk) l2 t1 rd (fun k hk => Or.inl hk) m2 (t2.mono (fun k hk => Or.inr hk)) h.sl h.sm h.byt (fun x y hxy => Or.inl ⟨x, y, hxy, rfl, rfl, rfl⟩) (fun x y hxy => Or.inl ⟨x, y, hxy, rfl, rfl, rfl⟩)
    exact ⟨by rw [jE], hq.ix, hst⟩
end

end
end Go.Proofs.YtfnmjlnpfoclbaaGreat

namespace Go.Proofs.YtfnmjlnpfoclbaaGreat
section
open Go.ChangeShapes Go.WideShapes Go.ChangeAt Go.RowKit Go.Deep
set_option linter.unusedVariables false

theorem choose_to {α : Type} {n : Nat} {p : Nat → α → Prop} (d : α) (h : ∀ i, i < n → ∃ y, p i y) : ∃ f : Nat → α, ∀ i, i < n → p i (f i) :=
  ⟨fun i => if hi : i < n then (h i hi).choose else d, fun i hi => by simp only; rw [dif_pos hi]; exact (h i hi).choose_spec⟩

structure Cl where
  k : Int
  a : Int
  b : Int
  c : Int
  d : List Int
def Cl.zero : Cl := ⟨0, 0, 0, 0, []⟩
def fit64 (x : Int) : Prop := -9223372036854775808 ≤ x ∧ x ≤ 9223372036854775807

/-- A call's five cells. -/
def call5 (w : World) (b x : Nat) (e : Cl) : Prop :=
  w.cell? ⟨b, x, none⟩ = some (.int .i64 e.k) ∧ w.cell? ⟨b, x + 1, none⟩ = some (.int .i64 e.a) ∧ w.cell? ⟨b, x + 2, none⟩ = some (.int .i64 e.b) ∧ w.cell? ⟨b, x + 3, none⟩ = some (.int .i64 e.c) ∧
  ∃ dv, w.cell? ⟨b, x + 4, none⟩ = some dv ∧ Reads w .u8 dv e.d ∧ (∀ z ∈ e.d, (Lit.int .u8 z).wf = true) ∧ fit64 e.k ∧ fit64 e.a ∧ fit64 e.b ∧ fit64 e.c
/-- A slice of calls. -/
def ClsIn (w : World) (v : Value) (L : List Cl) : Prop :=
  ∃ a cap, v = .slice a L.length cap ∧ L.length ≤ 2513169434916 ∧ ∀ k, k < L.length → ∃ b o, a = some ⟨b, o, none⟩ ∧ call5 w b (o + k * 5) (L.getD k Cl.zero)

theorem ClsIn.nil (w : World) : ClsIn w (.slice none 0 0) [] := ⟨none, 0, rfl, by simp, fun k h => by simp at h⟩
theorem call5.below {w w' : World} {b x : Nat} {e : Cl} (h : call5 w b x e) (hb : Below w.heap.size w w') : call5 w' b x e := by
  obtain ⟨h0, h1, h2, h3, dv, h4, h5, h6⟩ := h
  have hlt := World.block_lt_of_cell? w _ h0
  have f : ∀ j, w'.cell? ⟨b, j, none⟩ = w.cell? ⟨b, j, none⟩ := fun j => hb.cell (p := ⟨b, j, none⟩) hlt
  exact ⟨(f _).trans h0, (f _).trans h1, (f _).trans h2, (f _).trans h3, dv, (f _).trans h4, h5.below hb rfl, h6⟩
theorem ClsIn.below {w w' : World} {v : Value} {L : List Cl} (h : ClsIn w v L) (hb : Below w.heap.size w w') : ClsIn w' v L := by
  obtain ⟨a, cap, rfl, hl, hc⟩ := h
  refine ⟨a, cap, rfl, hl, fun k hk => ?_⟩
  obtain ⟨b, o, ha, hcell⟩ := hc k hk
  exact ⟨b, o, ha, hcell.below hb⟩

variable {H : Type} {enc : TypeId × Value → H} {P : Program} {W : World}

theorem reads_of_trod {t e : TypeId} {fuel : Nat} {cs : List Value} {x : DataW H × List MemPlace} (ht : P.underlying t = some (.slice e)) (he : P.underlying e = some (.int .u8)) (hc : P.cellsOf e = 1)
    (h : DataW.trod enc P W 0 (fun _ => true) true fuel t cs = some x) : ∃ v zs, cs = [v] ∧ Reads W .u8 v zs ∧ ∀ z ∈ zs, (Lit.int .u8 z).wf = true := by
  rcases open_ints ht he hc h with ⟨hcs, hx⟩ | ⟨x, len, cap, zs, hcs, _, hl, hm, hz, hx, hcell, hwz⟩
  · exact ⟨_, [], hcs, ⟨none, 0, rfl, by simp, fun h => absurd rfl h⟩, by simp⟩
  · have hz' : zs.length = cap := by simpa using hz
    have hlen : (zs.take len).length = len := by simp; omega
    refine ⟨_, zs.take len, hcs, ⟨some x, cap, by rw [hlen], by rw [hlen]; unfold maxLen at hm; omega, fun hne => ?_⟩, fun z hz => hwz z (List.mem_of_mem_take hz)⟩
    have h0 : 0 < len := by
      rcases Nat.eq_zero_or_pos len with h0 | h0
      · subst h0; simp at hne
      · exact h0
    obtain ⟨b, off, spot⟩ := x
    have h00 := hcell 0 (by omega)
    have hspot : spot = none := by simpa [Addr.add] using World.cell?_spot h00
    subst hspot
    refine ⟨b, off, rfl, fun j hj => ?_⟩
    rw [hlen] at hj
    have := hcell j (by omega)
    have e1 : (⟨b, off, none⟩ : Addr).add j = ⟨b, off + j, none⟩ := by unfold Addr.add; split <;> simp_all
    rw [e1] at this
    rw [this]
    simp [hj]

theorem openCalls {t e q r u : TypeId} {fs : Array Field} {base : Nat} {v : Value} {d : DataW H} {p : List MemPlace} (ht : P.underlying t = some (.slice e)) (he : P.underlying e = some (.struct fs)) (hf : ∀ i, i < 4 → ∃ f, fs[i]? = some f ∧ f.type = q ∧ f.offset = i) (hr4 : ∃ f, fs[4]? = some f ∧ f.type = r ∧ f.offset = 4) (h5 : fs.size = 5)
    (hq : P.underlying q = some (.int .i64)) (hr : P.underlying r = some (.slice u)) (hu : P.underlying u = some (.int .u8)) (ce : P.cellsOf e = 5) (cq : P.cellsOf q = 1) (cr : P.cellsOf r = 1) (cu : P.cellsOf u = 1) (be : 56 ≤ P.bytesOf e)
    (hv : Value.okWide P W .any base t v) (h : DataW.Trod enc P W 0 (fun _ => true) true t v d p)
    {ts : List TypeId} {ds : List (DataW H)} {j : Nat} (hsz : (DataW.weightsEach P ts ds).all (· ≤ reachBytes) = true) (hts : ts[j]? = some t) (hds : ds[j]? = some d) : ∃ L, ClsIn W v L := by
  obtain ⟨a, len, cap, rfl⟩ := okWide_slice ht hv
  obtain ⟨fuel, hfu⟩ := h
  rcases open_slice ht hfu with ⟨hcs, hx⟩ | ⟨x, l, c, m, n, D, Pl, hcs, hb, hl, hm, hmm, hx, hel⟩
  · simp [Value.cells] at hcs
    obtain ⟨rfl, rfl, rfl⟩ := hcs
    exact ⟨[], ClsIn.nil W⟩
  · simp [Value.cells] at hcs
    obtain ⟨rfl, rfl, rfl⟩ := hcs
    simp only [if_true] at hmm
    subst hmm
    have hd : d = .slice ((List.range len).map D) ((List.range (m - len)).map fun j => D (len + j)) := by
      have := congrArg Prod.fst hx
      simpa using this
    have hbig := sized_slice hsz hts (hd ▸ hds) ht
    have hlen : len ≤ 2513169434916 := by
      simp only [List.length_map, List.length_range, reachBytes] at hbig
      have h1 : len * 56 ≤ (len + (m - len)) * P.bytesOf e := Nat.mul_le_mul (by omega) be
      omega
    rcases Nat.eq_zero_or_pos len with h0 | h0
    · subst h0
      exact ⟨[], some x, m, rfl, by simp, fun k hk => by simp at hk⟩
    have hspot : x.spot = none := by
      obtain ⟨cs', h1, _⟩ := hel 0 (by omega)
      rw [ce] at h1
      obtain ⟨_, hlen, hat⟩ := World.cells?_some h1
      have k0 := hat 0 (by omega)
      rw [add_add, List.getElem?_eq_getElem (by omega)] at k0
      obtain ⟨b, off, spot⟩ := x
      simpa [Addr.add] using World.cell?_spot k0
    obtain ⟨b, off, spot⟩ := x
    simp only at hspot
    subst hspot
    have each : ∀ i, i < m → ∃ y : Cl, call5 W b (off + i * 5) y := by
      intro i hi
      obtain ⟨cs', h1, h2⟩ := hel i hi
      rw [ce] at h1
      obtain ⟨_, hlen, hat⟩ := World.cells?_some h1
      obtain ⟨xs, n', _, _, _, hxl, hfld⟩ := DataW.trod_struct he h2
      have tr : ∀ j, j < 4 → ∃ a : Int, cs'[j]? = some (.int .i64 a) ∧ (Lit.int .i64 a).wf = true := by
        intro j hj
        obtain ⟨f, f1, f2, f3⟩ := hf j hj
        have g := hfld j f f1
        rw [f2, f3, cq] at g
        have hy : xs[j]? = some (xs[j]'(by omega)) := List.getElem?_eq_getElem (by omega)
        rw [hy] at g
        obtain ⟨a, e0, _, hwf⟩ := DataW.trod_int hq g
        refine ⟨a, ?_, hwf⟩
        have := congrArg (·[0]?) e0
        simpa using this
      obtain ⟨a0, e0, w0⟩ := tr 0 (by omega)
      obtain ⟨a1, e1, w1⟩ := tr 1 (by omega)
      obtain ⟨a2, e2, w2⟩ := tr 2 (by omega)
      obtain ⟨a3, e3, w3⟩ := tr 3 (by omega)
      obtain ⟨dv, zs, e4, hrd, hwz⟩ : ∃ dv zs, cs'[4]? = some dv ∧ Reads W .u8 dv zs ∧ ∀ z ∈ zs, (Lit.int .u8 z).wf = true := by
        obtain ⟨f, f1, f2, f3⟩ := hr4
        have g := hfld 4 f f1
        rw [f2, f3, cr] at g
        have hy : xs[4]? = some (xs[4]'(by omega)) := List.getElem?_eq_getElem (by omega)
        rw [hy] at g
        obtain ⟨dv, zs, e0, h1, h2⟩ := reads_of_trod hr hu cu g
        refine ⟨dv, zs, ?_, h1, h2⟩
        have := congrArg (·[0]?) e0
        simpa using this
      have k0 := hat 0 (by omega)
      have k1 := hat 1 (by omega)
      have k2 := hat 2 (by omega)
      have k3 := hat 3 (by omega)
      have k4 := hat 4 (by omega)
      rw [add_add] at k0 k1 k2 k3 k4
      rw [e0] at k0
      rw [e1] at k1
      rw [e2] at k2
      rw [e3] at k3
      rw [e4] at k4
      have e1 : ∀ j, (⟨b, off, none⟩ : Addr).add j = ⟨b, off + j, none⟩ := fun j => by unfold Addr.add; split <;> simp_all
      rw [e1] at k0 k1 k2 k3 k4
      exact ⟨⟨a0, a1, a2, a3, zs⟩, ⟨k0, k1, k2, k3, dv, k4, hrd, hwz, range_i64 w0, range_i64 w1, range_i64 w2, range_i64 w3⟩⟩
    obtain ⟨es, hes⟩ := choose_to Cl.zero each
    refine ⟨(List.range len).map es, some ⟨b, off, none⟩, m, by simp, by simpa using hlen, fun k hk => ?_⟩
    have hk' : k < len := by simpa using hk
    have hgd : ((List.range len).map es).getD k Cl.zero = es k := by
      rw [List.getD_eq_getElem?_getD]
      simp [hk']
    rw [hgd]
    exact ⟨b, off, rfl, hes k (by omega)⟩

end
end Go.Proofs.YtfnmjlnpfoclbaaGreat
