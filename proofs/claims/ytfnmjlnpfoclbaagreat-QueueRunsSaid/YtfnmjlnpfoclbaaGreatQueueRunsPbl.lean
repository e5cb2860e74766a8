/-
  Two queues and their book, on both sides. No conditions. (Printed by qui.py.)
  Two rows more that show the same. No conditions.
  A region that draws its order: a load is taken first although its cell is stored to later in the region. No conditions.
-/
import Derived.Test.YtfnmjlnpfoclbaaGreatQueueRunsPbk
import Derived.Test.YtfnmjlnpfoclbaaGreatQueueRunsPae
import Derived.OrdersHeld
import Derived.Deep.RegionLaw

namespace Go.Proofs.YtfnmjlnpfoclbaaGreat
section
open Go.RowKit
set_option linter.unusedVariables false

/-- A queue, open or closed, with the blocks that it really is. -/
def QSt (w : World) (F : Nat → Prop) (I : QuId) (L : List QCh) (c : Bool) : Prop :=
  (c = false ∧ QChsOk L ∧ ∃ cv, QuMem w F I L cv ∧ ∀ k, F k → onlyQ I L cv k) ∨ (c = true ∧ L = [] ∧ ShutQ w I ∧ ∀ k, F k ↔ k = I.r)
theorem QSt.same {w w' : World} {F : Nat → Prop} {I : QuId} {L : List QCh} {c : Bool} (h : QSt w F I L c) (hs : SameOn F w w') : QSt w' F I L c := by
  rcases h with ⟨h1, h2, cv, h3, h4⟩ | ⟨h1, h2, h3, h4⟩
  · exact Or.inl ⟨h1, h2, cv, h3.same hs, h4⟩
  · exact Or.inr ⟨h1, h2, (hs _ ((h4 _).2 rfl) (lt_of h3)).trans h3, h4⟩
theorem QSt.lt {w : World} {F : Nat → Prop} {I : QuId} {L : List QCh} {c : Bool} (h : QSt w F I L c) {k : Nat} (hk : F k) : k < w.heap.size := by
  rcases h with ⟨h1, h2, cv, h3, h4⟩ | ⟨h1, h2, h3, h4⟩
  · rcases h4 k hk with rfl | h5 | ⟨x, hx, rfl⟩
    · exact lt_of h3.self
    · exact (h3.crow.lt k h5).2
    · exact lt_of (h3.mem x hx).1
  · rw [(h4 k).1 hk]; exact lt_of h3
theorem QSt.touch {w w' : World} {F Z : Nat → Prop} {I : QuId} {L : List QCh} {c : Bool} (h : QSt w F I L c) (t : Touch Z w w') (hz : ∀ k, F k → ¬ Z k) : QSt w' F I L c :=
  h.same (t.same (fun k hk _ x => hz k hk x))
theorem QSt.below {w w' : World} {F : Nat → Prop} {I : QuId} {L : List QCh} {c : Bool} (h : QSt w F I L c) (hb : Below w.heap.size w w') : QSt w' F I L c := h.same (Below.same_on hb)
theorem QSt.fr {w : World} {F : Nat → Prop} {I : QuId} {L : List QCh} {c : Bool} (h : QSt w F I L c) : F I.r := by
  rcases h with ⟨h1, h2, cv, h3, h4⟩ | ⟨h1, h2, h3, h4⟩
  · exact h3.fr
  · exact (h4 _).2 rfl
theorem QSt.u8 {w : World} {F : Nat → Prop} {I : QuId} {L : List QCh} {c : Bool} (h : QSt w F I L c) {k : Nat} {cs : Array Value} (hk : F k) (hu : w.heap[k]? = some (.cells cs 5 (0, 0))) : ∃ x ∈ L, k = x.b := by
  rcases h with ⟨h1, h2, cv, h3, h4⟩ | ⟨h1, h2, h3, h4⟩
  · rcases h4 k hk with rfl | h5 | h5
    · have := h3.self; rw [hu] at this; simp at this
    · obtain ⟨cur, hc⟩ := row_block h3.crow h5
      rw [hu] at hc; simp at hc
    · exact h5
  · have e := (h4 k).1 hk
    subst e
    unfold ShutQ at h3
    rw [hu] at h3; simp at h3
theorem QSt.oct {w : World} {F : Nat → Prop} {I : QuId} {L : List QCh} {c : Bool} (h : QSt w F I L c) {x : QCh} (hx : x ∈ L) : byteRow w x.b x.os ∧ F x.b := by
  rcases h with ⟨h1, h2, cv, h3, h4⟩ | ⟨h1, h2, h3, h4⟩
  · exact h3.mem x hx
  · rw [h2] at hx; simp at hx
theorem QSt.nd {w : World} {F : Nat → Prop} {I : QuId} {L : List QCh} {c : Bool} (h : QSt w F I L c) : (L.map QCh.b).Nodup := by
  rcases h with ⟨h1, h2, cv, h3, h4⟩ | ⟨h1, h2, h3, h4⟩
  · exact h3.inj
  · rw [h2]; simp
theorem QSt.ok {w : World} {F : Nat → Prop} {I : QuId} {L : List QCh} {c : Bool} (h : QSt w F I L c) : QChsOk L := by
  rcases h with ⟨h1, h2, cv, h3, h4⟩ | ⟨h1, h2, h3, h4⟩
  · exact h2
  · rw [h2]; exact ⟨by simp, by simp⟩
theorem QSt.raw {w : World} {F : Nat → Prop} {I : QuId} {L : List QCh} {c : Bool} (h : QSt w F I L c) : ∃ cv, w.cell? ⟨I.r, 7, none⟩ = some cv ∧ QChsIn w cv L := by
  rcases h with ⟨h1, h2, cv, h3, h4⟩ | ⟨h1, h2, h3, h4⟩
  · exact ⟨cv, by rw [cell_of h3.self]; rfl, h3.chs⟩
  · refine ⟨.slice none 0 0, by rw [cell_of h3]; rfl, none, 0, by rw [h2]; rfl, by rw [h2]; exact Nat.zero_le _, by decide, fun k hk => by rw [h2] at hk; simp at hk⟩
theorem QSt.flag {w : World} {F : Nat → Prop} {I : QuId} {L : List QCh} {c : Bool} (h : QSt w F I L c) : w.cell? ⟨I.r, 6, none⟩ = some (.bool c) := by
  rcases h with ⟨rfl, h2, cv, h3, h4⟩ | ⟨rfl, h2, h3, h4⟩
  · rw [cell_of h3.self]; rfl
  · rw [cell_of h3]; rfl

/-- Two queues and their book. A: the queues' blocks; G: the book's. -/
structure ProgAt (w : World) (I J : QuId) (c d : Bool) (L M : List QCh) (b : BookSt) (N : Nat) (A G : Nat → Prop) : Prop where
  qo : ∃ F E, QSt w F I L c ∧ QSt w E J M d ∧ (∀ k, F k → ¬ E k) ∧ ∀ k, A k ↔ F k ∨ E k
  bk : BookAt w G I.bp b N
  gl : ∀ k, G k → k < w.heap.size
  ag : ∀ k, A k → ¬ G k
  good : Good b
  pi : polErr I.k I.s I.m = 0 ∧ 1 ≤ I.sz ∧ I.sz ≤ 100000 ∧ I.sz ≤ I.m
  pj : polErr J.k J.s J.m = 0 ∧ 1 ≤ J.sz ∧ J.sz ≤ 100000 ∧ J.sz ≤ J.m
  bp : J.bp = I.bp
section
variable {w w' : World} {I J : QuId} {c d : Bool} {L M : List QCh} {b : BookSt} {N : Nat} {A G Z : Nat → Prop}
theorem ProgAt.al (h : ProgAt w I J c d L M b N A G) {k : Nat} (hk : A k) : k < w.heap.size := by
  obtain ⟨F, E, q, o, _, hA⟩ := h.qo
  exact ((hA k).1 hk).elim q.lt o.lt
theorem ProgAt.same (h : ProgAt w I J c d L M b N A G) (hs : SameOn (fun k => A k ∨ G k) w w') (hsz : w.heap.size ≤ w'.heap.size) : ProgAt w' I J c d L M b N A G := by
  obtain ⟨F, E, q, o, fe, hA⟩ := h.qo
  exact ⟨⟨F, E, q.same (fun k hk hl => hs k (Or.inl ((hA k).2 (Or.inl hk))) hl), o.same (fun k hk hl => hs k (Or.inl ((hA k).2 (Or.inr hk))) hl), fe, hA⟩, BookAt.same h.bk (fun k hk hl => hs k (Or.inr hk) hl), fun k hk => Nat.lt_of_lt_of_le (h.gl k hk) hsz, h.ag, h.good, h.pi, h.pj, h.bp⟩
theorem ProgAt.touch (h : ProgAt w I J c d L M b N A G) (t : Touch Z w w') (hz : ∀ k, A k ∨ G k → ¬ Z k) : ProgAt w' I J c d L M b N A G :=
  h.same (t.same (fun k hk _ x => hz k hk x)) t.size
theorem ProgAt.below (h : ProgAt w I J c d L M b N A G) (hb : Below w.heap.size w w') : ProgAt w' I J c d L M b N A G := h.same (Below.same_on hb) hb.size
theorem ProgAt.u8 (h : ProgAt w I J c d L M b N A G) {k : Nat} {cs : Array Value} (hk : A k) (hu : w.heap[k]? = some (.cells cs 5 (0, 0))) : ∃ x, (x ∈ L ∨ x ∈ M) ∧ k = x.b := by
  obtain ⟨F, E, q, o, _, hA⟩ := h.qo
  rcases (hA k).1 hk with hk | hk
  · obtain ⟨x, hx, e⟩ := q.u8 hk hu; exact ⟨x, Or.inl hx, e⟩
  · obtain ⟨x, hx, e⟩ := o.u8 hk hu; exact ⟨x, Or.inr hx, e⟩
theorem ProgAt.oct (h : ProgAt w I J c d L M b N A G) {x : QCh} (hx : x ∈ L ∨ x ∈ M) : byteRow w x.b x.os ∧ A x.b := by
  obtain ⟨F, E, q, o, _, hA⟩ := h.qo
  rcases hx with hx | hx
  · exact ⟨(q.oct hx).1, (hA _).2 (Or.inl (q.oct hx).2)⟩
  · exact ⟨(o.oct hx).1, (hA _).2 (Or.inr (o.oct hx).2)⟩
theorem ProgAt.nd (h : ProgAt w I J c d L M b N A G) : ((L ++ M).map QCh.b).Nodup := by
  obtain ⟨F, E, q, o, fe, hA⟩ := h.qo
  rw [List.map_append, List.nodup_append]
  refine ⟨q.nd, o.nd, fun x hx y hy e => ?_⟩
  obtain ⟨u, hu, rfl⟩ := List.mem_map.1 hx
  obtain ⟨v, hv, rfl⟩ := List.mem_map.1 hy
  exact fe _ (q.oct hu).2 (e ▸ (o.oct hv).2)
theorem ProgAt.swap (h : ProgAt w I J c d L M b N A G) : ProgAt w J I d c M L b N A G := by
  obtain ⟨F, E, q, o, fe, hA⟩ := h.qo
  exact ⟨⟨E, F, o, q, fun k h1 h2 => fe k h2 h1, fun k => (hA k).trans Or.comm⟩, by rw [h.bp]; exact h.bk, h.gl, h.ag, h.good, h.pj, h.pi, h.bp.symm⟩
end

/-- A queue, open or closed, with the blocks that it really is. -/
def RSt (w : World) (F : Nat → Prop) (I : QuId) (L : List QCh) (c : Bool) : Prop :=
  (c = false ∧ QChsOk L ∧ ∃ cv, RqMem w F I L cv ∧ ∀ k, F k → onlyQ I L cv k) ∨ (c = true ∧ L = [] ∧ ShutR w I ∧ ∀ k, F k ↔ k = I.r)
theorem RSt.same {w w' : World} {F : Nat → Prop} {I : QuId} {L : List QCh} {c : Bool} (h : RSt w F I L c) (hs : SameOn F w w') : RSt w' F I L c := by
  rcases h with ⟨h1, h2, cv, h3, h4⟩ | ⟨h1, h2, h3, h4⟩
  · exact Or.inl ⟨h1, h2, cv, h3.same hs, h4⟩
  · exact Or.inr ⟨h1, h2, (hs _ ((h4 _).2 rfl) (lt_of h3)).trans h3, h4⟩
theorem RSt.lt {w : World} {F : Nat → Prop} {I : QuId} {L : List QCh} {c : Bool} (h : RSt w F I L c) {k : Nat} (hk : F k) : k < w.heap.size := by
  rcases h with ⟨h1, h2, cv, h3, h4⟩ | ⟨h1, h2, h3, h4⟩
  · rcases h4 k hk with rfl | h5 | ⟨x, hx, rfl⟩
    · exact lt_of h3.self
    · exact (h3.crow.lt k h5).2
    · exact lt_of (h3.mem x hx).1
  · rw [(h4 k).1 hk]; exact lt_of h3
theorem RSt.touch {w w' : World} {F Z : Nat → Prop} {I : QuId} {L : List QCh} {c : Bool} (h : RSt w F I L c) (t : Touch Z w w') (hz : ∀ k, F k → ¬ Z k) : RSt w' F I L c :=
  h.same (t.same (fun k hk _ x => hz k hk x))
theorem RSt.below {w w' : World} {F : Nat → Prop} {I : QuId} {L : List QCh} {c : Bool} (h : RSt w F I L c) (hb : Below w.heap.size w w') : RSt w' F I L c := h.same (Below.same_on hb)
theorem RSt.fr {w : World} {F : Nat → Prop} {I : QuId} {L : List QCh} {c : Bool} (h : RSt w F I L c) : F I.r := by
  rcases h with ⟨h1, h2, cv, h3, h4⟩ | ⟨h1, h2, h3, h4⟩
  · exact h3.fr
  · exact (h4 _).2 rfl
theorem RSt.u8 {w : World} {F : Nat → Prop} {I : QuId} {L : List QCh} {c : Bool} (h : RSt w F I L c) {k : Nat} {cs : Array Value} (hk : F k) (hu : w.heap[k]? = some (.cells cs 5 (0, 0))) : ∃ x ∈ L, k = x.b := by
  rcases h with ⟨h1, h2, cv, h3, h4⟩ | ⟨h1, h2, h3, h4⟩
  · rcases h4 k hk with rfl | h5 | h5
    · have := h3.self; rw [hu] at this; simp at this
    · obtain ⟨cur, hc⟩ := row_block h3.crow h5
      rw [hu] at hc; simp at hc
    · exact h5
  · have e := (h4 k).1 hk
    subst e
    unfold ShutR at h3
    rw [hu] at h3; simp at h3
theorem RSt.oct {w : World} {F : Nat → Prop} {I : QuId} {L : List QCh} {c : Bool} (h : RSt w F I L c) {x : QCh} (hx : x ∈ L) : byteRow w x.b x.os ∧ F x.b := by
  rcases h with ⟨h1, h2, cv, h3, h4⟩ | ⟨h1, h2, h3, h4⟩
  · exact h3.mem x hx
  · rw [h2] at hx; simp at hx
theorem RSt.nd {w : World} {F : Nat → Prop} {I : QuId} {L : List QCh} {c : Bool} (h : RSt w F I L c) : (L.map QCh.b).Nodup := by
  rcases h with ⟨h1, h2, cv, h3, h4⟩ | ⟨h1, h2, h3, h4⟩
  · exact h3.inj
  · rw [h2]; simp
theorem RSt.ok {w : World} {F : Nat → Prop} {I : QuId} {L : List QCh} {c : Bool} (h : RSt w F I L c) : QChsOk L := by
  rcases h with ⟨h1, h2, cv, h3, h4⟩ | ⟨h1, h2, h3, h4⟩
  · exact h2
  · rw [h2]; exact ⟨by simp, by simp⟩
theorem RSt.raw {w : World} {F : Nat → Prop} {I : QuId} {L : List QCh} {c : Bool} (h : RSt w F I L c) : ∃ cv, w.cell? ⟨I.r, 6, none⟩ = some cv ∧ QChsIn w cv L := by
  rcases h with ⟨h1, h2, cv, h3, h4⟩ | ⟨h1, h2, h3, h4⟩
  · exact ⟨cv, by rw [cell_of h3.self]; rfl, h3.chs⟩
  · refine ⟨.slice none 0 0, by rw [cell_of h3]; rfl, none, 0, by rw [h2]; rfl, by rw [h2]; exact Nat.zero_le _, by decide, fun k hk => by rw [h2] at hk; simp at hk⟩
theorem RSt.flag {w : World} {F : Nat → Prop} {I : QuId} {L : List QCh} {c : Bool} (h : RSt w F I L c) : w.cell? ⟨I.r, 7, none⟩ = some (.bool c) := by
  rcases h with ⟨rfl, h2, cv, h3, h4⟩ | ⟨rfl, h2, h3, h4⟩
  · rw [cell_of h3.self]; rfl
  · rw [cell_of h3]; rfl

/-- Two queues and their book. A: the queues' blocks; G: the book's. -/
structure RfdAt (w : World) (I J : QuId) (c d : Bool) (L M : List QCh) (b : BookSt) (A G : Nat → Prop) : Prop where
  qo : ∃ F E, RSt w F I L c ∧ RSt w E J M d ∧ (∀ k, F k → ¬ E k) ∧ ∀ k, A k ↔ F k ∨ E k
  bk : RB w G I.bp b false
  gl : ∀ k, G k → k < w.heap.size
  ag : ∀ k, A k → ¬ G k
  good : Good b
  pi : polErr I.k I.s I.m = 0 ∧ 1 ≤ I.sz ∧ I.sz ≤ 100000 ∧ I.sz ≤ I.m
  pj : polErr J.k J.s J.m = 0 ∧ 1 ≤ J.sz ∧ J.sz ≤ 100000 ∧ J.sz ≤ J.m
  bp : J.bp = I.bp
section
variable {w w' : World} {I J : QuId} {c d : Bool} {L M : List QCh} {b : BookSt} {A G Z : Nat → Prop}
theorem RfdAt.al (h : RfdAt w I J c d L M b A G) {k : Nat} (hk : A k) : k < w.heap.size := by
  obtain ⟨F, E, q, o, _, hA⟩ := h.qo
  exact ((hA k).1 hk).elim q.lt o.lt
theorem RfdAt.same (h : RfdAt w I J c d L M b A G) (hs : SameOn (fun k => A k ∨ G k) w w') (hsz : w.heap.size ≤ w'.heap.size) : RfdAt w' I J c d L M b A G := by
  obtain ⟨F, E, q, o, fe, hA⟩ := h.qo
  exact ⟨⟨F, E, q.same (fun k hk hl => hs k (Or.inl ((hA k).2 (Or.inl hk))) hl), o.same (fun k hk hl => hs k (Or.inl ((hA k).2 (Or.inr hk))) hl), fe, hA⟩, RB.same h.bk (fun k hk hl => hs k (Or.inr hk) hl), fun k hk => Nat.lt_of_lt_of_le (h.gl k hk) hsz, h.ag, h.good, h.pi, h.pj, h.bp⟩
theorem RfdAt.touch (h : RfdAt w I J c d L M b A G) (t : Touch Z w w') (hz : ∀ k, A k ∨ G k → ¬ Z k) : RfdAt w' I J c d L M b A G :=
  h.same (t.same (fun k hk _ x => hz k hk x)) t.size
theorem RfdAt.below (h : RfdAt w I J c d L M b A G) (hb : Below w.heap.size w w') : RfdAt w' I J c d L M b A G := h.same (Below.same_on hb) hb.size
theorem RfdAt.u8 (h : RfdAt w I J c d L M b A G) {k : Nat} {cs : Array Value} (hk : A k) (hu : w.heap[k]? = some (.cells cs 5 (0, 0))) : ∃ x, (x ∈ L ∨ x ∈ M) ∧ k = x.b := by
  obtain ⟨F, E, q, o, _, hA⟩ := h.qo
  rcases (hA k).1 hk with hk | hk
  · obtain ⟨x, hx, e⟩ := q.u8 hk hu; exact ⟨x, Or.inl hx, e⟩
  · obtain ⟨x, hx, e⟩ := o.u8 hk hu; exact ⟨x, Or.inr hx, e⟩
theorem RfdAt.oct (h : RfdAt w I J c d L M b A G) {x : QCh} (hx : x ∈ L ∨ x ∈ M) : byteRow w x.b x.os ∧ A x.b := by
  obtain ⟨F, E, q, o, _, hA⟩ := h.qo
  rcases hx with hx | hx
  · exact ⟨(q.oct hx).1, (hA _).2 (Or.inl (q.oct hx).2)⟩
  · exact ⟨(o.oct hx).1, (hA _).2 (Or.inr (o.oct hx).2)⟩
theorem RfdAt.nd (h : RfdAt w I J c d L M b A G) : ((L ++ M).map QCh.b).Nodup := by
  obtain ⟨F, E, q, o, fe, hA⟩ := h.qo
  rw [List.map_append, List.nodup_append]
  refine ⟨q.nd, o.nd, fun x hx y hy e => ?_⟩
  obtain ⟨u, hu, rfl⟩ := List.mem_map.1 hx
  obtain ⟨v, hv, rfl⟩ := List.mem_map.1 hy
  exact fe _ (q.oct hu).2 (e ▸ (o.oct hv).2)
theorem RfdAt.swap (h : RfdAt w I J c d L M b A G) : RfdAt w J I d c M L b A G := by
  obtain ⟨F, E, q, o, fe, hA⟩ := h.qo
  exact ⟨⟨E, F, o, q, fun k h1 h2 => fe k h2 h1, fun k => (hA k).trans Or.comm⟩, by rw [h.bp]; exact h.bk, h.gl, h.ag, h.good, h.pj, h.pi, h.bp.symm⟩
end

end
end Go.Proofs.YtfnmjlnpfoclbaaGreat

namespace Go.Proofs.YtfnmjlnpfoclbaaGreat
section
open Go.RowKit

def noR : Rel := fun _ _ _ _ => False
def addR (R : Rel) (g g' n : Nat) : Rel := fun b o c p => R b o c p ∨ (b = g ∧ c = g' ∧ o = p ∧ o < n)

theorem Twins.none (w : World) (B : Nat) : Twins w B noR :=
  ⟨fun _ _ _ _ h => h.elim, fun _ _ _ _ h => h.elim, fun _ _ _ _ _ _ h => h.elim, fun _ _ _ _ _ _ h => h.elim, fun _ _ _ _ _ _ _ _ h => h.elim⟩

theorem CellsAt.new (w : World) {B : Nat} (hB : B ≤ w.heap.size) : CellsAt (w.alloc (.cells #[.slice none 0 0, .slice none 0 0] 41)) B w.heap.size [] :=
  ⟨hB, _, _, heap_alloc_new w _, World.ownsRow_nil _ _ _ _, World.ownsRow_nil _ _ _ _, fun k hk => by simp [Value.ownBlock] at hk, by simp⟩

theorem Pr.mono {R R' : Rel} {xy : Value × Value} (h : Pr R xy) (hR : ∀ b o c p, R b o c p → R' b o c p) : Pr R' xy := by
  obtain ⟨p, q, len, cap, e, h1, h2, h3⟩ := h
  refine ⟨p, q, len, cap, e, h1, h2, fun h0 => ?_⟩
  obtain ⟨b, o, c, r, e1, e2, h4⟩ := h3 h0
  exact ⟨b, o, c, r, e1, e2, fun j hj => hR _ _ _ _ (h4 j hj)⟩
theorem Pr.nil (R : Rel) : Pr R (.slice none 0 0, .slice none 0 0) := ⟨none, none, 0, 0, rfl, Nat.le_refl _, by omega, fun h => absurd h (by omega)⟩
theorem Pr.new (R : Rel) (g g' len n : Nat) (h1 : len ≤ n) (h2 : n ≤ 140737488355200) : Pr (addR R g g' n) (.slice (some ⟨g, 0, none⟩) len n, .slice (some ⟨g', 0, none⟩) len n) :=
  ⟨_, _, len, n, rfl, h1, h2, fun _ => ⟨g, 0, g', 0, rfl, rfl, fun j hj => Or.inr ⟨rfl, rfl, rfl, by omega⟩⟩⟩

theorem Twins.lt {w : World} {B : Nat} {R : Rel} (h : Twins w B R) {b o c p : Nat} (hr : R b o c p) : b < w.heap.size ∧ c < w.heap.size := by
  obtain ⟨_, _, ⟨cs, h1⟩, ⟨ds, h2⟩⟩ := h.row _ _ _ _ hr
  exact ⟨lt_of h1, lt_of h2⟩

theorem Twins.add {w : World} {B : Nat} {R : Rel} (h : Twins w B R) {g g' : Nat} {cs : List Int} (hne : g ≠ g') (r1 : byteRow w g cs) (r2 : byteRow w g' cs) (hb : bytes cs) (b1 : B ≤ g) (b2 : B ≤ g')
    (hn : ∀ b o c p, R b o c p → b ≠ g ∧ b ≠ g' ∧ c ≠ g ∧ c ≠ g') : Twins w B (addR R g g' cs.length) := by
  refine ⟨?_, ?_, ?_, ?_, ?_⟩
  · rintro b o c p (hr | ⟨rfl, rfl, rfl, ho⟩)
    · exact h.val _ _ _ _ hr
    · have hz := hb (cs.getD o 0) (by rw [List.getD_eq_getElem?_getD, List.getElem?_eq_getElem ho]; simp)
      exact ⟨cs.getD o 0, hz.1, hz.2, r1.cell o ho, r2.cell o ho⟩
  · rintro b o c p (hr | ⟨rfl, rfl, rfl, ho⟩)
    · exact h.row _ _ _ _ hr
    · exact ⟨b1, b2, ⟨_, r1⟩, ⟨_, r2⟩⟩
  · rintro b o c p c' p' (hr | ⟨rfl, rfl, rfl, ho⟩) (hr' | ⟨e, rfl, rfl, ho'⟩)
    · exact h.one _ _ _ _ _ _ hr hr'
    · exact absurd e (hn _ _ _ _ hr).1
    · exact absurd rfl (hn _ _ _ _ hr').1
    · exact ⟨rfl, rfl⟩
  · rintro b o c p b' o' (hr | ⟨rfl, rfl, rfl, ho⟩) (hr' | ⟨rfl, e, rfl, ho'⟩)
    · exact h.inj _ _ _ _ _ _ hr hr'
    · exact absurd e (hn _ _ _ _ hr).2.2.2
    · exact absurd rfl (hn _ _ _ _ hr').2.2.2
    · exact ⟨rfl, rfl⟩
  · rintro b o c p b' o' c' p' (hr | ⟨rfl, rfl, rfl, ho⟩) (hr' | ⟨e1, e2, rfl, ho'⟩) ⟨e3, e4⟩
    · exact h.apart _ _ _ _ _ _ _ _ hr hr' ⟨e3, e4⟩
    · exact (hn _ _ _ _ hr).2.1 (e3.trans e2)
    · exact (hn _ _ _ _ hr').2.2.1 e3.symm
    · exact hne (e3.trans e2)

end
end Go.Proofs.YtfnmjlnpfoclbaaGreat

namespace Go.Proofs.YtfnmjlnpfoclbaaGreat
section
open Go.RowKit

section
variable {P : Program} {ops : Array Oper} {Q : Exit → Act → World → Prop} {md : Region.Mode} {S : World → Prop} {need : Array Bool → Bool}

/-- Whatever order is picked from here on, and S holds behind every operation as long as it is needed. -/
def wpAnyN (P : Program) (md : Region.Mode) (ops : Array Oper) (Q : Exit → Act → World → Prop) (S : World → Prop) (need : Array Bool → Bool) : Nat → Array Bool → Act → World → Prop
  | 0, listed, a, w => Region.ready md ops listed = [] ∧ Q .normal a w
  | fuel + 1, listed, a, w =>
    (Region.ready md ops listed = [] → Q .normal a w) ∧
    ∀ i ∈ Region.ready md ops listed, wpOp P ops Q i (fun a' w' => (need (listed.setIfInBounds i true) = true → S w') ∧ wpAnyN P md ops Q S need fuel (listed.setIfInBounds i true) a' w') a w

theorem wpAny_of_stage : ∀ (fuel : Nat) (listed : Array Bool) (a : Act) (w : World), wpAnyN P md ops Q S need fuel listed a w → wpAny P md ops Q fuel listed a w
  | 0, _, _, _, h => h
  | fuel + 1, _, _, _, h => ⟨h.1, fun i hi => wpOp_mono (fun a' w' h' => wpAny_of_stage fuel _ a' w' h'.2) (h.2 i hi)⟩

theorem wpAnyN_first {T : World → Prop} {i k : Nat} {oi : Oper} {v : Value} (hi : ops[i]? = some oi) (hsel : ∀ (j : Nat) (o : Oper) cs b, ops[j]? = some o → o.op ≠ .select cs b)
    (hQ : ∀ c a w, Q (.panic c) (a.put oi.dst v) w → Q (.panic c) a w) (hni : ∀ L : Array Bool, need (L.setIfInBounds i true) = need L)
    (hk : ∀ j oj, ops[j]? = some oj → j ≠ i → (∀ e ∈ oj.after, Region.binds md e = true → e.on ≠ i) → j ≠ k)
    (hT : ∀ (L : Array Bool) w', L.getD k true = false → (need L = true → S w') → T w') :
    ∀ (fuel : Nat) (listed : Array Bool) (a : Act) (w : World),
      (∀ j oj, ops[j]? = some oj → j ≠ i → listed.getD j true = false → (∀ e ∈ oj.after, Region.binds md e = true → e.on ≠ i) → oi.apart ops oj = true) →
      i ∈ Region.ready md ops listed → YieldsIf P ops T oi v a → listed.getD k true = false → (need listed = true → S w) →
      wpAnyN P md ops Q S need fuel (listed.setIfInBounds i true) (a.put oi.dst v) w → wpAnyN P md ops Q S need (fuel + 1) listed a w := by
  intro fuel
  induction fuel with
  | zero =>
    intro listed a w _ hr hy hkl hS H
    refine ⟨fun h => (by rw [h] at hr; cases hr), fun j hj => ?_⟩
    by_cases hji : j = i
    · subst hji; exact hy.wpOp hi (hT listed w hkl hS) ⟨fun hn => hS (by rw [← hni]; exact hn), H⟩
    · have := ready_mono hj hji
      rw [H.1] at this
      cases this
  | succ fuel ih =>
    intro listed a w hfree hr hy hkl hS H
    refine ⟨fun h => (by rw [h] at hr; cases hr), fun j hj => ?_⟩
    by_cases hji : j = i
    · subst hji; exact hy.wpOp hi (hT listed w hkl hS) ⟨fun hn => hS (by rw [← hni]; exact hn), H⟩
    · have h1 := H.2 j (ready_mono hj hji)
      obtain ⟨hjun, oj, hoj, hall⟩ := mem_ready.1 hj
      have hnot : ∀ e ∈ oj.after, Region.binds md e = true → e.on ≠ i := fun e he hb heq => by
        have h1 := hall e he hb
        have h0 := (mem_ready.1 hr).1
        rw [heq] at h1
        rcases Nat.lt_or_ge i listed.size with h' | h'
        · simp [h'] at h0 h1; rw [h0] at h1; cases h1
        · simp [Array.getElem?_eq_none h'] at h1
      have h2 := wpOp_putIf hoj (hfree j oj hoj hji hjun hnot) (fun cs b => hsel i oi cs b hi) (fun cs b => hsel j oj cs b hoj) hQ hy h1
      have hfree' : ∀ k ok, ops[k]? = some ok → k ≠ i → (listed.setIfInBounds j true).getD k true = false →
          (∀ e ∈ ok.after, Region.binds md e = true → e.on ≠ i) → oi.apart ops ok = true := fun k ok hk hki hun hno => by
        refine hfree k ok hk hki ?_ hno
        by_cases hjk : j = k
        · subst hjk; exact hjun
        · rw [getD_set_ne true hjk] at hun; exact hun
      have hjk : j ≠ k := hk j oj hoj hji hnot
      have hcomm : (listed.setIfInBounds i true).setIfInBounds j true = (listed.setIfInBounds j true).setIfInBounds i true := Array.setIfInBounds_comm _ _ (Ne.symm hji)
      refine wpOp_mono (fun a' w' h3 => ?_) h2
      have hn : need (listed.setIfInBounds j true) = true → S w' := fun hn => h3.2.1 (by rw [hcomm, hni]; exact hn)
      exact ⟨hn, ih (listed.setIfInBounds j true) a' w' hfree' (ready_mono hr (Ne.symm hji)) h3.1 (by rw [getD_set_ne true hjk]; exact hkl) hn (by rw [← hcomm]; exact h3.2.2)⟩

/-- Op k waits for op i. -/
def waitsFor (md : Region.Mode) (ops : Array Oper) (k i : Nat) : Bool := (ops[k]?.map fun o => o.after.any fun e => Region.binds md e && e.on == i).getD false

theorem waitsFor_ne {k i : Nat} (h : waitsFor md ops k i = true) (j : Nat) (oj : Oper) (hj : ops[j]? = some oj) (_ : j ≠ i) (hno : ∀ e ∈ oj.after, Region.binds md e = true → e.on ≠ i) : j ≠ k := by
  rintro rfl
  simp only [waitsFor, hj, Option.map_some, Option.getD_some] at h
  obtain ⟨e, he, hb⟩ := Array.any_eq_true'.1 h
  simp only [Bool.and_eq_true, beq_iff_eq] at hb
  exact hno e he hb.1 hb.2

/-- What yields in whatever world may be taken first. -/
theorem wpAnyN_take {i : Nat} {oi : Oper} {v : Value} {fuel : Nat} {listed : Array Bool} {a : Act} {w : World} (hi : ops[i]? = some oi)
    (hs : Region.noSelect ops = true) (hf : Region.free md ops listed i = true) (hr : (Region.ready md ops listed).contains i = true)
    (hni : ∀ L : Array Bool, need (L.setIfInBounds i true) = need L)
    (hQ : ∀ c a w, Q (.panic c) (a.put oi.dst v) w → Q (.panic c) a w) (hy : Yields P ops oi v a) (hS : need listed = true → S w)
    (h : wpAnyN P md ops Q S need fuel (listed.setIfInBounds i true) (a.put oi.dst v) w) : wpAnyN P md ops Q S need (fuel + 1) listed a w :=
  wpAnyN_first (T := fun _ => True) (k := i) hi (Region.noSelect_spec hs) hQ hni (fun _ _ _ h _ => h) (fun _ _ _ _ => trivial) fuel listed a w (Region.free_spec hi hf) (by simpa using hr) (hy.yieldsIf) (mem_ready.1 (by simpa using hr)).1 hS h

/-- A load may be taken first: what waits for it (operation k) has to come up before S need no longer hold. -/
theorem wpAnyN_load {i : Nat} (k : Nat) {oi : Oper} {v : Value} {fuel : Nat} {listed : Array Bool} {a : Act} {w : World} (hi : ops[i]? = some oi)
    (hs : Region.noSelect ops = true) (hf : Region.free md ops listed i = true) (hr : (Region.ready md ops listed).contains i = true)
    (hni : ∀ L : Array Bool, need (L.setIfInBounds i true) = need L) (hkn : ∀ L : Array Bool, L.getD k true = false → need L = true) (hkw : waitsFor md ops k i = true) (hkl : listed.getD k true = false)
    (hQ : ∀ c a w, Q (.panic c) (a.put oi.dst v) w → Q (.panic c) a w) (hy : YieldsIf P ops S oi v a) (hS : S w)
    (h : wpAnyN P md ops Q S need fuel (listed.setIfInBounds i true) (a.put oi.dst v) w) : wpAnyN P md ops Q S need (fuel + 1) listed a w :=
  wpAnyN_first (T := S) (k := k) hi (Region.noSelect_spec hs) hQ hni (waitsFor_ne hkw) (fun L _ hL hN => hN (hkn L hL)) fuel listed a w (Region.free_spec hi hf) (by simpa using hr) hy hkl (fun _ => hS) h

def AllReadyN (P : Program) (md : Region.Mode) (ops : Array Oper) (Q : Exit → Act → World → Prop) (S : World → Prop) (need : Array Bool → Bool) (fuel : Nat) (listed : Array Bool) (a : Act) (w : World) (rs : List Nat) : Prop :=
  ∀ i ∈ rs, wpOp P ops Q i (fun a' w' => (need (listed.setIfInBounds i true) = true → S w') ∧ wpAnyN P md ops Q S need fuel (listed.setIfInBounds i true) a' w') a w

theorem AllReadyN.nil {fuel : Nat} {listed : Array Bool} {a : Act} {w : World} : AllReadyN P md ops Q S need fuel listed a w [] := fun _ h => by cases h
theorem AllReadyN.cons {fuel : Nat} {listed : Array Bool} {a : Act} {w : World} {i : Nat} {o : Oper} {rs : List Nat} (ho : ops[i]? = some o)
    (h : ∀ K' : Act → World → Prop, (∀ a w, (need (listed.setIfInBounds i true) = true → S w) ∧ wpAnyN P md ops Q S need fuel (listed.setIfInBounds i true) a w → K' a w) → if Region.wanted o (yielded ops a.tmps) = true then Oper.wp P o a w K' Q else K' (a.put o.dst undef) w)
    (hs : AllReadyN P md ops Q S need fuel listed a w rs) : AllReadyN P md ops Q S need fuel listed a w (i :: rs) := fun j hj => by
  rcases List.mem_cons.1 hj with rfl | hj
  · exact wpOp_step ho h
  · exact hs j hj

theorem wpAnyN_ready {rs : List Nat} {fuel : Nat} {listed : Array Bool} {a : Act} {w : World} (hr : Region.ready md ops listed = rs) (hne : rs ≠ [])
    (h : AllReadyN P md ops Q S need fuel listed a w rs) : wpAnyN P md ops Q S need (fuel + 1) listed a w :=
  ⟨fun h0 => absurd (hr ▸ h0) hne, hr ▸ h⟩

theorem wpAnyN_done {listed : Array Bool} {a : Act} {w : World} (hr : Region.ready md ops listed = []) (h : Q .normal a w) :
    ∀ fuel, wpAnyN P md ops Q S need fuel listed a w
  | 0 => ⟨hr, h⟩
  | _ + 1 => ⟨fun _ => h, by rw [hr]; simp⟩

theorem wp_region_stage (S : World → Prop) (need : Array Bool → Bool) {id : Nat} {a : Act} {w : World} (hm : P.follows .mixedOrders = true)
    (h : wpAnyN P .any ops Q S need ops.size (Array.replicate ops.size false) a w.drew) : (Code.region id ops true).wp P Q a w :=
  wp_region_any hm (wpAny_of_stage _ _ _ _ h)

end

end
end Go.Proofs.YtfnmjlnpfoclbaaGreat
