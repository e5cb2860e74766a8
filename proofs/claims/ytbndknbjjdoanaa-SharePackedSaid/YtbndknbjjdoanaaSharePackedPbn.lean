/-
  A pool and its book as one thing; what fresh, filled, added make of it. No conditions.
-/
import Derived.Test.YtbndknbjjdoanaaSharePackedPbm
namespace Go.Proofs.Ytbndknbjjdoanaa
open Go.RowKit
set_option linter.unusedVariables false

theorem ownsMap_tight {P : Program} {k : TypeId} {R : Value → Option (DataW Unit × List MemPlace)} {w : World} {b n : Nat} {D : DataW Unit} (h : w.ownsMap P k R b n D) : w.ownsMap P k R b (Maps.size D) D := by
  obtain ⟨es, clock, h1, F, hs, rfl⟩ := h
  exact ⟨es, clock, h1, F, by simp [Maps.size, length_sorted], rfl⟩
theorem PoolMem.tight {w : World} {F : Nat → Prop} {h bp : Nat} {P : PoolSt} {mb ms N1 N2 : Nat} {D1 D2 : DataW Unit} (m : PoolMem w F h bp P mb ms N1 N2 D1 D2) : PoolMem w F h bp P mb ms P.bl.length P.st.length D1 D2 :=
  ⟨m.self, m.fh, by have := ownsMap_tight m.m1; rw [m.z1] at this; exact this, m.f1, by have := ownsMap_tight m.m2; rw [m.z2] at this; exact this, m.f2, m.l1, m.z1, m.l2, m.z2, m.bk, m.ia, m.ig, m.kb, m.nb, m.ks, m.ns, m.st, m.pt, m.sz, m.mne, m.few⟩
theorem PB.tight {w : World} {h bp : Nat} {P : PoolSt} {mb ms N1 N2 : Nat} {D1 D2 : DataW Unit} {F G : Nat → Prop} {b : BookSt} {n : Nat} (p : PB w h bp P mb ms N1 N2 D1 D2 F G b n) : PB w h bp P mb ms P.bl.length P.st.length D1 D2 F G b n :=
  ⟨p.pm.tight, p.bk, p.dis, p.fl, p.gl, p.acc, p.bud, p.tot, p.ent, p.room⟩

/-- The pool with its book; Z: where they lie. -/
def SP (w : World) (Z : Nat → Prop) (h bp : Nat) (P : PoolSt) (n : Nat) : Prop := ∃ mb ms D1 D2 F G b, PB w h bp P mb ms P.bl.length P.st.length D1 D2 F G b n ∧ (∀ k, F k ∨ G k ↔ Z k)
theorem SP.same {w w' : World} {Z : Nat → Prop} {h bp : Nat} {P : PoolSt} {n : Nat} (s : SP w Z h bp P n) (hb : Below w.heap.size w w') : SP w' Z h bp P n := by
  obtain ⟨mb, ms, D1, D2, F, G, b, p, hz⟩ := s
  exact ⟨mb, ms, D1, D2, F, G, b, p.same hb, hz⟩
theorem SP.lt {w : World} {Z : Nat → Prop} {h bp : Nat} {P : PoolSt} {n : Nat} (s : SP w Z h bp P n) : ∀ k, Z k → k < w.heap.size := by
  obtain ⟨mb, ms, D1, D2, F, G, b, p, hz⟩ := s
  intro k hk
  rcases (hz k).2 hk with hk | hk
  · exact p.fl k hk
  · exact p.gl k hk
theorem SP.far {w w' : World} {Z : Nat → Prop} {h bp : Nat} {P : PoolSt} {n : Nat} (s : SP w Z h bp P n) (hz : ∀ k, Z k → w'.heap[k]? = w.heap[k]?) (hs : w.heap.size ≤ w'.heap.size) : SP w' Z h bp P n := by
  obtain ⟨mb, ms, D1, D2, F, G, b, p, hzz⟩ := s
  exact ⟨mb, ms, D1, D2, F, G, b, ⟨p.pm.same (fun k hk _ => hz k ((hzz k).1 (Or.inl hk))), p.bk.same (fun k hk _ => hz k ((hzz k).1 (Or.inr hk))), p.dis, fun k hk => Nat.lt_of_lt_of_le (p.fl k hk) hs, fun k hk => Nat.lt_of_lt_of_le (p.gl k hk) hs, p.acc, p.bud, p.tot, p.ent, p.room⟩, hzz⟩
/-- From one world to the next. -/
def Nxt (Z Z' : Nat → Prop) (w w' : World) : Prop := (∀ k, Z' k → Z k ∨ w.heap.size ≤ k) ∧ Touch Z w w'
theorem Nxt.refl (Z : Nat → Prop) (w : World) : Nxt Z Z w w := ⟨fun k hk => Or.inl hk, Touch.refl _ _⟩
theorem Nxt.of_below {Z : Nat → Prop} {w w' : World} (h : Below w.heap.size w w') : Nxt Z Z w w' := ⟨fun k hk => Or.inl hk, Touch.of_below h⟩
theorem Nxt.trans {Z Z' Z2 : Nat → Prop} {a b c : World} (h : Nxt Z Z' a b) (k : Nxt Z' Z2 b c) : Nxt Z Z2 a c := by
  have hs := h.2.size
  refine ⟨fun i hi => ?_, h.2.trans k.2 (fun i hi => h.1 i hi)⟩
  rcases k.1 i hi with hi | hi
  · exact h.1 i hi
  · right; omega

theorem SP.of {w : World} {h bp : Nat} {P : PoolSt} {mb ms N1 N2 : Nat} {D1 D2 : DataW Unit} {F G : Nat → Prop} {b : BookSt} {n : Nat} (p : PB w h bp P mb ms N1 N2 D1 D2 F G b n) : SP w (fun k => F k ∨ G k) h bp P n := ⟨mb, ms, D1, D2, F, G, b, p.tight, fun k => Iff.rfl⟩

/-- The pool has been turned, within its own blocks and new ones; the book stays. -/
theorem PB.turn {w w' : World} {h bp : Nat} {P P' : PoolSt} {mb ms N1 N2 N1' N2' : Nat} {D1 D2 D1' D2' : DataW Unit} {F F' G : Nat → Prop} {b : BookSt} {n : Nat} (p : PB w h bp P mb ms N1 N2 D1 D2 F G b n) (m : PoolMem w' F' h bp P' mb ms N1' N2' D1' D2') (hF : ∀ k, F' k → F k ∨ w.heap.size ≤ k) (hl : ∀ k, F' k → k < w'.heap.size) (ht : Touch F w w') (hs : P'.size = P.size) :
    PB w' h bp P' mb ms N1' N2' D1' D2' F' G b n :=
  ⟨m, p.bk.same (fun k hk hk2 => ht.block k hk2 (fun e => p.dis k e hk)), fun k hk hg => by
    rcases hF k hk with hk | hk
    · exact p.dis k hk hg
    · have := p.gl k hg; omega, hl, fun k hk => Nat.lt_of_lt_of_le (p.gl k hk) ht.size, by rw [hs]; exact p.acc, p.bud, by rw [hs]; exact p.tot, p.ent, by rw [hs]; exact p.room⟩
theorem PB.fresh {w w' : World} {h bp : Nat} {P : PoolSt} {mb ms N1 N2 : Nat} {D1 D2 : DataW Unit} {F G : Nat → Prop} {b : BookSt} {n : Nat} (p : PB w h bp P mb ms N1 N2 D1 D2 F G b n) {os : List Int} {e : Ending} (hp : FreshPost h bp P mb ms N1 N2 D2 F os w e w') :
    e = .returned (.agg #[.int .i64 ((P.lastB + 1 : Nat) : Int), .int .i64 0, .int .i64 (os.length : Int)]) ∧ ∃ a g D1', PB w' h bp (P.grow (newBk P.size a g os)) mb ms (N1 + 1) N2 D1' D2 (fun k => F k ∨ k = a ∨ k = g) G b n ∧ w.heap.size ≤ a ∧ w.heap.size ≤ g ∧ Touch (fun k => k = h ∨ k = mb) w w' := by
  obtain ⟨he, a, g, D1', ha, hg, ha1, hg1, hm, ht⟩ := hp
  refine ⟨he, a, g, D1', p.turn hm (fun k hk => ?_) (fun k hk => ?_) (ht.mono (fun k hk => ?_)) rfl, ha, hg, ht⟩
  · rcases hk with hk | rfl | rfl
    · exact Or.inl hk
    · exact Or.inr ha
    · exact Or.inr hg
  · have := ht.size
    rcases hk with hk | rfl | rfl
    · have := p.fl k hk; omega
    · exact ha1
    · exact hg1
  · rcases hk with rfl | rfl
    · exact p.pm.fh
    · exact p.pm.f1

/-- A row of elements of several cells, as a map's element. -/
theorem row_of {w : World} {B e size n : Nat} {v : Value} {xs : List Value} (h : w.ownsRow B e size v n xs) : ∃ o, v = rowOf o := by
  rcases h.2 with ⟨rfl, rfl⟩ | ⟨g, cap, cur, rfl, _⟩
  · exact ⟨none, rfl⟩
  · exact ⟨some (g, n, cap), rfl⟩
theorem ptCells_one (l : List Pt) : ∀ u ∈ ptCells l, u.oneCell' = true := fun u hu => by
  obtain ⟨x, _, hx⟩ := List.mem_flatMap.1 hu
  simp at hx
  rcases hx with rfl | rfl | rfl <;> rfl
theorem PtIn.of_seg {w : World} {v : Value} {l : List Pt} (h : Seg w 3 v l.length (ptCells l)) : PtIn w v l := by
  obtain ⟨h0, h1, a, cap, rfl, hle, hcap, hc⟩ := h
  refine ⟨a, cap, rfl, hle, hcap, fun k p hk => ?_⟩
  obtain ⟨q1, q2, q3⟩ := ptCells_get l k p hk
  obtain ⟨b, o, rfl, c1⟩ := hc _ _ q1
  obtain ⟨b', o', e', c2⟩ := hc _ _ q2
  obtain ⟨b2, o2, e2, c3⟩ := hc _ _ q3
  simp only [Option.some.injEq, Addr.mk.injEq, and_true] at e' e2
  obtain ⟨rfl, rfl⟩ := e'
  obtain ⟨rfl, rfl⟩ := e2
  exact ⟨b, o, rfl, c1, by rw [Nat.add_assoc]; exact c2, by rw [Nat.add_assoc]; exact c3⟩

end Go.Proofs.Ytbndknbjjdoanaa
