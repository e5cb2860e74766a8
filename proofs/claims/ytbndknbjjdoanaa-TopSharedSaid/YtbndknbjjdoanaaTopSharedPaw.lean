/-
  A pool and its book as one thing; what fresh, filled, added make of it. No conditions.
  Clone, Grow, Concat, Delete of package slices at []share.Part: what they give. No conditions but lengths. (Printed by sg.py.)
-/
import Derived.Test.YtbndknbjjdoanaaTopSharedPav
import Derived.Test.YtbndknbjjdoanaaTopSharedPag
import Derived.Test.YtbndknbjjdoanaaTopSharedPal
import Derived.Lib.SlicesDelete
import Derived.Shelf.RegionOpenPlain
import Derived.Shelf.Abstract
import Derived.Deep.RegionLaw

namespace Go.Proofs.Ytbndknbjjdoanaa
section
open Go.RowKit
set_option linter.unusedVariables false

theorem ownsMap_tight {P : Program} {k : TypeId} {R : Value → Option (DataW Unit × List MemPlace)} {w : World} {b n : Nat} {D : DataW Unit} (h : w.ownsMap P k R b n D) : w.ownsMap P k R b (Maps.size D) D := by
  obtain ⟨es, clock, h1, F, hs, rfl⟩ := h
  exact ⟨es, clock, h1, F, by simp [Maps.size, length_sorted], rfl⟩
theorem PoolMem.tight {w : World} {F : Nat → Prop} {h bp : Nat} {P : PoolSt} {mb ms N1 N2 : Nat} {D1 D2 : DataW Unit} (m : PoolMem w F h bp P mb ms N1 N2 D1 D2) : PoolMem w F h bp P mb ms P.bl.length P.st.length D1 D2 :=
  ⟨m.self, m.fh, by have := ownsMap_tight m.m1; rw [m.z1] at this; exact this, m.f1, by have := ownsMap_tight m.m2; rw [m.z2] at this; exact this, m.f2, m.l1, m.z1, m.l2, m.z2, m.bk, m.ia, m.ig, m.kb, m.nb, m.ks, m.ns, m.st, m.pt, m.sz, m.mne, m.few⟩
theorem PB.tight {w : World} {h bp : Nat} {P : PoolSt} {mb ms N1 N2 : Nat} {D1 D2 : DataW Unit} {F G : Nat → Prop} {b : BookSt} {n : Nat} (p : PB w h bp P mb ms N1 N2 D1 D2 F G b n) : PB w h bp P mb ms P.bl.length P.st.length D1 D2 F G b n :=
  ⟨p.pm.tight, p.bk, p.dis, p.fl, p.gl, p.acc, p.bud, p.tot, p.ent, p.room⟩

/-- The pool with its book; Z: where they lie. -/
def SP (w : World) (Z : Nat → Prop) (h bp : Nat) (P : PoolSt) (n : Nat) : Prop := ∃ mb ms D1 D2 F G b, PB w h bp P mb ms P.bl.length P.st.length D1 D2 F G b n ∧ (∀ k, F k ∨ G k ↔ Z k)
theorem SP.same {w w' : World} {Z : Nat → Prop} {h bp : Nat} {P : PoolSt} {n : Nat} (s : SP w Z h bp P n) (hb : Below w.heap.size w w') : SP w' Z h bp P n := by
  obtain ⟨mb, ms, D1, D2, F, G, b, p, hz⟩ := s
  exact ⟨mb, ms, D1, D2, F, G, b, p.same hb, hz⟩
theorem SP.lt {w : World} {Z : Nat → Prop} {h bp : Nat} {P : PoolSt} {n : Nat} (s : SP w Z h bp P n) : ∀ k, Z k → k < w.heap.size := by
  obtain ⟨mb, ms, D1, D2, F, G, b, p, hz⟩ := s
  intro k hk
  rcases (hz k).2 hk with hk | hk
  · exact p.fl k hk
  · exact p.gl k hk
theorem SP.far {w w' : World} {Z : Nat → Prop} {h bp : Nat} {P : PoolSt} {n : Nat} (s : SP w Z h bp P n) (hz : ∀ k, Z k → w'.heap[k]? = w.heap[k]?) (hs : w.heap.size ≤ w'.heap.size) : SP w' Z h bp P n := by
  obtain ⟨mb, ms, D1, D2, F, G, b, p, hzz⟩ := s
  exact ⟨mb, ms, D1, D2, F, G, b, ⟨p.pm.same (fun k hk _ => hz k ((hzz k).1 (Or.inl hk))), p.bk.same (fun k hk _ => hz k ((hzz k).1 (Or.inr hk))), p.dis, fun k hk => Nat.lt_of_lt_of_le (p.fl k hk) hs, fun k hk => Nat.lt_of_lt_of_le (p.gl k hk) hs, p.acc, p.bud, p.tot, p.ent, p.room⟩, hzz⟩
/-- From one world to the next. -/
def Nxt (Z Z' : Nat → Prop) (w w' : World) : Prop := (∀ k, Z' k → Z k ∨ w.heap.size ≤ k) ∧ Touch Z w w'
theorem Nxt.refl (Z : Nat → Prop) (w : World) : Nxt Z Z w w := ⟨fun k hk => Or.inl hk, Touch.refl _ _⟩
theorem Nxt.of_below {Z : Nat → Prop} {w w' : World} (h : Below w.heap.size w w') : Nxt Z Z w w' := ⟨fun k hk => Or.inl hk, Touch.of_below h⟩
theorem Nxt.trans {Z Z' Z2 : Nat → Prop} {a b c : World} (h : Nxt Z Z' a b) (k : Nxt Z' Z2 b c) : Nxt Z Z2 a c := by
  have hs := h.2.size
  refine ⟨fun i hi => ?_, h.2.trans k.2 (fun i hi => h.1 i hi)⟩
  rcases k.1 i hi with hi | hi
  · exact h.1 i hi
  · right; omega

theorem SP.of {w : World} {h bp : Nat} {P : PoolSt} {mb ms N1 N2 : Nat} {D1 D2 : DataW Unit} {F G : Nat → Prop} {b : BookSt} {n : Nat} (p : PB w h bp P mb ms N1 N2 D1 D2 F G b n) : SP w (fun k => F k ∨ G k) h bp P n := ⟨mb, ms, D1, D2, F, G, b, p.tight, fun k => Iff.rfl⟩

/-- The pool has been turned, within its own blocks and new ones; the book stays. -/
theorem PB.turn {w w' : World} {h bp : Nat} {P P' : PoolSt} {mb ms N1 N2 N1' N2' : Nat} {D1 D2 D1' D2' : DataW Unit} {F F' G : Nat → Prop} {b : BookSt} {n : Nat} (p : PB w h bp P mb ms N1 N2 D1 D2 F G b n) (m : PoolMem w' F' h bp P' mb ms N1' N2' D1' D2') (hF : ∀ k, F' k → F k ∨ w.heap.size ≤ k) (hl : ∀ k, F' k → k < w'.heap.size) (ht : Touch F w w') (hs : P'.size = P.size) :
    PB w' h bp P' mb ms N1' N2' D1' D2' F' G b n :=
  ⟨m, p.bk.same (fun k hk hk2 => ht.block k hk2 (fun e => p.dis k e hk)), fun k hk hg => by
    rcases hF k hk with hk | hk
    · exact p.dis k hk hg
    · have := p.gl k hg; omega, hl, fun k hk => Nat.lt_of_lt_of_le (p.gl k hk) ht.size, by rw [hs]; exact p.acc, p.bud, by rw [hs]; exact p.tot, p.ent, by rw [hs]; exact p.room⟩
theorem PB.fresh {w w' : World} {h bp : Nat} {P : PoolSt} {mb ms N1 N2 : Nat} {D1 D2 : DataW Unit} {F G : Nat → Prop} {b : BookSt} {n : Nat} (p : PB w h bp P mb ms N1 N2 D1 D2 F G b n) {os : List Int} {e : Ending} (hp : FreshPost h bp P mb ms N1 N2 D2 F os w e w') :
    e = .returned (.agg #[.int .i64 ((P.lastB + 1 : Nat) : Int), .int .i64 0, .int .i64 (os.length : Int)]) ∧ ∃ a g D1', PB w' h bp (P.grow (newBk P.size a g os)) mb ms (N1 + 1) N2 D1' D2 (fun k => F k ∨ k = a ∨ k = g) G b n ∧ w.heap.size ≤ a ∧ w.heap.size ≤ g ∧ Touch (fun k => k = h ∨ k = mb) w w' := by
  obtain ⟨he, a, g, D1', ha, hg, ha1, hg1, hm, ht⟩ := hp
  refine ⟨he, a, g, D1', p.turn hm (fun k hk => ?_) (fun k hk => ?_) (ht.mono (fun k hk => ?_)) rfl, ha, hg, ht⟩
  · rcases hk with hk | rfl | rfl
    · exact Or.inl hk
    · exact Or.inr ha
    · exact Or.inr hg
  · have := ht.size
    rcases hk with hk | rfl | rfl
    · have := p.fl k hk; omega
    · exact ha1
    · exact hg1
  · rcases hk with rfl | rfl
    · exact p.pm.fh
    · exact p.pm.f1

/-- A row of elements of several cells, as a map's element. -/
theorem row_of {w : World} {B e size n : Nat} {v : Value} {xs : List Value} (h : w.ownsRow B e size v n xs) : ∃ o, v = rowOf o := by
  rcases h.2 with ⟨rfl, rfl⟩ | ⟨g, cap, cur, rfl, _⟩
  · exact ⟨none, rfl⟩
  · exact ⟨some (g, n, cap), rfl⟩
theorem ptCells_one (l : List Pt) : ∀ u ∈ ptCells l, u.oneCell' = true := fun u hu => by
  obtain ⟨x, _, hx⟩ := List.mem_flatMap.1 hu
  simp at hx
  rcases hx with rfl | rfl | rfl <;> rfl
theorem PtIn.of_seg {w : World} {v : Value} {l : List Pt} (h : Seg w 3 v l.length (ptCells l)) : PtIn w v l := by
  obtain ⟨h0, h1, a, cap, rfl, hle, hcap, hc⟩ := h
  refine ⟨a, cap, rfl, hle, hcap, fun k p hk => ?_⟩
  obtain ⟨q1, q2, q3⟩ := ptCells_get l k p hk
  obtain ⟨b, o, rfl, c1⟩ := hc _ _ q1
  obtain ⟨b', o', e', c2⟩ := hc _ _ q2
  obtain ⟨b2, o2, e2, c3⟩ := hc _ _ q3
  simp only [Option.some.injEq, Addr.mk.injEq, and_true] at e' e2
  obtain ⟨rfl, rfl⟩ := e'
  obtain ⟨rfl, rfl⟩ := e2
  exact ⟨b, o, rfl, c1, by rw [Nat.add_assoc]; exact c2, by rw [Nat.add_assoc]; exact c3⟩

end
end Go.Proofs.Ytbndknbjjdoanaa

namespace Go.Proofs.Ytbndknbjjdoanaa
section
open Go.RowKit
set_option linter.unusedVariables false

theorem info_part : (Try.prog.info? 75).map (fun i => (i.zero, i.size, i.bytes)) = some (some (.agg #[.int .i64 0, .int .i64 0, .int .i64 0]), 3, 24) := by kernel_rfl
def Own_part (n : Nat) (xs : List Value) (w : World) : Ending → World → Prop := fun e w' =>
  ∃ v, e = .returned v ∧ w'.ownsRow w.heap.size 75 3 v n xs ∧ Below w.heap.size w w'

set_option maxHeartbeats 1000000 in
set_option maxRecDepth 100000 in
theorem clone_part (v : Value) (n : Nat) (xs : List Value) (w : World) (hr : Seg w 3 v n xs) (hn : n ≤ 1000000000) :
    Calls Try.prog 47 #[v] w (Own_part n xs w) := by
  obtain ⟨i0, hi0, hz0, hz1, hz2⟩ := info_parts info_part
  have hr' := hr
  obtain ⟨hl, h1, a, cap, rfl, hle, hcap, hc⟩ := hr
  have hq := fun (w : World) (a : Option Addr) (n c : Nat) => Lib.run_eql_slice_nil (P := Try.prog) w 66 75 a n c 0 0 Try.underlying66
  cases a with
  | none =>
    have hz : xs = [] := by
      rcases List.eq_nil_or_concat xs with h | ⟨l, x, h⟩
      · exact h
      · obtain ⟨b, o, h1, _⟩ := hc l.length x (by rw [h]; simp)
        cases h1
    subst hz
    have hn0 : n = 0 := by simp at hl; omega
    subst hn0
    clear hc hr'
    go_enter Try.func47, Try.ntmps47
    go_wp2
    go_ret
    exact ⟨_, rfl, World.ownsRow_nil _ _ _ _, Below.refl _ _⟩
  | some ad =>
    have HR : Hid (Seg (w.alloc (.cells #[] 75)) 3 (.slice (some ad) n cap) n xs) := Lib.hid (hr'.below ((Below.refl w.heap.size w).alloc (Nat.le_refl _) _))
    have HM : Hid (World.ownsRow (w.alloc (.cells #[] 75)) w.heap.size 75 3 (.slice (some ⟨w.heap.size, 0, none⟩) 0 0) 0 []) := World.ownsRow_made w #[] 0 (Nat.le_refl _) (by unfold maxLen; omega) rfl
    clear hc hr' hl h1
    go_enter Try.func47, Try.ntmps47
    go_wp2_with (at_builtin; go_must (refine wpList_append_seg rfl (.tmp 5) (.tmp 6) 66 rfl w.heap.size 75 i0 (.agg #[.int .i64 0, .int .i64 0, .int .i64 0]) 3 24 Try.underlying66 hi0 hz0 hz1 hz2 rfl (by decide) _ _ 0 [] rfl HM.out _ n xs rfl HR.out (by unfold maxLen; omega) (by omega) (by simp) ?_))
    intro v' w1 hown hg
    have hb : Below w.heap.size w w1 := ((Below.refl w.heap.size w).alloc (Nat.le_refl _) _).grown hg (by simp) (fun q hq => by simp [Value.ownBlock] at hq; omega)
    go_wp2_with fail
    go_ret
    exact ⟨_, rfl, by simpa using hown, hb⟩

set_option maxHeartbeats 1000000 in
set_option maxRecDepth 100000 in
theorem growNil_part (n : Nat) (w : World) (h63 : n ≤ 1000000000) :
    Calls Try.prog 62 #[.slice none 0 0, .int .i64 n] w (Own_part 0 [] w) := by
  obtain ⟨i0, hi0, hz0, hz1, hz2⟩ := info_parts info_part
  by_cases h0 : n = 0
  · subst h0
    go_enter Try.func62, Try.ntmps62
    go_wp2_with fail
    go_ret
    exact ⟨_, rfl, World.ownsRow_nil _ _ _ _, Below.refl _ _⟩
  · have hn : (0 : Int) < n := by omega
    have HN := Lib.hid (Nat.pos_of_ne_zero h0)
    go_enter Try.func62, Try.ntmps62
    go_wp2_with (at_builtin; go_must (refine wpList_append_zeros_of rfl (.tmp 20) (.tmp 21) 66 3 rfl 75 i0 (.agg #[.int .i64 0, .int .i64 0, .int .i64 0]) 3 24 Try.underlying66 Try.underlying3 hi0 hz0 hz1 hz2 rfl (by decide) w n rfl rfl HN.out h63 (by omega) ?_))
    intro cap w1 hcap hown hb
    go_wp2_with fail
    go_ret
    exact ⟨_, rfl, hown, hb⟩

/-- The cells, and the number, of the first k of some slices. -/
def cat_part (els : List (Value × Nat × List Value)) (k : Nat) : List Value := ((els.take k).map (·.2.2)).flatten
def num_part (els : List (Value × Nat × List Value)) (k : Nat) : Nat := ((els.take k).map (·.2.1)).sum
theorem cat_succ_part (els : List (Value × Nat × List Value)) (k : Nat) (x : Value × Nat × List Value) (h : els[k]? = some x) : cat_part els (k + 1) = cat_part els k ++ x.2.2 ∧ num_part els (k + 1) = num_part els k + x.2.1 := by
  unfold cat_part num_part
  rw [List.take_add_one, h]
  simp
theorem num_le_part (els : List (Value × Nat × List Value)) (k : Nat) : num_part els k ≤ num_part els els.length := by
  unfold num_part
  rw [List.take_length, List.map_take]
  conv => rhs; rw [← List.take_append_drop k (els.map (·.2.1)), List.sum_append]
  omega

set_option maxHeartbeats 2000000 in
set_option maxRecDepth 100000 in
theorem concat_part (bb : Nat) (els : List (Value × Nat × List Value)) (w : World) (hc : ∀ k x, els[k]? = some x → w.cell? ⟨bb, k, none⟩ = some x.1 ∧ Seg w 3 x.1 x.2.1 x.2.2)
    (hl : num_part els els.length ≤ 100000000) (hn : els.length ≤ 1000) :
    Calls Try.prog 39 #[.slice (some ⟨bb, 0, none⟩) els.length els.length] w (Own_part (num_part els els.length) (cat_part els els.length) w) := by
  obtain ⟨i0, hi0, hz0, hz1, hz2⟩ := info_parts info_part
  have HC := Lib.hid hc
  have NL := Lib.hid (num_le_part els)
  clear hc
  go_enter Try.func39, Try.ntmps39
  go_wp2_with fail
  go_loopw [11, 3] (fun i s wr => ∃ k : Nat, k ≤ els.length ∧ i = .int .i64 k ∧ s = .int .i64 (num_part els k) ∧ wr = w) (fun i _ _ => els.length - (intOf i).toNat)
  case atStart => exact ⟨0, Nat.zero_le _, rfl, rfl, rfl⟩
  case round =>
    obtain ⟨k, hk, rfl, rfl, hw⟩ := hrel
    obtain rfl := hw.symm
    have le := NL.out k
    by_cases hlt : k < els.length
    · obtain ⟨x, hx⟩ : ∃ x, els[k]? = some x := ⟨_, List.getElem?_eq_getElem hlt⟩
      obtain ⟨c0, _, _, sa, sc, hv, h1, h2, _⟩ := HC.out k x hx
      obtain ⟨_, S⟩ := cat_succ_part els k x hx
      have le2 := NL.out (k + 1)
      obtain ⟨xv, xn, xl⟩ := x
      simp only at c0 hv h1 S
      subst hv
      generalize num_part els k = s at *
      clear hx
      go_wp2_with fail
      go_roundw
      case rel => exact ⟨k + 1, by omega, by go_num, by rw [S]; go_num, by first | rfl | trivial⟩
      case measure => simp [intOf]; omega
    · have hkn : k = els.length := by omega
      subst hkn
      generalize hN : num_part els els.length = N at *
      go_wp2_with fail
      refine (growNil_part N w (by omega)).mono ?_
      rintro e w1 ⟨v1, rfl, ho1, hb1⟩
      have HO1 := Lib.hid ho1
      have HB1 := Lib.hid hb1
      clear ho1 hb1
      go_wp2_with fail
      go_loopw [27, 6] (fun i s wx => ∃ k : Nat, k ≤ els.length ∧ i = .int .i64 k ∧ wx.ownsRow w.heap.size 75 3 s (num_part els k) (cat_part els k) ∧ Below w.heap.size w wx) (fun i _ _ => els.length - (intOf i).toNat)
      case atStart => exact ⟨0, Nat.zero_le _, rfl, HO1.out, HB1.out⟩
      case round =>
        obtain ⟨k, hk, rfl, ho, hb⟩ := hrel
        have le := NL.out k
        by_cases hlt : k < els.length
        · obtain ⟨x, hx⟩ : ∃ x, els[k]? = some x := ⟨_, List.getElem?_eq_getElem hlt⟩
          obtain ⟨c0, r0⟩ := HC.out k x hx
          have c1 := old_cell hb c0
          have R1 := Lib.hid (r0.below hb)
          have le2 := NL.out (k + 1)
          obtain ⟨S2, S⟩ := cat_succ_part els k x hx
          have S2 := Lib.hid S2
          have HO := Lib.hid ho
          have hsz := hb.size
          have HBB := Lib.hid hb
          clear c0 r0 ho hb hx
          go_wp2_with (at_builtin; go_must (refine wpList_append_seg rfl (.tmp 31) (.tmp 32) 66 rfl w.heap.size 75 i0 (.agg #[.int .i64 0, .int .i64 0, .int .i64 0]) 3 24 Try.underlying66 hi0 hz0 hz1 hz2 rfl (by decide) wr _ _ _ rfl HO.out _ _ _ rfl R1.out (by unfold maxLen; omega) (by omega) hsz ?_))
          intro v' w2 hown hg
          have hb2 := HBB.out.grown hg hsz (fun q hq => (HO.out.lt q hq).1)
          have hown2 : w2.ownsRow w.heap.size 75 3 v' (num_part els (k + 1)) (cat_part els (k + 1)) := by rw [S, S2.out]; exact hown
          clear hown
          clear hg
          go_wp2_with fail
          go_roundw
          case rel => exact ⟨k + 1, by omega, by go_num, hown2, hb2⟩
          case measure => simp [intOf]; omega
        · have hkn : k = els.length := by omega
          subst hkn
          rw [hN] at ho
          go_wp2_with fail
          go_ret
          exact ⟨_, rfl, ho, hb⟩

/-- 'clear' of one element. -/
theorem run_clear_part (w : World) (ty : TypeId) (b o c : Nat) (hc : ∀ j, j < 3 → (w.cell? ⟨b, o + j, none⟩).isSome = true) (hf : ∀ j, j < 3 → w.frozen? ⟨b, o + j, none⟩ = false) :
    (Builtin.clear_ #[66] ty #[.slice (some ⟨b, o, none⟩) 1 c]).run Try.prog w = .ok (.tuple #[]) (w.setCells b o [.int .i64 0, .int .i64 0, .int .i64 0]) := by
  have hst := run_storeCells_cells (P := Try.prog) b o [.int .i64 0, .int .i64 0, .int .i64 0] 0 w (by simpa using hc) (by simpa using hf) (by intro v hv; simp at hv; subst hv; rfl)
  simp only [Nat.add_zero] at hst
  have hz : (Builtin.zeroCells ((.agg #[.int .i64 0, .int .i64 0, .int .i64 0]) : Value).cells 1).toList = [.int .i64 0, .int .i64 0, .int .i64 0] := by kernel_rfl
  simp [Builtin.clear_, run_underlying Try.underlying66, Try.zeroValue75, hz, hst]

def Del_part (g cap n i : Nat) (xs : List Value) (w : World) : Ending → World → Prop := fun e w' =>
  e = .returned (.slice (some ⟨g, 0, none⟩) (n - 1) cap) ∧ w'.ownsRow 0 75 3 (.slice (some ⟨g, 0, none⟩) (n - 1) cap) (n - 1) (xs.take (i * 3) ++ xs.drop ((i + 1) * 3)) ∧ Touch (fun k => k = g) w w' ∧ w'.heap.size = w.heap.size

end
end Go.Proofs.Ytbndknbjjdoanaa
