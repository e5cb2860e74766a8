/-
  overlap: the stretch that two slices share. Conditions: both lie in rows.
-/
import Derived.Shelf.Abstract
import Derived.Deep.CutRange
import Derived.Deep.DeepCutAuto
import Derived.Test.YtclpkmplifcfjaaWatchSlicesPbd
import Derived.Test.YtclpkmplifcfjaaWatchSlicesPbf
namespace Go.Proofs.Ytclpkmplifcfjaa
open Go.RowKit Go.Shelf
set_option linter.unusedVariables false

def ov (x y : Wn) : Int × Int × Int :=
  if 0 ≤ app x y then (0, app x y, min (x.n : Int) (y.n - app x y)) else if 0 ≤ app y x then (app y x, 0, min ((x.n : Int) - app y x) y.n) else (0, 0, 0)
theorem app_bd (x y : Wn) : -1 ≤ app x y ∧ app x y ≤ y.n ∧ (0 ≤ app x y → app x y < y.n) := by
  unfold app
  split
  · rename_i h
    obtain ⟨_, _, h1, h2⟩ := h
    omega
  · omega

/-- The five boxes of overlap. -/
structure Box5 (W : World) (Ba Bb Bt Bn Bf : Nat) (va vb : Value) (t n f : Int) : Prop where
  a : W.heap[Ba]? = some (.cells #[va] 22 (0, 0))
  b : W.heap[Bb]? = some (.cells #[vb] 22 (0, 0))
  t : W.heap[Bt]? = some (.cells #[.int .i64 t] 3 (0, 0))
  n : W.heap[Bn]? = some (.cells #[.int .i64 n] 3 (0, 0))
  f : W.heap[Bf]? = some (.cells #[.int .i64 f] 3 (0, 0))
  tn : Bt ≠ Bn
  tf : Bt ≠ Bf
  nf : Bn ≠ Bf
theorem Box5.same {W W' : World} {Ba Bb Bt Bn Bf : Nat} {va vb : Value} {t n f : Int} (h : Box5 W Ba Bb Bt Bn Bf va vb t n f) (hs : ∀ k, (k = Ba ∨ k = Bb ∨ k = Bt ∨ k = Bn ∨ k = Bf) → W'.heap[k]? = W.heap[k]?) : Box5 W' Ba Bb Bt Bn Bf va vb t n f :=
  ⟨(hs _ (Or.inl rfl)).trans h.a, (hs _ (Or.inr (Or.inl rfl))).trans h.b, (hs _ (Or.inr (Or.inr (Or.inl rfl)))).trans h.t, (hs _ (Or.inr (Or.inr (Or.inr (Or.inl rfl))))).trans h.n, (hs _ (Or.inr (Or.inr (Or.inr (Or.inr rfl))))).trans h.f, h.tn, h.tf, h.nf⟩
theorem box_ty {W : World} {i j : Nat} {u v : Value} (h : W.heap[i]? = some (.cells #[u] 22 (0, 0))) (h' : W.heap[j]? = some (.cells #[v] 3 (0, 0))) : i ≠ j := fun e => by
  rw [e, h'] at h
  simp only [Option.some.injEq, Obj.cells.injEq] at h
  exact absurd h.2.1 (by decide)
theorem Box5.setT {W : World} {Ba Bb Bt Bn Bf : Nat} {va vb : Value} {t n f : Int} (h : Box5 W Ba Bb Bt Bn Bf va vb t n f) (z : Int) : Box5 (W.setCell ⟨Bt, 0, none⟩ (.int .i64 z)) Ba Bb Bt Bn Bf va vb z n f :=
  ⟨(Below.heap_setCell _ _ _ _ (box_ty h.a h.t)).trans h.a, (Below.heap_setCell _ _ _ _ (box_ty h.b h.t)).trans h.b, by rw [block_setCell h.t]; rfl, (Below.heap_setCell _ _ _ _ (Ne.symm h.tn)).trans h.n, (Below.heap_setCell _ _ _ _ (Ne.symm h.tf)).trans h.f, h.tn, h.tf, h.nf⟩
theorem Box5.setN {W : World} {Ba Bb Bt Bn Bf : Nat} {va vb : Value} {t n f : Int} (h : Box5 W Ba Bb Bt Bn Bf va vb t n f) (z : Int) : Box5 (W.setCell ⟨Bn, 0, none⟩ (.int .i64 z)) Ba Bb Bt Bn Bf va vb t z f :=
  ⟨(Below.heap_setCell _ _ _ _ (box_ty h.a h.n)).trans h.a, (Below.heap_setCell _ _ _ _ (box_ty h.b h.n)).trans h.b, (Below.heap_setCell _ _ _ _ h.tn).trans h.t, by rw [block_setCell h.n]; rfl, (Below.heap_setCell _ _ _ _ (Ne.symm h.nf)).trans h.f, h.tn, h.tf, h.nf⟩
theorem Box5.setF {W : World} {Ba Bb Bt Bn Bf : Nat} {va vb : Value} {t n f : Int} (h : Box5 W Ba Bb Bt Bn Bf va vb t n f) (z : Int) : Box5 (W.setCell ⟨Bf, 0, none⟩ (.int .i64 z)) Ba Bb Bt Bn Bf va vb t n z :=
  ⟨(Below.heap_setCell _ _ _ _ (box_ty h.a h.f)).trans h.a, (Below.heap_setCell _ _ _ _ (box_ty h.b h.f)).trans h.b, (Below.heap_setCell _ _ _ _ h.tf).trans h.t, (Below.heap_setCell _ _ _ _ h.nf).trans h.n, by rw [block_setCell h.f]; rfl, h.tn, h.tf, h.nf⟩
theorem Box5.cells {W : World} {Ba Bb Bt Bn Bf : Nat} {va vb : Value} {t n f : Int} (h : Box5 W Ba Bb Bt Bn Bf va vb t n f) :
    W.cell? ⟨Ba, 0, none⟩ = some va ∧ W.cell? ⟨Bb, 0, none⟩ = some vb ∧ W.cell? ⟨Bt, 0, none⟩ = some (.int .i64 t) ∧ W.cell? ⟨Bn, 0, none⟩ = some (.int .i64 n) ∧ W.cell? ⟨Bf, 0, none⟩ = some (.int .i64 f) ∧
    W.frozen? ⟨Bt, 0, none⟩ = false ∧ W.frozen? ⟨Bn, 0, none⟩ = false ∧ W.frozen? ⟨Bf, 0, none⟩ = false :=
  ⟨by rw [cell_of h.a]; rfl, by rw [cell_of h.b]; rfl, by rw [cell_of h.t]; rfl, by rw [cell_of h.n]; rfl, by rw [cell_of h.f]; rfl, free_of h.t _, free_of h.n _, free_of h.f _⟩
theorem MemF.off {w : World} {M : Nat → Nat → Int} {len : Nat → Nat} {D : Nat → Prop} (h : MemF w M len D) {b : Nat} (hb : ¬ D b) (u : Value) : MemF (w.setCell ⟨b, 0, none⟩ u) M len D :=
  h.same (fun g hg => Below.heap_setCell _ _ _ g (fun e => hb (show D b from (show g = b from e) ▸ hg)))

def Ov1Post (x y : Wn) (va vb : Value) (M : Nat → Nat → Int) (len : Nat → Nat) (D : Nat → Prop) (Ba Bb Bt Bn Bf : Nat) (w : World) : Ending → World → Prop := fun e w' =>
  e = .returned (.tuple #[]) ∧ MemF w' M len D ∧ Touch (fun k => D k ∨ (k = Bt ∨ k = Bn ∨ k = Bf)) w w' ∧ Box5 w' Ba Bb Bt Bn Bf va vb (ov x y).2.1 (ov x y).2.2 (ov x y).1

set_option maxHeartbeats 2000000 in
set_option maxRecDepth 100000 in
theorem overlap1_any (x y : Wn) (a b : Option Addr) (M : Nat → Nat → Int) (len : Nat → Nat) (D : Nat → Prop) (Ba Bb Bt Bn Bf : Nat) (w : World) (h : MemF w M len D) (hx : WnOk len D x a) (hy : WnOk len D y b) (zx : ∀ g i, x.has g i → M g i = 0) (zy : ∀ g i, y.has g i → M g i = 0) (hnx : x.n ≤ 100000) (hny : y.n ≤ 100000)
    (hB : Box5 w Ba Bb Bt Bn Bf (x.val a) (y.val b) 0 0 0) (hD : ∀ k, (k = Ba ∨ k = Bb ∨ k = Bt ∨ k = Bn ∨ k = Bf) → ¬ D k) :
    Calls Try.prog 29 #[.pointer (some ⟨Ba, 0, none⟩), .pointer (some ⟨Bb, 0, none⟩), .pointer (some ⟨Bt, 0, none⟩), .pointer (some ⟨Bn, 0, none⟩), .pointer (some ⟨Bf, 0, none⟩)] w (Ov1Post x y (x.val a) (y.val b) M len D Ba Bb Bt Bn Bf w) := by
  have AP := Lib.hid (fun W hW => appears_any x y a b M len D W hW hx hy zx zy)
  have AP2 := Lib.hid (fun W hW => appears_any y x b a M len D W hW hy hx zy zx)
  have bd1 := app_bd x y
  have bd2 := app_bd y x
  have HM := Lib.hid h
  have HB := Lib.hid hB
  have HD := Lib.hid hD
  have hOt : ¬ D Bt := hD _ (Or.inr (Or.inr (Or.inl rfl)))
  have hOn : ¬ D Bn := hD _ (Or.inr (Or.inr (Or.inr (Or.inl rfl))))
  have hOf : ¬ D Bf := hD _ (Or.inr (Or.inr (Or.inr (Or.inr rfl))))
  have HO := Lib.hid (And.intro hOt (And.intro hOn hOf))
  obtain ⟨c1, c2, c3, c4, c5, c6, c7, c8⟩ := hB.cells
  clear h hx hy zx zy hB hD hOt hOn hOf
  unfold Wn.val at *
  obtain ⟨A, hA⟩ : ∃ A, app x y = A := ⟨_, rfl⟩
  obtain ⟨A2, hA2⟩ : ∃ A, app y x = A := ⟨_, rfl⟩
  rw [hA] at bd1
  rw [hA2] at bd2
  have HAA := Lib.hid hA
  have HAA2 := Lib.hid hA2
  clear hA hA2
  have hoff : Hid (∀ k, (k = Ba ∨ k = Bb ∨ k = Bt ∨ k = Bn ∨ k = Bf) → k < w.heap.size) := Lib.hid (fun k hk => by
    rcases hk with rfl | rfl | rfl | rfl | rfl
    · exact lt_of HB.out.a
    · exact lt_of HB.out.b
    · exact lt_of HB.out.t
    · exact lt_of HB.out.n
    · exact lt_of HB.out.f)
  go_enter Try.func29, Try.ntmps29
  go_wp2_with fail
  refine (AP.out _ HM.out).mono ?_
  rintro e w1 ⟨rfl, hm1, ht1⟩
  rw [HAA.out]
  have b1 := HB.out.same (fun k hk => ht1.block k (hoff.out k hk) (HD.out k hk))
  have b2 := b1.setT A
  obtain ⟨d1, d2, d3, d4, d5, d6, d7, d8⟩ := b1.cells
  obtain ⟨p1, p2, p3, p4, p5, p6, p7, p8⟩ := b2.cells
  have hm2 := hm1.off HO.out.1 (.int .i64 A)
  have ht2 : Touch (fun k => D k ∨ (k = Bt ∨ k = Bn ∨ k = Bf)) w (w1.setCell ⟨Bt, 0, none⟩ (.int .i64 A)) := Touch.setCell (F := fun k => D k ∨ (k = Bt ∨ k = Bn ∨ k = Bf)) (ht1.mono (fun k hk => Or.inl hk)) (p := ⟨Bt, 0, none⟩) (Or.inl (Or.inr (Or.inl rfl))) _
  have HB2 := Lib.hid b2
  have HM2 := Lib.hid hm2
  have HT2 := Lib.hid ht2
  clear hm1 ht1 b1 b2 hm2 ht2 c1 c2 c3 c4 c5 c6 c7 c8
  by_cases h0 : 0 ≤ A
  · have hlt := bd1.2.2 h0
    have FIN : Hid (∀ z, z = min (x.n : Int) (y.n - A) → Ov1Post x y (.slice a x.n x.c) (.slice b y.n y.c) M len D Ba Bb Bt Bn Bf w (.returned (.tuple #[])) ((w1.setCell ⟨Bt, 0, none⟩ (.int .i64 A)).setCell ⟨Bn, 0, none⟩ (.int .i64 z))) := Lib.hid (by
      rintro z rfl
      refine ⟨rfl, HM2.out.off HO.out.2.1 _, HT2.out.setCell (p := ⟨Bn, 0, none⟩) (Or.inl (Or.inr (Or.inr (Or.inl rfl)))) _, ?_⟩
      have := HB2.out.setN (min (x.n : Int) (y.n - A))
      have e : ov x y = (0, A, min (x.n : Int) (y.n - A)) := by unfold ov; rw [HAA.out, if_pos h0]
      rw [e]
      exact this)
    have hmin : -1000000 ≤ min (x.n : Int) (y.n - A) ∧ min (x.n : Int) (y.n - A) ≤ 1000000 := by omega
    go_wp2_with fail
    all_goals
      refine bodyPost_ret (results_none rfl _ _ _) rfl ?_
      exact FIN.out _ (by omega)
  · have b3 := HB2.out.setT 0
    have hm3 := HM2.out.off HO.out.1 (.int .i64 0)
    have ht3 : Touch (fun k => D k ∨ (k = Bt ∨ k = Bn ∨ k = Bf)) w ((w1.setCell ⟨Bt, 0, none⟩ (.int .i64 A)).setCell ⟨Bt, 0, none⟩ (.int .i64 0)) := HT2.out.setCell (p := ⟨Bt, 0, none⟩) (Or.inl (Or.inr (Or.inl rfl))) _
    have HB3 := Lib.hid b3
    have HM3 := Lib.hid hm3
    have HT3 := Lib.hid ht3
    obtain ⟨q1, q2, q3, q4, q5, q6, q7, q8⟩ := b3.cells
    clear b3 hm3 ht3
    have HN := Lib.hid h0
    go_wp2_with fail
    refine (AP2.out _ HM3.out).mono ?_
    rintro e w4 ⟨rfl, hm4, ht4⟩
    rw [HAA2.out]
    have b4 := HB3.out.same (fun k hk => ht4.block k (by have := hoff.out k hk; have := HT3.out.size; omega) (HD.out k hk))
    have b5 := b4.setF A2
    obtain ⟨r1, r2, r3, r4, r5, r6, r7, r8⟩ := b4.cells
    obtain ⟨s1, s2, s3, s4, s5, s6, s7, s8⟩ := b5.cells
    have hm5 := hm4.off HO.out.2.2 (.int .i64 A2)
    have ht5 : Touch (fun k => D k ∨ (k = Bt ∨ k = Bn ∨ k = Bf)) w (w4.setCell ⟨Bf, 0, none⟩ (.int .i64 A2)) := Touch.setCell (F := fun k => D k ∨ (k = Bt ∨ k = Bn ∨ k = Bf)) (HT3.out.then (ht4.mono (fun k hk => Or.inl hk))) (p := ⟨Bf, 0, none⟩) (Or.inl (Or.inr (Or.inr (Or.inr rfl)))) _
    have HB5 := Lib.hid b5
    have HM5 := Lib.hid hm5
    have HT5 := Lib.hid ht5
    clear hm4 ht4 b4 b5 hm5 ht5 d1 d2 d3 d4 d5 d6 d7 d8 p1 p2 p3 p4 p5 p6 p7 p8 q1 q2 q3 q4 q5 q6 q7 q8
    by_cases h2 : 0 ≤ A2
    · have hlt := bd2.2.2 h2
      have FIN : Hid (∀ z, z = min ((x.n : Int) - A2) y.n → Ov1Post x y (.slice a x.n x.c) (.slice b y.n y.c) M len D Ba Bb Bt Bn Bf w (.returned (.tuple #[])) ((w4.setCell ⟨Bf, 0, none⟩ (.int .i64 A2)).setCell ⟨Bn, 0, none⟩ (.int .i64 z))) := Lib.hid (by
        rintro z rfl
        refine ⟨rfl, HM5.out.off HO.out.2.1 _, HT5.out.setCell (p := ⟨Bn, 0, none⟩) (Or.inl (Or.inr (Or.inr (Or.inl rfl)))) _, ?_⟩
        have := HB5.out.setN (min ((x.n : Int) - A2) y.n)
        have e : ov x y = (A2, 0, min ((x.n : Int) - A2) y.n) := by unfold ov; rw [HAA.out, HAA2.out, if_neg (by have := HN.out; omega), if_pos h2]
        rw [e]
        exact this)
      go_wp2_with fail
      all_goals
        refine bodyPost_ret (results_none rfl _ _ _) rfl ?_
        exact FIN.out _ (by omega)
    · have FIN : Hid (Ov1Post x y (.slice a x.n x.c) (.slice b y.n y.c) M len D Ba Bb Bt Bn Bf w (.returned (.tuple #[])) ((w4.setCell ⟨Bf, 0, none⟩ (.int .i64 A2)).setCell ⟨Bf, 0, none⟩ (.int .i64 0))) := Lib.hid (by
        refine ⟨rfl, HM5.out.off HO.out.2.2 _, HT5.out.setCell (p := ⟨Bf, 0, none⟩) (Or.inl (Or.inr (Or.inr (Or.inr rfl)))) _, ?_⟩
        have := HB5.out.setF 0
        have e : ov x y = (0, 0, 0) := by unfold ov; rw [HAA.out, HAA2.out, if_neg (by have := HN.out; omega), if_neg h2]
        rw [e]
        exact this)
      have HN2 := Lib.hid h2
      go_wp2_with fail
      go_end0
      exact FIN.out

theorem alloc6 (w : World) (o0 o1 o2 o3 o4 o5 : Obj) : ∀ W, W = (((((w.alloc o0).alloc o1).alloc o2).alloc o3).alloc o4).alloc o5 → Below w.heap.size w W ∧ W.heap.size = w.heap.size + 6 ∧ W.heap[w.heap.size]? = some o0 ∧ W.heap[w.heap.size + 1]? = some o1 ∧ W.heap[w.heap.size + 2]? = some o2 ∧ W.heap[w.heap.size + 3]? = some o3 ∧ W.heap[w.heap.size + 4]? = some o4 ∧ W.heap[w.heap.size + 5]? = some o5 := by
  rintro W rfl
  have new : ∀ (X : World) (o : Obj) (n : Nat), X.heap.size = n → (X.alloc o).heap[n]? = some o := fun X o n h => by subst h; exact heap_alloc_new X o
  have old : ∀ (X : World) (o o' : Obj) (n : Nat), X.heap[n]? = some o → (X.alloc o').heap[n]? = some o := fun X o o' n h => (heap_alloc_old X o' (Array.getElem?_eq_some_iff.1 h).1).trans h
  refine ⟨(((((((Below.refl _ w).alloc (Nat.le_refl _) _).alloc (by simp) _).alloc (by simp; omega) _).alloc (by simp; omega) _).alloc (by simp; omega) _).alloc (by simp; omega) _), by simp, ?_, ?_, ?_, ?_, ?_, ?_⟩
  · exact old _ _ _ _ (old _ _ _ _ (old _ _ _ _ (old _ _ _ _ (old _ _ _ _ (new _ _ _ rfl)))))
  · exact old _ _ _ _ (old _ _ _ _ (old _ _ _ _ (old _ _ _ _ (new _ _ _ (by simp)))))
  · exact old _ _ _ _ (old _ _ _ _ (old _ _ _ _ (new _ _ _ (by simp))))
  · exact old _ _ _ _ (old _ _ _ _ (new _ _ _ (by simp)))
  · exact old _ _ _ _ (new _ _ _ (by simp))
  · exact new _ _ _ (by simp)
theorem zeroed_at {xs : List (Wn × Option Addr)} {M : Nat → Nat → Int} {x : Wn × Option Addr} (hx : x ∈ xs) {g i : Nat} (h : x.1.has g i) : zeroed xs M g i = 0 := by
  unfold zeroed
  rw [if_pos]
  exact List.any_eq_true.2 ⟨x, hx, by simpa using h⟩

def OvS (h : Nat) (va vb : Value) (r1 r2 r3 : Int) (W : World) : Prop := Box5 W h (h + 1) (h + 3) (h + 4) (h + 2) va vb r2 r3 r1
def OvPost (x y : Wn) (w : World) : Ending → World → Prop := fun e w' => e = .returned (.tuple #[.int .i64 (ov x y).1, .int .i64 (ov x y).2.1, .int .i64 (ov x y).2.2]) ∧ Below w.heap.size w w'

theorem MemF.below_of {w w' : World} {M : Nat → Nat → Int} {len : Nat → Nat} {D : Nat → Prop} (h : MemF w M len D) (h' : MemF w' M len D) {X : Nat → Prop} {B : Nat} (hX : ∀ k, X k → B ≤ k) (ht : Touch (fun k => D k ∨ X k) w w') (hB : B ≤ w.heap.size) : Below B w w' :=
  ⟨ht.os, ht.tape, ht.output, ht.size, fun k hk => by
    by_cases hd : D k
    · exact (show w'.heap[k]? = _ from h' k hd).trans (show w.heap[k]? = _ from h k hd).symm
    · exact ht.block k (by omega) (fun e => e.elim hd (fun y => by have := hX k y; omega))⟩

set_option maxHeartbeats 2000000 in
set_option maxRecDepth 100000 in
theorem overlap_any (x y : Wn) (a b : Option Addr) (M : Nat → Nat → Int) (len : Nat → Nat) (D : Nat → Prop) (w : World) (h : MemF w M len D) (hx : WnOk len D x a) (hy : WnOk len D y b) (hnx : x.n ≤ 100000) (hny : y.n ≤ 100000) :
    Calls Try.prog 22 #[x.val a, y.val b] w (OvPost x y w) := by
  have HM := Lib.hid h
  have HX := Lib.hid hx
  have HY := Lib.hid hy
  have hlt := fun k (hk : D k) => h.lt hk
  have HLT := Lib.hid hlt
  have EN := Lib.hid (enters_of Try.func29 (by kernel_rfl) rfl)
  clear h hx hy hlt
  unfold Wn.val
  go_enter Try.func22, Try.ntmps22
  go_wp2_with fail
  generalize hW6 : World.alloc _ _ = W6
  obtain ⟨bw, hz, h0, h1, h2, h3, h4, h5⟩ := alloc6 _ _ _ _ _ _ _ W6 hW6.symm
  simp only [Nat.add_assoc, Nat.reduceAdd] at *
  have b5 : Box5 W6 w.heap.size (w.heap.size + 1) (w.heap.size + 3) (w.heap.size + 4) (w.heap.size + 2) (.slice a x.n x.c) (.slice b y.n y.c) 0 0 0 := ⟨h0, h1, h3, h4, h2, by omega, by omega, by omega⟩
  have hoff : ∀ k, (k = w.heap.size ∨ k = w.heap.size + 1 ∨ k = w.heap.size + 3 ∨ k = w.heap.size + 4 ∨ k = w.heap.size + 2) → ¬ D k := fun k hk x => by have := HLT.out k x; omega
  have TR := tried_any (.slice (some ⟨w.heap.size + 5, 0, none⟩) 2 2) [(x, a), (y, b)] 29 #[.pointer (some ⟨w.heap.size, 0, none⟩), .pointer (some ⟨w.heap.size + 1, 0, none⟩), .pointer (some ⟨w.heap.size + 3, 0, none⟩), .pointer (some ⟨w.heap.size + 4, 0, none⟩), .pointer (some ⟨w.heap.size + 2, 0, none⟩)] M len D
    (fun k => k = w.heap.size + 3 ∨ k = w.heap.size + 4 ∨ k = w.heap.size + 2) (fun W => Box5 W w.heap.size (w.heap.size + 1) (w.heap.size + 3) (w.heap.size + 4) (w.heap.size + 2) (x.val a) (y.val b) (ov x y).2.1 (ov x y).2.2 (ov x y).1) W6
    ⟨_, _, rfl, by simp, by simp, by unfold maxLen; omega, fun k hk => by
      have hk2 : k = 0 ∨ k = 1 := by have : k < 2 := hk; omega
      rcases hk2 with rfl | rfl
      · exact ⟨_, _, rfl, by rw [cell_of h5]; rfl⟩
      · exact ⟨_, _, rfl, by rw [cell_of h5]; rfl⟩⟩
    (HM.out.below bw) (fun z hz => by
      rcases List.mem_cons.1 hz with rfl | hz
      · exact HX.out
      · obtain rfl := List.mem_singleton.1 hz; exact HY.out)
    (fun ad n c he _ => by
      simp only [Value.slice.injEq, Option.some.injEq] at he
      obtain ⟨rfl, _, _⟩ := he
      refine ⟨by show w.heap.size + 5 < _; omega, fun x => ?_, fun x => ?_⟩
      · have := HLT.out (w.heap.size + 5) x; omega
      · have x : w.heap.size + 5 = w.heap.size + 3 ∨ w.heap.size + 5 = w.heap.size + 4 ∨ w.heap.size + 5 = w.heap.size + 2 := x
        omega)
    (fun k hk => ⟨by omega, hoff k (by omega)⟩) (fun z hz => by
      rcases List.mem_cons.1 hz with rfl | hz
      · exact hnx
      · obtain rfl := List.mem_singleton.1 hz; exact hny)
    EN.out
    (fun W hW hT => (overlap1_any x y a b (zeroed [(x, a), (y, b)] M) len D w.heap.size (w.heap.size + 1) (w.heap.size + 3) (w.heap.size + 4) (w.heap.size + 2) W hW HX.out HY.out (fun g i h => zeroed_at (x := (x, a)) (by simp) h) (fun g i h => zeroed_at (x := (y, b)) (by simp) h) hnx hny
      (b5.same (fun k hk => hT.block k (by omega) (hoff k hk))) hoff).mono (fun e W' ⟨q1, q2, q3, q4⟩ => ⟨q1, _, q2, fun g i hn => by unfold zeroed; rw [if_neg (by rw [hn]; exact Bool.false_ne_true)], q3, q4⟩))
    (fun W W' hb hT => hb.same (fun k hk => hT.block k (by
      have l1 := lt_of hb.a; have l2 := lt_of hb.b; have l3 := lt_of hb.t; have l4 := lt_of hb.n; have l5 := lt_of hb.f
      rcases hk with rfl | rfl | rfl | rfl | rfl <;> assumption) (hoff k hk)))
  refine TR.mono ?_
  rintro e w7 ⟨rfl, hm7, ht7, hb7⟩
  obtain ⟨c1, c2, c3, c4, c5, f3, f4, f5⟩ := hb7.cells
  have BW := Lib.hid (show Below w.heap.size w w7 from bw.trans ((HM.out.below bw).below_of hm7 (X := fun k => k = w.heap.size + 3 ∨ k = w.heap.size + 4 ∨ k = w.heap.size + 2) (fun k hk => by omega) ht7 (by omega)))
  have HB7 := Lib.hid hb7
  have HOV := Lib.hid (show ∀ e w', e = .returned (.tuple #[.int .i64 (ov x y).1, .int .i64 (ov x y).2.1, .int .i64 (ov x y).2.2]) → Below w.heap.size w w' → OvPost x y w e w' from fun e w' h1 h2 => ⟨h1, h2⟩)
  generalize (ov x y).1 = r1 at *
  generalize (ov x y).2.1 = r2 at *
  generalize (ov x y).2.2 = r3 at *
  clear TR h0 h1 h2 h3 h4 h5 b5 hm7 ht7 hb7
  have s4 : ∀ z : WIn (OvS w.heap.size (x.val a) (y.val b) r1 r2 r3), z.w.cell? ⟨w.heap.size + 2, 0, none⟩ = some (.int .i64 r1) := fun z => z.h.cells.2.2.2.2.1
  have s5 : ∀ z : WIn (OvS w.heap.size (x.val a) (y.val b) r1 r2 r3), z.w.cell? ⟨w.heap.size + 3, 0, none⟩ = some (.int .i64 r2) := fun z => z.h.cells.2.2.1
  have s6 : ∀ z : WIn (OvS w.heap.size (x.val a) (y.val b) r1 r2 r3), z.w.cell? ⟨w.heap.size + 4, 0, none⟩ = some (.int .i64 r3) := fun z => z.h.cells.2.2.2.1
  haveI ne : Nonempty (WIn (OvS w.heap.size (x.val a) (y.val b) r1 r2 r3)) := ⟨⟨w7, HB7.out⟩⟩
  go_upto_region 2 with fail
  refine wp_normal ?_
  refine wp_region_plan 5 (OvS w.heap.size (x.val a) (y.val b) r1 r2 r3) rfl ?_
  refine wpN_seg [0, 1, 2] (by kernel_rfl) (by kernel_rfl) (by kernel_rfl) (by kernel_rfl) (by decide) (fun _ _ _ _ _ h => h) (HB7.out.same (fun _ _ => rfl)) ?_
  simp only [pick, List.map_cons, List.map_nil, List.getElem?_cons_succ, List.getElem?_cons_zero, Option.getD_some]
  repeat (go_big_quiet_step (fail))
  refine wpQuiet_nil ?_
  have b0 : OvS w.heap.size (x.val a) (y.val b) r1 r2 r3 w7 := HB7.out
  have b1 := b0.setF r1
  have b2 := b1.setT r2
  have b3 := b2.setN r3
  obtain ⟨_, _, d3, d4, d5, e3, e4, e5⟩ := b0.cells
  obtain ⟨_, _, g3, g4, g5, i3, i4, i5⟩ := b1.cells
  obtain ⟨_, _, j3, j4, j5, k3, k4, k5⟩ := b2.cells
  obtain ⟨_, _, l3, l4, l5, _, _, _⟩ := b3.cells
  have HB1 := Lib.hid b1
  have HB2 := Lib.hid b2
  have FB := Lib.hid (show Below w.heap.size w ((((w7.setCell ⟨w.heap.size + 2, 0, none⟩ (.int .i64 r1)).setCell ⟨w.heap.size + 3, 0, none⟩ (.int .i64 r2)).setCell ⟨w.heap.size + 4, 0, none⟩ (.int .i64 r3)).drew) from bdrewN (((BW.out.setCell (by simp) _).setCell (by simp) _).setCell (by simp) _) 1)
  clear b0 b1 b2 b3
  refine wpN_one 3 _ (by kernel_rfl) rfl ?_
  refine NextAt.held ?_
  intro K hK
  go_simp
  refine hK _ _ (HB1.out.same (fun _ _ => rfl)) ?_
  clear hK K
  refine wpN_one 4 _ (by kernel_rfl) rfl ?_
  refine NextAt.held ?_
  intro K hK
  go_simp
  refine hK _ _ (HB2.out.same (fun _ _ => rfl)) ?_
  clear hK K
  refine wpN_one 5 _ (by kernel_rfl) rfl ?_
  refine NextAt.free (by kernel_rfl) ?_
  intro K hK
  go_simp
  refine hK _ _ ?_
  clear hK K
  refine wpN_done (by kernel_rfl) ?_
  go_wp2_with fail
  exact bodyPost_ret (v := .tuple #[.int .i64 r1, .int .i64 r2, .int .i64 r3]) (by simp only [results, Try.results22]; simp [go_sem, l3, l4, l5]) rfl (HOV.out _ _ rfl FB.out)

end Go.Proofs.Ytclpkmplifcfjaa
