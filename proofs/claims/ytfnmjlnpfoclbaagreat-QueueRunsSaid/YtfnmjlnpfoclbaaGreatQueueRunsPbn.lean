/-
  Fenced: what it gives. No conditions.
  Poke: octets written into watched slices, whatever script is read. No conditions.
-/
import Derived.Test.YtfnmjlnpfoclbaaGreatQueueRunsPbm
import Derived.Test.YtfnmjlnpfoclbaaGreatQueueRunsPad

namespace Go.Proofs.YtfnmjlnpfoclbaaGreat
section
open Go.RowKit
set_option linter.unusedVariables false

set_option maxHeartbeats 1000000 in
set_option maxRecDepth 100000 in
theorem fenced_any (c B : Nat) (R : Rel) (prs : List (Value × Value)) (x y : Value) (w : World) (hc : CellsAt w B c prs) (ht : Twins w B R) (hp : ∀ xy ∈ prs, Pr R xy) (hxy : Pr R (x, y)) (hl : prs.length < 5500000000000) (hB : B ≤ w.heap.size) (hf : ∃ a n, x = .slice a n n) :
    Calls Tryz.prog 36 #[.pointer (some ⟨c, 0, none⟩), x, y] w (AddPost B c R (prs ++ [(x, y)]) w) := by
  have AD := Lib.hid (add_any c B R prs x y w hc ht hp hxy hl hB)
  obtain ⟨a, n, rfl⟩ := hf
  have hn : n ≤ 9223372036854775807 := by
    obtain ⟨p, q, len, cap, e, _, h2, _⟩ := hxy
    simp only [Prod.mk.injEq, Value.slice.injEq] at e
    omega
  unfold AddPost at AD
  have FIN : Hid (∀ w', (CellsAt w' B c (prs ++ [(.slice a n n, y)]) ∧ Twins w' B R ∧ CelTo B c w w') → AddPost B c R (prs ++ [(.slice a n n, y)]) w (.returned (.bool true)) w') := Lib.hid (fun w' h => ⟨rfl, h⟩)
  clear hc ht hp hxy hl hB
  go_enter Tryz.func36, Tryz.ntmps36
  go_wp2_with fail
  refine AD.out.mono ?_
  rintro e w' ⟨rfl, h⟩
  have HF := Lib.hid (FIN.out w' h)
  clear h AD FIN
  go_wp2_with fail
  go_ret
  exact HF.out

end
end Go.Proofs.YtfnmjlnpfoclbaaGreat

namespace Go.Proofs.YtfnmjlnpfoclbaaGreat
section
open Go.RowKit
set_option linter.unusedVariables false

/-- Blocks keep their type and size. -/
def Sz (w w' : World) : Prop := ∀ (k : Nat) (cs : Array Value) (t : TypeId), w.heap[k]? = some (.cells cs t (0, 0)) → ∃ cs', w'.heap[k]? = some (.cells cs' t (0, 0)) ∧ cs'.size = cs.size
theorem Sz.refl (w : World) : Sz w w := fun k cs t h => ⟨cs, h, rfl⟩
theorem Sz.below {w w' w'' : World} (h : Sz w w') (hb : Below w'.heap.size w' w'') : Sz w w'' := fun k cs t hk => by
  obtain ⟨cs', h1, h2⟩ := h k cs t hk
  exact ⟨cs', (hb.block k (lt_of h1)).trans h1, h2⟩
theorem Sz.drewN {w w' : World} (h : Sz w w') (n : Nat) : Sz w (w'.drewN n) := h.below (bdrewN (Below.refl _ _) n)
theorem Sz.setCell {w w' : World} (h : Sz w w') (pb po : Nat) (v : Value) : Sz w (w'.setCell ⟨pb, po, none⟩ v) := fun k cs t hk => by
  obtain ⟨cs', h1, h2⟩ := h k cs t hk
  by_cases e : k = pb
  · subst e
    exact ⟨_, block_setCell h1 po v, by simp [h2]⟩
  · exact ⟨cs', (Below.heap_setCell w' ⟨pb, po, none⟩ v k e).trans h1, h2⟩
def PokePost2 (B c : Nat) (R : Rel) (prs : List (Value × Value)) (w : World) : Ending → World → Prop := fun e w' =>
  e = .returned (.bool true) ∧ CellsAt w' B c prs ∧ Twins w' B R ∧ Touch (InR R) w w' ∧ Sz w w'

set_option maxHeartbeats 4000000 in
set_option maxRecDepth 100000 in
theorem poke2_any (c B : Nat) (R : Rel) (prs : List (Value × Value)) (v : Value) (zs : List Int) (w : World) (hs : ∀ W, Touch (InR R) w W → Reads W .i64 v zs) (hfit : sliceFits v) (hz : ∀ z ∈ zs, -9223372036854775808 ≤ z ∧ z ≤ 9223372036854775807)
    (hc : CellsAt w B c prs) (ht : Twins w B R) (hp : ∀ xy ∈ prs, Pr R xy) :
    Calls Tryz.prog 16 #[.pointer (some ⟨c, 0, none⟩), v] w (PokePost2 B c R prs w) := by
  have HP := Lib.hid hp
  have len := hc.len
  have HC := Lib.hid hc
  have HT := Lib.hid ht
  have HS := Lib.hid hs
  have HZ := Lib.hid hz
  clear hc ht hs hz hp
  go_enter Tryz.func16, Tryz.ntmps16
  go_wp2_with fail
  go_loopw [1] (fun u wr => ∃ ys, (∀ W, Touch (InR R) w W → Reads W .i64 u ys) ∧ sliceFits u ∧ (∀ z ∈ ys, -9223372036854775808 ≤ z ∧ z ≤ 9223372036854775807) ∧ CellsAt wr B c prs ∧ Twins wr B R ∧ Touch (InR R) w wr ∧ Sz w wr) (fun u _ => sliceLen u)
  case atStart => exact ⟨zs, HS.out, hfit, HZ.out, HC.out, HT.out, Touch.refl _ _, Sz.refl _⟩
  case round =>
    obtain ⟨ys, hys, hfu, hyz, hcr, htr, htc, hbr⟩ := hrel
    obtain ⟨sa, n, scap, rfl⟩ : ∃ sa n scap, u1 = .slice sa n scap := by obtain ⟨sa, scap, h, _⟩ := hys wr htc; exact ⟨_, _, _, h⟩
    have hfu : n ≤ scap := hfu
    obtain ⟨a, ca, a', ca', hcb, hrow⟩ := hcr.open
    have c0 : wr.cell? ⟨c, 0, none⟩ = some (.slice a prs.length ca) := by rw [cell_of hcb]; rfl
    have c1 : wr.cell? ⟨c, 1, none⟩ = some (.slice a' prs.length ca') := by rw [cell_of hcb]; rfl
    have HC := Lib.hid hcr
    have HT := Lib.hid htr
    have HR := Lib.hid hrow
    have HTC := Lib.hid htc
    have HBR := Lib.hid hbr
    have HYZ := Lib.hid hyz
    clear hcr htr hrow htc hbr hcb hyz
    by_cases h3 : 3 ≤ n
    · by_cases hl0 : 0 < prs.length
      · obtain ⟨hyl, b, o, rfl, s0, s1, s2, _⟩ := (hys wr HTC.out).tail3 h3
        have hrest : ∀ W, Touch (InR R) w W → ∀ m, Reads W .i64 (.slice (some ⟨b, o + 3, none⟩) (n - 3) m) (ys.drop 3) := fun W hW => by
          obtain ⟨_, b', o', e, _, _, _, h⟩ := (hys W hW).tail3 h3
          simp only [Option.some.injEq, Addr.mk.injEq, and_true] at e
          obtain ⟨rfl, rfl⟩ := e
          exact h
        have M0 := Lib.hid (fun w => mod_any (ys.getD 0 0) prs.length w (by omega) (by omega) (HYZ.out _ (by rw [List.getD_eq_getElem?_getD, List.getElem?_eq_getElem (by omega)]; simp)))
        have ml0 := modv_lt (ys.getD 0 0) prs.length (by omega)
        have z1 := HYZ.out (ys.getD 1 0) (by rw [List.getD_eq_getElem?_getD, List.getElem?_eq_getElem (by omega)]; simp)
        have z2 := HYZ.out (ys.getD 2 0) (by rw [List.getD_eq_getElem?_getD, List.getElem?_eq_getElem (by omega)]; simp)
        generalize ys.getD 0 0 = y0 at *
        generalize ys.getD 1 0 = y1 at *
        generalize ys.getD 2 0 = y2 at *
        generalize modv y0 prs.length = k at *
        have g0 := s0
        have g1 := s1
        have g2 := s2
        have hk : k < prs.length := by omega
        obtain ⟨g, g', rfl, rfl, q1, q2⟩ := HR.out k hk
        have hpr := HP.out _ (List.getElem_mem hk)
        obtain ⟨pa, pb, len1, cap1, e, hl1, hm1, hcp⟩ := id hpr
        rw [e] at q1 q2
        simp only at q1 q2
        clear e hpr s0 s1 s2 ml0
        have hcap' : cap1 ≤ 9223372036854775807 := by omega
        go_wp2_with fail
        go_quiet ((go_at_call 28; exact Calls.quiet_of_same (M0.out _)))
        go_wp2_with fail
        go_quiet (fail)
        by_cases hc0 : cap1 = 0
        · subst hc0
          go_wp2_with fail
          all_goals
            go_roundw
            case rel => exact ⟨_, fun W hW => tail_if (hys W hW) (hrest W hW) hfu, by simp only [sliceFits] at hfu ⊢; omega, fun z hz => HYZ.out z (List.mem_of_mem_drop hz), HC.out.below (bdrewN (Below.refl _ _) _), HT.out.below (bdrewN (Below.refl _ _) _), HTC.out.drewN _, HBR.out.drewN _⟩
            case measure => simp [sliceLen]; omega
        · have M1 := Lib.hid (fun w => mod_any y1 cap1 w (by omega) (by omega) z1)
          have ml1 := modv_lt y1 cap1 (by omega)
          generalize modv y1 cap1 = k2 at *
          have hk2 : k2 < cap1 := by omega
          obtain ⟨b1, o1, c1', r1, rfl, rfl, hR⟩ := hcp (by omega)
          have RR := Lib.hid (hR k2 hk2)
          clear hcp hR
          have hv := HT.out.val _ _ _ _ RR.out
          have hw := HT.out.row _ _ _ _ RR.out
          obtain ⟨x, _, _, x1, x2⟩ := hv
          obtain ⟨_, _, ⟨cs1, f1⟩, ⟨cs2, f2⟩⟩ := hw
          have fr1 := fun j => free_of f1 j
          have fr2 := fun j => free_of f2 j
          have nap : ¬ (b1 = c1' ∧ o1 + k2 = r1 + k2) := HT.out.apart _ _ _ _ _ _ _ _ RR.out RR.out
          clear f1 f2
          go_wp2_with fail
          refine (M1.out _).mono ?_
          rintro e w1 ⟨rfl, rfl⟩
          go_wp2_with fail
          have y20 := Int.emod_nonneg y2 (show (256 : Int) ≠ 0 by decide)
          have y21 := Int.emod_lt_of_pos y2 (show (0 : Int) < 256 by decide)
          have NE : ∀ (W : World) (u : Value), (W.setCell ⟨b1, o1 + k2, none⟩ u).cell? ⟨c1', r1 + k2, none⟩ = W.cell? ⟨c1', r1 + k2, none⟩ := fun W u => World.cell?_setCell_other _ _ _ _ (fun e => nap (by simpa using e))
          have low := HT.out.row _ _ _ _ RR.out
          have LO := Lib.hid (And.intro low.1 low.2.1)
          clear low
          go_region
          go_wp2_with fail
          have C1 := Lib.hid (fun m => ((HC.out.drewN m).write (HT.out.drewN m) RR.out (.int .u8 (y2 % 256))))
          have T1 := Lib.hid (fun m => ((HT.out.drewN m).write RR.out (y2 % 256) y20 (by omega)))
          have U1 := Lib.hid (fun m => (HTC.out.drewN m).write RR.out (.int .u8 (y2 % 256)))
          have B1 := Lib.hid (fun m => ((HBR.out.drewN m).setCell b1 (o1 + k2) (.int .u8 (y2 % 256))).setCell c1' (r1 + k2) (.int .u8 (y2 % 256)))
          refine (same_any c B R prs _ (C1.out _) (T1.out _) HP.out).mono ?_
          rintro e w3 ⟨rfl, m2, rfl⟩
          go_wp2_with fail
          go_roundw
          case rel => exact ⟨_, fun W hW => tail_if (hys W hW) (hrest W hW) hfu, by simp only [sliceFits] at hfu ⊢; omega, fun z hz => HYZ.out z (List.mem_of_mem_drop hz), (C1.out _).drewN _, (T1.out _).drewN _, (U1.out _).drewN _, (B1.out _).drewN _⟩
          case measure => simp [sliceLen]; omega
      · have hl1 : prs.length = 0 := by omega
        go_wp2_with fail
        refine (appends_any c B R prs _ HC.out HT.out HP.out).mono ?_
        rintro e w1 ⟨rfl, hb1⟩
        go_wp2_with fail
        go_ret
        exact ⟨rfl, HC.out.below hb1, HT.out.below hb1, HTC.out.then (Touch.of_below hb1), HBR.out.below hb1⟩
    · have h3' : n < 3 := by omega
      clear h3
      go_wp2_with fail
      refine (appends_any c B R prs _ HC.out HT.out HP.out).mono ?_
      rintro e w1 ⟨rfl, hb1⟩
      go_wp2_with fail
      go_ret
      exact ⟨rfl, HC.out.below hb1, HT.out.below hb1, HTC.out.then (Touch.of_below hb1), HBR.out.below hb1⟩

end
end Go.Proofs.YtfnmjlnpfoclbaaGreat
