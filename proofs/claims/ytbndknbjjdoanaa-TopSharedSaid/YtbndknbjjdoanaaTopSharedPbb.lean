/-
  stands: what it gives. Conditions: numbers in their bounds.
-/
import Derived.Test.YtbndknbjjdoanaaTopSharedPba
namespace Go.Proofs.Ytbndknbjjdoanaa
open Go.RowKit
set_option linter.unusedVariables false

/-- Another part of the same octets. -/
def HitPt (x : Pt) (os oi : Int) (O : Nat → Nat → Bool) (s i : Nat) (y : Pt) : Prop := ¬ ((s : Int) = os ∧ (i : Int) = oi) ∧ O s i = false ∧ y.b = x.b ∧ y.f < x.t ∧ x.f < y.t
def HitS (P : PoolSt) (x : Pt) (os oi : Int) (O : Nat → Nat → Bool) : Prop := ∃ s ∈ P.st, ∃ i y, s.2.2[i]? = some y ∧ HitPt x os oi O s.1 i y

theorem ranges_kept_below {k : TypeId} {R : Value → Option (DataW Unit × List MemPlace)} {w w' : World} {b r n : Nat} {D : DataW Unit} {left : Lit → Bool} {cnt : Nat} (h : w.ranges Try.prog k R b r n D left cnt) (hb : Below w.heap.size w w') : w'.ranges Try.prog k R b r n D left cnt := by
  have h1 := h.owns.lt
  have h2 := h.lt
  obtain ⟨es, clock, since, seen, c0, e1, F, hs, hD, e2, rest⟩ := h
  exact ⟨es, clock, since, seen, c0, (hb.block b h1).trans e1, F, hs, hD, (hb.block r h2).trans e2, rest⟩

def StPost (P : PoolSt) (x : Pt) (os oi : Int) (O : Nat → Nat → Bool) (w : World) : Ending → World → Prop := fun e w' => Below w.heap.size w w' ∧ ∃ d : Bool, e = .returned (.bool d) ∧ (d = true ↔ HitS P x os oi O)

set_option maxHeartbeats 4000000 in
set_option maxRecDepth 100000 in
theorem stands_any {w : World} {F : Nat → Prop} {h bp : Nat} {P : PoolSt} {mb ms N1 N2 : Nat} {D1 D2 : DataW Unit} (m : PoolMem w F h bp P mb ms N1 N2 D1 D2) (x : Pt) (os oi : Int) (mv : Value) (O : Nat → Nat → Bool)
    (hout : ∀ W, Below w.heap.size w W → ∀ s i : Nat, s ≤ 1000000000 → i ≤ 1000 → (Instr.lookup 86 mv (.agg #[.int .i64 (s : Int), .int .i64 (i : Int)]) false).run Try.prog W = .ok (.bool (O s i)) W) :
    Calls Try.prog 49 #[.pointer (some ⟨h, 0, none⟩), .agg #[.int .i64 (x.b : Int), .int .i64 (x.f : Int), .int .i64 (x.t : Int)], .agg #[.int .i64 os, .int .i64 oi], mv] w (StPost P x os oi O w) := by
  have HM := Lib.hid m
  obtain ⟨qb, qf, qt⟩ := x
  simp only
  have B1 : Below w.heap.size w ((w.alloc (.cells #[.int .i64 (qb : Int), .int .i64 (qf : Int), .int .i64 (qt : Int)] 75)).alloc (.cells #[.int .i64 os, .int .i64 oi] 88)) := ((Below.refl w.heap.size w).alloc (Nat.le_refl _) _).alloc (by simp) _
  have X1 := (heap_alloc_old (w.alloc (.cells #[.int .i64 (qb : Int), .int .i64 (qf : Int), .int .i64 (qt : Int)] 75)) (.cells #[.int .i64 os, .int .i64 oi] 88) (r := w.heap.size) (by simp)).trans (heap_alloc_new w _)
  have O1 := heap_alloc_new (w.alloc (.cells #[.int .i64 (qb : Int), .int .i64 (qf : Int), .int .i64 (qt : Int)] 75)) (.cells #[.int .i64 os, .int .i64 oi] 88)
  have Z1 : ((w.alloc (.cells #[.int .i64 (qb : Int), .int .i64 (qf : Int), .int .i64 (qt : Int)] 75)).alloc (.cells #[.int .i64 os, .int .i64 oi] 88)).heap.size = w.heap.size + 2 := by simp
  simp only [World.size_alloc] at O1
  have HX1 := Lib.hid X1
  have HO1 := Lib.hid O1
  have BX1 := Lib.hid B1
  have HZ1 := Lib.hid Z1
  have HOUT := Lib.hid hout
  have hown := ownsMap_same m.m2 (B1.block ms m.m2.lt)
  have c7 : ((w.alloc (.cells #[.int .i64 (qb : Int), .int .i64 (qf : Int), .int .i64 (qt : Int)] 75)).alloc (.cells #[.int .i64 os, .int .i64 oi] 88)).cell? ⟨h, 7, none⟩ = some (.map (some ms)) := old_cell B1 m.cells.2.2.2.2.2.2.2
  have few := m.few
  have HFEW := Lib.hid few
  clear m X1 O1 Z1 B1 few hout
  go_enter Try.func49, Try.ntmps49
  go_upto_region 1 with fail
  generalize ((w.alloc (.cells #[.int .i64 (qb : Int), .int .i64 (qf : Int), .int .i64 (qt : Int)] 75)).alloc (.cells #[.int .i64 os, .int .i64 oi] 88)) = W1 at *
  go_wp2_with (first
    | (at_range; refine wpList_range_own _ rfl _ 61 rfl 3 66 intKey Try.underlying61 rowElem ms N2 D2 rfl hown ?_; intro w0 hrg0 hg0 hs0)
    | fail)
  have hb0 : Below w.heap.size w w0 := BX1.out.grown hg0 BX1.out.size (fun k e => by cases e)
  have h10 : Below W1.heap.size W1 w0 := (Below.refl _ W1).grown hg0 (Nat.le_refl _) (fun k e => by cases e)
  have HB0 := Lib.hid (And.intro hb0 h10)
  have HRG0 := Lib.hid hrg0
  clear hrg0 hg0 hs0 hb0 hown c7 h10
  go_frame
  go_loopw [9, 10] (fun _ _ wr => ∃ (left : Lit → Bool) (cnt : Nat), wr.ranges Try.prog 3 rowElem ms W1.heap.size N2 D2 left cnt ∧ (∀ p ∈ P.st, left (.int .i64 (p.1 : Int)) = false → ∀ i y, p.2.2[i]? = some y → ¬ HitPt ⟨qb, qf, qt⟩ os oi O p.1 i y) ∧ Below W1.heap.size W1 wr)
    (fun _ _ wr => wr.rangeLeft ms W1.heap.size)
  case atStart =>
    refine ⟨_, _, HRG0.out, fun p hp hl => ?_, HB0.out.2⟩
    have := Maps.has_true_of_atKey (y := rowD p.2.1) (fun z => by rw [HM.out.l2, lookN_of_mem HM.out.ks (show (p.1, p.2) ∈ P.st from hp)]; rfl)
    rw [this] at hl
    cases hl
  case round =>
    obtain ⟨left, cnt, hrg, hno, hbr⟩ := hrel
    have HBR := Lib.hid hbr
    have HNO := Lib.hid hno
    clear hno hbr
    go_wp2_with (first
      | (at_next; refine wpList_next_ranges _ rfl _ rfl 3 intKey rowElem (fun x : Int => .int .i64 x) (fun c : Option (Nat × Nat × Nat) => rowOf c) (fun key kl hkey => by obtain ⟨x, rfl, _⟩ := Maps.keyOf_int_inv Try.underlying3 hkey; exact ⟨x, rfl⟩) (fun v y hv => rowElem_shape hv) ms W1.heap.size N2 D2 _ _ rfl hrg ?_ ?_)
      | fail)
    · intro hc0 hl0
      have FIN : Hid (StPost P ⟨qb, qf, qt⟩ os oi O w (.returned (.bool false)) wr) := Lib.hid ⟨BX1.out.trans (HBR.out.mono BX1.out.size), false, rfl, by
        constructor
        · intro e; cases e
        · rintro ⟨s, hs, i, y, hy, hh⟩
          exact (HNO.out s hs (hl0 _) i y hy hh).elim⟩
      clear hl0 hc0 hrg HNO HBR
      go_wp2_with fail
      go_ret
      exact FIN.out
    · intro x c kl y ps w2 cnt2 hkey hlk hv hat hrg2 hlt hg2 hs2 hen
      obtain ⟨x', ex, rfl, hwx⟩ := Maps.keyOf_int_inv Try.underlying3 hkey
      cases ex
      obtain ⟨sn, ⟨so, l⟩, rfl, hmem, hy⟩ := look_hasS HM.out.l2 hat
      subst hy
      have hcv := rowElem_inv hv
      rw [hcv] at hen ⊢
      have STR := HM.out.st _ hmem
      have hpl := (HFEW.out.2.2.1 _ hmem).1
      have hsn := (HM.out.ns _ hmem).2
      have hsb : sn ≤ 1000000000 := by have := HFEW.out.2.2.2.2; simp only at hsn; omega
      obtain ⟨ra, rc, hrow, r1, r2, r3⟩ := PtIn.row STR.1
      simp only at hrow r1 r2 r3 hpl
      rw [hrow] at hen ⊢
      have B2 := Lib.hid (HBR.out.grown hg2 HBR.out.size (fun k e => by have := Option.some.inj e; omega))
      have HRG2 := Lib.hid hrg2
      have HRL := Lib.hid hrg.left_eq
      have HLT := Lib.hid hlt
      have HR3 := Lib.hid r3
      have HMEM := Lib.hid hmem
      have hst : ∀ p ∈ P.st, (left (.int .i64 (p.1 : Int)) && !(Lit.int .i64 (p.1 : Int)).sameKey (.int .i64 (sn : Int))) = false → left (.int .i64 (p.1 : Int)) = false ∨ p = (sn, so, l) := fun p hp hl => by
        by_cases e : p.1 = sn
        · right
          have a1 := lookN_of_mem HM.out.ks (show (p.1, p.2) ∈ P.st from hp)
          have a2 := lookN_of_mem HM.out.ks hmem
          rw [e, a2] at a1
          have : p.2 = (so, l) := (Option.some.inj a1).symm
          rw [← this, ← e]
        · left
          have e3 : ¬ ((p.1 : Int) = (sn : Int)) := by omega
          simpa [Lit.sameKey, e3] using hl
      have HST := Lib.hid hst
      clear hs2 hat hv hg2 hlk hrg2 hrg hlt hkey hcv STR hmem r3 HBR hrow hsn hst
      go_wp2_with fail
      go_loopw [26] (fun i wr => ∃ k : Nat, k ≤ l.length ∧ i = .int .i64 (k : Int) ∧ (∀ i y, i < k → l[i]? = some y → ¬ HitPt ⟨qb, qf, qt⟩ os oi O sn i y) ∧ wr.ranges Try.prog 3 rowElem ms W1.heap.size N2 D2 (fun z => left z && !z.sameKey (.int .i64 (sn : Int))) cnt2 ∧ Below W1.heap.size W1 wr) (fun i _ => l.length - (intOf i).toNat)
      case atStart => exact ⟨0, Nat.zero_le _, rfl, fun i y hi => by omega, HRG2.out, B2.out⟩
      case round =>
        obtain ⟨k, hk, rfl, hnk, hrg, hb⟩ := hrel
        have HB := Lib.hid hb
        have HRG := Lib.hid hrg
        have HNK := Lib.hid hnk
        by_cases hlt : k < l.length
        · obtain ⟨x, hx⟩ : ∃ x, l[k]? = some x := ⟨_, List.getElem?_eq_getElem hlt⟩
          obtain ⟨bb, oo, rfl, d0, d1, d2⟩ := HR3.out k x hx
          have hbw := BX1.out.trans (hb.mono BX1.out.size)
          have d0 := old_cell hbw d0
          have d1 := old_cell hbw d1
          have d2 := old_cell hbw d2
          have HX := Lib.hid hx
          obtain ⟨xb, xf, xt⟩ := x
          simp only at d0 d1 d2
          have BA : Below wr.heap.size wr ((wr.alloc (.cells #[.int .i64 (xb : Int), .int .i64 (xf : Int), .int .i64 (xt : Int)] 75)).alloc (.cells #[.int .i64 (sn : Int), .int .i64 (k : Int)] 88)) := ((Below.refl wr.heap.size wr).alloc (Nat.le_refl _) _).alloc (by simp) _
          have XA := (heap_alloc_old (wr.alloc (.cells #[.int .i64 (xb : Int), .int .i64 (xf : Int), .int .i64 (xt : Int)] 75)) (.cells #[.int .i64 (sn : Int), .int .i64 (k : Int)] 88) (r := wr.heap.size) (by simp)).trans (heap_alloc_new wr _)
          have OA := heap_alloc_new (wr.alloc (.cells #[.int .i64 (xb : Int), .int .i64 (xf : Int), .int .i64 (xt : Int)] 75)) (.cells #[.int .i64 (sn : Int), .int .i64 (k : Int)] 88)
          simp only [World.size_alloc] at OA
          have B3 := hb.trans (BA.mono hb.size)
          have HB3 := Lib.hid B3
          have RA := Lib.hid (ranges_kept_below hrg BA)
          have LKO := HOUT.out _ (BX1.out.trans (B3.mono BX1.out.size)) sn k hsb (by omega)
          have q0 : ((wr.alloc (.cells #[.int .i64 (xb : Int), .int .i64 (xf : Int), .int .i64 (xt : Int)] 75)).alloc (.cells #[.int .i64 (sn : Int), .int .i64 (k : Int)] 88)).cell? ⟨w.heap.size, 0, none⟩ = some (.int .i64 (qb : Int)) := by rw [cell_of ((B3.block _ (lt_of HX1.out)).trans HX1.out)]; rfl
          have q1 : ((wr.alloc (.cells #[.int .i64 (xb : Int), .int .i64 (xf : Int), .int .i64 (xt : Int)] 75)).alloc (.cells #[.int .i64 (sn : Int), .int .i64 (k : Int)] 88)).cell? ⟨w.heap.size, 1, none⟩ = some (.int .i64 (qf : Int)) := by rw [cell_of ((B3.block _ (lt_of HX1.out)).trans HX1.out)]; rfl
          have q2 : ((wr.alloc (.cells #[.int .i64 (xb : Int), .int .i64 (xf : Int), .int .i64 (xt : Int)] 75)).alloc (.cells #[.int .i64 (sn : Int), .int .i64 (k : Int)] 88)).cell? ⟨w.heap.size, 2, none⟩ = some (.int .i64 (qt : Int)) := by rw [cell_of ((B3.block _ (lt_of HX1.out)).trans HX1.out)]; rfl
          have p0 : ((wr.alloc (.cells #[.int .i64 (xb : Int), .int .i64 (xf : Int), .int .i64 (xt : Int)] 75)).alloc (.cells #[.int .i64 (sn : Int), .int .i64 (k : Int)] 88)).cell? ⟨w.heap.size + 1, 0, none⟩ = some (.int .i64 os) := by rw [cell_of ((B3.block _ (lt_of HO1.out)).trans HO1.out)]; rfl
          have p1 : ((wr.alloc (.cells #[.int .i64 (xb : Int), .int .i64 (xf : Int), .int .i64 (xt : Int)] 75)).alloc (.cells #[.int .i64 (sn : Int), .int .i64 (k : Int)] 88)).cell? ⟨w.heap.size + 1, 1, none⟩ = some (.int .i64 oi) := by rw [cell_of ((B3.block _ (lt_of HO1.out)).trans HO1.out)]; rfl
          have a0 : ((wr.alloc (.cells #[.int .i64 (xb : Int), .int .i64 (xf : Int), .int .i64 (xt : Int)] 75)).alloc (.cells #[.int .i64 (sn : Int), .int .i64 (k : Int)] 88)).cell? ⟨wr.heap.size, 0, none⟩ = some (.int .i64 (xb : Int)) := by rw [cell_of XA]; rfl
          have a1 : ((wr.alloc (.cells #[.int .i64 (xb : Int), .int .i64 (xf : Int), .int .i64 (xt : Int)] 75)).alloc (.cells #[.int .i64 (sn : Int), .int .i64 (k : Int)] 88)).cell? ⟨wr.heap.size, 1, none⟩ = some (.int .i64 (xf : Int)) := by rw [cell_of XA]; rfl
          have a2 : ((wr.alloc (.cells #[.int .i64 (xb : Int), .int .i64 (xf : Int), .int .i64 (xt : Int)] 75)).alloc (.cells #[.int .i64 (sn : Int), .int .i64 (k : Int)] 88)).cell? ⟨wr.heap.size, 2, none⟩ = some (.int .i64 (xt : Int)) := by rw [cell_of XA]; rfl
          have b0 : ((wr.alloc (.cells #[.int .i64 (xb : Int), .int .i64 (xf : Int), .int .i64 (xt : Int)] 75)).alloc (.cells #[.int .i64 (sn : Int), .int .i64 (k : Int)] 88)).cell? ⟨wr.heap.size + 1, 0, none⟩ = some (.int .i64 (sn : Int)) := by rw [cell_of OA]; rfl
          have b1 : ((wr.alloc (.cells #[.int .i64 (xb : Int), .int .i64 (xf : Int), .int .i64 (xt : Int)] 75)).alloc (.cells #[.int .i64 (sn : Int), .int .i64 (k : Int)] 88)).cell? ⟨wr.heap.size + 1, 1, none⟩ = some (.int .i64 (k : Int)) := by rw [cell_of OA]; rfl
          clear hx hb hrg hnk BA XA OA B3 hbw
          go_upto_region 8 with fail
          clear d0 d1 d2
          generalize ((wr.alloc (.cells #[.int .i64 (xb : Int), .int .i64 (xf : Int), .int .i64 (xt : Int)] 75)).alloc (.cells #[.int .i64 (sn : Int), .int .i64 (k : Int)] 88)) = W3 at *
          generalize wr.heap.size = bx at *
          by_cases hh : HitPt ⟨qb, qf, qt⟩ os oi O sn k ⟨xb, xf, xt⟩
          · have FIN : Hid (StPost P ⟨qb, qf, qt⟩ os oi O w (.returned (.bool true)) W3) := Lib.hid ⟨BX1.out.trans (HB3.out.mono BX1.out.size), true, rfl, ⟨fun _ => ⟨_, HMEM.out, k, _, HX.out, hh⟩, fun _ => rfl⟩⟩
            obtain ⟨h1, h2, h3, h4, h5⟩ := hh
            simp only at h3 h4 h5
            rw [h2] at LKO
            subst h3
            have e4 : (xf : Int) < (qt : Int) := by omega
            have e5 : (qf : Int) < (xt : Int) := by omega
            by_cases g1 : (sn : Int) = os
            · have g2 : ¬ (k : Int) = oi := fun e => h1 ⟨g1, e⟩
              have g1' : ((sn : Int) == os) = true := by simp; exact g1
              have g2' : ((k : Int) == oi) = false := by simp; exact g2
              clear h1 h2 h4 h5 g1
              go_wp2_with fail
              go_ret
              exact FIN.out
            · have g1' : ((sn : Int) == os) = false := by simp; exact g1
              clear h1 h2 h4 h5
              go_wp2_with fail
              go_ret
              exact FIN.out
          · have FIN : Hid (∀ i y, i < k + 1 → l[i]? = some y → ¬ HitPt ⟨qb, qf, qt⟩ os oi O sn i y) := Lib.hid (fun i y hi hy => by
              by_cases e : i = k
              · subst e
                rw [HX.out] at hy
                cases hy
                exact hh
              · exact HNK.out i y (by omega) hy)
            have HNH := Lib.hid hh
            by_cases g1 : (sn : Int) = os
            · have g1' : ((sn : Int) == os) = true := by simp; exact g1
              by_cases g2 : (k : Int) = oi
              · have g2' : ((k : Int) == oi) = true := by simp; exact g2
                clear g1 g2
                clear hh
                go_wp2_with fail
                go_roundw
                case measure => simp only [intOf]; omega
                case rel => exact ⟨k + 1, by omega, by go_num, FIN.out, RA.out, HB3.out⟩
              · have g2' : ((k : Int) == oi) = false := by simp; exact g2
                have G1 : Hid (¬ ((sn : Int) = os ∧ (k : Int) = oi)) := Lib.hid (fun e => g2 e.2)
                clear g1 g2
                cases hO : O sn k with
                | true =>
                  rw [hO] at LKO
                  clear hO
                  clear hh
                  go_wp2_with fail
                  go_roundw
                  case measure => simp only [intOf]; omega
                  case rel => exact ⟨k + 1, by omega, by go_num, FIN.out, RA.out, HB3.out⟩
                | false =>
                  have hO2 := Lib.hid hO
                  rw [hO] at LKO
                  clear hO
                  by_cases h3 : xb = qb
                  · subst h3
                    by_cases h4 : xf < qt
                    · have h5 : ¬ qf < xt := fun e => HNH.out ⟨G1.out, hO2.out, rfl, h4, e⟩
                      have e4 : (xf : Int) < (qt : Int) := by omega
                      have e5 : ¬ (qf : Int) < (xt : Int) := by omega
                      clear h4 h5
                      clear hh
                      go_wp2_with fail
                      go_roundw
                      case measure => simp only [intOf]; omega
                      case rel => exact ⟨k + 1, by omega, by go_num, FIN.out, RA.out, HB3.out⟩
                    · have e4 : ¬ (xf : Int) < (qt : Int) := by omega
                      clear h4
                      clear hh
                      go_wp2_with fail
                      go_roundw
                      case measure => simp only [intOf]; omega
                      case rel => exact ⟨k + 1, by omega, by go_num, FIN.out, RA.out, HB3.out⟩
                  · have e3 : ((xb : Int) == (qb : Int)) = false := by simp; omega
                    clear h3
                    clear hh
                    go_wp2_with fail
                    go_roundw
                    case measure => simp only [intOf]; omega
                    case rel => exact ⟨k + 1, by omega, by go_num, FIN.out, RA.out, HB3.out⟩
            · have g1' : ((sn : Int) == os) = false := by simp; exact g1
              have G1 : Hid (¬ ((sn : Int) = os ∧ (k : Int) = oi)) := Lib.hid (fun e => g1 e.1)
              clear g1
              cases hO : O sn k with
              | true =>
                rw [hO] at LKO
                clear hO
                clear hh
                go_wp2_with fail
                go_roundw
                case measure => simp only [intOf]; omega
                case rel => exact ⟨k + 1, by omega, by go_num, FIN.out, RA.out, HB3.out⟩
              | false =>
                have hO2 := Lib.hid hO
                rw [hO] at LKO
                clear hO
                by_cases h3 : xb = qb
                · subst h3
                  by_cases h4 : xf < qt
                  · have h5 : ¬ qf < xt := fun e => HNH.out ⟨G1.out, hO2.out, rfl, h4, e⟩
                    have e4 : (xf : Int) < (qt : Int) := by omega
                    have e5 : ¬ (qf : Int) < (xt : Int) := by omega
                    clear h4 h5
                    clear hh
                    go_wp2_with fail
                    go_roundw
                    case measure => simp only [intOf]; omega
                    case rel => exact ⟨k + 1, by omega, by go_num, FIN.out, RA.out, HB3.out⟩
                  · have e4 : ¬ (xf : Int) < (qt : Int) := by omega
                    clear h4
                    clear hh
                    go_wp2_with fail
                    go_roundw
                    case measure => simp only [intOf]; omega
                    case rel => exact ⟨k + 1, by omega, by go_num, FIN.out, RA.out, HB3.out⟩
                · have e3 : ((xb : Int) == (qb : Int)) = false := by simp; omega
                  clear h3
                  clear hh
                  go_wp2_with fail
                  go_roundw
                  case measure => simp only [intOf]; omega
                  case rel => exact ⟨k + 1, by omega, by go_num, FIN.out, RA.out, HB3.out⟩
        · obtain rfl : k = l.length := by omega
          have FIN := Lib.hid (And.intro hrg (And.intro (fun p (hp : p ∈ P.st) hl => (HST.out p hp hl).elim (fun h1 => HNO.out p hp h1) (fun e i y hy => by
            rw [e] at hy ⊢
            exact hnk i y (List.getElem?_eq_some_iff.1 hy).1 hy)) hb))
          clear hrg hnk hb HRG HNK HB
          go_wp2_with fail
          go_roundw
          case rel => exact ⟨_, cnt2, FIN.out.1, FIN.out.2.1, FIN.out.2.2⟩
          case measure => rw [FIN.out.1.left_eq, HRL.out]; exact HLT.out

end Go.Proofs.Ytbndknbjjdoanaa
