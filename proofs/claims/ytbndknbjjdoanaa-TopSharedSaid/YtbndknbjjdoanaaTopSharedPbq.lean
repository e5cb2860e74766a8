/-
  Look of a pool: the walk. Conditions: numbers in their bounds.
-/
import Derived.Test.YtbndknbjjdoanaaTopSharedPbm
namespace Go.Proofs.Ytbndknbjjdoanaa
open Go.RowKit
set_option linter.unusedVariables false

theorem PB.pinned {w : World} {h bp : Nat} {P : PoolSt} {mb ms N1 N2 : Nat} {D1 D2 : DataW Unit} {F G : Nat → Prop} {b : BookSt} {n : Nat} (p : PB w h bp P mb ms N1 N2 D1 D2 F G b n) {s : Nat} {y : Bk} (hy : lookN P.bl (s : Int) = some y) :
    PB (w.setCell ⟨y.a, 2, none⟩ (.bool true)) h bp (P.setB s ⟨y.a, y.g, y.cs, y.used, true⟩) mb ms N1 N2 D1 D2 F G b n ∧ Touch F w (w.setCell ⟨y.a, 2, none⟩ (.bool true)) := by
  obtain ⟨y1, y2, y3, y4, y5, y6, y7, y8, y9⟩ := p.pm.blkOf hy
  have yag : y.g ≠ y.a := fun e => by
    have h2 : w.heap[y.g]? = some (Obj.cells _ 5 (0, 0)) := y2
    rw [e, y1] at h2
    simp at h2
  have T : Touch F w (w.setCell ⟨y.a, 2, none⟩ (.bool true)) := (Touch.refl F w).setCell (p := ⟨y.a, 2, none⟩) (Or.inl y5) _
  have pm := p.pm.blk (w3 := w.setCell ⟨y.a, 2, none⟩ (.bool true)) (y' := ⟨y.a, y.g, y.cs, y.used, true⟩) hy rfl rfl y3 y4 ⟨Nat.le_refl _, y7⟩ ((block_setCell y1 2 (.bool true)).trans (by show some (Obj.cells _ _ _) = some (Obj.cells _ _ _); simp)) ((Below.heap_setCell _ _ _ _ yag).trans y2) (fun j hj h1 h2 => Below.heap_setCell _ _ _ _ h1)
  exact ⟨p.turn' pm p.dis (fun j hj => Nat.lt_of_lt_of_le (p.fl j hj) T.size) T rfl, T⟩
/-- The part that a look gives: z: the part that holds position f, off: where it begins. -/
def lookPt (z : Pt) (off f t : Nat) : Pt := ⟨z.b, z.f + (f - off), min (z.f + (t - off)) z.t⟩
def LkDone (h bp : Nat) (P : PoolSt) (sn : Nat) (l : List Pt) (f t : Nat) (Z : Nat → Prop) (w : World) (e : Ending) (w' : World) : Prop := ∃ (k : Nat) (z : Pt) (y : Bk), l[k]? = some z ∧ lenP (l.take k) ≤ f ∧ f < lenP (l.take k) + z.n ∧ lookN P.bl (z.b : Int) = some y ∧
  ((¬ HitS P (lookPt z (lenP (l.take k)) f t) (sn : Int) (k : Int) (fun _ _ => false) ∧ e = .returned (.tuple #[.slice (some ⟨y.g, (lookPt z (lenP (l.take k)) f t).f, none⟩) (lookPt z (lenP (l.take k)) f t).n (lookPt z (lenP (l.take k)) f t).n, .int .i64 0]) ∧ ∃ Z', SP w' Z' h bp (P.setB z.b ⟨y.a, y.g, y.cs, y.used, true⟩) P.bl.length ∧ Nxt Z Z' w w')
   ∨ (HitS P (lookPt z (lenP (l.take k)) f t) (sn : Int) (k : Int) (fun _ _ => false) ∧ tkE P P.bl.length 1 ≠ 0 ∧ e = .returned (.tuple #[.slice none 0 0, .int .i64 (tkE P P.bl.length 1)]) ∧ ∃ Z', SP w' Z' h bp P P.bl.length ∧ Nxt Z Z' w w')
   ∨ (HitS P (lookPt z (lenP (l.take k)) f t) (sn : Int) (k : Int) (fun _ _ => false) ∧ tkE P P.bl.length 1 = 0 ∧ ∃ (a g : Nat) (o : Option (Nat × Nat × Nat)), e = .returned (.tuple #[.slice (some ⟨g, (lookPt z (lenP (l.take k)) f t).f - z.f, none⟩) (lookPt z (lenP (l.take k)) f t).n (lookPt z (lenP (l.take k)) f t).n, .int .i64 0]) ∧
       ∃ Z', SP w' Z' h bp ((((P.grow (newBk P.size a g (octPt P.oct z))).setS sn o (l.set k ⟨P.lastB + 1, 0, z.n⟩)).swept).setB (P.lastB + 1) ⟨a, g, (newBk P.size a g (octPt P.oct z)).cs, z.n, true⟩) ((P.grow (newBk P.size a g (octPt P.oct z))).setS sn o (l.set k ⟨P.lastB + 1, 0, z.n⟩)).swept.bl.length ∧ Nxt Z Z' w w'))
def LkPost (h bp : Nat) (P : PoolSt) (x f t : Int) (Z : Nat → Prop) (w : World) : Ending → World → Prop := fun e w' => match lookN P.st x with
  | none => e = .returned (.tuple #[.slice none 0 0, .int .i64 13]) ∧ Stays h bp P Z P.bl.length w w'
  | some q => if btE (lenP q.2) f t = 0 then (if f = t then e = .returned (.tuple #[.slice none 0 0, .int .i64 0]) ∧ Stays h bp P Z P.bl.length w w' else LkDone h bp P x.toNat q.2 f.toNat t.toNat Z w e w')
    else e = .returned (.tuple #[.slice none 0 0, .int .i64 2]) ∧ Stays h bp P Z P.bl.length w w'

set_option maxHeartbeats 4000000 in
set_option maxRecDepth 100000 in
theorem look_any {w : World} {Z : Nat → Prop} {h bp : Nat} {P : PoolSt} (s : SP w Z h bp P P.bl.length) (x f t : Int) (hx : -9223372036854775808 ≤ x ∧ x ≤ 9223372036854775807) (hB : P.lastB + 2000 ≤ 1000000000) :
    Calls Try.prog 23 #[.pointer (some ⟨h, 0, none⟩), .int .i64 x, .int .i64 f, .int .i64 t] w (LkPost h bp P x f t Z w) := by
  have HSP := Lib.hid s
  obtain ⟨mb, ms, D1, D2, F, G, b, p, hZ⟩ := s
  have HP := Lib.hid p
  have BW := Lib.hid (between_any' p.pm x f t hx)
  have HZ := Lib.hid hZ
  have HBB := Lib.hid hB
  clear p hZ hB
  cases hl : lookN P.st x with
  | none =>
    have HL := Lib.hid hl
    clear hl
    go_enter Try.func23, Try.ntmps23
    go_wp2_with fail
    refine BW.out.mono ?_
    rintro e w2 ⟨hb2, he⟩
    rw [HL.out] at he
    subst he
    have FIN : Hid (LkPost h bp P x f t Z w (.returned (.tuple #[.slice none 0 0, .int .i64 13])) w2) := Lib.hid (by
      unfold LkPost
      rw [HL.out]
      exact ⟨rfl, HSP.out.same hb2, hb2⟩)
    clear hb2
    go_wp2_with fail
    go_ret2
    exact FIN.out
  | some q =>
    obtain ⟨o, l⟩ := q
    have HL := Lib.hid hl
    obtain ⟨sn, rfl, hmem⟩ := lookN_mem hl
    have hnb : sn ≤ 1000000000 := by
      have h1 := (HP.out.pm.ns _ hmem).2
      have h2 := HP.out.pm.few.2.2.2.2
      simp only at h1
      omega
    have STR := Lib.hid (HP.out.pm.str hl)
    have hn0 : ((sn : Int)).toNat = sn := by omega
    clear hl hmem
    rcases btE_cases (lenP l) f t with ⟨h0, hb⟩ | ⟨h2, hne⟩
    · have H0 := Lib.hid h0
      have HBT := Lib.hid hb
      obtain ⟨ra, rc, hrow, _, _, r3⟩ := STR.out.2.2.2.2.2.1
      have HROW := Lib.hid hrow
      have HR3 := Lib.hid r3
      clear h0 hb hrow r3
      by_cases hft : f = t
      · have HFT := Lib.hid hft
        have hft' : (f == t) = true := by simp; exact hft
        clear hft
        go_enter Try.func23, Try.ntmps23
        go_wp2_with fail
        refine BW.out.mono ?_
        rintro e w2 ⟨hb2, he⟩
        rw [HL.out] at he
        simp only [H0.out, if_true] at he
        rw [HROW.out] at he
        subst he
        have FIN : Hid (LkPost h bp P (sn : Int) f t Z w (.returned (.tuple #[.slice none 0 0, .int .i64 0])) w2) := Lib.hid (by
          unfold LkPost
          rw [HL.out]
          simp only [H0.out, if_true]
          rw [if_pos HFT.out]
          exact ⟨trivial, HSP.out.same hb2, hb2⟩)
        clear hb2
        go_wp2_with fail
        go_ret2
        exact FIN.out
      · have hft' : (f == t) = false := by simp; exact hft
        obtain ⟨fN, rfl⟩ := Int.eq_ofNat_of_zero_le (show 0 ≤ f by have := HBT.out; omega)
        obtain ⟨tN, rfl⟩ := Int.eq_ofNat_of_zero_le (show 0 ≤ t by have := HBT.out; omega)
        have HFT : Hid (fN < tN ∧ tN ≤ lenP l) := Lib.hid (by have := HBT.out; omega)
        have hl500 := STR.out.2.2.2.1
        have hlp := STR.out.2.2.2.2.1
        have hfb : fN ≤ 100000 := by have := HFT.out; omega
        have htb : tN ≤ 100000 := by have := HFT.out; omega
        clear hft
        go_enter Try.func23, Try.ntmps23
        go_wp2_with fail
        refine BW.out.mono ?_
        rintro e w2 ⟨hb2, he⟩
        rw [HL.out] at he
        simp only [H0.out, if_true] at he
        rw [HROW.out] at he
        subst he
        have B2 := Lib.hid hb2
        clear hb2
        go_wp2_with fail
        go_loopw [12, 13] (fun s12 s13 wx => ∃ k : Nat, k < l.length ∧ s12 = .int .i64 (k : Int) ∧ s13 = .int .i64 ((fN - lenP (l.take k) : Nat) : Int) ∧ lenP (l.take k) ≤ fN ∧ Below w2.heap.size w2 wx) (fun s12 _ _ => l.length - (intOf s12).toNat)
        case atStart => exact ⟨0, by have := HFT.out; rcases l with _ | ⟨z, l⟩; (simp [lenP] at this; omega); exact Nat.succ_pos _, rfl, by simp [lenP], by simp [lenP], Below.refl _ _⟩
        case round =>
          obtain ⟨k, hk, rfl, rfl, hle, hbx⟩ := hrel
          obtain ⟨z, hz⟩ : ∃ z, l[k]? = some z := ⟨_, List.getElem?_eq_getElem hk⟩
          obtain ⟨bb, oo, rfl, d0, d1, d2⟩ := HR3.out k z hz
          have BK := Lib.hid (B2.out.trans (hbx.mono B2.out.size))
          have BX := Lib.hid hbx
          have d0 := old_cell BK.out d0
          have d1 := old_cell BK.out d1
          have d2 := old_cell BK.out d2
          have zok := STR.out.2.2.2.2.2.2.2 z (List.mem_of_getElem? hz)
          have hlk := lenP_part hz
          have hlt1 := lenP_take hz
          have hzn : z.n = z.t - z.f := rfl
          obtain ⟨A0, hA0⟩ : ∃ A0, fN - lenP (l.take k) = A0 := ⟨_, rfl⟩
          have ZW := Lib.hid (And.intro hz (And.intro zok (And.intro hlk (And.intro hlt1 (And.intro hle hA0)))))
          have hA1 : A0 ≤ 100000 := by omega
          have hz1 : z.t ≤ 4096 := zok.2.1
          have hz2 : z.f ≤ z.t := zok.1
          have hz3 : z.b ≤ 1000000000 := zok.2.2
          rw [hA0]
          by_cases hc : z.t - z.f ≤ A0
          · have hc' : (z.t : Int) - (z.f : Int) ≤ (A0 : Int) := by omega
            have NK : Hid (k + 1 < l.length ∧ (A0 : Int) - ((z.t : Int) - (z.f : Int)) = ((fN - lenP (l.take (k + 1)) : Nat) : Int) ∧ lenP (l.take (k + 1)) ≤ fN) := Lib.hid (by
              have h1 := HFT.out
              refine ⟨?_, by omega, by omega⟩
              rcases Nat.lt_or_ge (k + 1) l.length with h2 | h2
              · exact h2
              · rw [List.take_of_length_le h2] at hlt1
                omega)
            clear hz hbx zok hlk hlt1 hzn hA0 hle hc
            go_upto_region 7 with fail
            go_quiet (fail)
            go_upto_region 8 with fail
            go_quiet (fail)
            go_wp2_with fail
            go_roundw
            case measure => simp only [intOf]; have := NK.out.1; omega
            case rel => exact ⟨k + 1, NK.out.1, by go_num, by rw [← NK.out.2.1], NK.out.2.2, by first | exact BX.out | exact bdrewN BX.out _ | exact bdrewN (bdrewN BX.out _) _⟩
          · have hc' : ¬ (z.t : Int) - (z.f : Int) ≤ (A0 : Int) := by omega
            clear hz hbx zok hlk hlt1 hzn hA0 hle
            go_upto_region 7 with fail
            go_quiet (fail)
            go_upto_region 10 with fail
            have BQ := Lib.hid (show Below w.heap.size w (wr.drewN nq) from bdrewN BK.out nq)
            have d0 : (wr.drewN nq).cell? ⟨bb, oo + k * 3, none⟩ = some (.int .i64 (z.b : Int)) := d0
            have d1 : (wr.drewN nq).cell? ⟨bb, oo + k * 3 + 1, none⟩ = some (.int .i64 (z.f : Int)) := d1
            have d2 : (wr.drewN nq).cell? ⟨bb, oo + k * 3 + 2, none⟩ = some (.int .i64 (z.t : Int)) := d2
            generalize wr.drewN nq = W3 at *
            obtain ⟨mt, hmt⟩ : ∃ mt, min (z.f + (tN - lenP (l.take k))) z.t = mt := ⟨_, rfl⟩
            have S0 : BelW W3 W3.drew := (Below.refl _ W3).drew
            have r0 : ∀ v : WIn (BelW W3), v.w.cell? ⟨bb, oo + k * 3, none⟩ = some (.int .i64 (z.b : Int)) := fun v => old_cell v.h d0
            have r1 : ∀ v : WIn (BelW W3), v.w.cell? ⟨bb, oo + k * 3 + 1, none⟩ = some (.int .i64 (z.f : Int)) := fun v => old_cell v.h d1
            have r2 : ∀ v : WIn (BelW W3), v.w.cell? ⟨bb, oo + k * 3 + 2, none⟩ = some (.int .i64 (z.t : Int)) := fun v => old_cell v.h d2
            haveI ne : Nonempty (WIn (BelW W3)) := ⟨⟨W3.drew, S0⟩⟩
            have FIN : Hid (∀ u1 u2 : Int, u1 = (z.f : Int) + (A0 : Int) → u2 = (mt : Int) → ∃ (W5 : World) (aw : Nat), ((W3.alloc (.cells #[.int .i64 (z.b : Int), .int .i64 u1, .int .i64 u2] 75)).drew) = W5 ∧ (Value.pointer (some ⟨W3.heap.size, 0, none⟩)) = .pointer (some ⟨aw, 0, none⟩) ∧ W5.heap[aw]? = some (.cells #[.int .i64 (z.b : Int), .int .i64 ((z.f + A0 : Nat) : Int), .int .i64 (mt : Int)] 75 (0, 0)) ∧ Below W3.heap.size W3 W5 ∧ W3.heap.size ≤ aw) := Lib.hid (by
              rintro u1 u2 rfl rfl
              refine ⟨_, _, rfl, rfl, ?_, ((Below.refl _ W3).alloc (Nat.le_refl _) _).drew, Nat.le_refl _⟩
              have h1 := heap_alloc_new W3 (.cells #[.int .i64 (z.b : Int), .int .i64 ((z.f + A0 : Nat) : Int), .int .i64 (mt : Int)] 75)
              rw [show (z.f : Int) + (A0 : Int) = ((z.f + A0 : Nat) : Int) by omega]
              exact h1)
            have HMT := Lib.hid hmt
            clear d0 d1 d2
            go_cut [14] (fun s14 wx => ∃ (W5 : World) (aw : Nat), wx = W5 ∧ s14 = .pointer (some ⟨aw, 0, none⟩) ∧ W5.heap[aw]? = some (.cells #[.int .i64 (z.b : Int), .int .i64 ((z.f + A0 : Nat) : Int), .int .i64 (mt : Int)] 75 (0, 0)) ∧ Below W3.heap.size W3 W5 ∧ W3.heap.size ≤ aw)
            case first =>
              --[[
              by_cases hm : (z.f : Int) + (A0 : Int) + (tN : Int) - (fN : Int) ≤ (z.t : Int)
              · have MT : Hid ((z.f : Int) + (A0 : Int) + (tN : Int) - (fN : Int) = (mt : Int)) := Lib.hid (by have := ZW.out; have := HFT.out; omega)
                clear hmt
                refine wp_normal ?_
                refine wp_region_plan 31 (BelW W3) rfl ?_
                refine wpN_seg [0, 1, 2, 3, 4, 5, 6, 7, 8, 9, 10, 11, 12, 13, 14, 15, 16, 17, 18, 19, 20, 21, 22, 23, 24, 25, 26, 27, 28] (by kernel_rfl) (by kernel_rfl) (by kernel_rfl) (by kernel_rfl) (by decide) (fun _ _ _ _ _ h => h) S0 ?_
                simp only [pick, List.map_cons, List.map_nil, List.getElem?_cons_succ, List.getElem?_cons_zero, Option.getD_some]
                repeat (go_big_quiet_step (fail))
                refine wpQuiet_nil ?_
                clear r0 r1 r2 ne
                refine wpN_two 29 30 _ _ (by kernel_rfl) rfl rfl ?_ ?_
                · refine NextAt.held ?_
                  intro K hK
                  go_simp
                  refine hK _ _ S0 ?_
                  clear hK K
                  refine wpN_one 30 _ (by kernel_rfl) rfl ?_
                  refine NextAt.held ?_
                  intro K hK
                  go_simp
                  refine hK _ _ (by first | exact S0 | exact S0.alloc S0.size _) ?_
                  clear hK K
                  refine wpN_one 31 _ (by kernel_rfl) rfl ?_
                  refine NextAt.free (by kernel_rfl) ?_
                  intro K hK
                  go_simp
                  refine hK _ _ ?_
                  clear hK K
                  refine wpN_done (by kernel_rfl) ?_
                  go_wp2_with fail
                  go_meet
                  exact FIN.out _ _ rfl MT.out
                · refine NextAt.held ?_
                  intro K hK
                  go_simp
                  refine hK _ _ (by first | exact S0 | exact S0.alloc S0.size _) ?_
                  clear hK K
                  refine wpN_one 29 _ (by kernel_rfl) rfl ?_
                  refine NextAt.held ?_
                  intro K hK
                  go_simp
                  refine hK _ _ (by first | exact S0 | exact S0.alloc S0.size _) ?_
                  clear hK K
                  refine wpN_one 31 _ (by kernel_rfl) rfl ?_
                  refine NextAt.free (by kernel_rfl) ?_
                  intro K hK
                  go_simp
                  refine hK _ _ ?_
                  clear hK K
                  refine wpN_done (by kernel_rfl) ?_
                  go_wp2_with fail
                  go_meet
                  exact FIN.out _ _ rfl MT.out
              · have MT : Hid ((z.t : Int) = (mt : Int)) := Lib.hid (by have := ZW.out; have := HFT.out; omega)
                clear hmt
                refine wp_normal ?_
                refine wp_region_plan 31 (BelW W3) rfl ?_
                refine wpN_seg [0, 1, 2, 3, 4, 5, 6, 7, 8, 9, 10, 11, 12, 13, 14, 15, 16, 17, 18, 19, 20, 21, 22, 23, 24, 25, 26, 27, 28] (by kernel_rfl) (by kernel_rfl) (by kernel_rfl) (by kernel_rfl) (by decide) (fun _ _ _ _ _ h => h) S0 ?_
                simp only [pick, List.map_cons, List.map_nil, List.getElem?_cons_succ, List.getElem?_cons_zero, Option.getD_some]
                repeat (go_big_quiet_step (fail))
                refine wpQuiet_nil ?_
                clear r0 r1 r2 ne
                refine wpN_two 29 30 _ _ (by kernel_rfl) rfl rfl ?_ ?_
                · refine NextAt.held ?_
                  intro K hK
                  go_simp
                  refine hK _ _ S0 ?_
                  clear hK K
                  refine wpN_one 30 _ (by kernel_rfl) rfl ?_
                  refine NextAt.held ?_
                  intro K hK
                  go_simp
                  refine hK _ _ (by first | exact S0 | exact S0.alloc S0.size _) ?_
                  clear hK K
                  refine wpN_one 31 _ (by kernel_rfl) rfl ?_
                  refine NextAt.free (by kernel_rfl) ?_
                  intro K hK
                  go_simp
                  refine hK _ _ ?_
                  clear hK K
                  refine wpN_done (by kernel_rfl) ?_
                  go_wp2_with fail
                  go_meet
                  exact FIN.out _ _ rfl MT.out
                · refine NextAt.held ?_
                  intro K hK
                  go_simp
                  refine hK _ _ (by first | exact S0 | exact S0.alloc S0.size _) ?_
                  clear hK K
                  refine wpN_one 29 _ (by kernel_rfl) rfl ?_
                  refine NextAt.held ?_
                  intro K hK
                  go_simp
                  refine hK _ _ (by first | exact S0 | exact S0.alloc S0.size _) ?_
                  clear hK K
                  refine wpN_one 31 _ (by kernel_rfl) rfl ?_
                  refine NextAt.free (by kernel_rfl) ?_
                  intro K hK
                  go_simp
                  refine hK _ _ ?_
                  clear hK K
                  refine wpN_done (by kernel_rfl) ?_
                  go_wp2_with fail
                  go_meet
                  exact FIN.out _ _ rfl MT.out
              --]]
            case rest =>
              obtain ⟨W5, aw, hwc, rfl, WB, BWW, haw⟩ := hcut
              obtain rfl := hwc.symm
              clear hwc
              have B5 := Lib.hid (BQ.out.trans (BWW.mono BQ.out.size))
              have HWB := Lib.hid WB
              obtain ⟨y, hy, hy1, hy2⟩ := STR.out.2.2.1 z (List.mem_of_getElem? ZW.out.1)
              have HY := Lib.hid (And.intro hy (And.intro hy1 hy2))
              have LP : Hid (lookPt z (lenP (l.take k)) fN tN = ⟨z.b, z.f + A0, mt⟩ ∧ z.f + A0 < mt ∧ mt ≤ z.t) := Lib.hid (by
                have h1 := ZW.out
                have h2 := HFT.out
                have h3 : z.n = z.t - z.f := rfl
                refine ⟨by unfold lookPt; rw [h1.2.2.2.2.2, HMT.out], by have := HMT.out; omega, by have := HMT.out; omega⟩)
              have ST := Lib.hid (fun W (hW : Below W5.heap.size W5 W) => stands_any (HP.out.pm.below (B5.out.trans (hW.mono B5.out.size))) ⟨z.b, z.f + A0, mt⟩ (sn : Int) (k : Int) (.map none) (fun _ _ => false) (fun W _ s i hs hi => place_nil W s i (by omega) (by omega)))
              simp only at ST
              have HAW5 := Lib.hid haw
              have x0 : W5.cell? ⟨aw, 0, none⟩ = some (.int .i64 (z.b : Int)) := by rw [cell_of WB]; rfl
              have x1 : W5.cell? ⟨aw, 1, none⟩ = some (.int .i64 ((z.f + A0 : Nat) : Int)) := by rw [cell_of WB]; rfl
              have x2 : W5.cell? ⟨aw, 2, none⟩ = some (.int .i64 (mt : Int)) := by rw [cell_of WB]; rfl
              clear hy hy1 hy2 WB BWW
              go_wp2_with fail
              refine (ST.out _ (Below.refl _ _)).mono ?_
              rintro e w7 ⟨hb7, d, rfl, hd⟩
              have B7 := Lib.hid (B5.out.trans (hb7.mono B5.out.size))
              have HW7 := Lib.hid ((hb7.block _ (lt_of HWB.out)).trans HWB.out)
              have P7 := Lib.hid (HP.out.same B7.out)
              have HD := Lib.hid hd
              clear hb7 ST x0 x1 x2 hd
              cases d with
              | false =>
                --[[
                obtain ⟨WX, rfl⟩ : ∃ x, x = w7 := ⟨_, rfl⟩
                obtain ⟨yx, rfl⟩ : ∃ u, u = y := ⟨_, rfl⟩
                obtain ⟨fq, hfq⟩ : ∃ fq, z.f + A0 = fq := ⟨_, rfl⟩
                obtain ⟨tq, htq⟩ : ∃ tq, mt = tq := ⟨_, rfl⟩
                have PBX := P7
                have HYX : Hid (lookN P.bl (z.b : Int) = some yx ∧ fq < tq ∧ tq ≤ yx.used ∧ z.b ≤ 1000000000) := Lib.hid (by
                  have h1 := HY.out
                  have h2 := LP.out
                  exact ⟨h1.1, by omega, by omega, hz3⟩)
                have HAW : Hid (WX.heap[aw]? = some (.cells #[.int .i64 (z.b : Int), .int .i64 (fq : Int), .int .i64 (tq : Int)] 75 (0, 0)) ∧ ¬ F aw) := Lib.hid ⟨by rw [← hfq, ← htq]; exact HW7.out, fun e => by have := HP.out.fl _ e; have := HAW5.out; have := BQ.out.size; omega⟩
                have CLO : Hid (∀ a' w', a' = some ⟨yx.g, fq, none⟩ → PB w' h bp (P.setB z.b ⟨yx.a, yx.g, yx.cs, yx.used, true⟩) mb ms P.bl.length P.st.length D1 D2 F G b P.bl.length → Touch F WX w' → LkPost h bp P (sn : Int) (fN : Int) (tN : Int) Z w (.returned (.tuple #[.slice a' (Pt.n ⟨z.b, fq, tq⟩) (Pt.n ⟨z.b, fq, tq⟩), .int .i64 0])) w') := Lib.hid (by
                  rintro a' w' rfl pb T
                  unfold LkPost
                  rw [HL.out]
                  simp only [H0.out, if_true]
                  rw [if_neg (fun e => by have := HFT.out; omega)]
                  refine ⟨k, z, yx, ZW.out.1, ZW.out.2.2.2.2.1, ?_, HY.out.1, Or.inl ⟨fun hh => ?_, ?_, _, SP.of pb.tight, ?_⟩⟩
                  · have h1 := ZW.out
                    have h2 : z.n = z.t - z.f := rfl
                    simp only [Int.toNat_natCast]
                    omega
                  · simp only [Int.toNat_natCast] at hh
                    rw [LP.out.1] at hh
                    have := HD.out.2 hh
                    cases this
                  · simp only [Int.toNat_natCast]
                    rw [LP.out.1, hfq, htq]
                  · exact ⟨fun j hj => Or.inl ((HZ.out j).1 hj), (Touch.of_below B7.out).then (T.mono (fun j hj => (HZ.out j).1 (Or.inl hj)))⟩)
                clear hfq htq P7
                go_upto_region 21 with fail
                have YB := Lib.hid (PBX.out.pm.blkOf HYX.out.1)
                have S0 : BelW WX WX.drew := (Below.refl _ WX).drew
                have s0 : ∀ v : WIn (BelW WX), v.w.cell? ⟨h, 6, none⟩ = some (.map (some mb)) := fun v => (PBX.out.pm.below v.h).cells.2.2.2.2.2.2.1
                have s1 : ∀ v : WIn (BelW WX), v.w.cell? ⟨aw, 0, none⟩ = some (.int .i64 (z.b : Int)) := fun v => old_cell v.h (by rw [cell_of HAW.out.1]; rfl)
                have s2 := fun v : WIn (BelW WX) => (PBX.out.pm.below v.h).block HYX.out.1 HYX.out.2.2.2
                haveI ne : Nonempty (WIn (BelW WX)) := ⟨⟨WX.drew, S0⟩⟩
                have BD := Lib.hid S0
                refine wp_normal ?_
                refine wp_region_plan 9 (BelW WX) rfl ?_
                refine wpN_seg [0, 1, 2, 3, 4, 5, 6, 7, 8] (by kernel_rfl) (by kernel_rfl) (by kernel_rfl) (by kernel_rfl) (by decide) (fun _ _ _ _ _ h => h) S0 ?_
                simp only [pick, List.map_cons, List.map_nil, List.getElem?_cons_succ, List.getElem?_cons_zero, Option.getD_some]
                repeat (go_big_quiet_step (fail))
                refine wpQuiet_nil ?_
                clear s0 s1 s2 ne S0
                generalize WX.drew = Wd at *
                have PBD := Lib.hid (PBX.out.same BD.out)
                have YD := PBD.out.pm.blkOf HYX.out.1
                have e2 : Wd.cell? ⟨yx.a, 2, none⟩ = some (.bool yx.pin) := by rw [cell_of YD.1]; rfl
                have v2 := free_of YD.1 2
                have PIN := Lib.hid (PBD.out.pinned HYX.out.1)
                have HAD := (BD.out.block _ (lt_of HAW.out.1)).trans HAW.out.1
                have nya : aw ≠ yx.a := fun e => HAW.out.2 (by rw [e]; exact YD.2.2.2.2.1)
                have HA2 := Lib.hid ((Below.heap_setCell Wd ⟨yx.a, 2, none⟩ (.bool true) aw nya).trans HAD)
                clear YD HAD
                refine wpN_one 9 _ (by kernel_rfl) rfl ?_
                refine NextAt.free (by kernel_rfl) ?_
                intro K hK
                go_simp
                refine hK _ _ ?_
                clear hK K e2 v2
                refine wpN_done (by kernel_rfl) ?_
                generalize Wd.setCell ⟨yx.a, 2, none⟩ (.bool true) = Wp at *
                have x0 : Wp.cell? ⟨aw, 0, none⟩ = some (.int .i64 (z.b : Int)) := by rw [cell_of HA2.out]; rfl
                have x1 : Wp.cell? ⟨aw, 1, none⟩ = some (.int .i64 (fq : Int)) := by rw [cell_of HA2.out]; rfl
                have x2 : Wp.cell? ⟨aw, 2, none⟩ = some (.int .i64 (tq : Int)) := by rw [cell_of HA2.out]; rfl
                have OC := Lib.hid (fun W (hW : Below Wp.heap.size Wp W) => octets_any (PIN.out.1.pm.below hW) ⟨z.b, fq, tq⟩ ⟨yx.a, yx.g, yx.cs, yx.used, true⟩ (by
                  have h1 := setB_lookQ (b := z.b) (y' := ⟨yx.a, yx.g, yx.cs, yx.used, true⟩) HYX.out.1
                  rw [if_pos rfl] at h1
                  exact h1) (Nat.le_of_lt HYX.out.2.1) HYX.out.2.2.1)
                simp only at OC
                go_wp2_with fail
                refine (OC.out _ (Below.refl _ _)).mono ?_
                rintro e w9 ⟨⟨a9, rfl, ha9⟩, hb9⟩
                have FIN := Lib.hid (CLO.out a9 w9 (ha9 HYX.out.2.1) (PIN.out.1.same hb9) (((Touch.of_below BD.out).then PIN.out.2).then (Touch.of_below hb9)))
                clear ha9 hb9 OC x0 x1 x2
                go_wp2_with fail
                go_ret2
                exact FIN.out
                --]]
              | true =>
                have TK := Lib.hid (takeP_any P7.out 1 (by omega))
                go_wp2_with fail
                refine TK.out.mono ?_
                rintro e w8 ⟨rfl, G', b', hp8, hG8, ht8⟩
                have NX8 : Hid (Nxt Z (fun k => F k ∨ G' k) w w8) := Lib.hid (by
                  refine ⟨fun k hk => ?_, (Touch.of_below B7.out).then (ht8.mono (fun k hk => (HZ.out k).1 (Or.inr hk)))⟩
                  rcases hk with hk | hk
                  · exact Or.inl ((HZ.out k).1 (Or.inl hk))
                  · rcases hG8 k hk with hk | hk
                    · exact Or.inl ((HZ.out k).1 (Or.inr hk))
                    · have := B7.out.size
                      right; omega)
                have HIT : Hid (HitS P (lookPt z (lenP (l.take k)) fN tN) (sn : Int) (k : Int) (fun _ _ => false)) := Lib.hid (by rw [LP.out.1]; exact HD.out.1 (by first | rfl | trivial))
                have PRE : Hid (∀ e' w', (∀ y', lookN P.bl (z.b : Int) = some y' → ((HitS P (lookPt z (lenP (l.take k)) fN tN) (sn : Int) (k : Int) (fun _ _ => false) ∧ tkE P P.bl.length 1 ≠ 0 ∧ e' = .returned (.tuple #[.slice none 0 0, .int .i64 (tkE P P.bl.length 1)]) ∧ ∃ Z', SP w' Z' h bp P P.bl.length ∧ Nxt Z Z' w w')
                    ∨ (HitS P (lookPt z (lenP (l.take k)) fN tN) (sn : Int) (k : Int) (fun _ _ => false) ∧ tkE P P.bl.length 1 = 0 ∧ ∃ (a g : Nat) (o : Option (Nat × Nat × Nat)), e' = .returned (.tuple #[.slice (some ⟨g, (lookPt z (lenP (l.take k)) fN tN).f - z.f, none⟩) (lookPt z (lenP (l.take k)) fN tN).n (lookPt z (lenP (l.take k)) fN tN).n, .int .i64 0]) ∧
                      ∃ Z', SP w' Z' h bp ((((P.grow (newBk P.size a g (octPt P.oct z))).setS sn o (l.set k ⟨P.lastB + 1, 0, z.n⟩)).swept).setB (P.lastB + 1) ⟨a, g, (newBk P.size a g (octPt P.oct z)).cs, z.n, true⟩) ((P.grow (newBk P.size a g (octPt P.oct z))).setS sn o (l.set k ⟨P.lastB + 1, 0, z.n⟩)).swept.bl.length ∧ Nxt Z Z' w w'))) → LkPost h bp P (sn : Int) (fN : Int) (tN : Int) Z w e' w') := Lib.hid (fun e' w' hh => by
                  unfold LkPost
                  rw [HL.out]
                  simp only [H0.out, if_true]
                  rw [if_neg (fun e => by have := HFT.out; omega)]
                  refine ⟨k, z, y, ZW.out.1, ZW.out.2.2.2.2.1, ?_, HY.out.1, Or.inr (hh y HY.out.1)⟩
                  have h1 := ZW.out
                  have h2 : z.n = z.t - z.f := rfl
                  simp only [Int.toNat_natCast]
                  omega)
                by_cases ht0 : tkE P P.bl.length 1 = 0
                · rw [if_pos ht0] at hp8
                  have htk := tkE_le ht0
                  have HT0 := Lib.hid ht0
                  rw [ht0]
                  have HP8 := Lib.hid hp8
                  have HW8 := Lib.hid ((ht8.block aw (lt_of HW7.out) (fun e => by have := HP.out.gl _ e; have := HAW5.out; have := BQ.out.size; omega)).trans HW7.out)
                  have NGA : Hid (¬ G' aw ∧ ¬ F aw) := Lib.hid ⟨fun e => by
                    rcases hG8 aw e with h1 | h1
                    · have := HP.out.gl _ h1; have := HAW5.out; have := BQ.out.size; omega
                    · have := lt_of HW7.out; omega, fun e => by have := HP.out.fl _ e; have := HAW5.out; have := BQ.out.size; omega⟩
                  have ST8 := hp8.pm.str HL.out
                  have SG8 := Seg.of_row ST8.1 (ptCells_one l)
                  rw [HROW.out] at SG8
                  have CPA := Lib.hid (clone_part _ _ _ w8 SG8 (by omega))
                  clear hp8 hG8 ht8 ht0 TK ST8 SG8
                  go_wp2_with fail
                  refine CPA.out.mono ?_
                  rintro e w9 ⟨v9, rfl, hr9, hb9⟩
                  have B9 := Lib.hid hb9
                  have R9 := Lib.hid hr9
                  obtain ⟨q1, q2, q3⟩ := ptCells_get l k z ZW.out.1
                  obtain ⟨a9, c9, rfl⟩ := wrow_sh hr9
                  obtain ⟨g11, rfl, d0, f0⟩ := wrow_cell hr9 q1
                  obtain ⟨g', hg', d1, f1⟩ := wrow_cell hr9 q2
                  obtain ⟨g2, hg2, d2, f2⟩ := wrow_cell hr9 q3
                  simp only [Option.some.injEq, Addr.mk.injEq, and_true] at hg' hg2
                  subst hg'
                  subst hg2
                  have P9 := Lib.hid (HP8.out.same B9.out)
                  have OC := Lib.hid (fun W (hW : Below w9.heap.size w9 W) => octets_any (P9.out.pm.below hW) z y HY.out.1 HY.out.2.1 HY.out.2.2)
                  obtain ⟨xn, hxn⟩ : ∃ xn, Pt.n z = xn := ⟨_, rfl⟩
                  have HXN := Lib.hid hxn
                  clear q1 q2 q3 f0 f1 f2 hxn hr9 hb9 CPA
                  go_wp2_with fail
                  refine (OC.out _ (Below.refl _ _)).mono ?_
                  rintro e w10 ⟨⟨a10, rfl, ha10⟩, hb10⟩
                  have P10 := Lib.hid (P9.out.same hb10)
                  have R10 := oc_reads P10.out.pm HY.out.1 HY.out.2.1 HY.out.2.2 ha10
                  have HBK := Lib.hid (P10.out.pm.blkOf HY.out.1)
                  have HLEN : Hid ((octPt P.oct z).length = xn ∧ xn ≤ P.size) := Lib.hid (by
                    have h1 := octPt_len (STR.out.2.2.1.okM HP.out.pm z (List.mem_of_getElem? ZW.out.1))
                    rw [h1, HXN.out]
                    have h2 := HBK.out.2.2.2.2.2.2.1
                    have h3 := HY.out.2.2
                    have h4 : Pt.n z = z.t - z.f := rfl
                    rw [HXN.out] at h4
                    exact ⟨rfl, by omega⟩)
                  rw [HXN.out] at R10
                  have FR := Lib.hid (fresh_any P10.out.pm a10 xn xn (octPt P.oct z) R10 HLEN.out.1 HLEN.out.2 (by unfold octPt; rw [oct_of HY.out.1]; exact bytes_part HBK.out.2.2.2.1 _ _) P10.out.fl (by omega) (by have := HBB.out; omega) (by omega))
                  rw [HXN.out]
                  have B10 := Lib.hid hb10
                  clear ha10 hb10 R10 OC
                  go_wp2_with fail
                  refine FR.out.mono ?_
                  rintro e w11 hfr
                  obtain ⟨he, a6, g6, D6, hp11, na, ng, t11⟩ := P10.out.fresh hfr
                  subst he
                  rw [HLEN.out.1]
                  obtain ⟨nb, hnb⟩ : ∃ nb, P.lastB + 1 = nb := ⟨_, rfl⟩
                  rw [hnb]
                  rw [hnb] at PRE
                  have HNB := Lib.hid hnb
                  have P11 := Lib.hid hp11
                  have LT8 : Hid (w8.heap.size ≤ w9.heap.size ∧ w9.heap.size ≤ w10.heap.size ∧ w10.heap.size ≤ w11.heap.size ∧ aw < w8.heap.size ∧ h < w8.heap.size ∧ mb < w8.heap.size ∧ w8.heap.size ≤ g11 ∧ g11 < w9.heap.size ∧ w10.heap.size ≤ a6 ∧ w10.heap.size ≤ g6) := Lib.hid ⟨B9.out.size, B10.out.size, t11.size, lt_of HW8.out, HP8.out.fl _ HP8.out.pm.fh, HP8.out.fl _ HP8.out.pm.f1, (R9.out.lt g11 rfl).1, (R9.out.lt g11 rfl).2, na, ng⟩
                  have ROW11 : w11.ownsRow w8.heap.size 75 3 (.slice (some ⟨g11, 0, none⟩) l.length c9) l.length (ptCells l) := ownsRow_same R9.out (fun j hj => by
                    obtain rfl : g11 = j := by cases hj; rfl
                    have h1 := LT8.out
                    exact (t11.block g11 (by omega) (by rintro (e | e) <;> omega)).trans (B10.out.block g11 (by omega)))
                  have AW11 : w11.heap[aw]? = some (.cells #[.int .i64 (z.b : Int), .int .i64 ((z.f + A0 : Nat) : Int), .int .i64 (mt : Int)] 75 (0, 0)) := by
                    have h1 := LT8.out
                    have h2 := NGA.out.2
                    exact (t11.block aw (by omega) (by
                      rintro (e | e)
                      · exact h2 (by rw [e]; exact HP8.out.pm.fh)
                      · exact h2 (by rw [e]; exact HP8.out.pm.f1))).trans ((B10.out.block aw (by omega)).trans ((B9.out.block aw (by omega)).trans HW8.out))
                  obtain ⟨q1, q2, q3⟩ := ptCells_get l k z ZW.out.1
                  obtain ⟨gg, hgg, d0, f0⟩ := wrow_cell ROW11 q1
                  obtain ⟨gg1, hgg1, d1, f1⟩ := wrow_cell ROW11 q2
                  obtain ⟨gg2, hgg2, d2, f2⟩ := wrow_cell ROW11 q3
                  simp only [Option.some.injEq, Addr.mk.injEq, and_true] at hgg hgg1 hgg2
                  subst hgg
                  subst hgg1
                  subst hgg2
                  have SET := wrow_set (wrow_set (wrow_set ROW11 (k * 3) (.int .i64 (nb : Int))) (k * 3 + 1) (.int .i64 0)) (k * 3 + 2) (.int .i64 (xn : Int))
                  have e9 : l.set k (⟨nb, 0, xn⟩ : Pt) = l.take k ++ (⟨nb, 0, xn⟩ : Pt) :: l.drop (k + 1) := List.set_eq_take_append_cons_drop.trans (if_pos hk)
                  have eSet := ptCells_set (l.take k) (l.drop (k + 1)) z (⟨nb, 0, xn⟩ : Pt)
                  have kl : (l.take k).length = k := by rw [List.length_take]; omega
                  have e0 : l.take k ++ z :: l.drop (k + 1) = l := by rw [← drop_at ZW.out.1, List.take_append_drop]
                  rw [kl, e0, ← e9] at eSet
                  have SET2 : (((w11.setCell ⟨g11, k * 3, none⟩ (.int .i64 (nb : Int))).setCell ⟨g11, k * 3 + 1, none⟩ (.int .i64 0)).setCell ⟨g11, k * 3 + 2, none⟩ (.int .i64 (xn : Int))).ownsRow w8.heap.size 75 3 (.slice (some ⟨g11, 0, none⟩) l.length c9) l.length (ptCells (l.set k (⟨nb, 0, xn⟩ : Pt))) := by
                    rw [← eSet]
                    exact SET
                  have off : ∀ j, j ≠ g11 → (((w11.setCell ⟨g11, k * 3, none⟩ (.int .i64 (nb : Int))).setCell ⟨g11, k * 3 + 1, none⟩ (.int .i64 0)).setCell ⟨g11, k * 3 + 2, none⟩ (.int .i64 (xn : Int))).heap[j]? = w11.heap[j]? := fun j hj => (Below.heap_setCell _ _ _ _ hj).trans ((Below.heap_setCell _ _ _ _ hj).trans (Below.heap_setCell _ _ _ _ hj))
                  have P12 := Lib.hid (hp11.tight.far (w' := ((w11.setCell ⟨g11, k * 3, none⟩ (.int .i64 (nb : Int))).setCell ⟨g11, k * 3 + 1, none⟩ (.int .i64 0)).setCell ⟨g11, k * 3 + 2, none⟩ (.int .i64 (xn : Int))) (fun j hj _ => off j (by
                    have h1 := LT8.out
                    rintro rfl
                    rcases hj with (hj | rfl | rfl) | hj
                    · have := HP8.out.fl _ hj; omega
                    · omega
                    · omega
                    · have := HP8.out.gl _ hj; omega)) (by simp [World.setCell]))
                  have AW12 := Lib.hid ((off aw (by have := LT8.out; omega)).trans AW11)
                  have R12 := Lib.hid SET2
                  have T12 : Hid (Touch (fun j => F j ∨ G' j) w8 (((w11.setCell ⟨g11, k * 3, none⟩ (.int .i64 (nb : Int))).setCell ⟨g11, k * 3 + 1, none⟩ (.int .i64 0)).setCell ⟨g11, k * 3 + 2, none⟩ (.int .i64 (xn : Int)))) := Lib.hid (by
                    have h1 := LT8.out
                    have T1 : Touch (fun j => F j ∨ G' j) w8 w11 := ((Touch.of_below B9.out).then (Touch.of_below (B10.out))).then (t11.mono (fun j hj => by
                      rcases hj with rfl | rfl
                      · exact Or.inl HP8.out.pm.fh
                      · exact Or.inl HP8.out.pm.f1))
                    exact ((T1.setCell (p := ⟨g11, k * 3, none⟩) (Or.inr h1.2.2.2.2.2.2.1) _).setCell (p := ⟨g11, k * 3 + 1, none⟩) (Or.inr h1.2.2.2.2.2.2.1) _).setCell (p := ⟨g11, k * 3 + 2, none⟩) (Or.inr h1.2.2.2.2.2.2.1) _)
                  clear hfr na ng hp11 t11 hnb q1 q2 q3 FR ROW11 AW11 SET e9 eSet kl e0 SET2 off
                  go_upto_region 18 with fail
                  clear d0 d1 d2 f0 f1 f2
                  generalize ((w11.setCell ⟨g11, k * 3, none⟩ (.int .i64 (nb : Int))).setCell ⟨g11, k * 3 + 1, none⟩ (.int .i64 0)).setCell ⟨g11, k * 3 + 2, none⟩ (.int .i64 (xn : Int)) = W12 at *
                  have hkm : (l.set k (⟨nb, 0, xn⟩ : Pt))[k]? = some ⟨nb, 0, xn⟩ := by
                    rw [List.getElem?_set, if_pos rfl, if_pos hk]
                  obtain ⟨gg, hgg, d0, _⟩ := wrow_cell R12.out (ptCells_get _ k _ hkm).1
                  simp only [Option.some.injEq, Addr.mk.injEq, and_true] at hgg
                  subst hgg
                  simp only at d0
                  have S0 : BelW W12 W12.drew := (Below.refl _ W12).drew
                  have s0 : ∀ v : WIn (BelW W12), v.w.cell? ⟨g11, k * 3, none⟩ = some (.int .i64 (nb : Int)) := fun v => old_cell v.h d0
                  have s1 : ∀ v : WIn (BelW W12), v.w.cell? ⟨aw, 1, none⟩ = some (.int .i64 ((z.f + A0 : Nat) : Int)) := fun v => old_cell v.h (by rw [cell_of AW12.out]; rfl)
                  have s2 : ∀ v : WIn (BelW W12), v.w.cell? ⟨aw, 2, none⟩ = some (.int .i64 (mt : Int)) := fun v => old_cell v.h (by rw [cell_of AW12.out]; rfl)
                  haveI ne : Nonempty (WIn (BelW W12)) := ⟨⟨W12.drew, S0⟩⟩
                  have hmtb : mt ≤ 4096 := by have := LP.out; omega
                  have hzfm : z.f ≤ mt := by have := LP.out; omega
                  have AWd : W12.drew.heap[aw]? = some (.cells #[.int .i64 (z.b : Int), .int .i64 ((z.f + A0 : Nat) : Int), .int .i64 (mt : Int)] 75 (0, 0)) := AW12.out
                  have X0d : W12.drew.cell? ⟨aw, 0, none⟩ = some (.int .i64 (z.b : Int)) := by rw [cell_of AWd]; rfl
                  have X1d : W12.drew.cell? ⟨aw, 1, none⟩ = some (.int .i64 ((z.f + A0 : Nat) : Int)) := by rw [cell_of AWd]; rfl
                  have X2d : W12.drew.cell? ⟨aw, 2, none⟩ = some (.int .i64 (mt : Int)) := by rw [cell_of AWd]; rfl
                  have V0d := free_of AWd 0
                  have V1d := free_of AWd 1
                  have V2d := free_of AWd 2
                  have E12 : Hid (((z.f + A0 : Nat) : Int) - (z.f : Int) = (A0 : Int) ∧ (mt : Int) - (z.f : Int) = ((mt - z.f : Nat) : Int)) := Lib.hid (by omega)
                  have hs12 : w8.heap.size ≤ W12.heap.size := T12.out.size
                  have P12d := Lib.hid (P12.out.same S0)
                  have R12d := Lib.hid (row_kept R12.out S0)
                  have T12d := Lib.hid (T12.out.drew)
                  have AW12d := Lib.hid AWd
                  clear d0 hkm AWd P12 R12 T12 AW12
                  refine wp_normal ?_
                  refine wp_region_plan 14 (BelW W12) rfl ?_
                  refine wpN_seg [0, 1, 2, 3, 4, 5, 6, 7, 8, 9, 10, 11, 12] (by kernel_rfl) (by kernel_rfl) (by kernel_rfl) (by kernel_rfl) (by decide) (fun _ _ _ _ _ h => h) S0 ?_
                  simp only [pick, List.map_cons, List.map_nil, List.getElem?_cons_succ, List.getElem?_cons_zero, Option.getD_some]
                  repeat (go_big_quiet_step (fail))
                  refine wpQuiet_nil ?_
                  clear s0 s1 s2 ne
                  refine wpN_one 13 _ (by kernel_rfl) rfl ?_
                  refine NextAt.held ?_
                  intro K hK
                  go_simp
                  refine hK _ _ S0 ?_
                  clear hK K
                  generalize hWd : W12.drew = Wd at *
                  clear hWd S0
                  refine wpN_one 14 _ (by kernel_rfl) rfl ?_
                  refine NextAt.free (by kernel_rfl) ?_
                  intro K hK
                  go_simp
                  refine hK _ _ ?_
                  clear hK K
                  refine wpN_done (by kernel_rfl) ?_
                  go_upto_region 19 with fail
                  rw [show (z.f : Int) + (A0 : Int) - (z.f : Int) = (A0 : Int) by omega, E12.out.2]
                  have gx : (¬ (F aw ∨ aw = a6 ∨ aw = g6)) ∧ ¬ G' aw ∧ aw ≠ g11 ∧ w.heap.size ≤ aw := by
                    have h1 := LT8.out
                    have h2 := NGA.out
                    have h3 := HAW5.out
                    have h4 := BQ.out.size
                    refine ⟨?_, h2.1, by omega, by omega⟩
                    rintro (e | e | e)
                    · exact h2.2 e
                    · omega
                    · omega
                  have GX := Lib.hid gx
                  have off : ∀ j, j ≠ aw → (((Wd.setCell ⟨aw, 0, none⟩ (.int .i64 (nb : Int))).setCell ⟨aw, 1, none⟩ (.int .i64 (A0 : Int))).setCell ⟨aw, 2, none⟩ (.int .i64 ((mt - z.f : Nat) : Int))).heap[j]? = Wd.heap[j]? := fun j hj => (Below.heap_setCell _ _ _ _ hj).trans ((Below.heap_setCell _ _ _ _ hj).trans (Below.heap_setCell _ _ _ _ hj))
                  have P13 := Lib.hid (P12d.out.far (w' := ((Wd.setCell ⟨aw, 0, none⟩ (.int .i64 (nb : Int))).setCell ⟨aw, 1, none⟩ (.int .i64 (A0 : Int))).setCell ⟨aw, 2, none⟩ (.int .i64 ((mt - z.f : Nat) : Int))) (fun j hj _ => off j (by
                    rintro rfl
                    rcases hj with hj | hj
                    · exact gx.1 hj
                    · exact gx.2.1 hj)) (by simp [World.setCell]))
                  have R13 := Lib.hid (ownsRow_same R12d.out (w' := ((Wd.setCell ⟨aw, 0, none⟩ (.int .i64 (nb : Int))).setCell ⟨aw, 1, none⟩ (.int .i64 (A0 : Int))).setCell ⟨aw, 2, none⟩ (.int .i64 ((mt - z.f : Nat) : Int))) (fun j hj => off j (by
                    obtain rfl : g11 = j := by cases hj; rfl
                    exact fun e => gx.2.2.1 e.symm)))
                  have AW13 := Lib.hid (block_setCell (block_setCell (block_setCell AW12d.out 0 (.int .i64 (nb : Int))) 1 (.int .i64 (A0 : Int))) 2 (.int .i64 ((mt - z.f : Nat) : Int)))
                  have NX13 : Hid (Nxt Z (fun j => ((F j ∨ j = a6 ∨ j = g6) ∨ (Value.slice (some ⟨g11, 0, none⟩) l.length c9).ownBlock = some j) ∨ G' j) w (((Wd.setCell ⟨aw, 0, none⟩ (.int .i64 (nb : Int))).setCell ⟨aw, 1, none⟩ (.int .i64 (A0 : Int))).setCell ⟨aw, 2, none⟩ (.int .i64 ((mt - z.f : Nat) : Int)))) := Lib.hid (by
                    have N1 := NX8.out.trans ⟨fun j hj => Or.inl hj, T12d.out⟩
                    have h1 := LT8.out
                    have h0 := NX8.out.2.size
                    refine ⟨fun j hj => ?_, ((N1.2.setCell (p := ⟨aw, 0, none⟩) (Or.inr gx.2.2.2) _).setCell (p := ⟨aw, 1, none⟩) (Or.inr gx.2.2.2) _).setCell (p := ⟨aw, 2, none⟩) (Or.inr gx.2.2.2) _⟩
                    rcases hj with ((hj | rfl | rfl) | hj) | hj
                    · exact N1.1 j (Or.inl hj)
                    · right; omega
                    · right; omega
                    · obtain rfl : g11 = j := by cases hj; rfl
                      right; omega
                    · exact N1.1 j (Or.inr hj))
                  clear off gx X0d X1d X2d V0d V1d V2d
                  generalize ((Wd.setCell ⟨aw, 0, none⟩ (.int .i64 (nb : Int))).setCell ⟨aw, 1, none⟩ (.int .i64 (A0 : Int))).setCell ⟨aw, 2, none⟩ (.int .i64 ((mt - z.f : Nat) : Int)) = W13 at *
                  have AW13 : Hid (W13.heap[aw]? = some (.cells #[.int .i64 (nb : Int), .int .i64 (A0 : Int), .int .i64 ((mt - z.f : Nat) : Int)] 75 (0, 0))) := Lib.hid (AW13.out.trans (by simp))
                  have hrow13 : W13.ownsRow w8.heap.size 75 3 (.slice (some ⟨g11, 0, none⟩) l.length c9) (l.set k (⟨nb, 0, xn⟩ : Pt)).length (ptCells (l.set k (⟨nb, 0, xn⟩ : Pt))) := by rw [List.length_set]; exact R13.out
                  have hpts : PtsOf (P.grow (newBk P.size a6 g6 (octPt P.oct z))) (l.set k (⟨nb, 0, xn⟩ : Pt)) := fun u hu => by
                    rcases List.mem_or_eq_of_mem_set hu with hu | rfl
                    · obtain ⟨yy, hyy, h1⟩ := STR.out.2.2.1 u hu
                      exact ⟨yy, grow_old HP.out.nb hyy, h1⟩
                    · rw [← HNB.out]
                      exact ⟨_, grow_new HP.out.nb, Nat.zero_le _, by show xn ≤ (octPt P.oct z).length; rw [HLEN.out.1]; exact Nat.le_refl _⟩
                  have hlenP : lenP (l.set k (⟨nb, 0, xn⟩ : Pt)) = lenP l := lenP_num l _ (by rw [List.length_set]) (fun i u u' hu hu' => by
                    rw [List.getElem?_set] at hu'
                    by_cases e : k = i
                    · subst e
                      rw [if_pos rfl, if_pos hk] at hu'
                      cases hu'
                      rw [ZW.out.1] at hu
                      cases hu
                      show xn - 0 = Pt.n z
                      rw [HXN.out]
                      omega
                    · rw [if_neg e] at hu'
                      rw [hu] at hu'
                      cases hu'
                      rfl)
                  obtain ⟨w14, o14, D214, hrun, ho14, p14, T14⟩ := P13.out.put (s := sn) (q := (o, l)) HL.out hrow13 (fun j hj hg => by
                    obtain rfl : g11 = j := by cases hj; rfl
                    have h1 := LT8.out
                    have := HP8.out.gl _ hg
                    omega) hpts ⟨by rw [List.length_set]; exact hl500, by rw [hlenP]; exact hlp⟩ hnb
                  have ebl : P.bl.length + 1 = ((P.grow (newBk P.size a6 g6 (octPt P.oct z))).setS sn o14 (l.set k (⟨nb, 0, xn⟩ : Pt))).bl.length := by
                    show _ = (P.bl ++ [(P.lastB + 1, _)]).length
                    simp
                  rw [ebl] at p14
                  have SW := Lib.hid (sweepP_any p14)
                  have AW14 := Lib.hid ((T14.block aw (lt_of AW13.out) GX.out.1).trans AW13.out)
                  have NX14 : Hid (Nxt Z (fun j => ((F j ∨ j = a6 ∨ j = g6) ∨ (Value.slice (some ⟨g11, 0, none⟩) l.length c9).ownBlock = some j) ∨ G' j) w w14) := Lib.hid (NX13.out.trans ⟨fun j hj => Or.inl hj, T14.mono (fun j hj => Or.inl (Or.inl hj))⟩)
                  have GL := Lib.hid p14.gl
                  have c7 := P13.out.pm.cells.2.2.2.2.2.2.2
                  clear hrow13 hpts hlenP p14 T14 ebl ho14
                  go_wp2_with (at_mapUpdate; go_must (refine wpList_update_runP rfl _ _ _ _ rfl (by rfl) (by rfl) (by rfl) hrun ?_))
                  clear hrun c7
                  go_wp2_with fail
                  refine SW.out.mono ?_
                  rintro e w15 ⟨⟨v15, rfl⟩, D115, G15, b15, p15, hG15, t15⟩
                  obtain ⟨tq, htq⟩ : ∃ tq, mt - z.f = tq := ⟨_, rfl⟩
                  have PBX := Lib.hid p15
                  have NX15 : Hid (Nxt Z (fun j => ((F j ∨ j = a6 ∨ j = g6) ∨ (Value.slice (some ⟨g11, 0, none⟩) l.length c9).ownBlock = some j) ∨ G15 j) w w15) := Lib.hid (NX14.out.trans ⟨fun j hj => by
                    rcases hj with hj | hj
                    · exact Or.inl (Or.inl hj)
                    · rcases hG15 j hj with hj | hj
                      · exact Or.inl (Or.inr hj)
                      · exact Or.inr hj, t15.mono (fun j hj => by
                    rcases hj with hj | rfl
                    · exact Or.inr hj
                    · exact Or.inl (Or.inl (Or.inl HP.out.pm.f1)))⟩)
                  obtain ⟨yx, hyx⟩ : ∃ u, newBk P.size a6 g6 (octPt P.oct z) = u := ⟨_, rfl⟩
                  have HYE : Hid (yx.a = a6 ∧ yx.g = g6 ∧ yx.used = xn ∧ newBk P.size a6 g6 (octPt P.oct z) = yx) := Lib.hid ⟨by rw [← hyx]; rfl, by rw [← hyx]; rfl, by rw [← hyx]; exact HLEN.out.1, hyx⟩
                  rw [hyx] at PBX
                  have HYX : Hid (lookN ((P.grow yx).setS sn o14 (l.set k (⟨nb, 0, xn⟩ : Pt))).swept.bl (nb : Int) = some yx ∧ A0 < tq ∧ tq ≤ yx.used ∧ nb ≤ 1000000000) := Lib.hid (by
                    have h1 := LP.out
                    have h2 : Pt.n z = z.t - z.f := rfl
                    rw [HXN.out] at h2
                    have h3 := HYE.out.2.2.1
                    have h4 := HBB.out
                    have h5 := HNB.out
                    refine ⟨swept_look (by rw [← h5]; exact grow_new HP.out.nb) ?_, by omega, by omega, by omega⟩
                    have hlk2 : lookN ((P.grow yx).setS sn o14 (l.set k (⟨nb, 0, xn⟩ : Pt))).st (sn : Int) = some (o14, l.set k (⟨nb, 0, xn⟩ : Pt)) := by
                      show lookN (putS P.st sn o14 _) _ = _
                      rw [putS_look, if_pos rfl, HL.out]
                      rfl
                    obtain ⟨n', hn', hm'⟩ := lookN_mem hlk2
                    exact keeps_of hm' (x := ⟨nb, 0, xn⟩) (List.mem_of_getElem? (i := k) (by rw [List.getElem?_set, if_pos rfl, if_pos hk])))
                  have HAW : Hid (w15.heap[aw]? = some (.cells #[.int .i64 (nb : Int), .int .i64 (A0 : Int), .int .i64 (tq : Int)] 75 (0, 0)) ∧ ¬ ((F aw ∨ aw = a6 ∨ aw = g6) ∨ (Value.slice (some ⟨g11, 0, none⟩) l.length c9).ownBlock = some aw)) := Lib.hid ⟨by
                    rw [← htq]
                    exact (t15.block aw (lt_of AW14.out) (by
                      rintro (e | e)
                      · exact GX.out.2.1 e
                      · exact GX.out.1 (Or.inl (by rw [e]; exact HP.out.pm.f1)))).trans AW14.out, by
                    rintro (e | e)
                    · exact GX.out.1 e
                    · obtain rfl : g11 = aw := by cases e; rfl
                      exact GX.out.2.2.1 rfl⟩
                  obtain ⟨WX, rfl⟩ : ∃ x, x = w15 := ⟨_, rfl⟩
                  have CLO : Hid (∀ a' w' (N1 N2 : Nat), a' = some ⟨yx.g, A0, none⟩ → PB w' h bp (((P.grow yx).setS sn o14 (l.set k (⟨nb, 0, xn⟩ : Pt))).swept.setB nb ⟨yx.a, yx.g, yx.cs, yx.used, true⟩) mb ms N1 N2 D115 D214 (fun j => (F j ∨ j = a6 ∨ j = g6) ∨ (Value.slice (some ⟨g11, 0, none⟩) l.length c9).ownBlock = some j) G15 b15 ((P.grow yx).setS sn o14 (l.set k (⟨nb, 0, xn⟩ : Pt))).swept.bl.length → Touch (fun j => (F j ∨ j = a6 ∨ j = g6) ∨ (Value.slice (some ⟨g11, 0, none⟩) l.length c9).ownBlock = some j) WX w' → LkPost h bp P (sn : Int) (fN : Int) (tN : Int) Z w (.returned (.tuple #[.slice a' (Pt.n ⟨nb, A0, tq⟩) (Pt.n ⟨nb, A0, tq⟩), .int .i64 0])) w') := Lib.hid (by
                    rintro a' w' N1 N2 rfl pb T
                    refine PRE.out _ _ (fun y' hy' => Or.inr ⟨HIT.out, HT0.out, a6, g6, o14, ?_, _, ?_, NX15.out.trans ⟨fun j hj => Or.inl hj, T.mono (fun j hj => Or.inl hj)⟩⟩)
                    · rw [LP.out.1]
                      have h1 := LP.out
                      have e1 : (⟨z.b, z.f + A0, mt⟩ : Pt).n = (⟨nb, A0, tq⟩ : Pt).n := by show mt - (z.f + A0) = tq - A0; omega
                      have e2 : (⟨z.b, z.f + A0, mt⟩ : Pt).f - z.f = A0 := by show z.f + A0 - z.f = A0; omega
                      rw [e1, e2, HYE.out.2.1]
                    · rw [HYE.out.2.2.2, HXN.out]
                      have h1 := SP.of pb.tight
                      rw [HYE.out.1, HYE.out.2.1, HYE.out.2.2.1] at h1
                      exact h1)
                  clear p15 hG15 t15 SW htq hyx
                  go_upto_region 21 with fail
                  have YB := Lib.hid (PBX.out.pm.blkOf HYX.out.1)
                  have S0 : BelW WX WX.drew := (Below.refl _ WX).drew
                  have s0 : ∀ v : WIn (BelW WX), v.w.cell? ⟨h, 6, none⟩ = some (.map (some mb)) := fun v => (PBX.out.pm.below v.h).cells.2.2.2.2.2.2.1
                  have s1 : ∀ v : WIn (BelW WX), v.w.cell? ⟨aw, 0, none⟩ = some (.int .i64 (nb : Int)) := fun v => old_cell v.h (by rw [cell_of HAW.out.1]; rfl)
                  have s2 := fun v : WIn (BelW WX) => (PBX.out.pm.below v.h).block HYX.out.1 HYX.out.2.2.2
                  haveI ne : Nonempty (WIn (BelW WX)) := ⟨⟨WX.drew, S0⟩⟩
                  have BD := Lib.hid S0
                  refine wp_normal ?_
                  refine wp_region_plan 9 (BelW WX) rfl ?_
                  refine wpN_seg [0, 1, 2, 3, 4, 5, 6, 7, 8] (by kernel_rfl) (by kernel_rfl) (by kernel_rfl) (by kernel_rfl) (by decide) (fun _ _ _ _ _ h => h) S0 ?_
                  simp only [pick, List.map_cons, List.map_nil, List.getElem?_cons_succ, List.getElem?_cons_zero, Option.getD_some]
                  repeat (go_big_quiet_step (fail))
                  refine wpQuiet_nil ?_
                  clear s0 s1 s2 ne S0
                  generalize WX.drew = Wd at *
                  have PBD := Lib.hid (PBX.out.same BD.out)
                  have YD := PBD.out.pm.blkOf HYX.out.1
                  have e2 : Wd.cell? ⟨yx.a, 2, none⟩ = some (.bool yx.pin) := by rw [cell_of YD.1]; rfl
                  have v2 := free_of YD.1 2
                  have PIN := Lib.hid (PBD.out.pinned HYX.out.1)
                  have HAD := (BD.out.block _ (lt_of HAW.out.1)).trans HAW.out.1
                  have nya : aw ≠ yx.a := fun e => HAW.out.2 (by rw [e]; exact YD.2.2.2.2.1)
                  have HA2 := Lib.hid ((Below.heap_setCell Wd ⟨yx.a, 2, none⟩ (.bool true) aw nya).trans HAD)
                  clear YD HAD
                  refine wpN_one 9 _ (by kernel_rfl) rfl ?_
                  refine NextAt.free (by kernel_rfl) ?_
                  intro K hK
                  go_simp
                  refine hK _ _ ?_
                  clear hK K e2 v2
                  refine wpN_done (by kernel_rfl) ?_
                  generalize Wd.setCell ⟨yx.a, 2, none⟩ (.bool true) = Wp at *
                  have x0 : Wp.cell? ⟨aw, 0, none⟩ = some (.int .i64 (nb : Int)) := by rw [cell_of HA2.out]; rfl
                  have x1 : Wp.cell? ⟨aw, 1, none⟩ = some (.int .i64 (A0 : Int)) := by rw [cell_of HA2.out]; rfl
                  have x2 : Wp.cell? ⟨aw, 2, none⟩ = some (.int .i64 (tq : Int)) := by rw [cell_of HA2.out]; rfl
                  have OC := Lib.hid (fun W (hW : Below Wp.heap.size Wp W) => octets_any (PIN.out.1.pm.below hW) ⟨nb, A0, tq⟩ ⟨yx.a, yx.g, yx.cs, yx.used, true⟩ (by
                    have h1 := setB_lookQ (b := nb) (y' := ⟨yx.a, yx.g, yx.cs, yx.used, true⟩) HYX.out.1
                    rw [if_pos rfl] at h1
                    exact h1) (Nat.le_of_lt HYX.out.2.1) HYX.out.2.2.1)
                  simp only at OC
                  go_wp2_with fail
                  refine (OC.out _ (Below.refl _ _)).mono ?_
                  rintro e w9 ⟨⟨a9, rfl, ha9⟩, hb9⟩
                  have FIN := Lib.hid (CLO.out a9 w9 _ _ (ha9 HYX.out.2.1) (PIN.out.1.same hb9) (((Touch.of_below BD.out).then PIN.out.2).then (Touch.of_below hb9)))
                  clear ha9 hb9 OC x0 x1 x2
                  go_wp2_with fail
                  go_ret2
                  exact FIN.out
                · have FIN := Lib.hid (PRE.out (.returned (.tuple #[.slice none 0 0, .int .i64 (tkE P P.bl.length 1)])) w8 (fun _ _ => Or.inl ⟨HIT.out, ht0, rfl, _, by rw [if_neg ht0] at hp8; exact SP.of hp8, NX8.out⟩))
                  generalize tkE P P.bl.length 1 = ee at *
                  have hne : (ee == 0) = false := by simp; exact ht0
                  clear hp8 hG8 ht8 TK
                  go_wp2_with fail
                  go_ret2
                  exact FIN.out
    · have H2 := Lib.hid (And.intro h2 hne)
      clear h2 hne
      go_enter Try.func23, Try.ntmps23
      go_wp2_with fail
      refine BW.out.mono ?_
      rintro e w2 ⟨hb2, he⟩
      rw [HL.out] at he
      simp only [H2.out.2, if_false] at he
      rw [H2.out.1] at he
      subst he
      have FIN : Hid (LkPost h bp P (sn : Int) f t Z w (.returned (.tuple #[.slice none 0 0, .int .i64 2])) w2) := Lib.hid (by
        unfold LkPost
        rw [HL.out]
        simp only [H2.out.2, if_false]
        exact ⟨trivial, HSP.out.same hb2, hb2⟩)
      clear hb2
      go_wp2_with fail
      go_ret2
      exact FIN.out

end Go.Proofs.Ytbndknbjjdoanaa
