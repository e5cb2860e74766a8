/-
  sweep: the walk. Conditions: numbers in their bounds.
-/
import Derived.Test.YtbndknbjjdoanaaTopSharedPat
import Derived.Test.YtbndknbjjdoanaaTopSharedPan
import Derived.Test.YtbndknbjjdoanaaTopSharedPau
import Derived.Deep.Cut
namespace Go.Proofs.Ytbndknbjjdoanaa
open Go.RowKit
set_option linter.unusedVariables false

theorem wpList_update_runP {P : Program} {ops : Array Oper} {rest : List Oper} {o : Oper} {a : Act} {w w' : World} {Q : Exit → Act → World → Prop} (hg : o.guard = none) (m x v : Operand) (t : TypeId) (hop : o.op = Op.mapUpdate t m x v) {mv xv vv : Value}
    (hm : a.eval m = mv) (hx : a.eval x = xv) (hv : a.eval v = vv) (hrun : (Instr.mapUpdate t mv xv vv).run P w = .ok () w') (hK : wpList P ops Q rest (a.put o.dst undef) w') : wpList P ops Q (o :: rest) a w := by
  refine wpList_plain hg fun K' hK' => ?_
  unfold Oper.wp
  simp [execOp, hop, hm, hx, hv, hrun, Result.andThen]
  exact hK' _ _ hK

def SwPost (h bp : Nat) (P : PoolSt) (mb ms N1 N2 : Nat) (D2 : DataW Unit) (F G : Nat → Prop) (w : World) : Ending → World → Prop := fun e w' =>
  (∃ v, e = .returned v) ∧ ∃ D1' G' b', PB w' h bp P.swept mb ms N1 N2 D1' D2 F G' b' P.swept.bl.length ∧ (∀ k, G' k → G k ∨ w.heap.size ≤ k) ∧ Touch (fun k => G k ∨ k = mb) w w'

theorem giveSt_ok {b : BookSt} {x y : Nat} (hacc : b.acc 1 = some (10000000, (x : Int), 0)) (hbud : b.budget = 10000000) (htot : b.total = (x : Int)) (hent : b.entries.length ≤ 10000) (hx : y ≤ x) :
    giveE x y = 0 ∧ (giveSt b 1 10000000 x 0 y).acc 1 = some (10000000, ((x - y : Nat) : Int), 0) ∧ (giveSt b 1 10000000 x 0 y).budget = 10000000 ∧ (giveSt b 1 10000000 x 0 y).total = ((x - y : Nat) : Int) ∧ (giveSt b 1 10000000 x 0 y).entries.length ≤ 10000 := by
  have hE : giveE x y = 0 := by
    unfold giveE
    rw [if_neg (by omega)]
  refine ⟨hE, ?_⟩
  unfold giveSt
  rw [if_pos hE]
  refine ⟨?_, hbud, ?_, ?_⟩
  · show (heldSt b 1 10000000 x 0 (-(y : Int))).acc 1 = _
    unfold heldSt
    simp
    omega
  · show (heldSt b 1 10000000 x 0 (-(y : Int))).total = _
    unfold heldSt
    simp only
    omega
  · refine trimE_len _ ?_
    rw [List.length_append]
    simp
    omega

theorem any_take {l : List Pt} {k : Nat} {x : Pt} (h : l[k]? = some x) (z : Int) : ((l.take (k + 1)).any fun x => decide ((x.b : Int) = z)) = (((l.take k).any fun x => decide ((x.b : Int) = z)) || decide (z = (x.b : Int))) := by
  rw [List.take_add_one, h, List.any_append]
  simp [eq_comm]

theorem stillN_le (P : PoolSt) (left : Lit → Bool) : stillN P left ≤ P.bl.length := List.length_filter_le _ _
theorem swept_le (P : PoolSt) : P.swept.bl.length ≤ P.bl.length := List.length_filter_le _ _
/-- The end of a sweep: the blocks that are gone have been struck. -/
theorem PB.swept {w w3 : World} {h bp : Nat} {P : PoolSt} {mb ms N1 N2 : Nat} {D1 D2 D1' : DataW Unit} {F G : Nat → Prop} {b : BookSt} (p : PB w h bp P mb ms N1 N2 D1 D2 F G b P.bl.length) (hm : w3.ownsMap Try.prog 3 ptrElem mb N1 D1') (hD : StrkD P (fun _ => false) D1') (ht : Touch (fun k => k = mb) w w3) :
    PoolMem w3 F h bp P.swept mb ms N1 N2 D1' D2 ∧ BookAt w3 G bp b 1 ∧ (∀ k, F k → k < w3.heap.size) ∧ (∀ k, G k → k < w3.heap.size) := by
  have e := still_end (P := P) (left := fun _ => false) (fun _ => rfl)
  refine ⟨p.pm.sweep hm (fun k hk hne => ht.block k hk hne) (fun k z => by rw [← e]; exact hD.1 k z) (by rw [← e]; exact hD.2), p.bk.same (fun k hk hl => ht.block k hl (fun e => p.dis _ p.pm.f1 (e ▸ hk))), fun k hk => Nat.lt_of_lt_of_le (p.fl k hk) ht.size, fun k hk => Nat.lt_of_lt_of_le (p.gl k hk) ht.size⟩

set_option maxHeartbeats 4000000 in
set_option maxRecDepth 100000 in
theorem sweepP_any {w : World} {h bp : Nat} {P : PoolSt} {mb ms N1 N2 : Nat} {D1 D2 : DataW Unit} {F G : Nat → Prop} {b : BookSt} (p : PB w h bp P mb ms N1 N2 D1 D2 F G b P.bl.length) :
    Calls Try.prog 41 #[.pointer (some ⟨h, 0, none⟩)] w (SwPost h bp P mb ms N1 N2 D2 F G w) := by
  obtain ⟨c0, c1, c2, c3, c4, c5, c6, c7⟩ := p.pm.cells
  obtain ⟨s1, s2⟩ := p.pm.sz
  have few := p.pm.few
  have HFEW := Lib.hid few
  have HM := Lib.hid p.pm
  have B1 : Below w.heap.size w (w.alloc (.map #[] 0)) := (Below.refl _ w).alloc (Nat.le_refl _) _
  have K1 := KpM.new w
  have hown : (w.alloc (.map #[] 0)).ownsMap Try.prog 3 rowElem ms N2 D2 := ownsMap_same p.pm.m2 (B1.block ms p.pm.m2.lt)
  have d7 : (w.alloc (.map #[] 0)).cell? ⟨h, 7, none⟩ = some (.map (some ms)) := old_cell B1 c7
  have hsz1 : (w.alloc (.map #[] 0)).heap.size = w.heap.size + 1 := by simp
  have HP := Lib.hid p
  have BX1 := Lib.hid B1
  have HK1 := Lib.hid K1
  have HSZ1 := Lib.hid hsz1
  clear p B1 K1 hsz1 few c7
  have hmm := @run_makeMap Try.prog
  go_enter Try.func41, Try.ntmps41
  go_upto_region 1 with fail
  generalize w.alloc (.map #[] 0) = W1 at *
  go_wp2_with (first
    | (at_range; refine wpList_range_own _ rfl _ 61 rfl 3 66 intKey Try.underlying61 rowElem ms N2 D2 rfl hown ?_; intro w0 hrg0 hg0 hs0)
    | fail)
  have hb0 : Below w.heap.size w w0 := BX1.out.grown hg0 BX1.out.size (fun k e => by cases e)
  have K0 : KpM w0 w.heap.size 0 (fun _ => false) := HK1.out.same (hg0.block _ HK1.out.lt (fun e => by cases e))
  have HB0 := Lib.hid hb0
  have HK0 := Lib.hid K0
  have HRG0 := Lib.hid hrg0
  clear hrg0 hg0 hs0 hb0 K0 hown d7
  go_frame
  go_loopw [4] (fun _ wr => ∃ (left : Lit → Bool) (cnt nk : Nat) (K : Int → Bool), wr.ranges Try.prog 3 rowElem ms W1.heap.size N2 D2 left cnt ∧ KpM wr w.heap.size nk K ∧ Marks P left K ∧ nk + 500 * cnt ≤ 100000 ∧ Below w.heap.size w wr)
    (fun _ wr => wr.rangeLeft ms W1.heap.size)
  case atStart =>
    refine ⟨_, _, 0, _, HRG0.out, HK0.out, fun k => ?_, ?_, HB0.out⟩
    · constructor
      · intro e; cases e
      · rintro ⟨q, hq, hl, x, hx, e⟩
        have := Maps.has_true_of_atKey (y := rowD q.2.1) (fun z => by rw [HM.out.l2, lookN_of_mem HM.out.ks (show (q.1, q.2) ∈ P.st from hq)]; rfl)
        rw [this] at hl
        cases hl
    · rw [HM.out.z2]
      have := HFEW.out.1
      omega
  case round =>
    obtain ⟨left, cnt, nk, K, hrg, hkp, hmk, hcnt, hbr⟩ := hrel
    have HBR := Lib.hid hbr
    have HKP := Lib.hid hkp
    have HMK := Lib.hid hmk
    clear hkp hmk
    go_wp2_with (first
      | (at_next; refine wpList_next_ranges _ rfl _ rfl 3 intKey rowElem (fun x : Int => .int .i64 x) (fun c : Option (Nat × Nat × Nat) => rowOf c) (fun key kl hkey => by obtain ⟨x, rfl, _⟩ := Maps.keyOf_int_inv Try.underlying3 hkey; exact ⟨x, rfl⟩) (fun v y hv => rowElem_shape hv) ms W1.heap.size N2 D2 _ _ rfl hrg ?_ ?_)
      | fail)
    · intro hc0 hl0
      have hKE := HMK.out.all hl0
      subst hKE
      clear hl0 hc0 hrg hcnt HMK hmm
      obtain ⟨Wb, rfl⟩ : ∃ x, x = wr := ⟨_, rfl⟩
      have d6 : Wb.cell? ⟨h, 6, none⟩ = some (.map (some mb)) := old_cell HBR.out c6
      have hown1 : Wb.ownsMap Try.prog 3 ptrElem mb N1 D1 := ownsMap_same HM.out.m1 (HBR.out.block mb HM.out.m1.lt)
      clear hbr
      go_wp2_with (first
        | (at_range; refine wpList_range_own _ rfl _ 60 rfl 3 84 intKey Try.underlying60 ptrElem mb N1 D1 rfl hown1 ?_; intro w4 hrg4 hg4 hs4)
        | fail)
      have B4 := Lib.hid (HBR.out.grown hg4 HBR.out.size (fun k e => by cases e))
      have KP4 := Lib.hid (HKP.out.same (hg4.block _ HKP.out.lt (fun e => by cases e)))
      have RG4 := Lib.hid hrg4
      have WB1 := Lib.hid (show w.heap.size + 1 ≤ Wb.heap.size by
        have := HKP.out.lt
        omega)
      clear hrg4 hg4 hs4 d6 hown1 HKP
      go_frame
      go_loopw [7, 8] (fun s7 _ wr => ∃ (left : Lit → Bool) (cnt : Nat), s7 = .int .i64 ((P.bl.length - stillN P left : Nat) : Int) ∧ wr.ranges Try.prog 3 ptrElem mb Wb.heap.size N1 D1 left cnt ∧ KpM wr w.heap.size nk P.keeps ∧ Below w.heap.size w wr)
        (fun _ _ wr => wr.rangeLeft mb Wb.heap.size)
      case atStart =>
        refine ⟨_, _, ?_, RG4.out, KP4.out, B4.out⟩
        unfold stillN
        rw [still_start (has_start HM.out.l1 HM.out.kb), Nat.sub_self]
        rfl
      case round =>
        obtain ⟨left, cnt, rfl, hrg, hkp, hbr⟩ := hrel
        have HBR2 := Lib.hid hbr
        have HKP2 := Lib.hid hkp
        have SL := stillN_le P left
        obtain ⟨gn, hgn⟩ : ∃ gn, P.bl.length - stillN P left = gn := ⟨_, rfl⟩
        have HGN := Lib.hid (And.intro hgn SL)
        have hgb : gn ≤ 2000 := by have := HFEW.out.2.1; omega
        rw [hgn]
        clear hbr hkp hgn SL
        go_wp2_with (first
          | (at_next; refine wpList_next_ranges _ rfl _ rfl 3 intKey ptrElem (fun x : Int => .int .i64 x) (fun c : Option Nat => ptrOf c) (fun key kl hkey => by obtain ⟨x, rfl, _⟩ := Maps.keyOf_int_inv Try.underlying3 hkey; exact ⟨x, rfl⟩) (fun v y hv => ptrElem_shapeB hv) mb Wb.heap.size N1 D1 _ _ rfl hrg ?_ ?_)
          | fail)
        · intro hc0 hl0
          obtain rfl : left = fun _ => false := funext hl0
          have HGE := Lib.hid (show P.bl.length = gn + P.swept.bl.length by
            have e := still_end (P := P) (left := fun _ => false) (fun _ => rfl)
            have h1 := HGN.out
            unfold stillN at h1
            rw [e] at h1
            omega)
          clear hl0 hc0 hrg HGN
          obtain ⟨Wc, rfl⟩ : ∃ x, x = wr := ⟨_, rfl⟩
          have d6 : Wc.cell? ⟨h, 6, none⟩ = some (.map (some mb)) := old_cell HBR2.out c6
          have hown1 : Wc.ownsMap Try.prog 3 ptrElem mb N1 D1 := ownsMap_same HM.out.m1 (HBR2.out.block mb HM.out.m1.lt)
          go_wp2_with (first
            | (at_range; refine wpList_range_own _ rfl _ 60 rfl 3 84 intKey Try.underlying60 ptrElem mb N1 D1 rfl hown1 ?_; intro w5 hrg5 hg5 hs5)
            | fail)
          have B5 := Lib.hid (HBR2.out.grown hg5 HBR2.out.size (fun k e => by cases e))
          have KP5 := Lib.hid (HKP2.out.same (hg5.block _ HKP2.out.lt (fun e => by cases e)))
          have RG5 := Lib.hid hrg5
          have WC1 := Lib.hid (show w.heap.size + 1 ≤ Wc.heap.size by
            have := HKP2.out.lt
            omega)
          clear hrg5 hg5 hs5 d6 hown1 HKP2 c6
          go_frame
          go_loopw [9] (fun _ wr => ∃ (left : Lit → Bool) (cnt : Nat) (D : DataW Unit), StrkD P left D ∧ wr.ranges Try.prog 3 ptrElem mb Wc.heap.size N1 D left cnt ∧ KpM wr w.heap.size nk P.keeps ∧ Touch (fun k => k = mb) w wr)
            (fun _ wr => wr.rangeLeft mb Wc.heap.size)
          case atStart =>
            refine ⟨_, _, D1, ⟨fun k z => ?_, ?_⟩, RG5.out, KP5.out, Touch.of_below B5.out⟩
            · rw [still_start (has_start HM.out.l1 HM.out.kb)]
              exact HM.out.l1 k z
            · unfold stillN
              rw [still_start (has_start HM.out.l1 HM.out.kb)]
              exact HM.out.z1
          case round =>
            obtain ⟨left, cnt, D, hD, hrg, hkp, htr⟩ := hrel
            have HTR := Lib.hid htr
            have HKP3 := Lib.hid hkp
            have HD := Lib.hid hD
            clear htr hkp hD
            go_wp2_with (first
              | (at_next; refine wpList_next_ranges _ rfl _ rfl 3 intKey ptrElem (fun x : Int => .int .i64 x) (fun c : Option Nat => ptrOf c) (fun key kl hkey => by obtain ⟨x, rfl, _⟩ := Maps.keyOf_int_inv Try.underlying3 hkey; exact ⟨x, rfl⟩) (fun v y hv => ptrElem_shapeB hv) mb Wc.heap.size N1 D _ _ rfl hrg ?_ ?_)
              | fail)
            · intro hc0 hl0
              obtain rfl : left = fun _ => false := funext hl0
              obtain ⟨Wd, rfl⟩ : ∃ x, x = wr := ⟨_, rfl⟩
              have NEW := Lib.hid (HP.out.swept hrg.owns HD.out HTR.out)
              clear hl0 hc0 hrg HKP3 HD
              have hdis : ∀ k, F k → ¬ G k := HP.out.dis
              by_cases hg0 : gn = 0
              · subst hg0
                have FIN : Hid (SwPost h bp P mb ms N1 N2 D2 F G w (.returned (.tuple #[])) Wd) := Lib.hid (by
                  have e : P.bl.length = P.swept.bl.length := by have := HGE.out; omega
                  obtain ⟨n1, n2, n3, n4⟩ := NEW.out
                  have p := HP.out
                  refine ⟨⟨_, rfl⟩, _, G, b, ⟨n1, n2, p.dis, n3, n4, ?_, p.bud, ?_, p.ent, ?_⟩, fun k hk => Or.inl hk, HTR.out.mono (fun k hk => Or.inr hk)⟩
                  · rw [← e]; exact p.acc
                  · rw [← e]; exact p.tot
                  · rw [← e]; exact p.room)
                clear HTR NEW
                go_wp2_with fail
                go_end0
                exact FIN.out
              · have hgi : (gn : Int) > 0 := by omega
                have hself := NEW.out.1.cells
                obtain ⟨e0, e1, e2, _⟩ := hself
                have hroom := HP.out.room
                have hacc := HP.out.acc
                have htot := HP.out.tot
                have hle2 : gn ≤ P.bl.length := by have := HGE.out; omega
                have hmul : P.size * gn ≤ P.size * P.bl.length := Nat.mul_le_mul_left _ hle2
                have hsub : P.size * P.bl.length - P.size * gn = P.size * P.swept.bl.length := by rw [← Nat.mul_sub, show P.bl.length - gn = P.swept.bl.length by have := HGE.out; omega]
                have hmi : (gn : Int) * (P.size : Int) = ((P.size * gn : Nat) : Int) := by rw [Int.natCast_mul, Int.mul_comm]
                obtain ⟨z, hz⟩ : ∃ z, P.size * gn = z := ⟨_, rfl⟩
                obtain ⟨X, hX⟩ : ∃ X, P.size * P.bl.length = X := ⟨_, rfl⟩
                have HSUB := Lib.hid hsub
                rw [hz, hX] at hmul HSUB
                rw [hX] at hroom hacc htot
                rw [hz] at hmi
                have GV := Lib.hid (fun W (hW : Below Wd.heap.size Wd W) => give_any bp 1 (z : Int) 10000000 X 0 W G b 1 (NEW.out.2.1.same (Below.same_on hW)) hacc (by omega) (by omega) (by omega) (by rw [htot]; omega) HP.out.ent)
                have HA := Lib.hid (And.intro hacc (And.intro htot hmul))
                clear hacc htot hz hX hsub
                go_upto_region 21 with fail
                have S0 : BelW Wd Wd.drew := (Below.refl _ Wd).drew
                have r0 : ∀ y : WIn (BelW Wd), y.w.cell? ⟨h, 0, none⟩ = some (.pointer (some ⟨bp, 0, none⟩)) := fun y => old_cell y.h e0
                have r1 : ∀ y : WIn (BelW Wd), y.w.cell? ⟨h, 1, none⟩ = some (.int .i64 1) := fun y => old_cell y.h e1
                have r2 : ∀ y : WIn (BelW Wd), y.w.cell? ⟨h, 2, none⟩ = some (.int .i64 (P.size : Int)) := fun y => old_cell y.h e2
                haveI ne : Nonempty (WIn (BelW Wd)) := ⟨⟨Wd.drew, S0⟩⟩
                clear e0 e1 e2
                refine wp_normal ?_
                refine wp_region_plan 14 (BelW Wd) rfl ?_
                refine wpN_seg [0, 1, 2, 3, 4, 5, 6, 7, 8, 9, 10, 11, 12, 13] (by kernel_rfl) (by kernel_rfl) (by kernel_rfl) (by kernel_rfl) (by decide) (fun _ _ _ _ _ h => h) S0 ?_
                simp only [pick, List.map_cons, List.map_nil, List.getElem?_cons_succ, List.getElem?_cons_zero, Option.getD_some]
                repeat (go_big_quiet_step (fail))
                refine wpQuiet_nil ?_
                clear r0 r1 r2 ne
                have GV2 := Lib.hid (GV.out Wd.drew S0)
                clear S0 GV
                refine wpN_one 14 _ (by kernel_rfl) rfl ?_
                refine NextAt.free (by kernel_rfl) ?_
                intro K hK
                go_simp
                refine GV2.out.mono ?_
                rintro e w2 ⟨rfl, hbk2, ht2⟩
                have T2 : Touch G Wd w2 := (Touch.refl G Wd).drew.then ht2
                have FIN : Hid (SwPost h bp P mb ms N1 N2 D2 F G w (.returned (.tuple #[])) w2) := Lib.hid (by
                  obtain ⟨n1, n2, n3, n4⟩ := NEW.out
                  have p := HP.out
                  have hbk2 := hbk2.narrow''
                  obtain ⟨g1, a1, a2, a3, a4⟩ := giveSt_ok (b := b) (x := X) (y := z) HA.out.1 p.bud HA.out.2.1 p.ent HA.out.2.2
                  rw [HSUB.out] at a1 a3
                  have PM2 : PoolMem w2 F h bp P.swept mb ms N1 N2 _ D2 := n1.same (fun k hk hl => T2.block k hl (p.dis k hk))
                  have hT := HTR.out.size
                  refine ⟨⟨_, rfl⟩, _, _, giveSt b 1 10000000 X 0 z, ⟨PM2, hbk2, fun k hk hg => ?_, fun k hk => Nat.lt_of_lt_of_le (n3 k hk) T2.size, fun k hk => hk.2, a1, a2, a3, a4, ?_⟩, fun k hk => ?_, ?_⟩
                  · rcases hg.1 with hg | hg
                    · exact p.dis k hk hg
                    · have h1 := p.fl k hk
                      have h2 : Wd.drew.heap.size = Wd.heap.size := rfl
                      omega
                  · have h2 : P.size * P.swept.bl.length ≤ P.size * P.bl.length := Nat.mul_le_mul_left _ (swept_le P)
                    have h3 : P.swept.size = P.size := rfl
                    have := p.room
                    rw [h3]
                    omega
                  · rcases hk.1 with hk | hk
                    · exact Or.inl hk
                    · have h2 : Wd.drew.heap.size = Wd.heap.size := rfl
                      right; omega
                  · exact (HTR.out.mono (fun k hk => Or.inr hk)).then (T2.mono (fun k hk => Or.inl hk)))
                clear hbk2 ht2 T2 GV2
                go_simp
                refine hK _ _ ?_
                clear hK K
                refine wpN_done (by kernel_rfl) ?_
                go_wp2_with fail
                go_end0
                exact FIN.out
            · intro x c kl y ps w2 cnt2 hkey hlk hv hat hrg2 hlt hg2 hs2 hen
              obtain ⟨x', ex, rfl, hwx⟩ := Maps.keyOf_int_inv Try.underlying3 hkey
              cases ex
              obtain ⟨n, bk, rfl, hmem⟩ := look_has (P := { P with bl := P.bl.filter fun p => Still P left (p.1 : Int) }) HD.out.1 hat
              have hmem : (n, bk) ∈ P.bl := (List.mem_filter.1 hmem).1
              have KP6 := Lib.hid (HKP3.out.same (hg2.block _ HKP3.out.lt (fun e => by have := Option.some.inj e; have := WC1.out; omega)))
              have LK := KP6.out.look (n : Int) (by have := (HM.out.nb _ hmem).2; have := HFEW.out.2.2.2.1; omega)
              have T6 := Lib.hid (HTR.out.grown hg2 (fun k e => by have := Option.some.inj e; exact Or.inr (by have := WC1.out; omega)))
              have HRG2 := Lib.hid hrg2
              have HRL := Lib.hid hrg.left_eq
              have HLT := Lib.hid hlt
              have HWX := Lib.hid hwx
              have HMEM := Lib.hid (And.intro hmem hlk)
              cases hkn : P.keeps (n : Int) with
              | true =>
                rw [hkn] at LK
                have HKN := Lib.hid hkn
                have FIN := Lib.hid (HD.out.keep hkn)
                clear hs2 hat hv hg2 hlk hrg2 hrg hlt hkey hmem hkn HTR HKP3 hwx
                go_wp2_with fail
                go_roundw
                case rel => exact ⟨_, cnt2, D, FIN.out, HRG2.out, KP6.out, T6.out⟩
                case measure => rw [HRG2.out.left_eq, HRL.out]; exact HLT.out
              | false =>
                rw [hkn] at LK
                have FIN := Lib.hid (HD.out.strike (hrg.owns.tidy intKey) hrg.owns.isMap HM.out.kb hmem hlk hkn)
                have d6 : w2.cell? ⟨h, 6, none⟩ = some (.map (some mb)) := by
                  have e : w2.heap[h]? = w.heap[h]? := T6.out.block h (HP.out.fl h HM.out.fh) (fun e => by
                    obtain ⟨es, clock, hb, _⟩ := HM.out.m1
                    have h1 := HM.out.self
                    rw [e, hb] at h1
                    simp at h1)
                  rw [cell_of (e.trans HM.out.self)]
                  rfl
                clear hs2 hat hv hg2 hlk hrg hlt hkey hmem hkn HTR HKP3 hwx
                go_wp2_with (first
                  | (at_delete; go_must (refine wpList_delete_ranges _ rfl _ _ 60 3 rfl 84 intKey Try.underlying60 ptrElem mb Wc.heap.size N1 D _ _ rfl hrg2 (.int .i64 (n : Int)) (.int .i64 (n : Int)) rfl (Maps.keyOf_int_mk Try.underlying3 HWX.out) ?_))
                  | fail)
                intro w5 cnt5 hrg5 hle hturn
                have FIN2 := Lib.hid (And.intro hrg5 (And.intro (KP6.out.same (hturn.grown.block _ KP6.out.lt (fun e => by
                  have h1 := HP.out.fl _ HM.out.f1
                  cases e
                  exact Nat.lt_irrefl _ h1))) (T6.out.grown hturn.grown (fun k e => by cases e; exact Or.inl rfl))))
                have HLE := Lib.hid hle
                clear hrg5 hle hturn d6
                go_wp2_with fail
                go_roundw
                case rel => exact ⟨_, cnt5, _, FIN.out, FIN2.out.1, FIN2.out.2.1, FIN2.out.2.2⟩
                case measure => rw [FIN2.out.1.left_eq, HRL.out]; exact Nat.lt_of_le_of_lt HLE.out HLT.out
        · intro x c kl y ps w2 cnt2 hkey hlk hv hat hrg2 hlt hg2 hs2 hen
          obtain ⟨x', ex, rfl, hwx⟩ := Maps.keyOf_int_inv Try.underlying3 hkey
          cases ex
          obtain ⟨n, bk, rfl, hmem⟩ := look_has HM.out.l1 hat
          have KP6 := Lib.hid (HKP2.out.same (hg2.block _ HKP2.out.lt (fun e => by have := Option.some.inj e; have := WB1.out; omega)))
          have LK := KP6.out.look (n : Int) (by have := (HM.out.nb _ hmem).2; have := HFEW.out.2.2.2.1; omega)
          have B6 := Lib.hid (HBR2.out.grown hg2 HBR2.out.size (fun k e => by have := Option.some.inj e; have := WB1.out; omega))
          have HRG2 := Lib.hid hrg2
          have HRL := Lib.hid hrg.left_eq
          have HLT := Lib.hid hlt
          cases hkn : P.keeps (n : Int) with
          | true =>
            rw [hkn] at LK
            have FIN := Lib.hid (show (gn : Int) = ((P.bl.length - stillN P (fun z => left z && !z.sameKey (.int .i64 (n : Int))) : Nat) : Int) by
              have h1 := HGN.out.1
              have h2 : stillN P (fun z => left z && !z.sameKey (.int .i64 (n : Int))) = stillN P left := by unfold stillN; rw [still_kept hkn]
              rw [h2, h1])
            clear hs2 hat hv hg2 hlk hrg2 hrg hlt hkey hmem hkn hwx
            go_wp2_with fail
            go_roundw
            case rel => exact ⟨_, cnt2, by rw [FIN.out], HRG2.out, KP6.out, B6.out⟩
            case measure => rw [HRG2.out.left_eq, HRL.out]; exact HLT.out
          | false =>
            rw [hkn] at LK
            have FIN := Lib.hid (show (gn : Int) + 1 = ((P.bl.length - stillN P (fun z => left z && !z.sameKey (.int .i64 (n : Int))) : Nat) : Int) by
              have h1 := HGN.out
              have h2 := still_less HM.out.kb hmem hlk hkn
              omega)
            clear hs2 hat hv hg2 hlk hrg2 hrg hlt hkey hmem hkn hwx
            go_wp2_with fail
            go_roundw
            case rel => exact ⟨_, cnt2, by rw [FIN.out], HRG2.out, KP6.out, B6.out⟩
            case measure => rw [HRG2.out.left_eq, HRL.out]; exact HLT.out
    · intro x c kl y ps w2 cnt2 hkey hlk hv hat hrg2 hlt hg2 hs2 hen
      obtain ⟨x', ex, rfl, hwx⟩ := Maps.keyOf_int_inv Try.underlying3 hkey
      cases ex
      obtain ⟨sn, ⟨so, l⟩, rfl, hmem, hy⟩ := look_hasS HM.out.l2 hat
      subst hy
      have hcv := rowElem_inv hv
      rw [hcv] at hen ⊢
      have STR := HM.out.st _ hmem
      have hpl := (HFEW.out.2.2.1 _ hmem).1
      obtain ⟨ra, rc, hrow, r1, r2, r3⟩ := PtIn.row STR.1
      simp only at hrow r1 r2 r3 hpl
      rw [hrow] at hen ⊢
      have B2 := Lib.hid (HBR.out.grown hg2 HBR.out.size (fun k e => by have := Option.some.inj e; have := HSZ1.out; omega))
      have KP2 := Lib.hid (HKP.out.same (hg2.block _ HKP.out.lt (fun e => by have := Option.some.inj e; have := HSZ1.out; omega)))
      have HRG2 := Lib.hid hrg2
      have HRL := Lib.hid hrg.left_eq
      have HLT := Lib.hid hlt
      have HMK2 := Lib.hid (HMK.out.step HM.out.ks hmem hlk)
      have HR3 := Lib.hid r3
      have PTO := Lib.hid (fun (x : Pt) (hx : x ∈ l) => show x.b ≤ 1000000000 by
        obtain ⟨y, hy, _⟩ := HM.out.pt _ hmem x hx
        have := (HM.out.blkOf hy).2.2.2.2.2.2
        have := HFEW.out.2.2.2.1
        omega)
      clear hs2 hat hv hbr hg2 hlk hrg2 hrg hlt hkey hcv STR hmem r3 HKP HMK HBR hrow
      have hcn : nk + 500 * cnt2 + 500 ≤ 100000 := by have := HLT.out; omega
      go_wp2_with fail
      go_loopw [22] (fun i wr => ∃ k : Nat, k ≤ l.length ∧ i = .int .i64 (k : Int) ∧ KpM wr w.heap.size (nk + k) (fun z => K z || (l.take k).any fun x => decide ((x.b : Int) = z)) ∧ wr.ranges Try.prog 3 rowElem ms W1.heap.size N2 D2 (fun z => left z && !z.sameKey (.int .i64 (sn : Int))) cnt2 ∧ Below w.heap.size w wr) (fun i _ => l.length - (intOf i).toNat)
      case atStart => exact ⟨0, Nat.zero_le _, rfl, by simpa using KP2.out, HRG2.out, B2.out⟩
      case round =>
        obtain ⟨k, hk, rfl, hkp, hrg, hb⟩ := hrel
        have HB := Lib.hid hb
        have HKP := Lib.hid hkp
        have HRG := Lib.hid hrg
        by_cases hlt : k < l.length
        · obtain ⟨x, hx⟩ : ∃ x, l[k]? = some x := ⟨_, List.getElem?_eq_getElem hlt⟩
          obtain ⟨bb, oo, rfl, d0, d1, d2⟩ := HR3.out k x hx
          have d0 := old_cell hb d0
          have d1 := old_cell hb d1
          have d2 := old_cell hb d2
          have hxb := PTO.out x (List.mem_of_getElem? hx)
          have AT := Lib.hid (any_take hx)
          obtain ⟨xb, xf, xt⟩ := x
          simp only at d0 d1 d2 hxb AT
          have KA := HKP.out.same (heap_alloc_old wr (.cells #[.int .i64 (xb : Int), .int .i64 (xf : Int), .int .i64 (xt : Int)] 75) HKP.out.lt)
          have AL := HB.out.alloc HB.out.size (.cells #[.int .i64 (xb : Int), .int .i64 (xf : Int), .int .i64 (xt : Int)] 75)
          have X0 : (wr.alloc (.cells #[.int .i64 (xb : Int), .int .i64 (xf : Int), .int .i64 (xt : Int)] 75)).cell? ⟨wr.heap.size, 0, none⟩ = some (.int .i64 (xb : Int)) := by rw [cell_of (heap_alloc_new wr _)]; rfl
          have RA := Lib.hid (hrg.alloc (.cells #[.int .i64 (xb : Int), .int .i64 (xf : Int), .int .i64 (xt : Int)] 75))
          obtain ⟨w5, hrun, hkp5, hg5⟩ := KA.put (xb : Int) (by omega) (by omega)
          have NEW := Lib.hid (show KpM w5 w.heap.size (nk + (k + 1)) (fun z => K z || (l.take (k + 1)).any fun x => decide ((x.b : Int) = z)) by
            have e : (fun z => K z || (l.take (k + 1)).any fun x => decide ((x.b : Int) = z)) = fun z => (K z || (l.take k).any fun x => decide ((x.b : Int) = z)) || decide (z = (xb : Int)) := by
              funext z
              rw [AT.out z, Bool.or_assoc]
            rw [e]
            exact hkp5)
          have RA5 := Lib.hid (RA.out.kept hg5 (fun e => by
            have h1 := HP.out.fl _ HM.out.f2
            have := Option.some.inj e
            omega) (fun e => by
            have := Option.some.inj e
            have := HSZ1.out
            omega))
          have B5 := Lib.hid (AL.grown hg5 AL.size (fun k e => by have := Option.some.inj e; omega))
          clear hx hb hkp hrg hkp5 hg5 KA AL
          go_upto_region 7 with fail
          clear d0 d1 d2
          generalize wr.alloc (.cells #[.int .i64 (xb : Int), .int .i64 (xf : Int), .int .i64 (xt : Int)] 75) = W3 at *
          go_wp2_with (at_mapUpdate; go_must (refine wpList_update_runP rfl _ _ _ _ rfl (by rfl) (by rfl) (by rfl) hrun ?_))
          clear hrun X0
          go_wp2_with fail
          go_roundw
          case measure => simp only [intOf]; omega
          case rel => exact ⟨k + 1, by omega, by go_num, NEW.out, RA5.out, B5.out⟩
        · obtain rfl : k = l.length := by omega
          rw [List.take_length] at hkp
          have FIN := Lib.hid (And.intro hrg (And.intro hkp hb))
          clear hrg hkp hb HKP HRG HB
          go_wp2_with fail
          go_roundw
          case rel => exact ⟨_, cnt2, nk + l.length, _, FIN.out.1, FIN.out.2.1, HMK2.out, by omega, FIN.out.2.2⟩
          case measure => rw [FIN.out.1.left_eq, HRL.out]; exact HLT.out

end Go.Proofs.Ytbndknbjjdoanaa
