/-
  shared: the walk. Conditions: numbers in their bounds.
-/
import Derived.Test.YtbndknbjjdoanaaTopSharedPax
namespace Go.Proofs.Ytbndknbjjdoanaa
open Go.RowKit
set_option linter.unusedVariables false

/-- Between two rounds of the copying. -/
def ShI (w2 : World) (h bp : Nat) (P : PoolSt) (mb ms : Nat) (D2 : DataW Unit) (F G : Nat → Prop) (b : BookSt) (n : Nat) (v : Value) (l : List Pt) (k : Nat) (W : World) : Prop :=
  ∃ (bks : List Bk) (D1' : DataW Unit) (F' : Nat → Prop), PB W h bp (P.growAll bks) mb ms (P.growAll bks).bl.length (P.growAll bks).st.length D1' D2 F' G b n ∧ Shr P (l.take k) bks ∧
    W.ownsRow w2.heap.size 75 3 v l.length (ptCells (shareL P (l.take k) 0 ++ l.drop k)) ∧ (∀ k, v.ownBlock = some k → ¬ F' k) ∧ (∀ k, F' k → F k ∨ w2.heap.size ≤ k) ∧ (∀ k, F k → F' k) ∧ Touch F w2 W
theorem share_step {P : PoolSt} {l : List Pt} {k : Nat} {x : Pt} (h : l[k]? = some x) : shareL P (l.take (k + 1)) 0 = shareL P (l.take k) 0 ++ [if pinAt P x then ⟨P.lastB + 1 + pinsN P (l.take k), 0, x.n⟩ else x] := by
  rw [List.take_add_one, h, Option.toList_some, shareL_snoc, Nat.zero_add]
theorem drop_at {α : Type} {l : List α} {k : Nat} {x : α} (h : l[k]? = some x) : l.drop k = x :: l.drop (k + 1) := by
  obtain ⟨hk, e⟩ := List.getElem?_eq_some_iff.1 h
  rw [List.drop_eq_getElem_cons hk, e]
theorem bytes_part {cs : List Int} (h : bytes cs) (f t : Nat) : bytes ((cs.take t).drop f) := fun z hz => h z (List.mem_of_mem_take (List.mem_of_mem_drop hz))
theorem PB.nb {w : World} {h bp : Nat} {P : PoolSt} {mb ms N1 N2 : Nat} {D1 D2 : DataW Unit} {F G : Nat → Prop} {b : BookSt} {n : Nat} (p : PB w h bp P mb ms N1 N2 D1 D2 F G b n) : ∀ q ∈ P.bl, q.1 ≤ P.lastB := fun q hq => (p.pm.nb q hq).2
theorem oct_growAll {P : PoolSt} (hn : ∀ p ∈ P.bl, p.1 ≤ P.lastB) (bks : List Bk) {x : Pt} {y : Bk} (hy : lookN P.bl x.b = some y) : octPt (P.growAll bks).oct x = octPt P.oct x := by
  unfold octPt
  rw [oct_of hy, oct_of (growAll_old bks hn hy)]
theorem PB.turn' {w w' : World} {h bp : Nat} {P P' : PoolSt} {mb ms N1 N2 N1' N2' : Nat} {D1 D2 D1' D2' : DataW Unit} {F F' G : Nat → Prop} {b : BookSt} {n : Nat} (p : PB w h bp P mb ms N1 N2 D1 D2 F G b n) (m : PoolMem w' F' h bp P' mb ms N1' N2' D1' D2') (hd : ∀ k, F' k → ¬ G k) (hl : ∀ k, F' k → k < w'.heap.size) (ht : Touch F w w') (hs : P'.size = P.size) :
    PB w' h bp P' mb ms N1' N2' D1' D2' F' G b n :=
  ⟨m, p.bk.same (fun k hk hk2 => ht.block k hk2 (fun e => p.dis k e hk)), hd, hl, fun k hk => Nat.lt_of_lt_of_le (p.gl k hk) ht.size, by rw [hs]; exact p.acc, p.bud, by rw [hs]; exact p.tot, p.ent, by rw [hs]; exact p.room⟩
theorem tkE_le {P : PoolSt} {n many : Nat} (h : tkE P n many = 0) : P.bl.length + many ≤ 2000 := by
  unfold tkE at h
  split at h
  · cases h
  · omega

set_option maxHeartbeats 4000000 in
set_option maxRecDepth 100000 in
theorem sharedB_any {w : World} {h bp : Nat} {P : PoolSt} {mb ms N1 N2 : Nat} {D1 D2 : DataW Unit} {F G : Nat → Prop} {b : BookSt} (p : PB w h bp P mb ms N1 N2 D1 D2 F G b P.bl.length) (v : Value) (l : List Pt) (hv : ∀ W, Touch G w W → Seg W 3 v l.length (ptCells l)) (hl : l.length ≤ 1000) (ho : PtsOf P l) (hB : P.lastB + 2000 ≤ 1000000000 ∧ P.lastS + 1 ≤ 1000000000) :
    Calls Try.prog 36 #[.pointer (some ⟨h, 0, none⟩), v] w (ShPost h bp P l (fun k => F k ∨ G k) w) := by
  have p := p.tight
  obtain ⟨c0, c1, c2, c3, c4, c5, c6, c7⟩ := p.pm.cells
  have LN := p.pm.m2.len Try.underlying61 3
  rw [p.pm.z2] at LN
  have few := p.pm.few.1
  have hok := ho.ok p.pm hl
  have hM := ho.okM p.pm
  have SG := hv w (Touch.refl _ _)
  have PI := PtIn.of_seg SG
  have LE := Lib.hid (lengthP_any v l w PI hok)
  have LBD := lenP_bd hok.2
  obtain ⟨va, vc, rfl, hle, hcap, hcells⟩ := PI
  have HCL := Lib.hid hcells
  have HV := Lib.hid hv
  have HP := Lib.hid p
  have HO := Lib.hid ho
  have HOK := Lib.hid hok
  have HM := Lib.hid hM
  have HBB := Lib.hid hB
  have hlb : l.length ≤ 1000 := hl
  clear p hv SG hcells ho hok hM hB
  by_cases g1 : P.st.length = 200 ∨ 500 < l.length ∨ 100000 < lenP l
  · have E := Lib.hid (show shE P l = 4 from if_pos g1)
    have FIN : Hid (∀ w', Below w.heap.size w w' → ShPost h bp P l (fun k => F k ∨ G k) w (.returned (.tuple #[.int .i64 0, .int .i64 4])) w') := Lib.hid (fun w' hb => by
      left
      refine ⟨by rw [E.out]; decide, by rw [E.out], _, SP.of (HP.out.same hb), Nxt.of_below hb⟩)
    go_enter Try.func36, Try.ntmps36
    by_cases a1 : P.st.length = 200
    · rw [a1] at LN
      clear g1 LBD
      go_wp2_with fail
      go_ret2
      exact FIN.out _ (Below.refl _ _)
    · have a1' : ((P.st.length : Int) == 200) = false := by simp; omega
      by_cases a2 : 500 < l.length
      · clear g1 LBD
        go_wp2_with fail
        go_ret2
        exact FIN.out _ (Below.refl _ _)
      · have a3 : 100000 < lenP l := by omega
        generalize lenP l = N at *
        clear g1
        go_wp2_with fail
        refine LE.out.mono ?_
        rintro e w2 ⟨rfl, hb2⟩
        go_wp2_with fail
        go_ret2
        exact FIN.out _ hb2
  · have E := Lib.hid (show shE P l = tkE P P.bl.length (pinsN P l) from if_neg g1)
    have a1 : ¬ P.st.length = 200 := fun e => g1 (Or.inl e)
    have a1' : ((P.st.length : Int) == 200) = false := by simp; omega
    have a2 : ¬ 500 < l.length := fun e => g1 (Or.inr (Or.inl e))
    have a3 : ¬ 100000 < lenP l := fun e => g1 (Or.inr (Or.inr e))
    have HA3 := Lib.hid (And.intro a1 (And.intro a2 a3))
    obtain ⟨N, hN⟩ : ∃ N, lenP l = N := ⟨_, rfl⟩
    rw [hN] at LE a3 LBD
    have a3' : N ≤ 100000 := by omega
    clear g1 hN LBD
    go_enter Try.func36, Try.ntmps36
    go_wp2_with fail
    refine LE.out.mono ?_
    rintro e w2 ⟨rfl, hb2⟩
    have HB2 := Lib.hid hb2
    clear hb2 LE LN
    go_wp2_with fail
    go_loopw [6, 31] (fun s6 i wr => ∃ k : Nat, k ≤ l.length ∧ i = .int .i64 (k : Int) ∧ s6 = .int .i64 (pinsN P (l.take k) : Nat) ∧ Below w.heap.size w wr) (fun _ i _ => l.length - (intOf i).toNat)
    case atStart => exact ⟨0, Nat.zero_le _, rfl, rfl, HB2.out⟩
    case round =>
      obtain ⟨k, hk, rfl, rfl, hb⟩ := hrel
      have HB := Lib.hid hb
      by_cases hlt : k < l.length
      · obtain ⟨x, hx⟩ : ∃ x, l[k]? = some x := ⟨_, List.getElem?_eq_getElem hlt⟩
        obtain ⟨bb, oo, rfl, d0, d1, d2⟩ := HCL.out k x hx
        have d0 := old_cell hb d0
        have d1 := old_cell hb d1
        have d2 := old_cell hb d2
        obtain ⟨y, hy, y1, y2⟩ := HO.out x (List.mem_of_getElem? hx)
        have TK := Lib.hid (pinsN_take (P := P) hx)
        have hpa := pinAt_of hy
        have PLE := pinsN_le P (l.take k)
        rw [List.length_take] at PLE
        have hxo := HOK.out.2 x (List.mem_of_getElem? hx)
        obtain ⟨xb, xf, xt⟩ := x
        simp only at d0 d1 d2 hy hxo
        have mA := HP.out.pm.below (hb.alloc hb.size (.cells #[.int .i64 (xb : Int), .int .i64 (xf : Int), .int .i64 (xt : Int)] 75))
        have AL := Lib.hid (HB.out.alloc HB.out.size (.cells #[.int .i64 (xb : Int), .int .i64 (xf : Int), .int .i64 (xt : Int)] 75))
        have LK := fun q => (mA.below (bdrewN (Below.refl _ (wr.alloc (.cells #[.int .i64 (xb : Int), .int .i64 (xf : Int), .int .i64 (xt : Int)] 75))) q)).block hy (by omega)
        have f6 := mA.cells.2.2.2.2.2.2.1
        have e2 : (wr.alloc (.cells #[.int .i64 (xb : Int), .int .i64 (xf : Int), .int .i64 (xt : Int)] 75)).cell? ⟨y.a, 2, none⟩ = some (.bool y.pin) := by rw [cell_of (mA.blkOf hy).1]; rfl
        have X0 : (wr.alloc (.cells #[.int .i64 (xb : Int), .int .i64 (xf : Int), .int .i64 (xt : Int)] 75)).cell? ⟨wr.heap.size, 0, none⟩ = some (.int .i64 (xb : Int)) := by rw [cell_of (heap_alloc_new wr _)]; rfl
        obtain ⟨cn, hcn⟩ : ∃ cn, pinsN P (l.take k) = cn := ⟨_, rfl⟩
        rw [hcn] at TK PLE ⊢
        have PLE2 : cn ≤ 1000 := by omega
        clear hb hx mA hy y1 y2 hcn PLE
        go_upto_region 7 with fail
        clear d0 d1 d2
        generalize wr.alloc (.cells #[.int .i64 (xb : Int), .int .i64 (xf : Int), .int .i64 (xt : Int)] 75) = W3 at *
        generalize hbx : wr.heap.size = bx at *
        cases hpin : y.pin with
        | true =>
          rw [hpin] at e2 hpa
          have TK2 := Lib.hid (show pinsN P (l.take (k + 1)) = cn + 1 by have := TK.out; rw [hpa, if_pos rfl] at this; exact this)
          clear hpin hpa TK
          go_quiet (fail)
          go_wp2_with fail
          go_roundw
          case measure => simp only [intOf]; omega
          case rel => exact ⟨k + 1, by omega, by go_num, by rw [TK2.out]; go_num, bdrewN AL.out _⟩
        | false =>
          rw [hpin] at e2 hpa
          have TK2 := Lib.hid (show pinsN P (l.take (k + 1)) = cn by have := TK.out; rw [hpa, if_neg (by simp)] at this; exact this)
          clear hpin hpa TK
          go_quiet (fail)
          go_wp2_with fail
          go_roundw
          case measure => simp only [intOf]; omega
          case rel => exact ⟨k + 1, by omega, by go_num, by rw [TK2.out], bdrewN AL.out _⟩
      · obtain rfl : k = l.length := by omega
        rw [List.take_length]
        have PLE := pinsN_le P l
        have PB1 := HP.out.same hb
        have TKP := Lib.hid (takeP_any PB1 (pinsN P l) (by omega))
        obtain ⟨cn, hcn⟩ : ∃ cn, pinsN P l = cn := ⟨_, rfl⟩
        have HCN := Lib.hid hcn
        rw [hcn] at TKP PLE E ⊢
        clear hb hcn PB1
        obtain ⟨Wb, rfl⟩ : ∃ x, x = wr := ⟨_, rfl⟩
        go_wp2_with fail
        refine TKP.out.mono ?_
        rintro e w5 ⟨rfl, G', b', hp5, hG5, ht5⟩
        by_cases ht0 : tkE P P.bl.length cn = 0
        · rw [if_pos ht0] at hp5
          rw [ht0] at E ⊢
          have SG5 := HV.out w5 ((Touch.of_below HB.out).then ht5)
          have CL := Lib.hid (clone_part _ _ _ w5 SG5 (by omega))
          have HP5 := Lib.hid hp5
          have HT5 := Lib.hid (And.intro hG5 ht5)
          have HT0 := Lib.hid ht0
          clear hp5 hG5 ht5 ht0 TKP SG5
          go_wp2_with fail
          refine CL.out.mono ?_
          rintro e w6 ⟨v6, rfl, hr6, hb6⟩
          obtain ⟨a9, c9, rfl⟩ := wrow_sh hr6
          have hs6 : w5.heap.size ≤ w6.heap.size := hb6.size
          have P6 := HP5.out.same hb6
          have START : Hid (ShI w5 h bp P mb ms D2 F G' b' (P.bl.length + cn) (.slice a9 l.length c9) l 0 w6) := Lib.hid ⟨[], D1, F, P6, Shr.nil P, by simpa [shareL] using hr6, fun k hk hF => by
            have h1 := (hr6.lt k hk).1
            have h2 := HP5.out.fl k hF
            omega, fun k hk => Or.inl hk, fun k hk => hk, Touch.of_below hb6⟩
          clear hr6 hb6 P6 CL
          go_wp2_with fail
          go_loopw [58] (fun i wr => ∃ k : Nat, k ≤ l.length ∧ i = .int .i64 (k : Int) ∧ ShI w5 h bp P mb ms D2 F G' b' (P.bl.length + cn) (.slice a9 l.length c9) l k wr) (fun i _ => l.length - (intOf i).toNat)
          case atStart => exact ⟨0, Nat.zero_le _, rfl, START.out⟩
          case round =>
            obtain ⟨k, hk, rfl, bks, D1', F', hp, hsh, hrow, hap, hF', hFF, htt⟩ := hrel
            have HPK := Lib.hid hp
            have HSH := Lib.hid hsh
            have HROW := Lib.hid hrow
            have HAP := Lib.hid (And.intro hap (And.intro hF' (And.intro hFF htt)))
            clear hsh hap hF' hFF htt
            by_cases hlt : k < l.length
            · obtain ⟨x, hx⟩ : ∃ x, l[k]? = some x := ⟨_, List.getElem?_eq_getElem hlt⟩
              have hget : (shareL P (l.take k) 0 ++ l.drop k)[k]? = some x := by
                have e : (shareL P (l.take k) 0).length = k := by rw [shareL_len, List.length_take]; omega
                rw [List.getElem?_append_right (by omega), e, Nat.sub_self, drop_at hx]
                rfl
              have hll : (shareL P (l.take k) 0 ++ l.drop k).length = l.length := by rw [List.length_append, shareL_len, List.length_take, List.length_drop]; omega
              obtain ⟨q1, q2, q3⟩ := ptCells_get _ k x hget
              obtain ⟨g9, rfl, d0, z0⟩ := wrow_cell hrow q1
              obtain ⟨g', hg', d1, z1⟩ := wrow_cell hrow q2
              obtain ⟨g2, hg2, d2, z2⟩ := wrow_cell hrow q3
              simp only [Option.some.injEq, Addr.mk.injEq, and_true] at hg' hg2
              subst hg'
              subst hg2
              obtain ⟨y, hy, y1, y2⟩ := HO.out x (List.mem_of_getElem? hx)
              have hpa := pinAt_of hy
              have hxo := HOK.out.2 x (List.mem_of_getElem? hx)
              have hy2 := growAll_old bks HP.out.nb hy
              have HX := Lib.hid hx
              have HY := Lib.hid (And.intro hy (And.intro hy2 (And.intro y1 y2)))
              obtain ⟨xb, xf, xt⟩ := x
              simp only at d0 d1 d2 hy hxo hy2
              have AL : Below wr.heap.size wr (wr.alloc (.cells #[.int .i64 (xb : Int), .int .i64 (xf : Int), .int .i64 (xt : Int)] 75)) := (Below.refl _ wr).alloc (Nat.le_refl _) _
              have mA := HPK.out.pm.below AL
              have HAL := Lib.hid AL
              have LK := fun q => (mA.below (bdrewN (Below.refl _ (wr.alloc (.cells #[.int .i64 (xb : Int), .int .i64 (xf : Int), .int .i64 (xt : Int)] 75))) q)).block hy2 (by omega)
              have f6 := mA.cells.2.2.2.2.2.2.1
              have e2 : (wr.alloc (.cells #[.int .i64 (xb : Int), .int .i64 (xf : Int), .int .i64 (xt : Int)] 75)).cell? ⟨y.a, 2, none⟩ = some (.bool y.pin) := by rw [cell_of (mA.blkOf hy2).1]; rfl
              have BX := Lib.hid (heap_alloc_new wr (.cells #[.int .i64 (xb : Int), .int .i64 (xf : Int), .int .i64 (xt : Int)] 75))
              have X0 : (wr.alloc (.cells #[.int .i64 (xb : Int), .int .i64 (xf : Int), .int .i64 (xt : Int)] 75)).cell? ⟨wr.heap.size, 0, none⟩ = some (.int .i64 (xb : Int)) := by rw [cell_of (heap_alloc_new wr _)]; rfl
              have X1 : (wr.alloc (.cells #[.int .i64 (xb : Int), .int .i64 (xf : Int), .int .i64 (xt : Int)] 75)).cell? ⟨wr.heap.size, 1, none⟩ = some (.int .i64 (xf : Int)) := by rw [cell_of (heap_alloc_new wr _)]; rfl
              have X2 : (wr.alloc (.cells #[.int .i64 (xb : Int), .int .i64 (xf : Int), .int .i64 (xt : Int)] 75)).cell? ⟨wr.heap.size, 2, none⟩ = some (.int .i64 (xt : Int)) := by rw [cell_of (heap_alloc_new wr _)]; rfl
              have HGET := Lib.hid hget
              clear hp hrow hx mA AL hy hy2 y1 y2 hget hll q1 q2 q3 z0 z1 z2
              go_upto_region 17 with fail
              clear d0 d1 d2
              generalize wr.alloc (.cells #[.int .i64 (xb : Int), .int .i64 (xf : Int), .int .i64 (xt : Int)] 75) = W3 at *
              generalize hbx : wr.heap.size = bx at *
              cases hpin : y.pin with
              | false =>
                rw [hpin] at e2 hpa
                have FIN : Hid (∀ q, ShI w5 h bp P mb ms D2 F G' b' (P.bl.length + cn) (.slice (some ⟨g9, 0, none⟩) l.length c9) l (k + 1) (W3.drewN q)) := Lib.hid (fun q => by
                  have bq := bdrewN HAL.out q
                  rw [← hbx] at bq
                  refine ⟨bks, D1', F', HPK.out.same bq, HSH.out.skip HX.out hpa, ?_, HAP.out.1, HAP.out.2.1, HAP.out.2.2.1, HAP.out.2.2.2.then (Touch.of_below bq)⟩
                  have e : shareL P (l.take (k + 1)) 0 ++ l.drop (k + 1) = shareL P (l.take k) 0 ++ l.drop k := by
                    rw [share_step HX.out, hpa, if_neg (by simp), drop_at HX.out, List.append_assoc]
                    rfl
                  rw [e]
                  exact row_kept HROW.out bq)
                clear hpin hpa
                go_quiet (fail)
                go_wp2_with fail
                go_roundw
                case measure => simp only [intOf]; omega
                case rel => exact ⟨k + 1, by omega, by go_num, FIN.out _⟩
              | true =>
                rw [hpin] at e2 hpa
                have HPA := Lib.hid hpa
                clear hpin hpa
                go_quiet (fail)
                have bq := bdrewN HAL.out nq
                rw [← hbx] at bq
                have PQ := HPK.out.same bq
                have OC := Lib.hid (octets_any PQ.pm ⟨xb, xf, xt⟩ y HY.out.2.1 HY.out.2.2.1 HY.out.2.2.2)
                have HBQ := Lib.hid bq
                clear PQ bq
                go_wp2_with fail
                refine OC.out.mono ?_
                rintro e w7 ⟨⟨a7, rfl, ha7⟩, hb7⟩
                have B7 := Lib.hid (HBQ.out.trans (hb7.mono HBQ.out.size))
                have P7 := Lib.hid (HPK.out.same B7.out)
                have R7 := oc_reads P7.out.pm HY.out.2.1 HY.out.2.2.1 HY.out.2.2.2 ha7
                have hos := oct_growAll (x := ⟨xb, xf, xt⟩) HP.out.nb bks HY.out.1
                rw [hos] at R7
                have hlen : (octPt P.oct ⟨xb, xf, xt⟩).length = Pt.n ⟨xb, xf, xt⟩ := octPt_len (HM.out _ (List.mem_of_getElem? HX.out))
                have hnn : Pt.n ⟨xb, xf, xt⟩ = xt - xf := rfl
                have hyb := HP.out.pm.blkOf HY.out.1
                have hyu := hyb.2.2.2.2.2.2.1
                have hbks := HSH.out.1
                have hpk := pinsN_take (P := P) HX.out
                rw [HPA.out, if_pos rfl] at hpk
                have hpk2 := pinsN_take_le P l (k + 1)
                have htk := tkE_le HT0.out
                have hcn := HCN.out
                have hus : xt ≤ y.used := HY.out.2.2.2
                have FR := Lib.hid (fresh_any P7.out.pm a7 (Pt.n ⟨xb, xf, xt⟩) (Pt.n ⟨xb, xf, xt⟩) (octPt P.oct ⟨xb, xf, xt⟩) R7 hlen (by rw [growAll_size]; omega) (by unfold octPt; rw [oct_of HY.out.1]; exact bytes_part hyb.2.2.2.1 _ _) P7.out.fl (by rw [growAll_bl]; omega) (by rw [growAll_lastB]; have := HBB.out.1; omega) (by rw [growAll_bl]; omega))
                have HLB := Lib.hid (show (P.growAll bks).lastB + 1 = P.lastB + 1 + pinsN P (l.take k) by rw [growAll_lastB, hbks]; omega)
                have HLEN := Lib.hid hlen
                clear ha7 hb7 R7 hos hlen hyb hyu hbks hpk hpk2 htk hcn hus
                obtain ⟨xn, hxn⟩ : ∃ xn, Pt.n ⟨xb, xf, xt⟩ = xn := ⟨_, rfl⟩
                have HXN := Lib.hid hxn
                rw [hxn] at FR HLEN ⊢
                clear hxn hnn
                go_wp2_with fail
                refine FR.out.mono ?_
                rintro e w8 hfr
                obtain ⟨he8, a8, g8, D8, p8, na, ng, t8⟩ := P7.out.fresh hfr
                subst he8
                have ROW8 := ownsRow_same HROW.out (w' := w8) (fun j hj => (t8.block j (Nat.lt_of_lt_of_le (HROW.out.lt j hj).2 B7.out.size) (by
                  have hf := HAP.out.1 j hj
                  rintro (e | e)
                  · exact hf (e ▸ HPK.out.pm.fh)
                  · exact hf (e ▸ HPK.out.pm.f1))).trans (B7.out.block j (HROW.out.lt j hj).2))
                obtain ⟨q1, q2, q3⟩ := ptCells_get _ k _ HGET.out
                obtain ⟨g', hg', d0, z0⟩ := wrow_cell ROW8 q1
                obtain ⟨g2, hg2, d1, z1⟩ := wrow_cell ROW8 q2
                obtain ⟨g3, hg3, d2, z2⟩ := wrow_cell ROW8 q3
                simp only [Option.some.injEq, Addr.mk.injEq, and_true] at hg' hg2 hg3
                subst hg'
                subst hg2
                subst hg3
                rw [HLB.out, HLEN.out]
                obtain ⟨nb, hnb⟩ : ∃ nb, P.lastB + 1 + pinsN P (l.take k) = nb := ⟨_, rfl⟩
                rw [hnb]
                have SET := wrow_set (wrow_set (wrow_set ROW8 (k * 3) (.int .i64 (nb : Int))) (k * 3 + 1) (.int .i64 0)) (k * 3 + 2) (.int .i64 (xn : Int))
                have kl : (shareL P (l.take k) 0).length = k := by rw [shareL_len, List.length_take]; omega
                have e9 : (shareL P (l.take (k + 1)) 0 ++ l.drop (k + 1)) = shareL P (l.take k) 0 ++ (⟨nb, 0, xn⟩ : Pt) :: l.drop (k + 1) := by
                  rw [share_step HX.out, HPA.out, if_pos rfl, hnb, HXN.out, List.append_assoc]
                  rfl
                have eSet := ptCells_set (shareL P (l.take k) 0) (l.drop (k + 1)) ⟨xb, xf, xt⟩ (⟨nb, 0, xn⟩ : Pt)
                rw [kl, ← drop_at HX.out, ← e9] at eSet
                have SET2 : ((((w8.setCell ⟨g9, k * 3, none⟩ (.int .i64 (nb : Int))).setCell ⟨g9, k * 3 + 1, none⟩ (.int .i64 0)).setCell ⟨g9, k * 3 + 2, none⟩ (.int .i64 (xn : Int)))).ownsRow w5.heap.size 75 3 (.slice (some ⟨g9, 0, none⟩) l.length c9) l.length (ptCells (shareL P (l.take (k + 1)) 0 ++ l.drop (k + 1))) := by
                  rw [← eSet]
                  exact SET
                have lt9 := HROW.out.lt g9 rfl
                have hg9 := HAP.out.1 g9 rfl
                have off : ∀ j, j ≠ g9 → (((w8.setCell ⟨g9, k * 3, none⟩ (.int .i64 (nb : Int))).setCell ⟨g9, k * 3 + 1, none⟩ (.int .i64 0)).setCell ⟨g9, k * 3 + 2, none⟩ (.int .i64 (xn : Int))).heap[j]? = w8.heap[j]? := fun j hj => (Below.heap_setCell _ _ _ _ hj).trans ((Below.heap_setCell _ _ _ _ hj).trans (Below.heap_setCell _ _ _ _ hj))
                have s7 := B7.out.size
                have FIN : Hid (ShI w5 h bp P mb ms D2 F G' b' (P.bl.length + cn) (.slice (some ⟨g9, 0, none⟩) l.length c9) l (k + 1) (((w8.setCell ⟨g9, k * 3, none⟩ (.int .i64 (nb : Int))).setCell ⟨g9, k * 3 + 1, none⟩ (.int .i64 0)).setCell ⟨g9, k * 3 + 2, none⟩ (.int .i64 (xn : Int)))) := Lib.hid (by
                  rw [growAll_size, ← growAll_snoc] at p8
                  have p9 := p8.tight.far (w' := (((w8.setCell ⟨g9, k * 3, none⟩ (.int .i64 (nb : Int))).setCell ⟨g9, k * 3 + 1, none⟩ (.int .i64 0)).setCell ⟨g9, k * 3 + 2, none⟩ (.int .i64 (xn : Int)))) (fun j hj _ => off j (by
                    rintro rfl
                    rcases hj with (hj | rfl | rfl) | hj
                    · exact hg9 hj
                    · omega
                    · omega
                    · have := HP5.out.gl _ hj; omega)) (by simp [World.setCell])
                  refine ⟨_, D8, _, p9, HSH.out.snoc HX.out HPA.out a8 g8, SET2, fun j hj => ?_, fun j hj => ?_, fun j hj => Or.inl (HAP.out.2.2.1 j hj), ?_⟩
                  · obtain rfl : g9 = j := by cases hj; rfl
                    rintro (hx | rfl | rfl)
                    · exact hg9 hx
                    · omega
                    · omega
                  · have := HAP.out.2.2.2.size
                    rcases hj with hj | rfl | rfl
                    · exact HAP.out.2.1 j hj
                    · right; omega
                    · right; omega
                  · have T := (HAP.out.2.2.2.then (Touch.of_below B7.out)).then (t8.mono (fun j hj => by rcases hj with rfl | rfl; exact HP5.out.pm.fh; exact HP5.out.pm.f1))
                    exact ((T.setCell (p := ⟨g9, k * 3, none⟩) (Or.inr lt9.1) _).setCell (p := ⟨g9, k * 3 + 1, none⟩) (Or.inr lt9.1) _).setCell (p := ⟨g9, k * 3 + 2, none⟩) (Or.inr lt9.1) _)
                clear hfr p8 na ng t8 ROW8 q1 q2 q3 SET kl e9 eSet SET2 lt9 hg9 off s7 hnb FR OC
                go_wp2_with fail
                go_roundw
                case measure => simp only [intOf]; omega
                case rel => exact ⟨k + 1, by omega, by go_num, FIN.out⟩
            · obtain rfl : k = l.length := by omega
              have ROW := HROW.out
              rw [List.take_length, List.drop_length, List.append_nil] at ROW
              have SHA := HSH.out
              rw [List.take_length] at SHA
              obtain ⟨z1, z2⟩ := Shr.at (L := []) HP.out.nb (bks := bks) (l := l) 0 HO.out (fun i x y h1 h2 => SHA.2 i x y h1 (by rw [← h2, Nat.zero_add])) (by have := SHA.1; omega) HM.out
              obtain ⟨o9, ho9⟩ := row_of ROW
              have hll : (shareL P l 0).length = l.length := shareL_len P l 0
              have hst : (P.growAll bks).st.length = P.st.length := by rw [growAll_st]
              have hR0 := row_low ROW (Nat.zero_le _)
              rw [ho9, ← hll] at hR0
              have fewS := HP.out.pm.few.1
              have AD := Lib.hid (fun W (hW : Below wr.heap.size wr W) => added_any (HPK.out.pm.below hW) o9 (shareL P l 0) (row_kept hR0 hW) z1 (by rw [hll, lenP_share]; exact ⟨by have := HA3.out.2.1; omega, by have := HA3.out.2.2; omega⟩) (by rw [hst]; have := HA3.out.1; omega) (by rw [growAll_lastS]; have := HBB.out.2; omega) (by rw [hst]; omega))
              have AD2 := Lib.hid (AD.out wr (Below.refl _ _))
              have HO9 := Lib.hid ho9
              rw [← ho9] at AD2
              have HSHA := Lib.hid SHA
              have HRW := Lib.hid ROW
              clear ROW SHA z1 z2 hll hst hR0 fewS ho9 hp AD HROW HSH
              obtain ⟨We, rfl⟩ : ∃ x, x = wr := ⟨_, rfl⟩
              go_wp2_with fail
              refine AD2.out.mono ?_
              rintro e w9 ⟨rfl, ⟨D29, m9⟩, t9⟩
              have FIN : Hid (ShPost h bp P l (fun k => F k ∨ G k) w (.returned (.tuple #[.int .i64 ((P.lastS + 1 : Nat) : Int), .int .i64 0])) w9) := Lib.hid (by
                right
                have hE : shE P l = 0 := E.out
                have own9 : ∀ j, (Value.slice a9 l.length c9).ownBlock = some j → w5.heap.size ≤ j ∧ j < We.heap.size ∧ ¬ F' j := fun j hj => by
                  exact ⟨(HRW.out.lt j hj).1, (HRW.out.lt j hj).2, HAP.out.1 j hj⟩
                have s9 := t9.size
                have sk := HAP.out.2.2.2.size
                have s5 := HT5.out.2.size
                have sb := HB.out.size
                have p9 := HPK.out.turn' m9 (fun j hj => by
                  rcases hj with hj | hj
                  · exact HPK.out.dis j hj
                  · intro hg
                    have h1 := own9 j hj
                    have h2 := HP5.out.gl j hg
                    omega) (fun j hj => by
                  rcases hj with hj | hj
                  · exact Nat.lt_of_lt_of_le (HPK.out.fl j hj) s9
                  · have h1 := own9 j hj
                    omega) t9 rfl
                refine ⟨hE, rfl, bks, o9, _, HSHA.out, by rw [HCN.out]; exact SP.of p9, fun j hj => ?_, ?_⟩
                · rcases hj with (hj | hj) | hj
                  · rcases HAP.out.2.1 j hj with hj | hj
                    · exact Or.inl (Or.inl hj)
                    · right; omega
                  · have h1 := own9 j hj
                    right; omega
                  · rcases HT5.out.1 j hj with hj | hj
                    · exact Or.inl (Or.inr hj)
                    · right; omega
                · have T1 : Touch (fun k => F k ∨ G k) w w5 := (Touch.of_below HB.out).then (HT5.out.2.mono (fun k hk => Or.inr hk))
                  have T2 := T1.then (HAP.out.2.2.2.mono (fun k hk => Or.inl hk))
                  refine T2.trans t9 (fun j hj => ?_)
                  rcases HAP.out.2.1 j hj with hj | hj
                  · exact Or.inl (Or.inl hj)
                  · right; omega)
              have els : ((P.growAll bks).lastS + 1 : Nat) = P.lastS + 1 := by rw [growAll_lastS]
              rw [els]
              clear m9 t9 els AD2
              go_wp2_with fail
              go_ret2
              exact FIN.out
        · have FIN : Hid (ShPost h bp P l (fun k => F k ∨ G k) w (.returned (.tuple #[.int .i64 0, .int .i64 (tkE P P.bl.length cn)])) w5) := Lib.hid (by
            rw [if_neg ht0] at hp5
            left
            refine ⟨by rw [E.out]; exact ht0, by rw [E.out], _, SP.of hp5, fun k hk => ?_, (Touch.of_below HB.out).then (ht5.mono (fun k hk => Or.inr hk))⟩
            rcases hk with hk | hk
            · exact Or.inl (Or.inl hk)
            · rcases hG5 k hk with hk | hk
              · exact Or.inl (Or.inr hk)
              · have := HB.out.size
                right; omega)
          generalize tkE P P.bl.length cn = ee at *
          have hne : (ee == 0) = false := by simp; exact ht0
          clear hp5 hG5 ht5 TKP
          go_wp2_with fail
          go_ret2
          exact FIN.out

end Go.Proofs.Ytbndknbjjdoanaa
