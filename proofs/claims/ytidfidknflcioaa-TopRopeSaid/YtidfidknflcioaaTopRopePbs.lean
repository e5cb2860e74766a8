/-
  Trim of a rope. Conditions: numbers in their bounds.
-/
import Derived.Test.YtidfidknflcioaaTopRopePbr
namespace Go.Proofs.Ytidfidknflcioaa
open Go.RowKit
set_option linter.unusedVariables false

theorem trimS_ok {p : RPar} {l : List Sz} (hp : POk p) (h : SzOk l) (hle : ∀ q ∈ l, q.1 ≤ q.2) : SzOk (trimS p l) := by
  refine ⟨by unfold trimS; rw [List.length_map]; exact h.1, fun q hq => ?_⟩
  obtain ⟨y, hy, rfl⟩ := List.mem_map.1 hq
  have h1 := h.2 y hy
  have h2 := hp.sh h1.2 (hle y hy)
  exact ⟨h1.1, by have := h2.2.2.2; show p.sh y.2 y.1 ≤ 100000; omega⟩
theorem trimS_tot (p : RPar) (l : List Sz) : (totS (trimS p l)).1 = (totS l).1 := by
  unfold trimS totS
  simp only [List.map_map]
  rfl
/-- What Trim gives. -/
def trmE (p : RPar) (l : List Sz) : Int := askE (roomS l) (roomS (trimS p l))
def trmN (p : RPar) (l : List Sz) : Int := if trmE p l = 0 then (roomS l : Int) - roomS (trimS p l) else 0
def TrimPost (r : RS) (w : World) : Ending → World → Prop := fun e w' =>
  e = .returned (.tuple #[.int .i64 (trmN r.I.p r.sz), .int .i64 (trmE r.I.p r.sz)]) ∧ ∃ r' : RS, r'.I = r.I ∧ r'.At w' ∧ r'.lc = (if trmE r.I.p r.sz = 0 then trimC r.I.p r.lc else r.lc) ∧ (∀ k, r'.T k → r.T k ∨ w.heap.size ≤ k) ∧ Touch r.T w w'

set_option maxHeartbeats 4000000 in
set_option maxRecDepth 100000 in
theorem trim_rs (r : RS) (w : World) (h : r.At w) : Calls Try.prog 18 #[.pointer (some ⟨r.I.r, 0, none⟩)] w (TrimPost r w) := by
  obtain ⟨i0, hi0, hz0, hz1, hz2⟩ := info_parts infoLeaf
  have H := Lib.hid h
  have h60 : r.L.length ≤ 60000 := by have := h.len; omega
  have c6 := h.rm.cells.2.2.2.2.2.2.1
  have SZ := Lib.hid (sizes_any r.I r.L r.lv r.F w h.rm h60)
  have SL : ∀ q ∈ r.sz, q.1 ≤ q.2 := by
    intro q hq
    obtain ⟨x, hx, rfl⟩ := List.mem_map.1 hq
    exact (h.rm.mem x hx).2.1.1
  have HSL := Lib.hid SL
  have HSO := Lib.hid (show SzOk r.sz from h.szok)
  have hlen : r.sz.length = r.L.length := List.length_map _
  have HPO := Lib.hid h.pok
  clear h SL
  go_enter Try.func18, Try.ntmps18
  go_wp2_with fail
  refine SZ.out.mono ?_
  rintro e w1 ⟨v1, rfl, hrow1, hb1⟩
  have hrow1 : w1.ownsRow w.heap.size 39 2 v1 r.sz.length (szCells r.sz) := hrow1
  have B1 := Lib.hid hb1
  obtain ⟨l, hl⟩ : ∃ l, r.sz = l := ⟨_, rfl⟩
  rw [hl] at hrow1 hlen HSL HSO
  have HL := Lib.hid hl
  obtain ⟨a1, c1, rfl⟩ := wrow_sh hrow1
  have R1 := Lib.hid hrow1
  have hl6 : l.length ≤ 60000 := by omega
  have HLEN := Lib.hid hlen
  clear hb1 SZ c6 hl hrow1 hlen
  go_wp2_with fail
  go_loopw [19] (fun i wr => ∃ k : Nat, k ≤ l.length ∧ i = .int .i64 (k : Int) ∧ Below w.heap.size w wr ∧ wr.ownsRow w.heap.size 39 2 (.slice a1 l.length c1) l.length (szCells (trimS r.I.p (l.take k) ++ l.drop k))) (fun i _ => l.length - (intOf i).toNat)
  case atStart => exact ⟨0, Nat.zero_le _, rfl, B1.out, R1.out⟩
  case round =>
    obtain ⟨k, hk, rfl, hb, hrow⟩ := hrel
    have HB := Lib.hid hb
    have HR := Lib.hid hrow
    by_cases hlt : k < l.length
    · obtain ⟨q, hq⟩ : ∃ q, l[k]? = some q := ⟨_, List.getElem?_eq_getElem hlt⟩
      have hqt : (trimS r.I.p (l.take k) ++ l.drop k)[k]? = some q := by
        have h1 : (trimS r.I.p (l.take k)).length = k := by unfold trimS; rw [List.length_map, List.length_take]; omega
        rw [List.getElem?_append_right (by omega), h1, Nat.sub_self, List.getElem?_drop, Nat.add_zero]
        exact hq
      obtain ⟨u0, u1⟩ := szCells_get _ k q hqt
      obtain ⟨g, rfl, d0, _⟩ := wrow_cell hrow u0
      obtain ⟨g', e', d1, f1⟩ := wrow_cell hrow u1
      simp only [Option.some.injEq, Addr.mk.injEq, and_true] at e'
      subst e'
      have hq1 := HSO.out.2 q (List.mem_of_getElem? hq)
      have hq2 := HSL.out q (List.mem_of_getElem? hq)
      obtain ⟨s1, s2, s3, s4⟩ := HPO.out.sh hq1.2 hq2
      have HQ := Lib.hid hq
      obtain ⟨qn, qc⟩ := q
      simp only at d0 d1 s1 s2 s3 s4 hq1 hq2 u0 u1
      have SH := Lib.hid (fun W => shrink_any r.I.p.k r.I.p.s r.I.p.m qc qn W)
      rw [s1, s2] at SH
      obtain ⟨R, hR⟩ : ∃ R, r.I.p.sh qc qn = R := ⟨_, rfl⟩
      rw [hR] at SH s3 s4
      have HRR := Lib.hid hR
      have BX := (Below.refl wr.heap.size wr).alloc (Nat.le_refl _) (.cells #[.int .i64 (qn : Int), .int .i64 (qc : Int)] 39)
      have X0 : (wr.alloc (.cells #[.int .i64 (qn : Int), .int .i64 (qc : Int)] 39)).cell? ⟨wr.heap.size, 0, none⟩ = some (.int .i64 (qn : Int)) := by rw [cell_of (heap_alloc_new wr _)]; rfl
      have X1 : (wr.alloc (.cells #[.int .i64 (qn : Int), .int .i64 (qc : Int)] 39)).cell? ⟨wr.heap.size, 1, none⟩ = some (.int .i64 (qc : Int)) := by rw [cell_of (heap_alloc_new wr _)]; rfl
      have HBX := Lib.hid BX
      clear hqt u0 u1 s1 s2 hR hb hrow BX hq
      go_upto_region 7 with fail
      have RMW := (H.out.rm.below HB.out).below HBX.out
      obtain ⟨c0, c1', c2, c3, c4, c5, c6, c7, c8⟩ := RMW.cells
      have RW := Lib.hid (row_kept HR.out HBX.out)
      have HBW := Lib.hid (HB.out.trans (HBX.out.mono HB.out.size))
      generalize wr.alloc (.cells #[.int .i64 (qn : Int), .int .i64 (qc : Int)] 39) = W1 at *
      generalize wr.heap.size = bx at *
      clear d0 d1 f1 c0 c1' c5 c6 c7 c8 RMW
      have S0 : BelS W1 W1.drew := (Below.refl _ W1).drew
      have s2 : ∀ y : WIn (BelS W1), y.w.cell? ⟨r.I.r, 2, none⟩ = some (.int .i64 r.I.p.k) := fun y => old_cell y.h c2
      have s3' : ∀ y : WIn (BelS W1), y.w.cell? ⟨r.I.r, 3, none⟩ = some (.int .i64 r.I.p.s) := fun y => old_cell y.h c3
      have s4' : ∀ y : WIn (BelS W1), y.w.cell? ⟨r.I.r, 4, none⟩ = some (.int .i64 r.I.p.m) := fun y => old_cell y.h c4
      have s5 : ∀ y : WIn (BelS W1), y.w.cell? ⟨bx, 0, none⟩ = some (.int .i64 (qn : Int)) := fun y => old_cell y.h X0
      have s6 : ∀ y : WIn (BelS W1), y.w.cell? ⟨bx, 1, none⟩ = some (.int .i64 (qc : Int)) := fun y => old_cell y.h X1
      haveI ne : Nonempty (WIn (BelS W1)) := ⟨⟨W1.drew, S0⟩⟩
      refine wp_normal ?_
      refine wp_region_plan 16 (BelS W1) rfl ?_
      refine wpN_segX (List.range 10 ++ [10, 11, 12, 14, 15, 16]) (List.range 10) (by kernel_rfl) (by kernel_rfl) (by kernel_rfl) (by kernel_rfl) (by decide) (fun _ _ _ _ _ h => h) S0 ?_
      rw [show List.range 10 = [0, 1, 2, 3, 4, 5, 6, 7, 8, 9] from rfl]
      simp only [pick, List.map_cons, List.map_nil, List.getElem?_cons_succ, List.getElem?_cons_zero, Option.getD_some]
      repeat (go_big_quiet_step (fail))
      refine wpQuiet_nil ?_
      clear s2 s3' s4' s5 s6 ne
      refine wpN_one 10 _ (by kernel_rfl) rfl ?_
      refine NextAt.held ?_
      intro K' hK'
      go_simp
      refine (SH.out _).mono ?_
      rintro e w5 ⟨rfl, hb5⟩
      have T5 : BelS W1 w5 := S0.trans (hb5.mono (by simp))
      have HT5 := Lib.hid (show Below W1.heap.size W1 w5 from T5)
      clear hb5 SH S0
      go_simp
      refine hK' _ _ T5 ?_
      clear hK' K'
      refine wpN_pure [11, 12, 13, 14, 15] (by kernel_rfl) (by kernel_rfl) (by kernel_rfl) (fun _ _ _ _ _ h => h) (fun _ => T5) ?_
      simp only [pick, List.map_cons, List.map_nil, List.getElem?_cons_succ, List.getElem?_cons_zero, Option.getD_some]
      repeat (go_big_quiet_step (fail))
      refine wpQuiet_nil ?_
      clear T5
      have RW5 := row_kept RW.out HT5.out
      obtain ⟨u0, u1⟩ := szCells_get _ k (qn, qc) (show (trimS r.I.p (l.take k) ++ l.drop k)[k]? = some (qn, qc) by
        have h1 : (trimS r.I.p (l.take k)).length = k := by unfold trimS; rw [List.length_map, List.length_take]; omega
        rw [List.getElem?_append_right (by omega), h1, Nat.sub_self, List.getElem?_drop, Nat.add_zero]
        exact HQ.out)
      obtain ⟨g', e', d1, f1⟩ := wrow_cell RW5 u1
      simp only [Option.some.injEq, Addr.mk.injEq, and_true] at e'
      subst e'
      have NEW := wrow_set RW5 (k * 2 + 1) (.int .i64 (R : Int))
      have hset : (szCells (trimS r.I.p (l.take k) ++ l.drop k)).set (k * 2 + 1) (.int .i64 (R : Int)) = szCells (trimS r.I.p (l.take (k + 1)) ++ l.drop (k + 1)) := by
        have h1 : (szCells (trimS r.I.p (l.take k))).length = k * 2 := by rw [szCells_len]; unfold trimS; rw [List.length_map, List.length_take]; congr 1; omega
        have h2 : l.drop k = (qn, qc) :: l.drop (k + 1) := by
          rw [List.drop_eq_getElem_cons hlt]
          congr 1
          exact (List.getElem?_eq_some_iff.1 HQ.out).2
        have h3 : trimS r.I.p (l.take (k + 1)) = trimS r.I.p (l.take k) ++ [(qn, R)] := by
          unfold trimS
          rw [List.take_add_one, HQ.out, List.map_append]
          simp [HRR.out]
        rw [h2, h3, szCells_app, List.set_append_right _ _ (by omega), h1, szCells_app, szCells_app, List.append_assoc, show k * 2 + 1 - k * 2 = 1 by omega]
        rfl
      rw [hset] at NEW
      have hgb : w.heap.size ≤ g := (RW5.lt g rfl).1
      have FIN : Hid (Below w.heap.size w (w5.setCell ⟨g, k * 2 + 1, none⟩ (.int .i64 (R : Int))) ∧ (w5.setCell ⟨g, k * 2 + 1, none⟩ (.int .i64 (R : Int))).ownsRow w.heap.size 39 2 (.slice (some ⟨g, 0, none⟩) l.length c1) l.length (szCells (trimS r.I.p (l.take (k + 1)) ++ l.drop (k + 1)))) := Lib.hid ⟨((HBW.out.trans (HT5.out.mono HBW.out.size))).setCell hgb _, NEW⟩
      clear RW5 u0 u1 NEW hset hgb
      refine wpN_one 16 _ (by kernel_rfl) rfl ?_
      refine NextAt.free (by kernel_rfl) ?_
      intro K' hK'
      go_simp
      refine hK' _ _ ?_
      clear hK' K' d1 f1
      refine wpN_done (by kernel_rfl) ?_
      go_wp2_with fail
      go_roundw
      case measure => simp only [intOf]; omega
      case rel => exact ⟨k + 1, by omega, by go_num, FIN.out.1, FIN.out.2⟩
    · obtain rfl : k = l.length := by omega
      rw [List.take_length, List.drop_length, List.append_nil] at hrow
      have htl : (trimS r.I.p l).length = l.length := by unfold trimS; rw [List.length_map]
      have V := Lib.hid (show SzIn wr (.slice a1 l.length c1) (trimS r.I.p l) from SzIn.row (by rw [htl]; exact hrow))
      have RO := Lib.hid (ropeRoom_any r.I r.L r.lv r.F wr (H.out.rm.below hb) h60 H.out.szok)
      have TO := Lib.hid (trimS_ok HPO.out HSO.out HSL.out)
      have HTE := Lib.hid (show trmE r.I.p r.sz = askE (roomS l) (roomS (trimS r.I.p l)) by unfold trmE; rw [HL.out])
      have HTN := Lib.hid (show trmN r.I.p r.sz = (if trmE r.I.p r.sz = 0 then (roomS l : Int) - roomS (trimS r.I.p l) else 0) by unfold trmN; rw [HL.out])
      rw [show (totS (r.L.map Lm.sz)).2 = roomS l by rw [← HL.out]; rfl] at RO
      have room10 := H.out.room
      rw [show roomS (r.L.map Lm.sz) = roomS l by rw [← HL.out]; rfl] at room10
      obtain ⟨cur, hcur⟩ : ∃ cur, roomS l = cur := ⟨_, rfl⟩
      obtain ⟨next, hnext⟩ : ∃ next, roomS (trimS r.I.p l) = next := ⟨_, rfl⟩
      rw [hcur] at RO HTE HTN room10
      rw [hnext] at HTE HTN
      have HNX := Lib.hid (And.intro hcur hnext)
      clear hb hrow hlt hk hcur hnext htl HR
      go_wp2_with fail
      refine RO.out.mono ?_
      rintro e w2 ⟨rfl, hb2⟩
      have B2 := Lib.hid (HB.out.trans (hb2.mono HB.out.size))
      have AK := Lib.hid (ask_rs r _ _ w2 (H.out.below B2.out) (V.out.below hb2) TO.out)
      rw [HNX.out.2] at AK
      clear hb2 RO V
      go_wp2_with fail
      refine AK.out.mono ?_
      rintro e w3 ⟨rfl, ht3, hrm3, G', b', hG, hif⟩
      rw [show roomS r.sz = cur by rw [HL.out]; exact HNX.out.1] at hif ⊢
      have TT := Lib.hid ((Touch.of_below (F := r.G) B2.out).then ht3)
      have GW := Lib.hid (show ∀ k, G' k → r.G k ∨ w.heap.size ≤ k from fun k hk => (hG k hk).imp id (fun h => Nat.le_trans B2.out.size h))
      clear AK ht3 hG
      by_cases hE : askE cur next = 0
      · rw [if_pos hE] at hif
        rw [hE] at HTE ⊢
        rw [if_pos HTE.out] at HTN
        have GR := Lib.hid hif
        have RM3 := Lib.hid hrm3
        have c7 := hrm3.cells.2.2.2.2.2.2.2.1
        obtain ⟨la, lc, hlv⟩ := wrow_sh hrm3.row
        rw [hlv] at c7
        have HLV := Lib.hid hlv
        have nx10 := hif.room
        clear hif hrm3 hE hlv
        go_wp2_with fail
        clear c7
        go_loopw [54] (fun i wr => ∃ k : Nat, k ≤ r.L.length ∧ i = .int .i64 (k : Int) ∧ ∃ Lk F', RopeMem wr F' r.I Lk (.slice la r.L.length lc) ∧ Lk.map Lm.lc = trimC r.I.p (r.lc.take k) ++ r.lc.drop k ∧ (∀ x, F' x → r.F x ∨ w3.heap.size ≤ x) ∧ (∀ x, F' x → x < wr.heap.size) ∧ Touch r.F w3 wr) (fun i _ => r.L.length - (intOf i).toNat)
        case atStart => exact ⟨0, Nat.zero_le _, rfl, r.L, r.F, by rw [← HLV.out]; exact RM3.out, rfl, fun x hx => Or.inl hx, GR.out.fl, Touch.refl _ _⟩
        case round =>
          obtain ⟨k, hk, rfl, Lk, F', hm, hlc, hF1, hF2, ht⟩ := hrel
          have hLk : Lk.length = r.L.length := by
            have := congrArg List.length hlc
            rw [List.length_map, List.length_append] at this
            unfold trimC RS.lc at this
            rw [List.length_map, List.length_take, List.length_drop, List.length_map] at this
            omega
          by_cases hlt : k < r.L.length
          · as_aux_lemma =>
            obtain ⟨x, hx⟩ : ∃ x, Lk[k]? = some x := ⟨_, List.getElem?_eq_getElem (by omega)⟩
            obtain ⟨xr, xok, xF⟩ := hm.mem x (List.mem_of_getElem? hx)
            have hrow := hm.row
            rw [hLk] at hrow
            obtain ⟨gk, rfl, dx, dxf⟩ := wrow_cell hrow (j := k) (u := x.val) (by rw [List.getElem?_map, hx]; rfl)
            obtain ⟨xn, hxn⟩ : ∃ n, x.n = n := ⟨_, rfl⟩
            obtain ⟨cp, hcp⟩ : ∃ n, x.cs.length = n := ⟨_, rfl⟩
            have XN := Lib.hid (And.intro hxn hcp)
            unfold Lm.val at dx
            rw [hxn, hcp] at dx
            obtain ⟨xok1, xok2, xok3⟩ := id xok
            rw [hxn, hcp] at xok1
            rw [hcp] at xok2
            have HX := Lib.hid hx
            have HM := Lib.hid hm
            have XO := Lib.hid (And.intro xr (And.intro xok xF))
            have HK := Lib.hid (And.intro hlc (And.intro hF1 (And.intro hF2 ht)))
            obtain ⟨c0, c1', c2, c3, c4, c5, c6, c7, c8⟩ := hm.cells
            have sh := HPO.out.sh xok2 xok1
            clear hx hrow xr xok xok3 xF hlc hF1 hF2 ht hxn hcp hm
            go_upto_region 16 with fail
            have TB := Lib.hid (trimB_any r.I.p x.g x.cs xn cp wr.drew HPO.out (show byteRow wr.drew x.g x.cs from XO.out.1) XN.out.2 xok2 xok1 XO.out.2.1.2.2)
            obtain ⟨R, hR⟩ : ∃ R, r.I.p.sh cp xn = R := ⟨_, rfl⟩
            rw [hR] at TB sh
            have HRR := Lib.hid (And.intro hR sh)
            have S0 : BelS wr wr.drew := (Below.refl _ wr).drew
            have s2 : ∀ y : WIn (BelS wr), y.w.cell? ⟨r.I.r, 2, none⟩ = some (.int .i64 r.I.p.k) := fun y => old_cell y.h c2
            have s3' : ∀ y : WIn (BelS wr), y.w.cell? ⟨r.I.r, 3, none⟩ = some (.int .i64 r.I.p.s) := fun y => old_cell y.h c3
            have s4' : ∀ y : WIn (BelS wr), y.w.cell? ⟨r.I.r, 4, none⟩ = some (.int .i64 r.I.p.m) := fun y => old_cell y.h c4
            have s7 : ∀ y : WIn (BelS wr), y.w.cell? ⟨r.I.r, 7, none⟩ = some (.slice (some ⟨gk, 0, none⟩) r.L.length lc) := fun y => old_cell y.h c7
            have DXF := Lib.hid (And.intro dx dxf)
            haveI ne : Nonempty (WIn (BelS wr)) := ⟨⟨wr.drew, S0⟩⟩
            clear c0 c1' c2 c3 c4 c5 c6 c7 c8 hR sh dx dxf
            refine wp_normal ?_
            refine wp_region_plan 16 (BelS wr) rfl ?_
            refine wpN_segX (List.range 10 ++ [10, 11, 12, 15, 16]) (List.range 10) (by kernel_rfl) (by kernel_rfl) (by kernel_rfl) (by kernel_rfl) (by decide) (fun _ _ _ _ _ h => h) S0 ?_
            rw [show List.range 10 = [0, 1, 2, 3, 4, 5, 6, 7, 8, 9] from rfl]
            simp only [pick, List.map_cons, List.map_nil, List.getElem?_cons_succ, List.getElem?_cons_zero, Option.getD_some]
            repeat (go_big_quiet_step (fail))
            refine wpQuiet_nil ?_
            clear s2 s3' s4' s7 ne
            refine wpN_one 10 _ (by kernel_rfl) rfl ?_
            refine NextAt.held ?_
            intro K' hK'
            go_simp
            refine TB.out.mono ?_
            rintro e w5 ⟨g', ds, bb, rfl, hr5, hl5, hby5, htk5, hg5, hb5⟩
            have T5 : BelS wr w5 := S0.trans (hb5.mono (by simp))
            have HT5 := Lib.hid (show Below wr.heap.size wr w5 from T5)
            have ZR : Hid (byteRow w5 g' ds ∧ (({ g := g', cs := ds, n := xn } : Lm)).ok ∧ (({ g := g', cs := ds, n := xn } : Lm)).lc = (x.lc.1, r.I.p.sh x.lc.2 x.lc.1.length) ∧ (({ g := g', cs := ds, n := xn } : Lm)).val = .slice (some ⟨g', 0, none⟩) xn R) := Lib.hid (by
              have h1 := HRR.out.2.2.2
              have e1 : x.lc.1.length = xn := (lc_len XO.out.2.1).trans XN.out.1
              refine ⟨hr5, ⟨by show xn ≤ ds.length; omega, by show ds.length ≤ 100000; omega, hby5⟩, ?_, ?_⟩
              · rw [e1]
                show (ds.take xn, ds.length) = (x.cs.take x.n, r.I.p.sh x.cs.length xn)
                rw [htk5, hl5, XN.out.1, XN.out.2, HRR.out.1]
              · show Value.slice _ _ ds.length = _
                rw [hl5])
            have SL := Lib.hid (HM.out.setLeaf (w5 := w5) (z := { g := g', cs := ds, n := xn }) HX.out (Touch.of_below T5) hr5 ZR.out.2.1 (hg5.imp id (fun h => h)))
            generalize hz' : ({ g := g', cs := ds, n := xn } : Lm) = z at *
            have zg : z.g = g' := by rw [← hz']
            have HG5 : Hid (z.g = x.g ∨ wr.heap.size ≤ z.g) := Lib.hid (by rw [zg]; exact hg5)
            have HZL : Hid (z.g < w5.heap.size) := Lib.hid (by rw [zg]; exact lt_of hr5)
            clear TB hr5 hl5 hby5 htk5 hb5 S0 hz' hg5
            go_simp
            refine hK' _ _ T5 ?_
            clear hK' K'
            refine wpN_pure [11, 12, 13, 14, 15] (by kernel_rfl) (by kernel_rfl) (by kernel_rfl) (fun _ _ _ _ _ h => h) (fun _ => T5) ?_
            simp only [pick, List.map_cons, List.map_nil, List.getElem?_cons_succ, List.getElem?_cons_zero, Option.getD_some]
            repeat (go_big_quiet_step (fail))
            refine wpQuiet_nil ?_
            have d1 := old_cell T5 DXF.out.1
            have gklt := lt_of_cell DXF.out.1
            have f1 : w5.frozen? ⟨gk, k, none⟩ = false := by
              unfold World.frozen?
              simp only [HT5.out.block gk gklt]
              exact DXF.out.2
            clear T5 gklt
            have ZV := ZR.out.2.2.2
            refine wpN_one 16 _ (by kernel_rfl) rfl ?_
            refine NextAt.free (by kernel_rfl) ?_
            intro K' hK'
            go_simp
            rw [← ZV]
            refine hK' _ _ ?_
            clear hK' K' d1 f1 ZV
            have hsz5 : (w5.setCell ⟨gk, k, none⟩ z.val).heap.size = w5.heap.size := by simp [World.setCell]
            have FIN : Hid (RopeMem (w5.setCell ⟨gk, k, none⟩ z.val) (fun j => F' j ∨ j = z.g) r.I (Lk.set k z) (.slice (some ⟨gk, 0, none⟩) r.L.length lc) ∧ (Lk.set k z).map Lm.lc = trimC r.I.p (r.lc.take (k + 1)) ++ r.lc.drop (k + 1) ∧ (∀ x, (F' x ∨ x = z.g) → r.F x ∨ w3.heap.size ≤ x) ∧ (∀ x, (F' x ∨ x = z.g) → x < (w5.setCell ⟨gk, k, none⟩ z.val).heap.size) ∧ Touch r.F w3 (w5.setCell ⟨gk, k, none⟩ z.val)) := Lib.hid (by
              obtain ⟨hlc, hF1, hF2, ht⟩ := HK.out
              have s5 := HT5.out.size
              have s3 := ht.size
              refine ⟨SL.out.1, ?_, fun y hy => ?_, fun y hy => ?_, ?_⟩
              · have hxl : (r.lc)[k]? = some x.lc := by
                  have h1 : (Lk.map Lm.lc)[k]? = some x.lc := by rw [List.getElem?_map, HX.out]; rfl
                  have h2 : (trimC r.I.p (r.lc.take k)).length = k := by unfold trimC RS.lc; rw [List.length_map, List.length_take, List.length_map]; omega
                  rw [hlc, List.getElem?_append_right (by omega), h2, Nat.sub_self, List.getElem?_drop, Nat.add_zero] at h1
                  exact h1
                have h2 : (trimC r.I.p (r.lc.take k)).length = k := by unfold trimC RS.lc; rw [List.length_map, List.length_take, List.length_map]; omega
                have hkl := (List.getElem?_eq_some_iff.1 hxl).1
                rw [List.map_set, hlc, List.set_append_right _ _ (by omega), h2, Nat.sub_self, List.drop_eq_getElem_cons hkl, List.set_cons_zero, List.take_add_one, hxl, ZR.out.2.2.1]
                unfold trimC
                rw [List.map_append, List.append_assoc]
                rfl
              · rcases hy with hy | rfl
                · exact hF1 y hy
                · rcases HG5.out with e | e
                  · rw [e]; exact hF1 _ XO.out.2.2
                  · exact Or.inr (Nat.le_trans s3 e)
              · rw [hsz5]
                rcases hy with hy | rfl
                · exact Nat.lt_of_lt_of_le (hF2 y hy) s5
                · exact HZL.out
              · exact (ht.then (Touch.of_below HT5.out)).setCell (p := ⟨gk, k, none⟩) (Or.inl (RM3.out.frow gk (by rw [HLV.out]; rfl))) _)
            clear SL hsz5
            refine wpN_done (by kernel_rfl) ?_
            go_wp2_with fail
            go_roundw
            case measure => simp only [intOf]; omega
            case rel => exact ⟨k + 1, by omega, by go_num, _, _, FIN.out⟩
          · obtain rfl : k = r.L.length := by omega
            have hlc' : Lk.map Lm.lc = trimC r.I.p r.lc := by
              rw [hlc]
              unfold RS.lc
              rw [List.take_of_length_le (by simp), List.drop_eq_nil_of_le (by simp), List.append_nil]
            have ok' := fun y hy => (hm.mem y hy).2.1
            have SZL : Lk.map Lm.sz = trimS r.I.p l := by rw [← map_szC ok', hlc', trimC_sz, H.out.szC, HL.out]
            have EA : ∀ x ∈ Lk, 1 ≤ x.n ∧ x.n ≤ r.I.p.leaf := by
              intro x hx
              have h1 : x.sz ∈ trimS r.I.p l := by rw [← SZL]; exact List.mem_map_of_mem hx
              unfold trimS at h1
              obtain ⟨q, hq, he⟩ := List.mem_map.1 h1
              rw [← HL.out] at hq
              obtain ⟨y, hy, rfl⟩ := List.mem_map.1 hq
              have h2 := H.out.each y hy
              have h3 : x.n = y.n := (congrArg Prod.fst he).symm
              rw [h3]
              exact h2
            have NEW := GR.out.done hm ht hF1 hF2 H.out.own H.out.pok (by rw [SZL]; exact HNX.out.2) (by
              rw [SZL, trimS_tot, ← HL.out]; exact H.out.oct) EA
            have RO2 := Lib.hid (ropeRoom_any r.I Lk _ F' wr hm (by omega) NEW.szok)
            rw [show (totS (Lk.map Lm.sz)).2 = next by rw [SZL]; exact HNX.out.2] at RO2
            have sT := TT.out.size
            have FIN : Hid (∀ w', Below wr.heap.size wr w' → TrimPost r w (.returned (.tuple #[.int .i64 ((cur : Int) - next), .int .i64 0])) w') := Lib.hid (fun w' hb' => ⟨by rw [HTE.out, HTN.out], ⟨r.I, Lk, .slice la r.L.length lc, b', F', G'⟩, rfl, RS.At.below NEW hb', by rw [if_pos HTE.out]; exact hlc', fun j hj => by
              rcases hj with hj | hj
              · exact (hF1 j hj).imp Or.inl (fun h => by omega)
              · exact (GW.out j hj).imp Or.inr id, ((TT.out.mono (fun k hk => Or.inr hk)).then (ht.mono (fun k hk => Or.inl hk))).then (Touch.of_below hb')⟩)
            clear hlc hlc' ok' SZL EA NEW hm hF1 hF2 ht
            go_wp2_with fail
            refine RO2.out.mono ?_
            rintro e w9 ⟨rfl, hb9⟩
            have FIN9 := Lib.hid (FIN.out w9 hb9)
            clear hb9
            go_wp2_with fail
            go_ret2
            exact FIN9.out
      · have hne : (askE cur next == 0) = false := by simpa using hE
        rw [if_neg hE] at hif
        have FIN : Hid (TrimPost r w (.returned (.tuple #[.int .i64 0, .int .i64 (askE cur next)])) w3) := Lib.hid ⟨by rw [HTN.out, if_neg (by rw [HTE.out]; exact hE), HTE.out], ⟨r.I, r.L, r.lv, b', r.F, G'⟩, rfl, hif, by rw [if_neg (by rw [HTE.out]; exact hE)]; rfl, fun k hk => by
          rcases hk with hk | hk
          · exact Or.inl (Or.inl hk)
          · exact (GW.out k hk).imp Or.inr id, TT.out.mono (fun k hk => Or.inr hk)⟩
        generalize askE cur next = E at *
        clear hif hrm3 hE
        go_wp2_with fail
        go_ret2
        exact FIN.out

end Go.Proofs.Ytidfidknflcioaa
