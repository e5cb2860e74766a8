/-
  A heap: Swap. No conditions but bounds.
  Two blocks' octets exchanged, one by one (plain). No conditions.
-/
import Derived.Test.YtjogaohnphafgaaGreatMoveRunsPbk
import Derived.Test.YtjogaohnphafgaaGreatMoveRunsPax

namespace Go.Proofs.YtjogaohnphafgaaGreat
section
open Go.RowKit
set_option linter.unusedVariables false

theorem find_bad {w : World} {F : Nat → Prop} {hp bp : Nat} {S : HpSt} {vm vb vh : Value} {vhs : List Value} (m : HpMem w F hp bp S vm vb vh vhs) {q : Int} (hE : fndE S q ≠ 0) :
    Calls Tryz.prog 39 #[.pointer (some ⟨hp, 0, none⟩), .int .i64 q] w (fun e w' => w' = w ∧ e = .returned (.tuple #[.pointer none, .int .i64 (fndE S q)])) := by
  refine (findM_any m q).mono ?_
  rintro e w' ⟨h1, ⟨_, h2⟩ | ⟨h2, _⟩⟩
  · exact ⟨h1, h2⟩
  · exact absurd h2 hE
theorem find_ok {w : World} {F : Nat → Prop} {hp bp : Nat} {S : HpSt} {vm vb vh : Value} {vhs : List Value} (m : HpMem w F hp bp S vm vb vh vhs) {q : Int} (hE : fndE S q = 0) :
    ∃ g i, vb.ownBlock = some g ∧ S.bl[i]? = some (blkAt S q) ∧ w.cell? ⟨g, i * 3, none⟩ = some (.int .i64 ((blkAt S q).h : Int)) ∧ w.cell? ⟨g, i * 3 + 1, none⟩ = some (.int .i64 ((blkAt S q).at' : Int)) ∧ w.cell? ⟨g, i * 3 + 2, none⟩ = some (.int .i64 ((blkAt S q).len : Int)) ∧
      Calls Tryz.prog 39 #[.pointer (some ⟨hp, 0, none⟩), .int .i64 q] w (fun e w' => w' = w ∧ e = .returned (.tuple #[.pointer (some ⟨g, i * 3, none⟩), .int .i64 0])) := by
  obtain ⟨hcl, i, x, hf, hx, hi, hbk⟩ := fndE_zero hE
  obtain ⟨g, cap, hvb, d0, d1, d2, _⟩ := blk_cells m.row.1 hx
  rw [hbk]
  refine ⟨g, i, by rw [hvb]; rfl, hx, d0, d1, d2, (findM_any m q).mono ?_⟩
  rintro e w' ⟨h1, ⟨h2, _⟩ | ⟨_, i', x', g', cap', hf', hv', he'⟩⟩
  · exact absurd hE h2
  · rw [hf] at hf'
    cases hf'
    rw [hvb] at hv'
    simp only [Value.slice.injEq, Option.some.injEq, Addr.mk.injEq, and_true, true_and] at hv'
    rw [← hv'.1] at he'
    exact ⟨h1, he'⟩

def swE (S : HpSt) (a b : Int) : Int := if fndE S a ≠ 0 then fndE S a else if fndE S b ≠ 0 then fndE S b else if (blkAt S a).len ≠ (blkAt S b).len then 1 else 0
def swM (mem : List Int) (x y : Blk) : List Int := splice (splice mem x.at' (octB mem y)) y.at' (octB mem x)
def SwPostM (w : World) (hp bp : Nat) (S : HpSt) (vm vb vh : Value) (vhs : List Value) (F G : Nat → Prop) (M : Nat) (bk : BookSt) (a b : Int) : Ending → World → Prop := fun e w' => e = .returned (.int .i64 (swE S a b)) ∧
  ((swE S a b ≠ 0 ∧ Below w.heap.size w w') ∨ (swE S a b = 0 ∧ HB w' hp bp { S with mem := swM S.mem (blkAt S a) (blkAt S b) } vm vb vh vhs F G M bk ∧ Touch F w w'))

set_option maxHeartbeats 4000000 in
set_option maxRecDepth 100000 in
theorem swapM_any {w : World} {hp bp : Nat} {S : HpSt} {vm vb vh : Value} {vhs : List Value} {F G : Nat → Prop} {M : Nat} {bk : BookSt} (h : HB w hp bp S vm vb vh vhs F G M bk) (a b : Int) :
    Calls Tryz.prog 19 #[.pointer (some ⟨hp, 0, none⟩), .int .i64 a, .int .i64 b] w (SwPostM w hp bp S vm vb vh vhs F G M bk a b) := by
  have H := Lib.hid h
  have FINE : Hid (∀ er w', swE S a b = er → er ≠ 0 → Below w.heap.size w w' → SwPostM w hp bp S vm vb vh vhs F G M bk a b (.returned (.int .i64 er)) w') := Lib.hid (fun er w' h1 h2 h3 => ⟨by rw [h1], Or.inl ⟨by rw [h1]; exact h2, h3⟩⟩)
  have FINO : Hid (∀ w', swE S a b = 0 → HB w' hp bp { S with mem := swM S.mem (blkAt S a) (blkAt S b) } vm vb vh vhs F G M bk → Touch F w w' → SwPostM w hp bp S vm vb vh vhs F G M bk a b (.returned (.int .i64 0)) w') := Lib.hid (fun w' h1 h2 h3 => ⟨by rw [h1], Or.inr ⟨h1, h2, h3⟩⟩)
  by_cases hA : fndE S a = 0
  case neg =>
    have FA := Lib.hid (find_bad h.hm hA)
    have FIN := Lib.hid (fun w' => FINE.out (fndE S a) w' (by unfold swE; rw [if_pos hA]) hA)
    have hA' : (fndE S a != 0) = true := by simpa using hA
    generalize fndE S a = E at *
    clear hA h FINE FINO
    go_enter Tryz.func19, Tryz.ntmps19
    go_wp2_with fail
    refine FA.out.mono ?_
    rintro e w2 ⟨rfl, rfl⟩
    go_wp2_with fail
    go_ret
    exact FIN.out _ (Below.refl _ _)
  case pos =>
    obtain ⟨g, i, hg, hi, d0, d1, d2, FA⟩ := find_ok h.hm hA
    have FA := Lib.hid FA
    by_cases hB : fndE S b = 0
    case neg =>
      have FB := Lib.hid (find_bad h.hm hB)
      have FIN := Lib.hid (fun w' => FINE.out (fndE S b) w' (by unfold swE; rw [if_neg (by simpa using hA), if_pos hB]) hB)
      have hB' : (fndE S b != 0) = true := by simpa using hB
      generalize fndE S b = E at *
      clear hA hB h FINE FINO hg hi d0 d1 d2
      go_enter Tryz.func19, Tryz.ntmps19
      go_wp2_with fail
      refine FA.out.mono ?_
      rintro e w2 ⟨rfl, rfl⟩
      go_wp2_with fail
      refine FB.out.mono ?_
      rintro e w3 ⟨hw3, rfl⟩
      obtain rfl := hw3.symm
      clear hw3
      go_wp2_with fail
      go_ret
      exact FIN.out _ (Below.refl _ _)
    case pos =>
      obtain ⟨g', j, hg', hj, f0, f1, f2, FB⟩ := find_ok h.hm hB
      have FB := Lib.hid FB
      rw [hg] at hg'
      cases hg'
      have hx := (h.hm.hb _ (List.mem_of_getElem? hi)).2.2
      have hy := (h.hm.hb _ (List.mem_of_getElem? hj)).2.2
      have hb1 := h.hm.big.1
      have ev : swE S a b = if (blkAt S a).len ≠ (blkAt S b).len then 1 else 0 := by unfold swE; rw [if_neg (by simpa using hA), if_neg (by simpa using hB)]
      generalize blkAt S a = X at *
      generalize blkAt S b = Y at *
      generalize swE S a b = E at *
      by_cases hl : X.len = Y.len
      case neg =>
        have FIN := Lib.hid (fun w' => FINE.out 1 w' (by rw [ev, if_pos hl]) (by decide))
        have hl' : ((X.len : Int) != (Y.len : Int)) = true := by simp; omega
        clear hA hB h FINE FINO hg hi hj ev hl
        go_enter Tryz.func19, Tryz.ntmps19
        go_wp2_with fail
        refine FA.out.mono ?_
        rintro e w2 ⟨rfl, rfl⟩
        go_wp2_with fail
        refine FB.out.mono ?_
        rintro e w3 ⟨hw3, rfl⟩
        obtain rfl := hw3.symm
        clear hw3
        go_upto_region 7 with fail
        go_quiet (fail)
        go_wp2_with fail
        go_ret
        exact FIN.out _ (bdrewN (Below.refl _ _) _)
      case pos =>
        have FIN := Lib.hid (fun w' => FINO.out w' (by rw [ev, if_neg (by simpa using hl)]))
        have hl' : ((X.len : Int) != (Y.len : Int)) = false := by simp; omega
        have OX := Lib.hid (fun W (hW : Below w.heap.size w W) => octetsM_any (H.out.hm.below hW) (X.h : Int) X.at' X.len hx)
        have OY := Lib.hid (fun W (hW : Below w.heap.size w W) => octetsM_any (H.out.hm.below hW) (Y.h : Int) Y.at' Y.len hy)
        unfold OcPost at OX OY
        have HG := Lib.hid hg
        have HI := Lib.hid hi
        have HJ := Lib.hid hj
        have HX := Lib.hid hx
        have HY := Lib.hid hy
        have HLL := Lib.hid hl
        have HFL := Lib.hid h.fl
        clear hA hB h FINE FINO hg hi hj ev hl hx hy
        go_enter Tryz.func19, Tryz.ntmps19
        go_wp2_with fail
        refine FA.out.mono ?_
        rintro e w2 ⟨hw2, rfl⟩
        obtain rfl := hw2.symm
        clear hw2
        go_wp2_with fail
        refine FB.out.mono ?_
        rintro e w3 ⟨hw3, rfl⟩
        obtain rfl := hw3.symm
        clear hw3
        go_upto_region 7 with fail
        go_quiet (fail)
        have B1 : Below w.heap.size w (w.drewN nq) := bdrewN (Below.refl _ _) _
        have OX1 := Lib.hid (OX.out _ B1)
        go_wp2_with fail
        refine OX1.out.mono ?_
        rintro e w4 ⟨oa, rfl, hoa, hb4⟩
        have B4 : Below w.heap.size w w4 := B1.trans hb4
        have CL := Lib.hid (clone_byte (.slice oa X.len X.len) (octB S.mem X) w4 ((H.out.hm.below B4).octR X.at' X.len X.len oa HX.out hoa) (by rw [octB_len HX.out]; have := HX.out; omega))
        go_wp2_with fail
        refine CL.out.mono ?_
        rintro e w5 ⟨v, rfl, hrow, hb5⟩
        have B5 : Below w.heap.size w w5 := B4.trans (hb5.mono B4.size)
        rw [octB_len HX.out] at hrow
        obtain ⟨ca, cc, hv⟩ := wrow_sh hrow
        subst hv
        have HROW := Lib.hid hrow
        have HB5 := Lib.hid B5
        have S4 := Lib.hid (Nat.le_trans B4.size (Nat.le_refl _))
        have RL5 := Lib.hid (show ∀ k, (Value.slice ca X.len cc).ownBlock = some k → w.heap.size ≤ k from fun k hk => by
          rcases hrow.2 with ⟨h1, _⟩ | ⟨g', cap, cur, h1, hb, _⟩
          · rw [h1] at hk; simp [Value.ownBlock] at hk
          · rw [h1] at hk; simp [Value.ownBlock] at hk; have := B4.size; omega)
        have d0 := old_cell B5 d0
        have d1 := old_cell B5 d1
        have d2 := old_cell B5 d2
        have f0 := old_cell B5 f0
        have f1 := old_cell B5 f1
        have f2 := old_cell B5 f2
        clear hrow hb5 hb4 B4 B1 B5 hoa CL OX1 FA FB
        go_upto_region 10 with fail
        have S0 : BelM w5 w5.drew := (Below.refl _ w5).drew
        have a0 : ∀ z : WIn (BelM w5), z.w.cell? ⟨g, i * 3, none⟩ = some (.int .i64 (X.h : Int)) := fun z => old_cell z.h d0
        have a1 : ∀ z : WIn (BelM w5), z.w.cell? ⟨g, i * 3 + 1, none⟩ = some (.int .i64 (X.at' : Int)) := fun z => old_cell z.h d1
        have a2 : ∀ z : WIn (BelM w5), z.w.cell? ⟨g, i * 3 + 2, none⟩ = some (.int .i64 (X.len : Int)) := fun z => old_cell z.h d2
        have b0 : ∀ z : WIn (BelM w5), z.w.cell? ⟨g, j * 3, none⟩ = some (.int .i64 (Y.h : Int)) := fun z => old_cell z.h f0
        have b1 : ∀ z : WIn (BelM w5), z.w.cell? ⟨g, j * 3 + 1, none⟩ = some (.int .i64 (Y.at' : Int)) := fun z => old_cell z.h f1
        have b2 : ∀ z : WIn (BelM w5), z.w.cell? ⟨g, j * 3 + 2, none⟩ = some (.int .i64 (Y.len : Int)) := fun z => old_cell z.h f2
        haveI ne : Nonempty (WIn (BelM w5)) := ⟨⟨w5.drew, S0⟩⟩
        refine wp_normal ?_
        refine wp_region_plan 10 (BelM w5) rfl ?_
        refine wpN_seg [0, 1, 2, 3, 5, 6, 7, 8] (by kernel_rfl) (by kernel_rfl) (by kernel_rfl) (by kernel_rfl) (by decide) (fun _ _ _ _ _ h => h) S0 ?_
        simp only [pick, List.map_cons, List.map_nil, List.getElem?_cons_succ, List.getElem?_cons_zero, Option.getD_some]
        repeat (go_big_quiet_step (fail))
        refine wpQuiet_nil ?_
        clear a0 a1 a2 b0 b1 b2 ne
        refine wpN_one 4 _ (by kernel_rfl) rfl ?_
        refine NextAt.held ?_
        intro K hK
        go_simp
        refine (OX.out _ (HB5.out.drew)).mono ?_
        rintro e w6 ⟨xa, rfl, hxa, hb6⟩
        have S6 : BelM w5 w6 := S0.trans (hb6.mono (Nat.le_refl _))
        go_simp
        refine hK _ _ S6 ?_
        clear hK K
        refine wpN_one 9 _ (by kernel_rfl) rfl ?_
        refine NextAt.held ?_
        intro K hK
        go_simp
        have B6 : Below w.heap.size w w6 := HB5.out.trans (S6.mono HB5.out.size)
        refine (OY.out _ B6).mono ?_
        rintro e w7 ⟨ya, rfl, hya, hb7⟩
        have S7 : BelM w5 w7 := S6.trans (hb7.mono S6.size)
        have B7 : Below w.heap.size w w7 := HB5.out.trans (S7.mono HB5.out.size)
        go_simp
        refine hK _ _ S7 ?_
        clear hK K
        obtain ⟨w8, hrun, mP, tP⟩ := (H.out.below B7).cpy X.at' X.len Y.at' Y.len Y.len xa ya HX.out (by rw [HLL.out]; exact Nat.le_refl _) HY.out hxa hya
        refine wpN_one 10 _ (by kernel_rfl) rfl ?_
        refine NextAt.free (by kernel_rfl) ?_
        intro K hK
        refine step_copy_known rfl (.tmp 50) (.tmp 55) 38 rfl _ _ _ (by rfl) (by rfl) hrun ?_
        go_simp
        refine hK _ _ ?_
        clear hK K
        refine wpN_done (by kernel_rfl) ?_
        have e1 : (S.mem.drop Y.at').take Y.len = octB S.mem Y := rfl
        rw [e1] at mP
        have hlen2 : ({ S with mem := splice S.mem X.at' (octB S.mem Y) } : HpSt).mem.length = S.mem.length := by
          show (splice S.mem X.at' (octB S.mem Y)).length = _
          have := octB_len HY.out
          have h2 := HX.out
          have h3 := HLL.out
          unfold splice
          simp [this]
          omega
        have RC8 : w8.ownsRow w4.heap.size 5 1 (.slice ca X.len cc) X.len ((octB S.mem X).map (Value.int .u8)) := by
          refine ownsRow_same (row_kept HROW.out S7) (fun k hk => tP.block k ?_ (fun e => ?_))
          · obtain ⟨cur, hc⟩ := row_block (row_kept HROW.out S7) hk
            exact lt_of hc
          · have h1 := HFL.out k (H.out.hm.mem.2 k e)
            have h2 := RL5.out k hk
            omega
        obtain ⟨g8, cap8, hvb8, y0, y1, y2, _⟩ := blk_cells mP.hm.row.1 (show ({ S with mem := splice S.mem X.at' (octB S.mem Y) } : HpSt).bl[j]? = some Y from HJ.out)
        have hg8 : g8 = g := by
          have := HG.out
          rw [hvb8] at this
          simpa [Value.ownBlock] using this
        subst hg8
        have OY8 := Lib.hid (octetsM_any mP.hm (Y.h : Int) Y.at' Y.len (by rw [hlen2]; exact HY.out))
        unfold OcPost at OY8
        have MP := Lib.hid mP
        have RC := Lib.hid RC8
        have T8 : Hid (Touch F w w8) := Lib.hid ((Touch.of_below B7).trans (tP.mono (fun k hk => H.out.hm.mem.2 k hk)) (fun k hk => Or.inl hk))
        have HL2 := Lib.hid hlen2
        clear mP tP hrun RC8 hlen2 hvb8 S0 S6 S7 B6 B7 hb6 hb7 hxa hya d0 d1 d2 f0 f1 f2 OX OY e1
        go_wp2_with fail
        refine OY8.out.mono ?_
        rintro e w9 ⟨yb, rfl, hyb, hb9⟩
        obtain ⟨w10, hrun, mQ, tQ⟩ := (MP.out.below hb9).put Y.at' Y.len X.len cc yb ca (octB S.mem X) (by rw [HL2.out]; exact HY.out) (by rw [HLL.out]; exact Nat.le_refl _) hyb (by
          have hr9 := row_kept RC.out hb9
          have := Reads.own (k := .u8) (zs := octB S.mem X) (by rw [octB_len HX.out]; exact hr9) (by rw [octB_len HX.out]; have := HX.out; omega)
          exact this) (fun u hu => H.out.hm.mb u (List.mem_of_mem_drop (List.mem_of_mem_take hu)))
        have FF := Lib.hid (FIN.out w10 mQ ((T8.out.then (Touch.of_below hb9)).trans (tQ.mono (fun k hk => H.out.hm.mem.2 k hk)) (fun k hk => Or.inl hk)))
        clear mQ tQ hyb hb9 OY8 MP RC
        go_wp2_with fail
        go_ret
        exact FF.out

end
end Go.Proofs.YtjogaohnphafgaaGreat

namespace Go.Proofs.YtjogaohnphafgaaGreat
section
open Go.RowKit
set_option linter.unusedVariables false

/-- The first i octets exchanged. -/
def swI (mem : List Int) (x y : Blk) (i : Nat) : List Int := splice (splice mem x.at' ((octB mem y).take i)) y.at' ((octB mem x).take i)
theorem octB_take {mem : List Int} {x : Blk} {i : Nat} (hi : i ≤ x.len) : (octB mem x).take i = (mem.drop x.at').take i := by
  unfold octB
  rw [List.take_take, Nat.min_eq_left hi]
theorem octB_take_len {mem : List Int} {x : Blk} {i : Nat} (hx : x.at' + x.len ≤ mem.length) (hi : i ≤ x.len) : ((octB mem x).take i).length = i := by
  rw [octB_take hi, List.length_take, List.length_drop]; omega
theorem swI_get {mem : List Int} {x y : Blk} {i j : Nat} (hx : x.at' + x.len ≤ mem.length) (hy : y.at' + y.len ≤ mem.length) (hl : x.len = y.len) (hi : i ≤ x.len) :
    (swI mem x y i)[j]? = if y.at' ≤ j ∧ j < y.at' + i then mem[x.at' + (j - y.at')]? else if x.at' ≤ j ∧ j < x.at' + i then mem[y.at' + (j - x.at')]? else mem[j]? := by
  have l1 := octB_take_len hx hi
  have l2 := octB_take_len hy (hl ▸ hi)
  unfold swI
  have h1 : (splice mem x.at' ((octB mem y).take i)).length = mem.length := splice_ln (by rw [l2]; omega)
  rw [splice_get (by rw [l1, h1]; omega), l1, splice_get (by rw [l2]; omega), l2]
  split
  · next h => rw [octB_take hi, List.getElem?_take, if_pos (by omega), List.getElem?_drop]
  · split
    · next h => rw [octB_take (hl ▸ hi), List.getElem?_take, if_pos (by omega), List.getElem?_drop]
    · rfl
theorem swI_len {mem : List Int} {x y : Blk} {i : Nat} (hx : x.at' + x.len ≤ mem.length) (hy : y.at' + y.len ≤ mem.length) (hl : x.len = y.len) (hi : i ≤ x.len) : (swI mem x y i).length = mem.length := by
  have l1 := octB_take_len hx hi
  have l2 := octB_take_len hy (hl ▸ hi)
  unfold swI
  have h1 : (splice mem x.at' ((octB mem y).take i)).length = mem.length := splice_ln (by rw [l2]; omega)
  rw [splice_ln (by rw [l1, h1]; omega), h1]
theorem swI_zero (mem : List Int) (x y : Blk) : swI mem x y 0 = mem := by unfold swI splice; simp
theorem swI_all {mem : List Int} {x y : Blk} (hl : x.len = y.len) : swI mem x y x.len = swM mem x y := by
  unfold swI swM
  have h1 : (octB mem y).take x.len = octB mem y := by unfold octB; rw [List.take_take, hl, Nat.min_self]
  have h2 : (octB mem x).take x.len = octB mem x := by unfold octB; rw [List.take_take, Nat.min_self]
  rw [h1, h2]
/-- One more. -/
theorem swI_step {mem : List Int} {x y : Blk} {i : Nat} (hx : x.at' + x.len ≤ mem.length) (hy : y.at' + y.len ≤ mem.length) (hl : x.len = y.len) (hi : i < x.len) (ha : x.at' = y.at' ∨ x.at' + x.len ≤ y.at' ∨ y.at' + y.len ≤ x.at') :
    (swI mem x y i)[x.at' + i]? = mem[x.at' + i]? ∧ (swI mem x y i)[y.at' + i]? = mem[y.at' + i]? ∧ ∀ u v, mem[x.at' + i]? = some u → mem[y.at' + i]? = some v → ((swI mem x y i).set (x.at' + i) v).set (y.at' + i) u = swI mem x y (i + 1) := by
  have L := swI_len hx hy hl (Nat.le_of_lt hi)
  refine ⟨?_, ?_, fun u v hu hv => ?_⟩
  · rw [swI_get hx hy hl (Nat.le_of_lt hi), if_neg (by omega), if_neg (by omega)]
  · rw [swI_get hx hy hl (Nat.le_of_lt hi), if_neg (by omega), if_neg (by omega)]
  · apply List.ext_getElem?
    intro j
    rw [List.getElem?_set, List.length_set, L, List.getElem?_set, L, swI_get hx hy hl (Nat.le_of_lt hi), swI_get hx hy hl hi]
    by_cases h1 : y.at' + i = j
    · subst h1
      rw [if_pos rfl, if_pos (by omega), if_pos (by omega), ← hu]
      congr 1
      omega
    · rw [if_neg h1]
      by_cases h2 : x.at' + i = j
      · subst h2
        rw [if_pos rfl, if_pos (by omega)]
        by_cases h3 : y.at' ≤ x.at' + i ∧ x.at' + i < y.at' + (i + 1)
        · exfalso
          omega
        · rw [if_neg h3, if_pos (by omega), ← hv]
          congr 1
          omega
      · rw [if_neg h2]
        have e1 : (y.at' ≤ j ∧ j < y.at' + (i + 1)) ↔ (y.at' ≤ j ∧ j < y.at' + i) := by omega
        have e2 : (x.at' ≤ j ∧ j < x.at' + (i + 1)) ↔ (x.at' ≤ j ∧ j < x.at' + i) := by omega
        simp only [Nat.succ_eq_add_one, e1, e2]

end
end Go.Proofs.YtjogaohnphafgaaGreat
