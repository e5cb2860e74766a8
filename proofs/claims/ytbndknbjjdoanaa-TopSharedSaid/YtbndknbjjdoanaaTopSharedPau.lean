/-
  filled: the walk. Conditions: numbers in their bounds; the octets lie apart from the pool.
-/
import Derived.Test.YtbndknbjjdoanaaTopSharedPas
import Derived.Test.YtbndknbjjdoanaaTopSharedPad
import Derived.RangeFuncWrites
import Derived.Deep.DeepCutAuto
import Derived.IntWalk
namespace Go.Proofs.Ytbndknbjjdoanaa
open Go.RowKit Go.Shelf
attribute [local go_sem] Oper.semAt_some
set_option linter.unusedVariables false

def FillPost (h bp : Nat) (P : PoolSt) (mb ms N1 N2 : Nat) (D2 : DataW Unit) (F : Nat → Prop) (os : List Int) (w : World) : Ending → World → Prop := fun e w' =>
  ∃ (v : Value) (bks : List Bk) (D1' : DataW Unit) (F' : Nat → Prop), e = .returned v ∧ bks.length = manyP P.size os.length ∧ Fills P.size os bks ∧ PoolMem w' F' h bp (P.growAll bks) mb ms (N1 + bks.length) N2 D1' D2 ∧
    (∀ k, F' k → F k ∨ w.heap.size ≤ k) ∧ (∀ k, F' k → k < w'.heap.size) ∧ (∀ k, F k → F' k) ∧ w'.ownsRow w.heap.size 75 3 v bks.length (ptCells (fillPts P.lastB P.size os bks.length)) ∧ (∀ k, v.ownBlock = some k → ¬ F' k) ∧ Touch F w w'
def FilS (Bx Bo h : Nat) (v : Value) (W : World) : Prop := W.cell? ⟨Bx, 0, none⟩ = some (.pointer (some ⟨h, 0, none⟩)) ∧ W.cell? ⟨Bo, 0, none⟩ = some v

set_option maxHeartbeats 4000000 in
set_option maxRecDepth 100000 in
theorem filled_any {w : World} {F : Nat → Prop} {h bp : Nat} {P : PoolSt} {mb ms N1 N2 : Nat} {D1 D2 : DataW Unit} (m : PoolMem w F h bp P mb ms N1 N2 D1 D2) (a : Option Addr) (n c : Nat) (os : List Int) (hr : ∀ W, Touch F w W → Reads W .u8 (.slice a n c) os) (hn : os.length = n) (hn2 : n ≤ 1000000) (hc1 : n ≤ c) (hc2 : c ≤ 9223372036854775807) (hbz : bytes os) (hfl : ∀ k, F k → k < w.heap.size) (hfew : P.bl.length + manyP P.size n ≤ 2000) (hB : P.lastB + manyP P.size n ≤ 1000000000) (hN : N1 + manyP P.size n ≤ 9223372036854775807) :
    Calls Try.prog 34 #[.pointer (some ⟨h, 0, none⟩), .slice a n c] w (FillPost h bp P mb ms N1 N2 D2 F os w) := by
  obtain ⟨i0, hi0, hz0, hz1, hz2⟩ := info_parts infoPart
  obtain ⟨s1, s2⟩ := m.sz
  have B1 : Below w.heap.size w ((w.alloc (.cells #[.pointer (some ⟨h, 0, none⟩)] 26)).alloc (.cells #[.slice none 0 0] 66)) := ((Below.refl w.heap.size w).alloc (Nat.le_refl _) _).alloc (by simp) _
  have X1 := (heap_alloc_old (w.alloc (.cells #[.pointer (some ⟨h, 0, none⟩)] 26)) (.cells #[.slice none 0 0] 66) (r := w.heap.size) (by simp)).trans (heap_alloc_new w _)
  have O1 := heap_alloc_new (w.alloc (.cells #[.pointer (some ⟨h, 0, none⟩)] 26)) (.cells #[.slice none 0 0] 66)
  have Z1 : ((w.alloc (.cells #[.pointer (some ⟨h, 0, none⟩)] 26)).alloc (.cells #[.slice none 0 0] 66)).heap.size = w.heap.size + 2 := by simp
  simp only [World.size_alloc] at O1
  have HM := Lib.hid m
  have HR := Lib.hid hr
  have HN := Lib.hid hn
  have HBZ := Lib.hid hbz
  have HFL := Lib.hid hfl
  have HFEW := Lib.hid (And.intro hfew (And.intro hB hN))
  have BX1 := Lib.hid B1
  have HX1 := Lib.hid X1
  have HO1 := Lib.hid O1
  have HZ1 := Lib.hid Z1
  have mc := (m.below B1).cells
  have c2 := mc.2.2.1
  have x0 : ((w.alloc (.cells #[.pointer (some ⟨h, 0, none⟩)] 26)).alloc (.cells #[.slice none 0 0] 66)).cell? ⟨w.heap.size, 0, none⟩ = some (.pointer (some ⟨h, 0, none⟩)) := by rw [cell_of X1]; rfl
  clear m hr hn hbz hfl hfew hB hN B1 X1 O1 Z1 mc
  refine (callsIn_wide (n := 9)).1 ?_
  refine callsIn_of_wp_marks Try.func34 rfl trivial ?_ rfl
  refine (wpIn_wide (n := 9)).2 ?_
  simp only [Try.ntmps34, List.size_toArray, List.length_cons, List.length_nil, Nat.reduceAdd, Nat.reduceSub, Array.replicate_succ, Array.replicate_zero, List.push_toArray, List.append_toArray, List.nil_append, List.cons_append]
  go_upto_region 2 with fail
  generalize ((w.alloc (.cells #[.pointer (some ⟨h, 0, none⟩)] 26)).alloc (.cells #[.slice none 0 0] 66)) = W1 at *
  go_wp2_with fail
  refine (chunkMk_any a n c P.size _ s1).mono ?_
  rintro e w9 ⟨rfl, rfl⟩
  have B9 : Below W1.heap.size W1 ((W1.alloc (.cells #[.slice a n c] 22)).alloc (.cells #[.int .i64 P.size] 3)) := ((Below.refl _ _).alloc (Nat.le_refl _) _).alloc (by simp) _
  have hBn := heap_alloc_new (W1.alloc (.cells #[.slice a n c] 22)) (.cells #[.int .i64 P.size] 3)
  have hBs := (heap_alloc_old (W1.alloc (.cells #[.slice a n c] 22)) (.cells #[.int .i64 P.size] 3) (r := W1.heap.size) (by simp)).trans (heap_alloc_new W1 _)
  have hsz : ((W1.alloc (.cells #[.slice a n c] 22)).alloc (.cells #[.int .i64 P.size] 3)).heap.size = W1.heap.size + 2 := by simp
  simp only [World.size_alloc] at hBn
  generalize (W1.alloc (.cells #[.slice a n c] 22)).alloc (.cells #[.int .i64 P.size] 3) = w9 at *
  have HB9 := Lib.hid (BX1.out.trans (B9.mono BX1.out.size))
  have R9 := HR.out w9 (Touch.of_below HB9.out)
  obtain ⟨bb, off, hseq, hparts⟩ := chunk_seqR R9 HN.out hn2 hc1 hc2 s1 (by omega) (parts_count n P.size s1) hBs hBn
  rw [HZ1.out] at hBn hBs hsz hseq ⊢
  have HSEQ := Lib.hid hseq
  have HPARTS := Lib.hid hparts
  have X9 := Lib.hid ((B9.block _ (lt_of HX1.out)).trans HX1.out)
  have O9 := Lib.hid ((B9.block _ (lt_of HO1.out)).trans HO1.out)
  have M9 := Lib.hid (HM.out.below HB9.out)
  have Z9 := Lib.hid hsz
  clear hseq hparts R9 B9 hBn hBs c2 x0
  go_wp2_with fail
  refine (wpIn_wide (n := 9)).1 ?_
  have hz9 := hsz
  clear hsz
  have hF9 : ∀ k, F k → k < w9.heap.size := fun k hk => by have := HFL.out k hk; omega
  have hBo9 : w.heap.size + 1 < w9.heap.size := by omega
  have hFBo : ¬ F (w.heap.size + 1) := fun hx => by have := HFL.out _ hx; omega
  have HG := Lib.hid (And.intro hF9 hFBo)
  generalize hfr : Act.mk _ _ = fr
  refine wpIn_rangeFunc_ownG (F := Fence.wide) (n := 9) rfl (by omega) (gf := 72) (lb := #[.pointer (some ⟨w.heap.size + 2, 0, none⟩), .pointer (some ⟨w.heap.size + 2 + 1, 0, none⟩)]) (by rw [← hfr]; rfl) trivial (enters_of Try.func72 (by kernel_rfl) rfl)
    HSEQ.out KpC.trans (fun W l o o' hl _ _ _ => KpC.put (B := w9.heap.size) (by omega) (by omega) W l o o' hl) (Below.refl _ _) (fun _ => rfl)
    (FillI w9 h bp P mb ms N1 N2 D2 F (w.heap.size + 1) os) (fun _ _ _ => False) (FillI.own HG.out.1 hBo9) (fun _ _ _ _ _ hs _ _ => hs)
    ⟨[], _, F, .slice none 0 0, ⟨rfl, fun j x i hx => by simp at hx⟩, M9.out, fun k hk => Or.inl hk, fun k hk => hk, O9.out, World.ownsRow_nil _ _ _ _, (fun k hk => by cases hk), Touch.refl _ _⟩
    (fun j => ⟨(fr.tmps.setIfInBounds 13 (chunkPart bb off n P.size j)).setIfInBounds 6 (chunkPart bb off n P.size j), []⟩) ?assign ?body ?done ?stop
  case stop =>
    rintro D c pre W _ _ h _
    exact h.elim
  case assign =>
    intro l x W K hK
    subst hfr
    simp only [List.setIfInBounds_toArray, List.set_cons_succ, List.set_cons_zero] at hK
    generalize chunkPart bb off n P.size x = pv at *
    gi_wp2
    exact hK
  case body =>
    rintro l pre x W ⟨bks, D1', F', v, h2, hm, hF', hFF, hbo, hrow, hap, ht⟩ hlt
    obtain ⟨ra, rc, rfl⟩ := wrow_sh hrow
    have hvl : ∀ k, (Value.slice ra pre.length rc).ownBlock = some k → w9.heap.size ≤ k ∧ k < W.heap.size := hrow.lt
    have F'lt : ∀ k, F' k → k < W.heap.size := fun k hk => by
      rcases hF' k hk with hk | ⟨_, o, r2, _⟩
      · have := HG.out.1 k hk; have := ht.size; omega
      · exact (Array.getElem?_eq_some_iff.1 r2).1
    have PW := (ht.block _ (lt_of X9.out) (by rintro (hx | hx); · have := HFL.out _ hx; omega
                                              · omega)).trans X9.out
    have TW : Touch F w W := by
      have t1 := (Touch.of_below HB9.out).then ht
      exact ⟨t1.os, t1.tape, t1.output, t1.size, fun k hk hF => t1.block k hk (by rintro (hx | hx); exact hF hx; omega)⟩
    have RP := HPARTS.out W x (HR.out W TW)
    have hpl : (partZ os P.size x).length = min P.size (n - x * P.size) := by rw [partZ_len, HN.out]
    unfold chunkPart at RP
    have hbl : bks.length = pre.length := h2.1
    have hlt' : pre.length < manyP P.size n := hlt
    have FR := Lib.hid (fresh_any (hm.same (w' := W.drew) (fun _ _ _ => rfl)) (some ⟨bb, off + x * P.size, none⟩) (min P.size (n - x * P.size)) (min P.size (n - x * P.size)) (partZ os P.size x) (RP.drewN 1) hpl (by rw [growAll_size]; exact Nat.min_le_left _ _) (fun z hz => HBZ.out z (List.mem_of_mem_drop (List.mem_of_mem_take hz))) F'lt (by rw [growAll_bl, hbl]; have := HFEW.out.1; omega) (by rw [growAll_lastB, hbl]; have := HFEW.out.2.1; omega) (by have := HFEW.out.2.2; omega))
    have HI := Lib.hid (And.intro h2 (And.intro hF' (And.intro hFF (And.intro hap (And.intro hvl (And.intro ht (And.intro hrow hbo)))))))
    have x0 : W.cell? ⟨w.heap.size, 0, none⟩ = some (.pointer (some ⟨h, 0, none⟩)) := by rw [cell_of PW]; rfl
    have o0 : W.cell? ⟨w.heap.size + 1, 0, none⟩ = some (.slice ra pre.length rc) := by rw [cell_of hbo]; rfl
    have HPL := Lib.hid hpl
    have HFT := Lib.hid F'lt
    have HPW := Lib.hid PW
    have hlen : pre.length ≤ 1000000 := by have := HFEW.out.1; omega
    have hws := ht.size
    have EL := Lib.hid (show ((P.growAll bks).lastB + 1 : Nat) = P.lastB + 1 + pre.length by rw [growAll_lastB, hbl]; omega)
    have ES := Lib.hid (growAll_size P bks)
    clear h2 hm hF' hFF hbo hrow hap ht hvl F'lt PW TW RP hpl hbl hlt hlt'
    subst hfr
    simp only [List.setIfInBounds_toArray, List.set_cons_succ, List.set_cons_zero, chunkPart]
    generalize hmn : min P.size (n - x * P.size) = pl at *
    have HMN := Lib.hid hmn
    clear hmn
    have s0 : ∀ y : WIn (FilS w.heap.size (w.heap.size + 1) h (.slice ra pre.length rc)), y.w.cell? ⟨w.heap.size, 0, none⟩ = some (.pointer (some ⟨h, 0, none⟩)) := fun y => y.h.1
    have s7 : ∀ y : WIn (FilS w.heap.size (w.heap.size + 1) h (.slice ra pre.length rc)), y.w.cell? ⟨w.heap.size + 1, 0, none⟩ = some (.slice ra pre.length rc) := fun y => y.h.2
    haveI ne : Nonempty (WIn (FilS w.heap.size (w.heap.size + 1) h (.slice ra pre.length rc))) := ⟨⟨W, x0, o0⟩⟩
    gi_wp2
    refine wpIn_region_plan l 6 (FilS w.heap.size (w.heap.size + 1) h (.slice ra pre.length rc)) rfl (by kernel_rfl) ?_
    refine wpN_seg [0, 1, 2] (by kernel_rfl) (by kernel_rfl) (by kernel_rfl) (by kernel_rfl) (by decide) (fun _ _ _ _ _ h => h) ⟨x0, o0⟩ ?_
    simp only [pick, List.map_cons, List.map_nil, List.getElem?_cons_succ, List.getElem?_cons_zero, Option.getD_some]
    repeat (go_big_quiet_step (fail))
    refine wpQuiet_nil ?_
    clear x0 o0
    refine wpN_one 3 _ (by kernel_rfl) rfl ?_
    refine NextAt.held ?_
    intro K hK
    go_simp
    refine FR.out.mono ?_
    rintro e W1 ⟨rfl, a1, g1, D1'', ha, hg, ha1, hg1, hm1, ht1⟩
    have hh := HM.out.fh
    have hmb := HM.out.f1
    have lh := HFL.out _ hh
    have lmb := HFL.out _ hmb
    have ht1 : Touch (fun k => k = h ∨ k = mb) W W1 := ⟨ht1.os, ht1.tape, ht1.output, ht1.size, ht1.block⟩
    have ha : W.heap.size ≤ a1 := ha
    have hg : W.heap.size ≤ g1 := hg
    have hs1 := ht1.size
    have PW1 := (ht1.block _ (lt_of HPW.out) (by omega)).trans HPW.out
    have hbo := HI.out.2.2.2.2.2.2.2
    have BO1 := (ht1.block _ (lt_of hbo) (by omega)).trans hbo
    have hrow := HI.out.2.2.2.2.2.2.1
    have hap := HI.out.2.2.2.1
    have hhF := HI.out.2.2.1 _ hh
    have hmbF := HI.out.2.2.1 _ hmb
    have ROW1 := Lib.hid (ownsRow_same hrow (fun k hk => ht1.block k (hrow.lt k hk).2 (by rintro (e | e); exact hap k hk (e ▸ hhF); exact hap k hk (e ▸ hmbF))))
    rw [ES.out] at hm1
    have HM1 := Lib.hid (And.intro hm1 (And.intro ht1 (And.intro ha (And.intro hg (And.intro ha1 hg1)))))
    rw [EL.out]
    have HH := Lib.hid (And.intro hh (And.intro hmb (And.intro lh lmb)))
    have S1 : FilS w.heap.size (w.heap.size + 1) h (.slice ra pre.length rc) W1 := ⟨by rw [cell_of PW1]; rfl, by rw [cell_of BO1]; rfl⟩
    clear hm1 ht1 ha hg hrow hap hbo hhF hmbF hh hmb lh lmb
    go_simp
    refine hK _ _ S1 ?_
    clear hK K
    refine wpN_one 4 _ (by kernel_rfl) rfl ?_
    refine NextAt.held ?_
    intro K hK
    go_simp
    have bal : Below W1.heap.size W1 (W1.alloc (.cells #[.int .i64 ((P.lastB + 1 + pre.length : Nat) : Int), .int .i64 0, .int .i64 ((partZ os P.size x).length : Int)] 75)) := (Below.refl _ _).alloc (Nat.le_refl _) _
    refine hK _ _ ⟨old_cell bal S1.1, old_cell bal S1.2⟩ ?_
    clear hK K bal
    refine wpN_one 5 _ (by kernel_rfl) rfl ?_
    refine NextAt.held ?_
    intro K hK
    refine step_append_new rfl (.tmp 14) (.tmp 18) 66 rfl w9.heap.size 75 i0 (.agg #[.int .i64 0, .int .i64 0, .int .i64 0]) 3 24 Try.underlying66 hi0 hz0 hz1 hz2 rfl (by decide) (.slice ra pre.length rc) pre.length (ptCells (fillPtsL P.lastB P.size os pre)) W1 _ [.int .i64 ((P.lastB + 1 + pre.length : Nat) : Int), .int .i64 0, .int .i64 ((partZ os P.size x).length : Int)] (by simp [Act.eval]) ROW1.out (by simp [Act.eval]) rfl (by intro u hu; simp at hu; rcases hu with rfl | rfl | rfl <;> rfl) (by unfold maxLen; omega) (by omega) (by omega) ?_
    intro g2 kc2 w' hrow2 hgr hpl' hszl
    have f1 := (hgr.block w.heap.size (lt_of PW1) (fun e => by have := HI.out.2.2.2.2.1 _ e.symm; omega)).trans PW1
    have f2 := (hgr.block (w.heap.size + 1) (lt_of BO1) (fun e => by have := HI.out.2.2.2.2.1 _ e.symm; omega)).trans BO1
    have FIN := Lib.hid (FillI.round (x := x) HG.out.1 HG.out.2 hBo9 HI.out.1 HI.out.2.1 HI.out.2.2.1 HI.out.2.2.2.1 HI.out.2.2.2.2.1 HI.out.2.2.2.2.2.1 HM1.out.1 HM1.out.2.1 HH.out.1 HH.out.2.1 HM1.out.2.2.1 HM1.out.2.2.2.1 HM1.out.2.2.2.2.1 HM1.out.2.2.2.2.2 hrow2 hgr hpl' f2)
    have hy0 : w'.cell? ⟨w.heap.size, 0, none⟩ = some (.pointer (some ⟨h, 0, none⟩)) := by rw [cell_of f1]; rfl
    have hy7 : w'.cell? ⟨w.heap.size + 1, 0, none⟩ = some (.slice ra pre.length rc) := by rw [cell_of f2]; rfl
    have hyf : w'.frozen? ⟨w.heap.size + 1, 0, none⟩ = false := free_of f2 _
    have hkp : KpC (w.heap.size + 2) (w.heap.size + 2 + 1) W (w'.setCell ⟨w.heap.size + 1, 0, none⟩ (.slice (some ⟨g2, 0, none⟩) (pre.length + 1) kc2)) := by
      have keep : ∀ k, w.heap.size + 1 < k → k < w9.heap.size → (w'.setCell ⟨w.heap.size + 1, 0, none⟩ (.slice (some ⟨g2, 0, none⟩) (pre.length + 1) kc2)).heap[k]? = W.heap[k]? := fun k h1 h2 => by
        have hr := HI.out.2.2.2.2.1
        have t1 := HM1.out.2.1
        have l1 := HH.out.2.2
        rw [Below.heap_setCell _ _ _ _ (show k ≠ w.heap.size + 1 by omega), hgr.block k (by omega) (fun e => by have := hr k e.symm; omega), t1.block k (by omega) (by omega)]
      exact ⟨keep _ (by omega) (by omega), keep _ (by omega) (by omega)⟩
    have hrc : ∀ (j : Nat) (o : Obj), (Value.slice ra pre.length rc).ownBlock = some j → W1.heap[j]? = some o → o.isCells = true := fun j o e ho => by
      obtain ⟨cur, hc⟩ := row_block ROW1.out e
      rw [hc] at ho
      cases ho
      rfl
    have hkf : KeepsFrom w9.heap.size W (w'.setCell ⟨w.heap.size + 1, 0, none⟩ (.slice (some ⟨g2, 0, none⟩) (pre.length + 1) kc2)) := by
      have k1 : KeepsFrom w9.heap.size W W1 := ⟨hs1, fun k o hB hk _ => (HM1.out.2.1.block k (Array.getElem?_eq_some_iff.1 hk).1 (by have := HH.out.2.2; omega)).trans hk⟩
      exact k1.trans (((KeepsOthers.of_grownBy hgr hrc).trans (KeepsOthers.setCell _ _ _)).from _)
    have HKP := Lib.hid (And.intro hkf hkp)
    clear hkf hrc
    clear hrow2 hgr hpl' f1 f2 HI ROW1 HM1 S1 PW1 BO1 hkp
    go_simp
    refine hK _ _ ⟨hy0, hy7⟩ ?_
    clear hK K
    refine wpN_one 6 _ (by kernel_rfl) rfl ?_
    refine NextAt.free (by kernel_rfl) ?_
    intro K hK
    go_simp
    refine hK _ _ ?_
    clear hK K
    refine wpN_done (by kernel_rfl) ?_
    gi_wp2
    exact ⟨HKP.out.1, HKP.out.2, FIN.out⟩
  case done =>
    rintro D ys W hD rfl hI hK
    have hJ := (FillI.own HG.out.1 hBo9).putObj (.deferred none) hI hD hK rfl
    have FIN : Hid (∃ v, (W.putObj D (.deferred none)).heap[w.heap.size + 1]? = some (.cells #[v] 66 (0, 0)) ∧ FillPost h bp P mb ms N1 N2 D2 F os w (.returned v) (W.putObj D (.deferred none))) := Lib.hid (by
      obtain ⟨bks, D1', F', v, h2, hm, hF', hFF, hbo, hrow, hap, ht⟩ := hJ
      obtain ⟨hl, hfi⟩ := h2.range
      rw [List.length_range] at hm hrow
      rw [fillPtsL_range] at hrow
      have hMN : manyP P.size n = (n + P.size - 1) / P.size := rfl
      rw [← hMN] at hl hm hrow
      have t1 := (Touch.of_below HB9.out).then ht
      refine ⟨v, hbo, v, bks, D1', F', rfl, by rw [HN.out]; exact hl, hfi, by rw [hl]; exact hm, fun k hk => (hF' k hk).imp id (fun hx => by have := hx.1; omega), fun k hk => ?_, hFF, by rw [hl]; exact row_low hrow (by omega), hap, ⟨t1.os, t1.tape, t1.output, t1.size, fun k hk hF => t1.block k hk (by rintro (hx | hx); exact hF hx; omega)⟩⟩
      rcases hF' k hk with hk | ⟨_, o, r2, _⟩
      · have := HG.out.1 k hk; have := ht.size; omega
      · exact (Array.getElem?_eq_some_iff.1 r2).1)
    clear hI hJ
    subst hfr
    obtain ⟨v, hv, hpost⟩ := FIN.out
    have hv0 : (W.putObj D (.deferred none)).cell? ⟨w.heap.size + 1, 0, none⟩ = some v := by rw [cell_of hv]; rfl
    have hv1 : W.cell? ⟨w.heap.size + 1, 0, none⟩ = some v := by
      have e : (W.putObj D (.deferred none)).heap[w.heap.size + 1]? = W.heap[w.heap.size + 1]? := World.putObj_heap_other (by omega)
      rw [cell_of (e.symm.trans hv)]
      rfl
    have HP := Lib.hid hpost
    clear hv hpost FIN hv0
    go_wp2_with fail
    refine ⟨by simp, .inl ⟨_, _, rfl, run_takeDeferred hK, ?_⟩⟩
    refine ⟨_, results_tmp rfl _ _ _, ?_⟩
    exact HP.out

end Go.Proofs.Ytbndknbjjdoanaa
