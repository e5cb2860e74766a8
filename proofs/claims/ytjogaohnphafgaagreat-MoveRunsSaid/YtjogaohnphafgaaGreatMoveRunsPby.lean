/-
  The walk of MoveRuns. No conditions.
-/
import Derived.Test.YtjogaohnphafgaaGreatMoveRunsPbx
import Derived.Test.YtjogaohnphafgaaGreatMoveRunsPbu
import Derived.Test.YtjogaohnphafgaaGreatMoveRunsPbh
import Derived.Test.YtjogaohnphafgaaGreatMoveRunsPbi
import Derived.Deep.LoopGhost
import Derived.Deep.Cut
import Derived.Deep.CutBlock
import Derived.Deep.CutRange
import Derived.Deep.DeepCutAuto
namespace Go.Proofs.YtjogaohnphafgaaGreat
open Go.RowKit
set_option linter.unusedVariables false

theorem MrE.below {w0 w w1 : World} {hp bp rp pp cp n M : Nat} {X : Nat → Prop} (h : MrE w0 hp bp rp pp cp n M X w) (hb : Below w.heap.size w w1) : MrE w0 hp bp rp pp cp n M X w1 := by
  obtain ⟨S, vm, vb, vh, vhs, F, G, b, kept, um, ub, uk, uks, E, R, prs, h1, h2⟩ := h
  exact ⟨S, vm, vb, vh, vhs, F, G, b, kept, um, ub, uk, uks, E, R, prs, h1.below hb, h2⟩
theorem bytes_wf {zs : List Int} (h : ∀ z ∈ zs, (Lit.int .u8 z).wf = true) : bytes zs := by
  intro z hz
  have := h z hz
  simp [Lit.wf] at this
  have h1 : IntKind.u8.min = 0 := rfl
  have h2 : IntKind.u8.max = 255 := rfl
  omega

set_option maxHeartbeats 8000000 in
set_option maxRecDepth 100000 in
theorem moveRuns (pk ps pm most : Int) (v : Value) (L : List Cl) (v3 : Value) (z3 : List Int) (w : World) (_ : -9223372036854775808 ≤ pk ∧ pk ≤ 9223372036854775807) (_ : -9223372036854775808 ≤ ps ∧ ps ≤ 9223372036854775807) (_ : -9223372036854775808 ≤ pm ∧ pm ≤ 9223372036854775807) (_ : -9223372036854775808 ≤ most ∧ most ≤ 9223372036854775807)
    (hops : ClsIn w v L ∧ (∀ e ∈ L, e.d.length ≤ 140737488351232) ∧ ∃ a c, v = .slice a L.length c ∧ L.length ≤ c ∧ c ≤ 9223372036854775807) (h3 : RowIn w .i64 8 v3 z3) (hf3 : sliceFits v3) :
    Calls Tryz.prog 3 #[.agg #[.int .i64 pk, .int .i64 ps, .int .i64 pm], .int .i64 most, v, v3] w (LawPost w) := by
  obtain ⟨⟨a, cap, rfl, hll, hcell⟩, hfit, a', cap', hac, hlc, hcm⟩ := hops
  simp only [Value.slice.injEq] at hac
  obtain ⟨rfl, _, rfl⟩ := hac
  have HLC := Lib.hid (And.intro hlc hcm)
  have HC := Lib.hid hcell
  have H3 := Lib.hid h3
  obtain ⟨pa, pc, hv3, _, _⟩ := h3.reads
  have HF3 := Lib.hid hf3
  have HV3 := Lib.hid hv3
  obtain ⟨M, hM⟩ : ∃ M, limV most = M := ⟨_, rfl⟩
  have HMB : Hid (M ≤ 10000000) := Lib.hid (by rw [← hM]; unfold limV; omega)
  have LIM : Hid (∀ W, Calls Tryz.prog 6 #[.int .i64 most] W (fun e w' => e = .returned (.int .i64 (M : Int)) ∧ w' = W)) := Lib.hid (fun W => by rw [← hM]; exact limit_any most W)
  have P0 := heap_alloc_new w (.cells #[.int .i64 pk, .int .i64 ps, .int .i64 pm] 23)
  have bel0 : Below w.heap.size w (w.alloc (.cells #[.int .i64 pk, .int .i64 ps, .int .i64 pm] 23)) := (Below.refl _ _).alloc (Nat.le_refl _) _
  have PE := Lib.hid (policyError_any pk ps pm)
  have hsz0 : w.heap.size < (w.alloc (.cells #[.int .i64 pk, .int .i64 ps, .int .i64 pm] 23)).heap.size := by simp
  clear hcell hfit hlc hcm h3 hf3 hv3 hM
  go_enter Tryz.func3, Tryz.ntmps3
  have x0 := (cell_of P0 0).trans rfl
  have x1 := (cell_of P0 1).trans rfl
  have x2 := (cell_of P0 2).trans rfl
  obtain ⟨pe, hpe⟩ : ∃ pe, polErr pk ps pm = pe := ⟨_, rfl⟩
  have HPE := Lib.hid hpe
  rw [hpe] at PE
  clear hpe
  go_wp2_with fail
  refine (PE.out _).mono ?_
  rintro e w1 ⟨rfl, hw1, _⟩
  have B1 : Below (w.alloc (.cells #[.int .i64 pk, .int .i64 ps, .int .i64 pm] 23)).heap.size (w.alloc (.cells #[.int .i64 pk, .int .i64 ps, .int .i64 pm] 23)) w1 := by rw [← hw1]; exact (Below.refl _ _).alloc (Nat.le_refl _) _
  have P1 := (B1.block _ hsz0).trans P0
  have BW := bel0.trans (B1.mono bel0.size)
  clear hw1 B1 x0 x1 x2 PE P0 bel0 hsz0
  go_upto_if 28 with fail
  refine wp_cut_framed 293 (fun f wx => f 1 = .int .i64 most ∧ f 2 = .slice a L.length cap ∧ f 3 = v3 ∧ f 4 = .pointer (some ⟨w.heap.size, 0, none⟩) ∧ ∃ k s m, polErr k s m = 0 ∧ wx.heap[w.heap.size]? = some (.cells #[.int .i64 k, .int .i64 s, .int .i64 m] 23 (0, 0)) ∧ Below w.heap.size w wx) _ _ ?_ ?_
  · intro J K' hJ hK
    by_cases h0 : pe = 0
    · as_aux_lemma =>
      have H0 := Lib.hid (HPE.out.trans h0)
      have FIN := Lib.hid (And.intro P1 BW)
      subst h0
      clear P1 BW
      go_wp2_with fail
      refine Met.intro (hJ _ _ (by kernel_rfl) ⟨rfl, rfl, rfl, rfl, _, _, _, H0.out, FIN.out.1, FIN.out.2⟩)
    · as_aux_lemma =>
      have h1 : (pe != 0) = true := by simpa using h0
      clear h0
      have x0 := (cell_of P1 0).trans rfl
      have x1 := (cell_of P1 1).trans rfl
      have x2 := (cell_of P1 2).trans rfl
      have z0 := free_of P1 0
      have z1 := free_of P1 1
      have z2 := free_of P1 2
      have P2 := block_setCell (block_setCell (block_setCell P1 0 (.int .i64 3)) 1 (.int .i64 0)) 2 (.int .i64 100000)
      have FIN : Hid (_ ∧ Below w.heap.size w (((w1.setCell ⟨w.heap.size, 0, none⟩ (.int .i64 3)).setCell ⟨w.heap.size, 1, none⟩ (.int .i64 0)).setCell ⟨w.heap.size, 2, none⟩ (.int .i64 100000))) := Lib.hid (And.intro P2 (((BW.setCell (p := ⟨w.heap.size, 0, none⟩) (Nat.le_refl _) _).setCell (p := ⟨w.heap.size, 1, none⟩) (Nat.le_refl _) _).setCell (p := ⟨w.heap.size, 2, none⟩) (Nat.le_refl _) _))
      clear P2 P1 BW
      go_wp2_with fail
      refine Met.intro (hJ _ _ (by kernel_rfl) ⟨rfl, rfl, rfl, rfl, 3, 0, 100000, by decide, FIN.out.1, FIN.out.2⟩)
  clear P1 BW
  intro f wx ⟨f1, f2, f3, f4, k, s, m, hpol, hbx, hbl⟩
  rw [slots293]
  rw [f1, f2, f3, f4]
  clear f1 f2 f3 f4
  have HPO := Lib.hid hpol
  have HBX := Lib.hid hbx
  have HBL := Lib.hid hbl
  clear hpol hbx hbl
  go_wp2_with fail
  refine (LIM.out _).mono ?_
  rintro e w' ⟨rfl, hw'⟩
  obtain rfl := hw'.symm
  clear hw'
  have hMB := HMB.out
  have BK := Lib.hid (book_any (M : Int) wx (by omega) (by omega))
  unfold BookPost at BK
  go_wp2_with fail
  refine BK.out.mono ?_
  rintro e w2 ⟨bp, rfl, hbk, hb2⟩
  have B2 := Lib.hid (HBL.out.trans (hb2.mono HBL.out.size))
  have HB2 := Lib.hid hb2
  have P2 := (hb2.block _ (lt_of HBX.out)).trans HBX.out
  have HP2 := Lib.hid P2
  have NH := Lib.hid (newHL_any bp k s m M w2 _ hbk hMB HPO.out)
  have x0 := (cell_of P2 0).trans rfl
  have x1 := (cell_of P2 1).trans rfl
  have x2 := (cell_of P2 2).trans rfl
  clear hbk hb2 BK P2
  go_wp2_with fail
  refine NH.out.mono ?_
  rintro e w3 ⟨hb3, hp, F, G, rfl, hHB, hF, hG⟩
  have B3 := Lib.hid (B2.out.trans (hb3.mono B2.out.size))
  have P3 := (hb3.block _ (lt_of HP2.out)).trans HP2.out
  have HP3 := Lib.hid P3
  have HHB := Lib.hid hHB
  have HFG : Hid (∀ k, F k ∨ G k → w.heap.size ≤ k ∧ k < w3.heap.size) := Lib.hid (fun z hz => by
    have h1 := HBL.out.size
    have h2 := HB2.out.size
    rcases hz with hz | hz
    · have := hF z hz
      exact ⟨by omega, this.2⟩
    · have h5 := hG z hz
      exact ⟨Nat.le_trans h1 h5, hHB.bk.gl z hz⟩)
  clear hb3 hHB hF hG NH x0 x1 x2 P3
  go_upto_region 9 with fail
  have c0 := (cell_of HP3.out 0).trans rfl
  have c1 := (cell_of HP3.out 1).trans rfl
  have c2 := (cell_of HP3.out 2).trans rfl
  have S0 : BelM w3 w3.drew := (Below.refl _ w3).drew
  have g0 : ∀ y : WIn (BelM w3), y.w.cell? ⟨w.heap.size, 0, none⟩ = some (.int .i64 k) := fun y => old_cell y.h c0
  have g1 : ∀ y : WIn (BelM w3), y.w.cell? ⟨w.heap.size, 1, none⟩ = some (.int .i64 s) := fun y => old_cell y.h c1
  have g2 : ∀ y : WIn (BelM w3), y.w.cell? ⟨w.heap.size, 2, none⟩ = some (.int .i64 m) := fun y => old_cell y.h c2
  haveI ne : Nonempty (WIn (BelM w3)) := ⟨⟨w3.drew, S0⟩⟩
  clear c0 c1 c2
  refine wp_normal ?_
  refine wp_region_plan 6 (BelM w3) rfl ?_
  refine wpN_seg [0, 4] (by kernel_rfl) (by kernel_rfl) (by kernel_rfl) (by kernel_rfl) (by decide) (fun _ _ _ _ _ h => h) S0 ?_
  simp only [pick, List.map_cons, List.map_nil, List.getElem?_cons_succ, List.getElem?_cons_zero, Option.getD_some]
  repeat (go_big_quiet_step (fail))
  refine wpQuiet_nil ?_
  clear g0 g1 g2 ne
  refine wpN_one 1 _ (by kernel_rfl) rfl ?_
  refine NextAt.held ?_
  intro K1 hK1
  go_simp
  refine (LIM.out _).mono ?_
  rintro e w' ⟨rfl, hw'⟩
  obtain rfl := hw'.symm
  clear hw'
  go_simp
  refine hK1 _ _ S0 ?_
  clear hK1 K1
  refine wpN_one 2 _ (by kernel_rfl) rfl ?_
  refine NextAt.held ?_
  intro K1 hK1
  go_simp
  refine hK1 _ _ S0 ?_
  clear hK1 K1
  refine wpN_one 3 _ (by kernel_rfl) rfl ?_
  refine NextAt.held ?_
  intro K1 hK1
  go_simp
  have A4 : ((w3.alloc (.cells #[.int .i64 0, .int .i64 (M : Int)] 37)).drew).heap[w3.heap.size]? = _ := heap_alloc_new w3 (.cells #[.int .i64 0, .int .i64 (M : Int)] 37)
  have S4 : BelM w3 ((w3.alloc (.cells #[.int .i64 0, .int .i64 (M : Int)] 37)).drew) := ((Below.refl _ w3).alloc (Nat.le_refl _) _).drew
  refine hK1 _ _ S4 ?_
  clear hK1 K1
  generalize hw4 : (w3.alloc (.cells #[.int .i64 0, .int .i64 (M : Int)] 37)).drew = w4 at *
  have HS4 : Hid (w4.heap.size = w3.heap.size + 1) := Lib.hid (by rw [← hw4]; simp)
  clear hw4
  refine wpN_one 5 _ (by kernel_rfl) rfl ?_
  refine NextAt.held ?_
  intro K1 hK1
  go_simp
  refine hK1 _ _ S4 ?_
  clear hK1 K1
  refine wpN_one 6 _ (by kernel_rfl) rfl ?_
  refine NextAt.free (by kernel_rfl) ?_
  intro K1 hK1
  go_simp
  refine hK1 _ _ ?_
  clear hK1 K1
  refine wpN_pure [7] (by kernel_rfl) (by kernel_rfl) (by kernel_rfl) (fun _ _ _ _ _ h => h) (fun h => by cases h) ?_
  simp only [pick, List.map_cons, List.map_nil, List.getElem?_cons_succ, List.getElem?_cons_zero, Option.getD_some]
  repeat (go_big_quiet_step (fail))
  refine wpQuiet_nil ?_
  refine wpN_done (by kernel_rfl) ?_
  have A5 := heap_alloc_new w4 (.cells #[.pointer (some ⟨w3.heap.size, 0, none⟩), .int .i64 k, .int .i64 s, .int .i64 m, .bool false, .int .i64 0, .slice none 0 0, .slice none 0 0, .int .i64 0, .slice none 0 0] 42)
  have B5 : Below w4.heap.size w4 (w4.alloc (.cells #[.pointer (some ⟨w3.heap.size, 0, none⟩), .int .i64 k, .int .i64 s, .int .i64 m, .bool false, .int .i64 0, .slice none 0 0, .slice none 0 0, .int .i64 0, .slice none 0 0] 42)) := (Below.refl _ _).alloc (Nat.le_refl _) _
  have HS5 : Hid ((w4.alloc (.cells #[.pointer (some ⟨w3.heap.size, 0, none⟩), .int .i64 k, .int .i64 s, .int .i64 m, .bool false, .int .i64 0, .slice none 0 0, .slice none 0 0, .int .i64 0, .slice none 0 0] 42)).heap.size = w4.heap.size + 1) := Lib.hid (by simp)
  generalize (w4.alloc (.cells #[.pointer (some ⟨w3.heap.size, 0, none⟩), .int .i64 k, .int .i64 s, .int .i64 m, .bool false, .int .i64 0, .slice none 0 0, .slice none 0 0, .int .i64 0, .slice none 0 0] 42)) = w5 at *
  have A6 := heap_alloc_new w5 (.cells #[.slice none 0 0, .slice none 0 0] 46)
  have B6 : Below w5.heap.size w5 (w5.alloc (.cells #[.slice none 0 0, .slice none 0 0] 46)) := (Below.refl _ _).alloc (Nat.le_refl _) _
  have START : Hid (MrE w hp bp w4.heap.size w3.heap.size w5.heap.size 0 M (fun _ => False) (w5.alloc (.cells #[.slice none 0 0, .slice none 0 0] 46))) := Lib.hid (by
    have s4 := HS4.out
    have s5 := HS5.out
    have s3 := B3.out.size
    have l34 : Below w3.heap.size w3 w4 := S4
    have l35 := l34.trans (B5.mono l34.size)
    have l36 := l35.trans (B6.mono l35.size)
    have l46 := B5.trans (B6.mono B5.size)
    exact MrE.new (B3.out.trans (l36.mono s3)) (HHB.out.below l36) HPO.out (fun z hz => (HFG.out z hz).1) ((l46.block w3.heap.size (by omega)).trans A4) ((B6.block w4.heap.size (by omega)).trans A5) A6 (fun z hz => by have := (HFG.out z hz).2; omega) (by omega) hMB)
  obtain ⟨N, hN⟩ : ∃ N, min L.length 40 = N := ⟨_, rfl⟩
  have HN : Hid (N ≤ L.length ∧ N ≤ 40) := Lib.hid (by omega)
  have HNN := Lib.hid hN
  clear hN A4 A5 A6 B5 B6 S4 S0
  go_upto_region 11 with fail
  generalize w5.alloc (.cells #[.slice none 0 0, .slice none 0 0] 46) = w6 at *
  generalize w4.heap.size = rp at *
  generalize w3.heap.size = pp at *
  generalize w5.heap.size = cp at *
  refine wp_cut_framed 293 (fun f wx => ∃ cc, f 3 = v3 ∧ f 9 = .pointer (some ⟨bp, 0, none⟩) ∧ f 10 = .pointer (some ⟨hp, 0, none⟩) ∧ f 12 = .pointer (some ⟨rp, 0, none⟩) ∧ f 13 = .pointer (some ⟨cp, 0, none⟩) ∧ f 60 = .slice a N cc ∧ f 61 = .int .i64 (N : Int) ∧ f 62 = .int .i64 0 ∧ wx = w6) _ _ ?_ ?_
  · intro J K' hJ hK
    have hlc := HLC.out
    by_cases h40 : 40 < L.length
    · as_aux_lemma =>
      obtain rfl : N = 40 := by have := HNN.out; omega
      have hmin : min (L.length : Int) 40 = 40 := by omega
      go_wp2_with fail
      refine Met.intro (hJ _ _ (by kernel_rfl) ⟨_, rfl, rfl, rfl, rfl, rfl, by first | rfl | simp, rfl, rfl, rfl⟩)
    · as_aux_lemma =>
      obtain rfl : N = L.length := by have := HNN.out; omega
      have hmin : min (L.length : Int) 40 = (L.length : Int) := by omega
      go_wp2_with fail
      refine Met.intro (hJ _ _ (by kernel_rfl) ⟨_, rfl, rfl, rfl, rfl, rfl, by first | rfl | simp, rfl, rfl, rfl⟩)
  intro f wx ⟨cc, f3, f9, f10, f12, f13, f60, f61, f62, hwx⟩
  subst hwx
  rw [slots293]
  rw [f3, f9, f10, f12, f13, f60, f61, f62]
  clear f3 f9 f10 f12 f13 f60 f61 f62
  go_wp2_with fail
  refine wp_loop_framed 293 (fun g f wr => ∃ k : Nat, k ≤ N ∧ g = N - k ∧ f 3 = v3 ∧ f 9 = .pointer (some ⟨bp, 0, none⟩) ∧ f 10 = .pointer (some ⟨hp, 0, none⟩) ∧ f 12 = .pointer (some ⟨rp, 0, none⟩) ∧ f 13 = .pointer (some ⟨cp, 0, none⟩) ∧ f 60 = .slice a N cc ∧ f 61 = .int .i64 (N : Int) ∧ f 62 = .int .i64 (k : Int) ∧ MrE w hp bp rp pp cp k M (fun _ => False) wr) _ _ (by kernel_rfl) N ⟨0, Nat.zero_le _, rfl, rfl, rfl, rfl, rfl, rfl, rfl, rfl, rfl, START.out⟩ ?_
  clear f START HHB HFG HP3 HP2 HBX HBL HB2 B2 B3 HPO HS4 HS5
  intro g f wr ⟨k, hk, hg, f3, f9, f10, f12, f13, f60, f61, f62, S, vm, vb, vh, vhs, F, G, b, kept, um, ub, uk, uks, E, R, prs, hI, hP⟩ J K hJ hK
  rw [slots293]
  rw [f3, f9, f10, f12, f13, f60, f61, f62]
  clear f3 f9 f10 f12 f13 f60 f61 f62
  have hm40 := HN.out.2
  by_cases hlt : k < N
  · as_aux_lemma =>
    obtain ⟨lb, lo, ha, c5⟩ := HC.out k (by have := HN.out; omega)
    subst ha
    obtain ⟨g0, g1, g2, g3, dv, g4, hrd, hz, hfk, hfa, hfb, hfc⟩ := c5
    obtain ⟨da, dc, hdv, _, _⟩ := id hrd
    generalize L.getD k Cl.zero = cl at *
    obtain ⟨ck, ca, cb, cc', cd⟩ := cl
    simp only at g0 g1 g2 g3 g4 hrd hz hfa hfb hfc hfk hdv
    obtain ⟨dn, hdn⟩ : ∃ dn, cd.length = dn := ⟨_, rfl⟩
    rw [hdn] at hdv
    subst hdv
    have hb := hI.bel
    have g0 := old_cell hb g0
    have g1 := old_cell hb g1
    have g2 := old_cell hb g2
    have g3 := old_cell hb g3
    have g4 := old_cell hb g4
    have HRD := Lib.hid hrd
    have HBY := Lib.hid (bytes_wf hz)
    have HFB := Lib.hid (show (-9223372036854775808 ≤ ca ∧ ca ≤ 9223372036854775807) ∧ (-9223372036854775808 ≤ cb ∧ cb ≤ 9223372036854775807) ∧ (-9223372036854775808 ≤ cc' ∧ cc' ≤ 9223372036854775807) from ⟨hfa, hfb, hfc⟩)
    have HX1 : Hid (OpB2 wr.heap.size ck ca cb cc' (.slice da dn dc) (wr.alloc (.cells #[.int .i64 ck, .int .i64 ca, .int .i64 cb, .int .i64 cc', .slice da dn dc] 48))) := Lib.hid (heap_alloc_new wr _)
    have S1 := Lib.hid (hI.box (.cells #[.int .i64 ck, .int .i64 ca, .int .i64 cb, .int .i64 cc', .slice da dn dc] 48))
    have HP := Lib.hid hP
    clear hrd hz hI hP hfk hb hfa hfb hfc hdn
    have t0 := HX1.out.cells.1
    go_upto_block 2 with fail
    generalize wr.alloc (.cells #[.int .i64 ck, .int .i64 ca, .int .i64 cb, .int .i64 cc', .slice da dn dc] 48) = W1 at *
    generalize wr.heap.size = bx at *
    clear g0 g1 g2 g3 g4 t0
    refine wp_cut_framed 293 (fun f wx => f 3 = v3 ∧ f 9 = .pointer (some ⟨bp, 0, none⟩) ∧ f 10 = .pointer (some ⟨hp, 0, none⟩) ∧ f 12 = .pointer (some ⟨rp, 0, none⟩) ∧ f 13 = .pointer (some ⟨cp, 0, none⟩) ∧ f 15 = .pointer (some ⟨bx, 0, none⟩) ∧ f 60 = .slice (some ⟨lb, lo, none⟩) N cc ∧ f 61 = .int .i64 (N : Int) ∧ f 62 = .int .i64 (k : Int) ∧ ∃ er nn, f 16 = .int .i64 er ∧ f 17 = .int .i64 er ∧ f 18 = .int .i64 nn ∧ f 19 = .int .i64 nn ∧ MrE w hp bp rp pp cp (k + 1) M (fun z => z = bx) wx ∧ OpB2 bx ck ca cb cc' (.slice da dn dc) wx) _ _ ?_ ?_
    · clear hJ hK
      intro J K' hJ hK
      by_cases hA : ck = 0 ∨ ck = 1
      · as_aux_lemma =>
          --[[A
          have hlb : S.last < 1000000000 := by have := HP.out.few.1; omega
          rcases hA with rfl | rfl
          all_goals
            obtain ⟨n0, n1, n2, n3, n4⟩ := HX1.out.cells
            go_wp2_with fail
            refine (allocM_any S1.out.hb HP.out.pol hlb cb _).mono ?_
            intro e W2 p1
            obtain ⟨vv, er, rfl, ⟨hrf, hst⟩, KK⟩ := op_alloc S1.out HP.out p1
            have HX2 := Lib.hid (HX1.out.stay hst)
            have RL := Lib.hid (fun way => allocR_any hrf HP.out.apB HP.out.pol hlb cb way)
            have HKK := Lib.hid KK
            clear p1 n0 n1 n2 n3 n4 KK hst hrf
            obtain ⟨n0, n1, n2, n3, n4⟩ := HX2.out.cells
            go_wp2_with fail
            refine (RL.out _).mono ?_
            intro e W3 p2
            obtain ⟨rfl, hE, hst3⟩ := HKK.out e W3 p2
            have FIN : Hid (MrE w hp bp rp pp cp (k + 1) M (fun z => z = bx) W3 ∧ OpB2 bx _ ca cb cc' (.slice da dn dc) W3) := Lib.hid ⟨hE, HX1.out.stay hst3⟩
            clear p2 hE hst3 n0 n1 n2 n3 n4 RL HKK
            go_wp2_with fail
            refine Met.intro (hJ _ _ (by kernel_rfl) ⟨rfl, rfl, rfl, rfl, rfl, rfl, rfl, rfl, rfl, _, _, rfl, rfl, rfl, rfl, FIN.out.1, FIN.out.2⟩)
          --]]A
      · by_cases k2 : ck = 2
        · as_aux_lemma =>
            --[[F
            subst k2
            obtain ⟨o, ho⟩ : ∃ o, o = (Obj.cells #[.int .i64 2, .int .i64 ca, .int .i64 cb, .int .i64 cc', .slice da dn dc] 48 (0, 0)) := ⟨_, rfl⟩
            have S0 : AtB bx o W1.drew := by rw [ho]; exact HX1.out
            have b1 : ∀ y : WIn (AtB bx o), y.w.cell? ⟨bx, 1, none⟩ = some (.int .i64 ca) := fun y => (cell_of (Eq.trans y.h (congrArg some ho)) 1).trans rfl
            haveI ne : Nonempty (WIn (AtB bx o)) := ⟨⟨W1.drew, S0⟩⟩
            have HO := Lib.hid ho
            have BD := Lib.hid ((Below.refl W1.heap.size W1).drew)
            have SD := Lib.hid (S1.out.below BD.out)
            clear ho
            go_upto_region 24 with fail
            refine wp_normal ?_
            refine wp_region_plan 7 (AtB bx o) rfl ?_
            refine wpN_seg [0, 1, 2, 4, 5, 6] (by kernel_rfl) (by kernel_rfl) (by kernel_rfl) (by kernel_rfl) (by decide) (fun _ _ _ _ _ h => h) S0 ?_
            simp only [pick, List.map_cons, List.map_nil, List.getElem?_cons_succ, List.getElem?_cons_zero, Option.getD_some]
            repeat (go_big_quiet_step (fail))
            refine wpQuiet_nil ?_
            clear b1 ne
            refine wpN_one 3 _ (by kernel_rfl) rfl ?_
            refine NextAt.held ?_
            intro K1 hK1
            go_simp
            refine (freeM_any SD.out.hb ca).mono ?_
            intro e W2 p1
            obtain ⟨er, rfl, ⟨hrf, hst⟩, KK⟩ := op_free SD.out HP.out p1
            have S2 : AtB bx o W2 := (hst bx rfl).trans S0
            have RL := Lib.hid (freeR_any hrf ca)
            have HKK := Lib.hid KK
            clear p1 KK hrf
            go_simp
            refine hK1 _ _ S2 ?_
            clear hK1 K1
            refine wpN_one 7 _ (by kernel_rfl) rfl ?_
            refine NextAt.free (by kernel_rfl) ?_
            intro K1 hK1
            go_simp
            refine (RL.out).mono ?_
            intro e W3 p2
            obtain ⟨rfl, hE, hst3⟩ := HKK.out e W3 p2
            have FIN : Hid (MrE w hp bp rp pp cp (k + 1) M (fun z => z = bx) W3 ∧ OpB2 bx 2 ca cb cc' (.slice da dn dc) W3) := Lib.hid ⟨hE, ((hst3 bx rfl).trans S0).trans (congrArg some HO.out)⟩
            clear p2 hE hst3 hst S0 S2 RL HKK
            go_simp
            refine hK1 _ _ ?_
            clear hK1 K1
            refine wpN_pure [8, 9] (by kernel_rfl) (by kernel_rfl) (by kernel_rfl) (fun _ _ _ _ _ h => h) (fun h => by cases h) ?_
            simp only [pick, List.map_cons, List.map_nil, List.getElem?_cons_succ, List.getElem?_cons_zero, Option.getD_some]
            repeat (go_big_quiet_step (fail))
            refine wpQuiet_nil ?_
            refine wpN_done (by kernel_rfl) ?_
            go_wp2_with fail
            refine Met.intro (hJ _ _ (by kernel_rfl) ⟨rfl, rfl, rfl, rfl, rfl, rfl, rfl, rfl, rfl, _, _, rfl, rfl, rfl, rfl, FIN.out.1, FIN.out.2⟩)
            --]]F
        · by_cases k3 : ck = 3
          · as_aux_lemma =>
              --[[R
              subst k3
              obtain ⟨n0, n1, n2, n3, n4⟩ := HX1.out.cells
              go_wp2_with fail
              refine (resizeM_any S1.out.hb HP.out.pol ca cb).mono ?_
              intro e W2 p1
              obtain ⟨vv, er, rfl, ⟨hrf, hst, hsz⟩, KK⟩ := op_resize S1.out HP.out p1
              have HX2 := Lib.hid (HX1.out.stay hst)
              have RL := Lib.hid (resizeR_any hrf (fun z hz => Nat.lt_of_lt_of_le (S1.out.el z hz) hsz) HP.out.apB HP.out.pol ca cb)
              clear hsz
              have HKK := Lib.hid KK
              clear p1 n0 n1 n2 n3 n4 KK hst hrf
              obtain ⟨n0, n1, n2, n3, n4⟩ := HX2.out.cells
              go_wp2_with fail
              refine (RL.out).mono ?_
              intro e W3 p2
              obtain ⟨rfl, hE, hst3⟩ := HKK.out e W3 p2
              have FIN : Hid (MrE w hp bp rp pp cp (k + 1) M (fun z => z = bx) W3 ∧ OpB2 bx 3 ca cb cc' (.slice da dn dc) W3) := Lib.hid ⟨hE, HX1.out.stay hst3⟩
              clear p2 hE hst3 n0 n1 n2 n3 n4 RL HKK
              go_wp2_with fail
              refine Met.intro (hJ _ _ (by kernel_rfl) ⟨rfl, rfl, rfl, rfl, rfl, rfl, rfl, rfl, rfl, _, _, rfl, rfl, rfl, rfl, FIN.out.1, FIN.out.2⟩)
              --]]R
          · by_cases k4 : ck = 4
            · as_aux_lemma =>
                --[[S
                subst k4
                obtain ⟨o, ho⟩ : ∃ o, o = (Obj.cells #[.int .i64 4, .int .i64 ca, .int .i64 cb, .int .i64 cc', .slice da dn dc] 48 (0, 0)) := ⟨_, rfl⟩
                have S0 : AtB bx o W1.drew := by rw [ho]; exact HX1.out
                have b1 : ∀ y : WIn (AtB bx o), y.w.cell? ⟨bx, 1, none⟩ = some (.int .i64 ca) := fun y => (cell_of (Eq.trans y.h (congrArg some ho)) 1).trans rfl
                have b2 : ∀ y : WIn (AtB bx o), y.w.cell? ⟨bx, 2, none⟩ = some (.int .i64 cb) := fun y => (cell_of (Eq.trans y.h (congrArg some ho)) 2).trans rfl
                have b4 : ∀ y : WIn (AtB bx o), y.w.cell? ⟨bx, 4, none⟩ = some (.slice da dn dc) := fun y => (cell_of (Eq.trans y.h (congrArg some ho)) 4).trans rfl
                haveI ne : Nonempty (WIn (AtB bx o)) := ⟨⟨W1.drew, S0⟩⟩
                have HO := Lib.hid ho
                have BD := Lib.hid ((Below.refl W1.heap.size W1).drew)
                have SD := Lib.hid (S1.out.below BD.out)
                clear ho
                go_upto_region 32 with fail
                refine wp_normal ?_
                refine wp_region_plan 15 (AtB bx o) rfl ?_
                refine wpN_seg [0, 1, 2, 3, 4, 5, 6, 8, 9, 10, 11, 12, 13, 14] (by kernel_rfl) (by kernel_rfl) (by kernel_rfl) (by kernel_rfl) (by decide) (fun _ _ _ _ _ h => h) S0 ?_
                simp only [pick, List.map_cons, List.map_nil, List.getElem?_cons_succ, List.getElem?_cons_zero, Option.getD_some]
                repeat (go_big_quiet_step (fail))
                refine wpQuiet_nil ?_
                clear b1 b2 b4 ne
                refine wpN_one 7 _ (by kernel_rfl) rfl ?_
                refine NextAt.held ?_
                intro K1 hK1
                go_simp
                refine (setM_any SD.out.hb ca cb HFB.out.2.1 cd da dn dc (HRD.out.below SD.out.bel rfl) HBY.out).mono ?_
                intro e W2 p1
                obtain ⟨er, rfl, ⟨hrf, hst, htF⟩, KK⟩ := op_set SD.out HP.out p1
                have S2 : AtB bx o W2 := (hst bx rfl).trans S0
                have RL := Lib.hid (setR_any hrf ca cb HFB.out.2.1 cd da dn dc (HRD.out.below (SD.out.bel.trans (htF.below SD.out.bel.size (fun z hz => SD.out.z z (Or.inl hz)))) rfl) HBY.out)
                have HKK := Lib.hid KK
                clear p1 KK hrf
                go_simp
                refine hK1 _ _ S2 ?_
                clear hK1 K1
                refine wpN_one 15 _ (by kernel_rfl) rfl ?_
                refine NextAt.free (by kernel_rfl) ?_
                intro K1 hK1
                go_simp
                refine (RL.out).mono ?_
                intro e W3 p2
                obtain ⟨rfl, hE, hst3⟩ := HKK.out e W3 p2
                have FIN : Hid (MrE w hp bp rp pp cp (k + 1) M (fun z => z = bx) W3 ∧ OpB2 bx 4 ca cb cc' (.slice da dn dc) W3) := Lib.hid ⟨hE, ((hst3 bx rfl).trans S0).trans (congrArg some HO.out)⟩
                clear p2 hE hst3 hst S0 S2 RL HKK
                go_simp
                refine hK1 _ _ ?_
                clear hK1 K1
                refine wpN_pure [16, 17] (by kernel_rfl) (by kernel_rfl) (by kernel_rfl) (fun _ _ _ _ _ h => h) (fun h => by cases h) ?_
                simp only [pick, List.map_cons, List.map_nil, List.getElem?_cons_succ, List.getElem?_cons_zero, Option.getD_some]
                repeat (go_big_quiet_step (fail))
                refine wpQuiet_nil ?_
                refine wpN_done (by kernel_rfl) ?_
                go_wp2_with fail
                refine Met.intro (hJ _ _ (by kernel_rfl) ⟨rfl, rfl, rfl, rfl, rfl, rfl, rfl, rfl, rfl, _, _, rfl, rfl, rfl, rfl, FIN.out.1, FIN.out.2⟩)
                --]]S
            · by_cases k5 : ck = 5
              · as_aux_lemma =>
                  --[[L
                  subst k5
                  obtain ⟨n0, n1, n2, n3, n4⟩ := HX1.out.cells
                  go_wp2_with fail
                  refine (lookM_any S1.out.hb.hm ca cb cc').mono ?_
                  intro e W2 p1
                  obtain ⟨sa, sn, er, rfl, hsn, hs5, ⟨hrf, hst⟩, KK⟩ := op_look S1.out HP.out p1
                  have HX2 := Lib.hid (HX1.out.stay hst)
                  have RL := Lib.hid (lookR_any hrf ca cb cc')
                  have HKK := Lib.hid KK
                  have HSN := Lib.hid hsn
                  clear p1 n0 n1 n2 n3 n4 KK hst hrf hsn
                  obtain ⟨n0, n1, n2, n3, n4⟩ := HX2.out.cells
                  go_wp2_with fail
                  refine (RL.out).mono ?_
                  intro e W3 p2
                  obtain ⟨sb, rfl, hI3, hpr, hst3⟩ := HKK.out e W3 p2
                  have HX3 := Lib.hid (HX1.out.stay hst3)
                  have HI3 := Lib.hid hI3
                  have HPR := Lib.hid hpr
                  clear p2 hI3 hpr hst3 n0 n1 n2 n3 n4 RL HKK
                  by_cases he : er = 0
                  · subst he
                    have HP0 := Lib.hid (HPR.out rfl)
                    clear HPR
                    have FE := Lib.hid (fenced_any cp w.heap.size R prs (.slice sa sn sn) (.slice sb sn sn) W3 HI3.out.ca HI3.out.ct HI3.out.pr HP0.out (by have := HI3.out.few; omega) HI3.out.bel.size ⟨sa, sn, rfl⟩)
                    unfold AddPost at FE
                    go_wp2_with fail
                    refine FE.out.mono ?_
                    rintro e W4 ⟨rfl, hca, hct, hto⟩
                    have hI4 := HI3.out.seen hca hct hto HP0.out
                    have FIN : Hid (MrE w hp bp rp pp cp (k + 1) M (fun z => z = bx) W4 ∧ OpB2 bx 5 ca cb cc' (.slice da dn dc) W4) := Lib.hid ⟨⟨_, _, _, _, _, _, _, _, _, _, _, _, _, _, _, _, hI4, HP.out.more (Nat.le_succ k)⟩, (hto.2.1.block bx (HI3.out.xx bx rfl).2.2.2.2.2 (HI3.out.xx bx rfl).2.2.2.1).trans HX3.out⟩
                    clear hca hct hto hI4 FE
                    go_wp2_with fail
                    refine Met.intro (hJ _ _ (by kernel_rfl) ⟨rfl, rfl, rfl, rfl, rfl, rfl, rfl, rfl, rfl, _, _, rfl, rfl, rfl, rfl, FIN.out.1, FIN.out.2⟩)
                  · have he1 : (er == 0) = false := by simpa using he
                    have he2 : (er != 0) = true := by simpa using he
                    have hs0 := HSN.out he
                    have FIN : Hid (MrE w hp bp rp pp cp (k + 1) M (fun z => z = bx) W3 ∧ OpB2 bx 5 ca cb cc' (.slice da dn dc) W3) := Lib.hid ⟨⟨_, _, _, _, _, _, _, _, _, _, _, _, _, _, _, _, HI3.out.more (Nat.le_succ k), HP.out.more (Nat.le_succ k)⟩, HX3.out⟩
                    subst hs0
                    clear he hs5
                    go_wp2_with fail
                    refine Met.intro (hJ _ _ (by kernel_rfl) ⟨rfl, rfl, rfl, rfl, rfl, rfl, rfl, rfl, rfl, _, _, rfl, rfl, rfl, rfl, FIN.out.1, FIN.out.2⟩)
                  --]]L
              · by_cases k6 : ck = 6
                · as_aux_lemma =>
                    --[[W
                    subst k6
                    obtain ⟨o, ho⟩ : ∃ o, o = (Obj.cells #[.int .i64 6, .int .i64 ca, .int .i64 cb, .int .i64 cc', .slice da dn dc] 48 (0, 0)) := ⟨_, rfl⟩
                    have S0 : AtB bx o W1.drew := by rw [ho]; exact HX1.out
                    have b1 : ∀ y : WIn (AtB bx o), y.w.cell? ⟨bx, 1, none⟩ = some (.int .i64 ca) := fun y => (cell_of (Eq.trans y.h (congrArg some ho)) 1).trans rfl
                    have b2 : ∀ y : WIn (AtB bx o), y.w.cell? ⟨bx, 2, none⟩ = some (.int .i64 cb) := fun y => (cell_of (Eq.trans y.h (congrArg some ho)) 2).trans rfl
                    haveI ne : Nonempty (WIn (AtB bx o)) := ⟨⟨W1.drew, S0⟩⟩
                    have HO := Lib.hid ho
                    have BD := Lib.hid ((Below.refl W1.heap.size W1).drew)
                    have SD := Lib.hid (S1.out.below BD.out)
                    clear ho
                    go_upto_region 40 with fail
                    refine wp_normal ?_
                    refine wp_region_plan 11 (AtB bx o) rfl ?_
                    refine wpN_seg [0, 1, 2, 3, 4, 6, 7, 8, 9, 10] (by kernel_rfl) (by kernel_rfl) (by kernel_rfl) (by kernel_rfl) (by decide) (fun _ _ _ _ _ h => h) S0 ?_
                    simp only [pick, List.map_cons, List.map_nil, List.getElem?_cons_succ, List.getElem?_cons_zero, Option.getD_some]
                    repeat (go_big_quiet_step (fail))
                    refine wpQuiet_nil ?_
                    clear b1 b2 ne
                    refine wpN_one 5 _ (by kernel_rfl) rfl ?_
                    refine NextAt.held ?_
                    intro K1 hK1
                    go_simp
                    refine (swapM_any SD.out.hb ca cb).mono ?_
                    intro e W2 p1
                    obtain ⟨er, rfl, ⟨hrf, hst⟩, KK⟩ := op_swap SD.out HP.out p1
                    have S2 : AtB bx o W2 := (hst bx rfl).trans S0
                    have RL := Lib.hid (swapR2_any hrf HP.out.apB ca cb)
                    have HKK := Lib.hid KK
                    clear p1 KK hrf
                    go_simp
                    refine hK1 _ _ S2 ?_
                    clear hK1 K1
                    refine wpN_one 11 _ (by kernel_rfl) rfl ?_
                    refine NextAt.free (by kernel_rfl) ?_
                    intro K1 hK1
                    go_simp
                    refine (RL.out).mono ?_
                    intro e W3 p2
                    obtain ⟨rfl, hE, hst3⟩ := HKK.out e W3 p2
                    have FIN : Hid (MrE w hp bp rp pp cp (k + 1) M (fun z => z = bx) W3 ∧ OpB2 bx 6 ca cb cc' (.slice da dn dc) W3) := Lib.hid ⟨hE, ((hst3 bx rfl).trans S0).trans (congrArg some HO.out)⟩
                    clear p2 hE hst3 hst S0 S2 RL HKK
                    go_simp
                    refine hK1 _ _ ?_
                    clear hK1 K1
                    refine wpN_pure [12, 13] (by kernel_rfl) (by kernel_rfl) (by kernel_rfl) (fun _ _ _ _ _ h => h) (fun h => by cases h) ?_
                    simp only [pick, List.map_cons, List.map_nil, List.getElem?_cons_succ, List.getElem?_cons_zero, Option.getD_some]
                    repeat (go_big_quiet_step (fail))
                    refine wpQuiet_nil ?_
                    refine wpN_done (by kernel_rfl) ?_
                    go_wp2_with fail
                    refine Met.intro (hJ _ _ (by kernel_rfl) ⟨rfl, rfl, rfl, rfl, rfl, rfl, rfl, rfl, rfl, _, _, rfl, rfl, rfl, rfl, FIN.out.1, FIN.out.2⟩)
                    --]]W
                · by_cases k7 : ck = 7
                  · as_aux_lemma =>
                      --[[C
                      subst k7
                      have h8 : S.hist.length ≤ 8 := by have := HP.out.his.1; omega
                      have hct : S.count < 1000000000 := by have := HP.out.few.2.1; omega
                      have hkl : kept.length < 1000 := by have := HP.out.few.2.2; omega
                      have CM1 := Lib.hid (compactM_any S1.out.hb h8 hct HP.out.apB)
                      have HH := Lib.hid (And.intro hct hkl)
                      clear h8 hct hkl
                      obtain ⟨n0, n1, n2, n3, n4⟩ := HX1.out.cells
                      go_wp2_with fail
                      refine CM1.out.mono ?_
                      intro e W2 p1
                      obtain ⟨vv, er, rfl, ⟨hrf, hst, hsz⟩, KK⟩ := op_compact S1.out HP.out p1
                      have HX2 := Lib.hid (HX1.out.stay hst)
                      have RL := Lib.hid (compactR_any hrf (fun z hz => Nat.lt_of_lt_of_le (S1.out.el z hz) hsz) HP.out.apB HH.out.1 HH.out.2)
                      have HKK := Lib.hid KK
                      clear p1 n0 n1 n2 n3 n4 KK hst hrf hsz CM1
                      obtain ⟨n0, n1, n2, n3, n4⟩ := HX2.out.cells
                      go_wp2_with fail
                      refine (RL.out).mono ?_
                      intro e W3 p2
                      obtain ⟨v2, rfl, ⟨l, hll, hr1, hr2⟩, hE, hst3⟩ := HKK.out e W3 p2
                      have HX3 := Lib.hid (HX1.out.stay hst3)
                      have HE3 := Lib.hid hE
                      have EQ := Lib.hid (eqShf_any hr1 hr2 hll)
                      clear p2 hE hst3 n0 n1 n2 n3 n4 RL HKK hr1 hr2 hll
                      go_wp2_with fail
                      refine EQ.out.mono ?_
                      rintro e W4 ⟨rfl, q4, rfl⟩
                      have FIN : Hid (MrE w hp bp rp pp cp (k + 1) M (fun z => z = bx) (W3.drewN q4) ∧ OpB2 bx 7 ca cb cc' (.slice da dn dc) (W3.drewN q4)) := Lib.hid ⟨HE3.out.below (bdrewN (Below.refl _ _) q4), HX3.out⟩
                      clear EQ
                      go_wp2_with fail
                      refine Met.intro (hJ _ _ (by kernel_rfl) ⟨rfl, rfl, rfl, rfl, rfl, rfl, rfl, rfl, rfl, _, _, rfl, rfl, rfl, rfl, FIN.out.1, FIN.out.2⟩)
                      --]]C
                  · by_cases k8 : ck = 8
                    · as_aux_lemma =>
                        --[[T
                        subst k8
                        obtain ⟨LL, hLL⟩ := sorted_exists (lieL S.bl)
                        have hMM : S.mem.length ≤ M := S1.out.rf.big.2.2.2.2.2.2
                        obtain ⟨n0, n1, n2, n3, n4⟩ := HX1.out.cells
                        have TM := Lib.hid (trimM_any S1.out.hb hMM HP.out.apB HP.out.pol HP.out.zer hLL)
                        have HLL := Lib.hid hLL
                        clear hMM hLL
                        go_wp2_with fail
                        refine TM.out.mono ?_
                        intro e W2 p1
                        obtain ⟨vv, er, rfl, ⟨hrf, hst⟩, KK⟩ := op_trim S1.out HP.out p1
                        have HX2 := Lib.hid (HX1.out.stay hst)
                        have RL := Lib.hid (trimR_any hrf HP.out.apB HP.out.pol HP.out.zer HLL.out)
                        have HKK := Lib.hid KK
                        clear p1 n0 n1 n2 n3 n4 KK hst hrf
                        obtain ⟨n0, n1, n2, n3, n4⟩ := HX2.out.cells
                        go_wp2_with fail
                        refine (RL.out).mono ?_
                        intro e W3 p2
                        obtain ⟨rfl, hE, hst3⟩ := HKK.out e W3 p2
                        have FIN : Hid (MrE w hp bp rp pp cp (k + 1) M (fun z => z = bx) W3 ∧ OpB2 bx 8 ca cb cc' (.slice da dn dc) W3) := Lib.hid ⟨hE, HX1.out.stay hst3⟩
                        clear p2 hE hst3 n0 n1 n2 n3 n4 RL HKK
                        go_wp2_with fail
                        refine Met.intro (hJ _ _ (by kernel_rfl) ⟨rfl, rfl, rfl, rfl, rfl, rfl, rfl, rfl, rfl, _, _, rfl, rfl, rfl, rfl, FIN.out.1, FIN.out.2⟩)
                        --]]T
                    · by_cases k9 : ck = 9
                      · as_aux_lemma =>
                          --[[Z
                          subst k9
                          obtain ⟨n0, n1, n2, n3, n4⟩ := HX1.out.cells
                          go_wp2_with fail
                          refine (closeM_any S1.out.hb).mono ?_
                          intro e W2 p1
                          obtain ⟨er, rfl, ⟨hrf, hst⟩, KK⟩ := op_close S1.out HP.out p1
                          have HX2 := Lib.hid (HX1.out.stay hst)
                          have RL := Lib.hid (closeR_any hrf)
                          have HKK := Lib.hid KK
                          clear p1 n0 n1 n2 n3 n4 KK hst hrf
                          obtain ⟨n0, n1, n2, n3, n4⟩ := HX2.out.cells
                          go_wp2_with fail
                          refine (RL.out).mono ?_
                          intro e W3 p2
                          obtain ⟨rfl, hE, hst3⟩ := HKK.out e W3 p2
                          have FIN : Hid (MrE w hp bp rp pp cp (k + 1) M (fun z => z = bx) W3 ∧ OpB2 bx 9 ca cb cc' (.slice da dn dc) W3) := Lib.hid ⟨hE, HX1.out.stay hst3⟩
                          clear p2 hE hst3 n0 n1 n2 n3 n4 RL HKK
                          go_wp2_with fail
                          refine Met.intro (hJ _ _ (by kernel_rfl) ⟨rfl, rfl, rfl, rfl, rfl, rfl, rfl, rfl, rfl, _, _, rfl, rfl, rfl, rfl, FIN.out.1, FIN.out.2⟩)
                          --]]Z
                      · as_aux_lemma =>
                          --[[P
                          obtain ⟨n0, n1, n2, n3, n4⟩ := HX1.out.cells
                          have e0 : (ck == 0) = false := by simp; omega
                          have e1 : (ck == 1) = false := by simp; omega
                          have e2 : (ck == 2) = false := by simpa using k2
                          have e3 : (ck == 3) = false := by simpa using k3
                          have e4 : (ck == 4) = false := by simpa using k4
                          have e5 : (ck == 5) = false := by simpa using k5
                          have e6 : (ck == 6) = false := by simpa using k6
                          have e7 : (ck == 7) = false := by simpa using k7
                          have e8 : (ck == 8) = false := by simpa using k8
                          have e9 : (ck == 9) = false := by simpa using k9
                          clear hA k2 k3 k4 k5 k6 k7 k8 k9
                          have BB : Below W1.heap.size W1 (W1.alloc (.cells #[.int .i64 ca, .int .i64 cb, .int .i64 cc'] 3)) := (Below.refl _ _).alloc (Nat.le_refl _) _
                          have NN := heap_alloc_new W1 (.cells #[.int .i64 ca, .int .i64 cb, .int .i64 cc'] 3)
                          have S1b := Lib.hid (S1.out.below BB)
                          have PO := Lib.hid (poke2_any cp w.heap.size R prs (.slice (some ⟨W1.heap.size, 0, none⟩) 3 3) [ca, cb, cc'] (W1.alloc (.cells #[.int .i64 ca, .int .i64 cb, .int .i64 cc'] 3)) (fun W hW => by
                            have h1 := (hW.block W1.heap.size (by simp) (fun h => by
                              obtain ⟨b', o', c', p', hR, e | e⟩ := h
                              · have := (S1.out.ct.lt hR).1; omega
                              · have := (S1.out.ct.lt hR).2; omega)).trans NN
                            refine ⟨some ⟨W1.heap.size, 0, none⟩, 3, rfl, (by show (3 : Nat) ≤ 9223372036854775807; decide), fun _ => ⟨W1.heap.size, 0, rfl, fun j hj => ?_⟩⟩
                            rw [cell_of h1]
                            match j, hj with
                            | 0, _ => rfl
                            | 1, _ => rfl
                            | 2, _ => rfl) (by show 3 ≤ 3; omega) (by intro z hz; simp at hz; rcases hz with rfl | rfl | rfl; exact HFB.out.1; exact HFB.out.2.1; exact HFB.out.2.2) S1b.out.ca S1b.out.ct S1b.out.pr)
                          unfold PokePost2 at PO
                          have HX2 : Hid (OpB2 bx ck ca cb cc' (.slice da dn dc) (W1.alloc (.cells #[.int .i64 ca, .int .i64 cb, .int .i64 cc'] 3))) := Lib.hid ((BB.block bx (lt_of HX1.out)).trans HX1.out)
                          clear BB NN
                          go_wp2_with fail
                          refine PO.out.mono ?_
                          rintro e W3 ⟨rfl, hca, hct, htt, hsz⟩
                          obtain ⟨mm, hml, hI3⟩ := S1b.out.poked hca hct htt hsz
                          have FIN : Hid (MrE w hp bp rp pp cp (k + 1) M (fun z => z = bx) W3 ∧ OpB2 bx ck ca cb cc' (.slice da dn dc) W3) := Lib.hid ⟨⟨_, _, _, _, _, _, _, _, _, _, _, _, _, _, _, _, hI3.more (Nat.le_succ k), (HP.out.mem _).more (Nat.le_succ k)⟩, (htt.block bx (S1b.out.xx bx rfl).2.2.2.2.2 (S1b.out.xx bx rfl).2.2.2.2.1).trans HX2.out⟩
                          clear hca hct htt hsz hI3 hml PO n0 n1 n2 n3 n4
                          go_wp2_with fail
                          refine Met.intro (hJ _ _ (by kernel_rfl) ⟨rfl, rfl, rfl, rfl, rfl, rfl, rfl, rfl, rfl, _, _, rfl, rfl, rfl, rfl, FIN.out.1, FIN.out.2⟩)
                          --]]P
    · clear S1 HP HX1 HRD HBY
      clear f S vm vb vh vhs F G b kept um ub uk uks E R prs
      intro f wx ⟨f3, f9, f10, f12, f13, f15, f60, f61, f62, er, nn, f16, f17, f18, f19, ⟨S, vm, vb, vh, vhs, F, G, b, kept, um, ub, uk, uks, E, R, prs, hI, hP⟩, hbx⟩
      rw [slots293]
      rw [f3, f9, f10, f12, f13, f15, f16, f17, f18, f19, f60, f61, f62]
      clear f3 f9 f10 f12 f13 f15 f16 f17 f18 f19 f60 f61 f62
      --[[E
      have SA := Lib.hid (same_any cp w.heap.size R prs wx hI.ca hI.ct hI.pr)
      have HI := Lib.hid hI
      have HP := Lib.hid hP
      have HX := Lib.hid hbx
      obtain ⟨n0, n1, n2, n3, n4⟩ := hbx.cells
      clear hI hP hbx
      go_wp2_with fail
      refine SA.out.mono ?_
      rintro e w2 ⟨rfl, q2, hw2⟩
      have B2 : Below wx.heap.size wx w2 := by rw [hw2]; exact bdrewN (Below.refl _ _) q2
      have I2 := Lib.hid (HI.out.below B2)
      have X2 : Hid (OpB2 bx ck ca cb cc' (.slice da dn dc) w2) := Lib.hid ((B2.block bx (lt_of HX.out)).trans HX.out)
      have HT := Lib.hid (heapFits_any I2.out.hb I2.out.rf HP.out.apB HP.out.his HP.out.hk HP.out.gone cc' cb ca HFB.out.2.2)
      clear B2 hw2 n0 n1 n2 n3 n4
      obtain ⟨n0, n1, n2, n3, n4⟩ := X2.out.cells
      go_wp2_with fail
      refine HT.out.mono ?_
      rintro e w3 ⟨rfl, hb3⟩
      have FIN : Hid (MrE w hp bp rp pp cp (k + 1) M (fun _ => False) w3) := Lib.hid ⟨_, _, _, _, _, _, _, _, _, _, _, _, _, _, _, _, (I2.out.below hb3).other (fun z hz => hz.elim), HP.out⟩
      clear hb3 HT n0 n1 n2 n3 n4
      go_wp2_with fail
      refine Handed.intro (N - (k + 1)) (by omega) (hJ _ _ _ (by kernel_rfl) ⟨k + 1, by omega, rfl, rfl, rfl, rfl, rfl, rfl, rfl, rfl, by first | rfl | simp, FIN.out⟩)
      --]]E
  · as_aux_lemma =>
    --[[Q
    obtain rfl : k = N := by omega
    have HI := Lib.hid hI
    have HP := Lib.hid hP
    obtain ⟨n3, hn3⟩ : ∃ n3, z3.length = n3 := ⟨_, rfl⟩
    have hv3 := HV3.out
    rw [hn3] at hv3
    subst hv3
    have hfit3 : n3 ≤ pc := HF3.out
    have SC : Hid (∀ j : Nat, j ≤ n3 → ∀ W, Touch (InR R) wr W → Reads W .i64 (.slice pa j pc) (z3.take j)) := Lib.hid (fun j hj W hW => by
      obtain ⟨a3, cap3, e, h1, h2⟩ := H3.out.reads
      simp only [Value.slice.injEq] at e
      obtain ⟨rfl, _, rfl⟩ := e
      have hl : (z3.take j).length = j := by rw [List.length_take]; omega
      refine ⟨_, _, by rw [hl], by rw [hl]; omega, fun hne => ?_⟩
      rw [hl]
      obtain ⟨b0, o0, rfl, hc⟩ := h2 (fun e => by rw [e] at hne; simp at hne)
      refine ⟨b0, o0, rfl, fun i hi => ?_⟩
      have h3 := hc i (by omega)
      have hlow : b0 < w.heap.size := World.block_lt_of_cell? _ _ h3
      have h4 := old_cell HI.out.bel h3
      rw [cell_blk (hW.block b0 (World.block_lt_of_cell? _ _ h4) (fun h => by
        obtain ⟨b', o', c', p', hR, e | e⟩ := h
        · have := (HI.out.ct.row _ _ _ _ hR).1; omega
        · have := (HI.out.ct.row _ _ _ _ hR).2.1; omega)), h4, List.getD_eq_getElem?_getD, List.getD_eq_getElem?_getD, List.getElem?_take_of_lt hi])
    have PO := Lib.hid (fun (j : Nat) (hj : j ≤ n3) => poke2_any cp w.heap.size R prs (.slice pa j pc) (z3.take j) wr (SC.out j hj) (by show j ≤ pc; omega) (fun z hz => range_i64 (H3.out.wf z (List.mem_of_mem_take hz))) HI.out.ca HI.out.ct HI.out.pr)
    unfold PokePost2 at PO
    have hn3b : n3 ≤ 140737488355328 := by have := H3.out.reach; omega
    clear hI hP hn3 hJ hK
    by_cases h30 : 30 < n3
    all_goals
      have hmin : min (n3 : Int) 30 = (((min n3 30 : Nat)) : Int) := by omega
      obtain ⟨j, hj⟩ : ∃ j, min n3 30 = j := ⟨_, rfl⟩
      rw [hj] at hmin
      have hj3 : j ≤ n3 := by omega
      have PJ := Lib.hid (PO.out j hj3)
      clear hj h30
      go_wp2_with fail
      refine PJ.out.mono ?_
      rintro e w2 ⟨rfl, hca, hct, htt, hsz⟩
      obtain ⟨mm, hml, hI2⟩ := HI.out.poked hca hct htt hsz
      have P2 := HP.out.mem mm
      have HT := Lib.hid (heapFits_any hI2.hb hI2.rf P2.apB P2.his P2.hk P2.gone 0 0 0 (by omega))
      have B2 := Lib.hid hI2.bel
      clear hca hct htt hsz hI2 hml P2
      go_wp2_with fail
      refine HT.out.mono ?_
      rintro e w3 ⟨rfl, hb3⟩
      have FIN := Lib.hid (B2.out.trans (hb3.mono B2.out.size))
      clear hb3 HT
      go_wp2_with fail
      go_ret
      exact ⟨rfl, FIN.out⟩
    --]]Q

end Go.Proofs.YtjogaohnphafgaaGreat
