/-
  heapFits: both heaps are alike. No conditions but bounds and blocks apart.
-/
import Derived.Test.YtjogaohnphafgaaGreatMoveRunsPbq
import Derived.Test.YtjogaohnphafgaaGreatMoveRunsPbs
import Derived.Test.YtjogaohnphafgaaGreatMoveRunsPbu
import Derived.Test.YtjogaohnphafgaaGreatMoveRunsPbd
import Derived.Test.YtjogaohnphafgaaGreatMoveRunsPbm
import Derived.Test.YtjogaohnphafgaaGreatMoveRunsPbn
import Derived.Test.YtjogaohnphafgaaGreatMoveRunsPab
namespace Go.Proofs.YtjogaohnphafgaaGreat
open Go.RowKit
set_option linter.unusedVariables false

theorem bytesIn_octs {w : World} {p : Option Addr} {n c : Nat} {zs : List Int} (h : Reads w .u8 (.slice p n c) zs) (hl : zs.length = n) : Lib.BytesIn w p n zs := by
  obtain ⟨a, cap, hv, _, hc⟩ := h
  simp only [Value.slice.injEq] at hv
  obtain ⟨rfl, _, _⟩ := hv
  intro hn
  obtain ⟨b, o, hp, hcell⟩ := hc (fun e => by rw [e] at hl; simp at hl; omega)
  exact ⟨b, o, hp, fun i hi => hcell i (by omega)⟩
theorem equal_octs {w : World} {p1 p2 : Option Addr} {n m c d : Nat} {zs : List Int} (h1 : Reads w .u8 (.slice p1 n c) zs) (hl : zs.length = n) (h2 : Reads w .u8 (.slice p2 m d) zs) (hm : zs.length = m) :
    Calls Tryz.prog 80 #[.slice p1 n c, .slice p2 m d] w (fun e w' => e = .returned (.bool true) ∧ w' = w) := by
  refine (Go.Proofs.Tryz.bytes_Equal_all p1 p2 n c m d zs zs w hl hm (bytesIn_octs h1 hl) (bytesIn_octs h2 hm)).mono ?_
  rintro e w' ⟨rfl, rfl⟩
  exact ⟨by simp, rfl⟩

set_option maxHeartbeats 8000000 in
set_option maxRecDepth 100000 in
theorem heapFits_any {w : World} {hp bp rp pp M : Nat} {S : HpSt} {vm vb vh um ub uk : Value} {vhs uks : List Value} {F G E : Nat → Prop} {b : BookSt} {kept : List (List Blk)} (h : HB w hp bp S vm vb vh vhs F G M b) (m : RfMem w E rp pp M S kept um ub uk uks) (hap : S.bl.Pairwise apartB) (ho : HisOk S) (hkp : S.closed = false → S.hist = keep8 kept ∧ S.count = kept.length) (hgone : S.closed = false → ∀ l ∈ kept, ∀ x ∈ l, 1 ≤ x.h ∧ x.h ≤ S.last) (gn at' q : Int) (hg1 : -9223372036854775808 ≤ gn ∧ gn ≤ 9223372036854775807) :
    Calls Tryz.prog 30 #[.pointer (some ⟨hp, 0, none⟩), .pointer (some ⟨rp, 0, none⟩), .pointer (some ⟨bp, 0, none⟩), .int .i64 gn, .int .i64 at', .int .i64 q] w (fun e w' => e = .returned (.bool true) ∧ Below w.heap.size w w') := by
  obtain ⟨L, hL⟩ := sorted_exists (lieL S.bl)
  have one : ∀ {K}, SortedL (lieL S.bl) K → K = L := fun hk => sorted_one hk hL hap
  have H := Lib.hid h
  have HM := Lib.hid m
  -- the contracts, at any later world
  have US0 : Hid (∀ W, Below w.heap.size w W → Calls Tryz.prog 62 #[.pointer (some ⟨rp, 0, none⟩)] W (fun e W' => e = .returned (.tuple #[.int .i64 (sumB S.bl : Int), .int .i64 (maxG (gapsOf S.mem.length L) : Int)]) ∧ Below W.heap.size W W')) := Lib.hid (fun W hW => by
    refine (usedR_any (HM.out.below hW)).mono ?_
    rintro e W' ⟨L', hs, rfl, hb⟩
    rw [one hs]
    exact ⟨rfl, hb⟩)
  have LG0 : Hid (∀ W, Below w.heap.size w W → Calls Tryz.prog 66 #[.pointer (some ⟨hp, 0, none⟩)] W (fun e W' => e = .returned (.int .i64 (maxG (gapsOf S.mem.length L) : Int)) ∧ Below W.heap.size W W')) := Lib.hid (fun W hW => by
    refine (largestM_any (H.out.below hW).hm).mono ?_
    rintro e W' ⟨L', hs, rfl, hb⟩
    rw [one hs]
    exact ⟨rfl, hb⟩)
  have RM1a : Hid (∀ W, Below w.heap.size w W → Calls Tryz.prog 63 #[.pointer (some ⟨hp, 0, none⟩)] W (fun e W' => e = .returned (.int .i64 (S.mem.length : Int)) ∧ Below W.heap.size W W')) := Lib.hid (fun W hW => by
    refine (roomM_any (H.out.below hW).hm).mono ?_
    rintro e W' ⟨rfl, hw⟩
    rw [hw]
    exact ⟨rfl, Below.refl _ _⟩)
  have RM2a : Hid (∀ W, Below w.heap.size w W → Calls Tryz.prog 64 #[.pointer (some ⟨rp, 0, none⟩)] W (fun e W' => e = .returned (.int .i64 (S.mem.length : Int)) ∧ Below W.heap.size W W')) := Lib.hid (fun W hW => by
    refine (roomR_any (HM.out.below hW)).mono ?_
    rintro e W' ⟨rfl, hw⟩
    rw [hw]
    exact ⟨rfl, Below.refl _ _⟩)
  have USa : Hid (∀ W, Below w.heap.size w W → Calls Tryz.prog 65 #[.pointer (some ⟨hp, 0, none⟩)] W (fun e W' => e = .returned (.int .i64 (sumB S.bl : Int)) ∧ Below W.heap.size W W')) := Lib.hid (fun W hW => usedM_any (H.out.below hW).hm)
  have GEa : Hid (∀ W, Below w.heap.size w W → Calls Tryz.prog 67 #[.pointer (some ⟨hp, 0, none⟩)] W (fun e W' => e = .returned (.int .i64 (S.count : Int)) ∧ Below W.heap.size W W')) := Lib.hid (fun W hW => by
    refine (genM_any (H.out.below hW).hm).mono ?_
    rintro e W' ⟨rfl, hw⟩
    rw [hw]
    exact ⟨rfl, Below.refl _ _⟩)
  have HOa : Hid (∀ W, Below w.heap.size w W → Calls Tryz.prog 68 #[.pointer (some ⟨bp, 0, none⟩), .int .i64 (S.mem.length : Int)] W (fun e W' => e = .returned (.bool true) ∧ Below W.heap.size W W')) := Lib.hid (fun W hW => by
    refine (holdsB_any (H.out.below hW).bk).mono ?_
    rintro e W' ⟨rfl, hw⟩
    rw [hw]
    exact ⟨rfl, Below.refl _ _⟩)
  obtain ⟨BL, hBL⟩ : ∃ BL, S.bl = BL := ⟨_, rfl⟩
  have BK1a : Hid (∀ W, Below w.heap.size w W → Calls Tryz.prog 70 #[.pointer (some ⟨hp, 0, none⟩)] W (fun e W' => ∃ v, e = .returned v ∧ OffRow W' 78 3 v BL.length (BL.flatMap Blk.cells) ∧ Below W.heap.size W W')) := Lib.hid (fun W hW => by
    refine (blocksM_any (H.out.below hW).hm).mono ?_
    rintro e W' ⟨v, rfl, hr, hb⟩
    rw [hBL] at hr
    exact ⟨v, rfl, OffRow.of_own hr, hb⟩)
  have BK2a : Hid (∀ W, Below w.heap.size w W → Calls Tryz.prog 71 #[.pointer (some ⟨rp, 0, none⟩)] W (fun e W' => e = .returned ub ∧ Below W.heap.size W W')) := Lib.hid (fun W hW => by
    refine (blocksR_any (HM.out.below hW)).mono ?_
    rintro e W' ⟨rfl, hw⟩
    rw [hw]
    exact ⟨rfl, Below.refl _ _⟩)
  have EQ1a : Hid (∀ W v, Below w.heap.size w W → OffRow W 78 3 v BL.length (BL.flatMap Blk.cells) → Calls Tryz.prog 69 #[v, ub] W (fun e W' => e = .returned (.bool true) ∧ Below W.heap.size W W')) := Lib.hid (fun W v hW hr => by
    have h2 := (HM.out.below hW).row.1
    rw [hBL] at h2
    refine (eqBlk_any hr h2 (by have := HM.out.big.2.1; rw [hBL] at this; omega)).mono ?_
    rintro e W' ⟨rfl, q, hw⟩
    rw [hw]
    exact ⟨rfl, bdrewN (Below.refl _ _) q⟩)
  obtain ⟨GS, hGS⟩ : ∃ GS, gapsOf S.mem.length L = GS := ⟨_, rfl⟩
  have GL : Hid (GS.length ≤ 1000000) := Lib.hid (by
    rw [← hGS]
    have h1 := gapsOf_len S.mem.length L
    have h2 := hL.len
    have h3 := m.big.2.1
    omega)
  have GA1a : Hid (∀ W, Below w.heap.size w W → Calls Tryz.prog 73 #[.pointer (some ⟨hp, 0, none⟩)] W (fun e W' => ∃ v, e = .returned v ∧ W'.ownsRow W.heap.size 92 2 v GS.length (GS.flatMap Gp.cells) ∧ Below W.heap.size W W')) := Lib.hid (fun W hW => by
    refine (gapsM_any (H.out.below hW).hm).mono ?_
    rintro e W' ⟨L', v, hs, rfl, hr, hb⟩
    rw [one hs, hGS] at hr
    exact ⟨v, rfl, hr, hb⟩)
  have GA2a : Hid (∀ W, Below w.heap.size w W → Calls Tryz.prog 45 #[.pointer (some ⟨rp, 0, none⟩)] W (fun e W' => ∃ v, e = .returned v ∧ W'.ownsRow W.heap.size 92 2 v GS.length (GS.flatMap Gp.cells) ∧ Below W.heap.size W W')) := Lib.hid (fun W hW => by
    refine (gapsR_any (HM.out.below hW)).mono ?_
    rintro e W' ⟨L', v, hs, rfl, hr, hb⟩
    rw [one hs, hGS] at hr
    exact ⟨v, rfl, hr, hb⟩)
  obtain ⟨SS, hSS⟩ : ∃ SS, shiftsG 0 L = SS := ⟨_, rfl⟩
  have PL1a : Hid (∀ W, Below w.heap.size w W → Calls Tryz.prog 51 #[.pointer (some ⟨hp, 0, none⟩)] W (fun e W' => ∃ v, e = .returned v ∧ W'.ownsRow W.heap.size 64 3 v SS.length (SS.flatMap Shf.cells) ∧ Below W.heap.size W W')) := Lib.hid (fun W hW => by
    refine (planM_any (H.out.below hW).hm).mono ?_
    rintro e W' ⟨L', v, hs, rfl, hr, _, hb⟩
    rw [one hs, hSS] at hr
    exact ⟨v, rfl, hr, hb⟩)
  have PL2a : Hid (∀ W, Below w.heap.size w W → Calls Tryz.prog 53 #[.pointer (some ⟨rp, 0, none⟩)] W (fun e W' => (∃ v, e = .returned v ∧ W'.ownsRow W.heap.size 64 3 v SS.length (SS.flatMap Shf.cells) ∧ Below W.heap.size W W') ∧ SS.length ≤ 1000000)) := Lib.hid (fun W hW => by
    refine (planR_any (HM.out.below hW)).mono ?_
    rintro e W' ⟨L', v, hs, rfl, hr, hl, hb⟩
    rw [one hs, hSS] at hr hl
    exact ⟨⟨v, rfl, hr, hb⟩, by have := HM.out.big.2.1; omega⟩)
  have TR1 : Hid (∀ W, Below w.heap.size w W → Calls Tryz.prog 74 #[.pointer (some ⟨hp, 0, none⟩), .int .i64 gn, .int .i64 at'] W (TrPost S gn at' W)) := Lib.hid (fun W hW => traceM_any (H.out.below hW).hm ho gn at')
  have TR2 : Hid (∀ W, Below w.heap.size w W → Calls Tryz.prog 75 #[.pointer (some ⟨rp, 0, none⟩), .int .i64 gn, .int .i64 at'] W (TrPost S gn at' W)) := Lib.hid (fun W hW => traceR_any (HM.out.below hW) hkp hgone gn at' hg1)
  unfold TrPost at TR1 TR2
  have c5w := m.cells.2.2.2.2.2.1
  have c0w := m.cells.1
  have cp0w : w.cell? ⟨pp, 0, none⟩ = some (.int .i64 (S.mem.length : Int)) := by rw [cell_of m.purse]; rfl
  obtain ⟨ua, uc, hub, _⟩ := m.row.1.sh
  generalize maxG (gapsOf S.mem.length L) = X at *
  generalize hN : S.mem.length = N at *
  generalize hCT : S.count = CT at *
  generalize hSB : sumB S.bl = SB at *
  generalize (trR S gn at').1 = tr1 at *
  generalize (trR S gn at').2.1 = tr2 at *
  generalize (trR S gn at').2.2 = tr3 at *
  have HUB := Lib.hid hub
  have CP : Hid (∀ k W, Below w.heap.size w W → Calls Tryz.prog 77 #[.pointer (some ⟨hp, 0, none⟩), .int .i64 k] W (CpPost W S k)) := Lib.hid (fun k W hW => copyM_any (H.out.below hW).hm k)
  have LN : Hid (∀ k W, Below w.heap.size w W → Calls Tryz.prog 78 #[.pointer (some ⟨hp, 0, none⟩), .int .i64 k] W (LnPost Blk.len S k W)) := Lib.hid (fun k W hW => lenM_any (H.out.below hW).hm k)
  have AT : Hid (∀ k W, Below w.heap.size w W → Calls Tryz.prog 79 #[.pointer (some ⟨hp, 0, none⟩), .int .i64 k] W (LnPost Blk.at' S k W)) := Lib.hid (fun k W hW => atM_any (H.out.below hW).hm k)
  have BKR : Hid (∀ k W, Below w.heap.size w W → Calls Tryz.prog 46 #[.pointer (some ⟨rp, 0, none⟩), .int .i64 k] W (BkPost S k W)) := Lib.hid (fun k W hW => blockR_any (HM.out.below hW) k)
  have OCR : Hid (∀ k W, Below w.heap.size w W → Calls Tryz.prog 76 #[.pointer (some ⟨rp, 0, none⟩), .int .i64 k] W (OctPost S k W)) := Lib.hid (fun k W hW => octetsR_any (HM.out.below hW) k)
  have HBL := Lib.hid hBL
  have HIN : Hid (∀ k, (blkAt S k).at' + (blkAt S k).len ≤ S.mem.length) := Lib.hid (fun k => blkAt_in (fun x hx => (HM.out.hb x hx).2.2))
  have HBG : Hid (S.mem.length ≤ 100000 ∧ S.bl.length ≤ 500) := Lib.hid ⟨HM.out.big.1, HM.out.big.2.1⟩
  clear h m ho hkp hgone hL one hBL hGS hSS hub hN hCT hSB
  have W0 := Lib.hid (Below.refl w.heap.size w)
  go_enter Tryz.func30, Tryz.ntmps30
  go_wp2_with fail
  refine (US0.out _ W0.out).mono ?_
  rintro e w1 ⟨rfl, hb1⟩
  have HB1 := Lib.hid hb1
  have lift : ∀ {W : World}, BelM w1 W → Below w.heap.size w W := fun {W} h => HB1.out.trans (Below.mono (w := w1) h HB1.out.size)
  have RM1 : Hid (∀ W, BelM w1 W → _) := Lib.hid (fun W hW => RM1a.out W (lift hW))
  have RM2 : Hid (∀ W, BelM w1 W → _) := Lib.hid (fun W hW => RM2a.out W (lift hW))
  have US : Hid (∀ W, BelM w1 W → _) := Lib.hid (fun W hW => USa.out W (lift hW))
  have LG : Hid (∀ W, BelM w1 W → _) := Lib.hid (fun W hW => LG0.out W (lift hW))
  have GE : Hid (∀ W, BelM w1 W → _) := Lib.hid (fun W hW => GEa.out W (lift hW))
  have HO : Hid (∀ W, BelM w1 W → _) := Lib.hid (fun W hW => HOa.out W (lift hW))
  have BK1 : Hid (∀ W, BelM w1 W → _) := Lib.hid (fun W hW => BK1a.out W (lift hW))
  have BK2 : Hid (∀ W, BelM w1 W → _) := Lib.hid (fun W hW => BK2a.out W (lift hW))
  have EQ1 : Hid (∀ W v, BelM w1 W → _) := Lib.hid (fun W v hW => EQ1a.out W v (lift hW))
  have GA1 : Hid (∀ W, BelM w1 W → _) := Lib.hid (fun W hW => GA1a.out W (lift hW))
  have GA2 : Hid (∀ W, BelM w1 W → _) := Lib.hid (fun W hW => GA2a.out W (lift hW))
  have PL1 : Hid (∀ W, BelM w1 W → _) := Lib.hid (fun W hW => PL1a.out W (lift hW))
  have PL2 : Hid (∀ W, BelM w1 W → _) := Lib.hid (fun W hW => PL2a.out W (lift hW))
  have c5 := old_cell hb1 c5w
  have c0 := old_cell hb1 c0w
  have cp0 := old_cell hb1 cp0w
  have S0 : BelM w1 w1.drew := (Below.refl _ w1).drew
  clear hb1 c5w c0w cp0w lift RM1a RM2a USa LG0 GEa HOa BK1a EQ1a GA1a GA2a PL1a PL2a US0
  go_upto_region 2 with fail
  refine wp_normal ?_
  refine wp_region_plan 59 (BelM w1) rfl ?_
  refine wpN_pure [0, 2] (by kernel_rfl) (by kernel_rfl) (by kernel_rfl) (fun _ _ _ _ _ h => h) (fun _ => S0) ?_
  simp only [pick, List.map_cons, List.map_nil, List.getElem?_cons_succ, List.getElem?_cons_zero, Option.getD_some]
  repeat (go_big_quiet_step (fail))
  refine wpQuiet_nil ?_
  refine wpN_one 1 _ (by kernel_rfl) rfl ?_
  refine NextAt.held ?_
  intro K hK
  go_simp
  refine (RM1.out _ S0).mono ?_
  rintro e x1 ⟨rfl, hb1⟩
  have Q1 : BelM w1 x1 := Below.trans (a := w1) S0 (hb1.mono (Below.size S0))
  go_simp
  refine hK _ _ Q1 ?_
  clear hK K hb1
  refine wpN_one 3 _ (by kernel_rfl) rfl ?_
  refine NextAt.held ?_
  intro K hK
  go_simp
  refine (RM2.out _ Q1).mono ?_
  rintro e x2 ⟨rfl, hb2⟩
  have Q2 : BelM w1 x2 := Below.trans (a := w1) Q1 (hb2.mono (Below.size Q1))
  go_simp
  refine hK _ _ Q2 ?_
  clear hK K hb2
  refine wpN_pure [4, 5, 6, 8] (by kernel_rfl) (by kernel_rfl) (by kernel_rfl) (fun _ _ _ _ _ h => h) (fun _ => Q2) ?_
  simp only [pick, List.map_cons, List.map_nil, List.getElem?_cons_succ, List.getElem?_cons_zero, Option.getD_some]
  repeat (go_big_quiet_step (fail))
  refine wpQuiet_nil ?_
  refine wpN_one 7 _ (by kernel_rfl) rfl ?_
  refine NextAt.held ?_
  intro K hK
  go_simp
  refine (US.out _ Q2).mono ?_
  rintro e x3 ⟨rfl, hb3⟩
  have Q3 : BelM w1 x3 := Below.trans (a := w1) Q2 (hb3.mono (Below.size Q2))
  go_simp
  refine hK _ _ Q3 ?_
  clear hK K hb3
  refine wpN_pure [9] (by kernel_rfl) (by kernel_rfl) (by kernel_rfl) (fun _ _ _ _ _ h => h) (fun _ => Q3) ?_
  simp only [pick, List.map_cons, List.map_nil, List.getElem?_cons_succ, List.getElem?_cons_zero, Option.getD_some]
  repeat (go_big_quiet_step (fail))
  refine wpQuiet_nil ?_
  refine wpN_one 10 _ (by kernel_rfl) rfl ?_
  refine NextAt.held ?_
  intro K hK
  go_simp
  refine hK _ _ Q3 ?_
  clear hK K
  refine wpN_pure [11, 12, 14] (by kernel_rfl) (by kernel_rfl) (by kernel_rfl) (fun _ _ _ _ _ h => h) (fun _ => Q3) ?_
  simp only [pick, List.map_cons, List.map_nil, List.getElem?_cons_succ, List.getElem?_cons_zero, Option.getD_some]
  repeat (go_big_quiet_step (fail))
  refine wpQuiet_nil ?_
  refine wpN_one 13 _ (by kernel_rfl) rfl ?_
  refine NextAt.held ?_
  intro K hK
  go_simp
  refine (LG.out _ Q3).mono ?_
  rintro e x4 ⟨rfl, hb4⟩
  have Q4 : BelM w1 x4 := Below.trans (a := w1) Q3 (hb4.mono (Below.size Q3))
  go_simp
  refine hK _ _ Q4 ?_
  clear hK K hb4
  refine wpN_pure [15] (by kernel_rfl) (by kernel_rfl) (by kernel_rfl) (fun _ _ _ _ _ h => h) (fun _ => Q4) ?_
  simp only [pick, List.map_cons, List.map_nil, List.getElem?_cons_succ, List.getElem?_cons_zero, Option.getD_some]
  repeat (go_big_quiet_step (fail))
  refine wpQuiet_nil ?_
  refine wpN_one 16 _ (by kernel_rfl) rfl ?_
  refine NextAt.held ?_
  intro K hK
  go_simp
  refine hK _ _ Q4 ?_
  clear hK K
  refine wpN_pure [17, 18, 20, 21, 22] (by kernel_rfl) (by kernel_rfl) (by kernel_rfl) (fun _ _ _ _ _ h => h) (fun _ => Q4) ?_
  simp only [pick, List.map_cons, List.map_nil, List.getElem?_cons_succ, List.getElem?_cons_zero, Option.getD_some]
  repeat (go_big_quiet_step (fail))
  refine wpQuiet_nil ?_
  have g5 : ∀ y : WIn (BelM w1), y.w.cell? ⟨rp, 5, none⟩ = some (.int .i64 (CT : Int)) := fun y => old_cell y.h c5
  haveI ne : Nonempty (WIn (BelM w1)) := ⟨⟨_, Q4⟩⟩
  refine wpN_seg [23] (by kernel_rfl) (by kernel_rfl) (by kernel_rfl) (by kernel_rfl) (by decide) (fun _ _ _ _ _ h => h) Q4 ?_
  simp only [pick, List.map_cons, List.map_nil, List.getElem?_cons_succ, List.getElem?_cons_zero, Option.getD_some]
  repeat (go_big_quiet_step (fail))
  refine wpQuiet_nil ?_
  clear ne
  refine wpN_one 19 _ (by kernel_rfl) rfl ?_
  refine NextAt.held ?_
  intro K hK
  go_simp
  refine (GE.out _ Q4).mono ?_
  rintro e x5 ⟨rfl, hb5⟩
  have Q5 : BelM w1 x5 := Below.trans (a := w1) Q4 (hb5.mono (Below.size Q4))
  go_simp
  refine hK _ _ Q5 ?_
  clear hK K hb5
  refine wpN_pure [24] (by kernel_rfl) (by kernel_rfl) (by kernel_rfl) (fun _ _ _ _ _ h => h) (fun _ => Q5) ?_
  simp only [pick, List.map_cons, List.map_nil, List.getElem?_cons_succ, List.getElem?_cons_zero, Option.getD_some]
  repeat (go_big_quiet_step (fail))
  refine wpQuiet_nil ?_
  refine wpN_one 25 _ (by kernel_rfl) rfl ?_
  refine NextAt.held ?_
  intro K hK
  go_simp
  refine hK _ _ Q5 ?_
  clear hK K
  refine wpN_pure [26, 27, 28, 29, 30] (by kernel_rfl) (by kernel_rfl) (by kernel_rfl) (fun _ _ _ _ _ h => h) (fun _ => Q5) ?_
  simp only [pick, List.map_cons, List.map_nil, List.getElem?_cons_succ, List.getElem?_cons_zero, Option.getD_some]
  repeat (go_big_quiet_step (fail))
  refine wpQuiet_nil ?_
  have g0 : ∀ y : WIn (BelM w1), y.w.cell? ⟨rp, 0, none⟩ = some (.pointer (some ⟨pp, 0, none⟩)) := fun y => old_cell y.h c0
  haveI ne : Nonempty (WIn (BelM w1)) := ⟨⟨_, Q5⟩⟩
  refine wpN_seg [31] (by kernel_rfl) (by kernel_rfl) (by kernel_rfl) (by kernel_rfl) (by decide) (fun _ _ _ _ _ h => h) Q5 ?_
  simp only [pick, List.map_cons, List.map_nil, List.getElem?_cons_succ, List.getElem?_cons_zero, Option.getD_some]
  repeat (go_big_quiet_step (fail))
  refine wpQuiet_nil ?_
  clear ne
  refine wpN_pure [32, 33] (by kernel_rfl) (by kernel_rfl) (by kernel_rfl) (fun _ _ _ _ _ h => h) (fun _ => Q5) ?_
  simp only [pick, List.map_cons, List.map_nil, List.getElem?_cons_succ, List.getElem?_cons_zero, Option.getD_some]
  repeat (go_big_quiet_step (fail))
  refine wpQuiet_nil ?_
  have p0 : ∀ y : WIn (BelM w1), y.w.cell? ⟨pp, 0, none⟩ = some (.int .i64 (N : Int)) := fun y => old_cell y.h cp0
  haveI ne : Nonempty (WIn (BelM w1)) := ⟨⟨_, Q5⟩⟩
  refine wpN_seg [34] (by kernel_rfl) (by kernel_rfl) (by kernel_rfl) (by kernel_rfl) (by decide) (fun _ _ _ _ _ h => h) Q5 ?_
  simp only [pick, List.map_cons, List.map_nil, List.getElem?_cons_succ, List.getElem?_cons_zero, Option.getD_some]
  repeat (go_big_quiet_step (fail))
  refine wpQuiet_nil ?_
  clear ne
  refine wpN_one 35 _ (by kernel_rfl) rfl ?_
  refine NextAt.held ?_
  intro K hK
  go_simp
  refine (HO.out _ Q5).mono ?_
  rintro e x6 ⟨rfl, hb6⟩
  have Q6 : BelM w1 x6 := Below.trans (a := w1) Q5 (hb6.mono (Below.size Q5))
  go_simp
  refine hK _ _ Q6 ?_
  clear hK K hb6
  refine wpN_pure [36] (by kernel_rfl) (by kernel_rfl) (by kernel_rfl) (fun _ _ _ _ _ h => h) (fun _ => Q6) ?_
  simp only [pick, List.map_cons, List.map_nil, List.getElem?_cons_succ, List.getElem?_cons_zero, Option.getD_some]
  repeat (go_big_quiet_step (fail))
  refine wpQuiet_nil ?_
  refine wpN_one 37 _ (by kernel_rfl) rfl ?_
  refine NextAt.held ?_
  intro K hK
  go_simp
  refine hK _ _ Q6 ?_
  clear hK K
  refine wpN_pure [38, 39, 41] (by kernel_rfl) (by kernel_rfl) (by kernel_rfl) (fun _ _ _ _ _ h => h) (fun _ => Q6) ?_
  simp only [pick, List.map_cons, List.map_nil, List.getElem?_cons_succ, List.getElem?_cons_zero, Option.getD_some]
  repeat (go_big_quiet_step (fail))
  refine wpQuiet_nil ?_
  refine wpN_one 40 _ (by kernel_rfl) rfl ?_
  refine NextAt.held ?_
  intro K hK
  go_simp
  refine (BK1.out _ Q6).mono ?_
  rintro e x7 ⟨vA, rfl, rA, hb7⟩
  have Q7 : BelM w1 x7 := Below.trans (a := w1) Q6 (hb7.mono (Below.size Q6))
  go_simp
  refine hK _ _ Q7 ?_
  clear hK K hb7
  refine wpN_one 42 _ (by kernel_rfl) rfl ?_
  refine NextAt.held ?_
  intro K hK
  go_simp
  refine (BK2.out _ Q7).mono ?_
  rintro e x8 ⟨rfl, hb8⟩
  have rA := rA.same (fun k hk => hb8.block k (by obtain ⟨_, h⟩ := rA.block hk; exact lt_of h))
  have Q8 : BelM w1 x8 := Below.trans (a := w1) Q7 (hb8.mono (Below.size Q7))
  go_simp
  refine hK _ _ Q8 ?_
  clear hK K hb8
  refine wpN_one 43 _ (by kernel_rfl) rfl ?_
  refine NextAt.held ?_
  intro K hK
  go_simp
  refine (EQ1.out _ vA Q8 rA).mono ?_
  rintro e x9 ⟨rfl, hb9⟩
  have Q9 : BelM w1 x9 := Below.trans (a := w1) Q8 (hb9.mono (Below.size Q8))
  go_simp
  refine hK _ _ Q9 ?_
  clear hK K hb9
  refine wpN_pure [44] (by kernel_rfl) (by kernel_rfl) (by kernel_rfl) (fun _ _ _ _ _ h => h) (fun _ => Q9) ?_
  simp only [pick, List.map_cons, List.map_nil, List.getElem?_cons_succ, List.getElem?_cons_zero, Option.getD_some]
  repeat (go_big_quiet_step (fail))
  refine wpQuiet_nil ?_
  refine wpN_one 45 _ (by kernel_rfl) rfl ?_
  refine NextAt.held ?_
  intro K hK
  go_simp
  refine hK _ _ Q9 ?_
  clear hK K
  refine wpN_pure [46, 47, 49] (by kernel_rfl) (by kernel_rfl) (by kernel_rfl) (fun _ _ _ _ _ h => h) (fun _ => Q9) ?_
  simp only [pick, List.map_cons, List.map_nil, List.getElem?_cons_succ, List.getElem?_cons_zero, Option.getD_some]
  repeat (go_big_quiet_step (fail))
  refine wpQuiet_nil ?_
  refine wpN_one 48 _ (by kernel_rfl) rfl ?_
  refine NextAt.held ?_
  intro K hK
  go_simp
  refine (GA1.out _ Q9).mono ?_
  rintro e x10 ⟨vB, rfl, rB, hb10⟩
  have Q10 : BelM w1 x10 := Below.trans (a := w1) Q9 (hb10.mono (Below.size Q9))
  go_simp
  refine hK _ _ Q10 ?_
  clear hK K hb10
  refine wpN_one 50 _ (by kernel_rfl) rfl ?_
  refine NextAt.held ?_
  intro K hK
  go_simp
  refine (GA2.out _ Q10).mono ?_
  rintro e x11 ⟨vC, rfl, rC, hb11⟩
  have rB := row_kept rB hb11
  have Q11 : BelM w1 x11 := Below.trans (a := w1) Q10 (hb11.mono (Below.size Q10))
  go_simp
  refine hK _ _ Q11 ?_
  clear hK K hb11
  refine wpN_one 51 _ (by kernel_rfl) rfl ?_
  refine NextAt.held ?_
  intro K hK
  go_simp
  refine (eqGap_any rB rC GL.out).mono ?_
  rintro e x12 ⟨rfl, q12, hx12⟩
  have hb12 : Below x11.heap.size x11 x12 := by rw [hx12]; exact bdrewN (Below.refl _ _) q12
  clear hx12
  have Q12 : BelM w1 x12 := Below.trans (a := w1) Q11 (hb12.mono (Below.size Q11))
  go_simp
  refine hK _ _ Q12 ?_
  clear hK K hb12
  refine wpN_pure [52] (by kernel_rfl) (by kernel_rfl) (by kernel_rfl) (fun _ _ _ _ _ h => h) (fun _ => Q12) ?_
  simp only [pick, List.map_cons, List.map_nil, List.getElem?_cons_succ, List.getElem?_cons_zero, Option.getD_some]
  repeat (go_big_quiet_step (fail))
  refine wpQuiet_nil ?_
  refine wpN_one 53 _ (by kernel_rfl) rfl ?_
  refine NextAt.held ?_
  intro K hK
  go_simp
  refine hK _ _ Q12 ?_
  clear hK K
  refine wpN_pure [54, 55, 57] (by kernel_rfl) (by kernel_rfl) (by kernel_rfl) (fun _ _ _ _ _ h => h) (fun _ => Q12) ?_
  simp only [pick, List.map_cons, List.map_nil, List.getElem?_cons_succ, List.getElem?_cons_zero, Option.getD_some]
  repeat (go_big_quiet_step (fail))
  refine wpQuiet_nil ?_
  refine wpN_one 56 _ (by kernel_rfl) rfl ?_
  refine NextAt.held ?_
  intro K hK
  go_simp
  refine (PL1.out _ Q12).mono ?_
  rintro e x13 ⟨vD, rfl, rD, hb13⟩
  have Q13 : BelM w1 x13 := Below.trans (a := w1) Q12 (hb13.mono (Below.size Q12))
  go_simp
  refine hK _ _ Q13 ?_
  clear hK K hb13
  refine wpN_one 58 _ (by kernel_rfl) rfl ?_
  refine NextAt.held ?_
  intro K hK
  go_simp
  refine (PL2.out _ Q13).mono ?_
  rintro e x14 ⟨⟨vE, rfl, rE, hb14⟩, hSL⟩
  have rD := row_kept rD hb14
  have Q14 : BelM w1 x14 := Below.trans (a := w1) Q13 (hb14.mono (Below.size Q13))
  go_simp
  refine hK _ _ Q14 ?_
  clear hK K hb14
  refine wpN_one 59 _ (by kernel_rfl) rfl ?_
  refine NextAt.free (by kernel_rfl) ?_
  intro K hK
  go_simp
  refine (eqShf_any rD rE hSL).mono ?_
  rintro e x15 ⟨rfl, q15, hx15⟩
  have hb15 : Below x14.heap.size x14 x15 := by rw [hx15]; exact bdrewN (Below.refl _ _) q15
  clear hx15
  have Q15 : BelM w1 x15 := Below.trans (a := w1) Q14 (hb15.mono (Below.size Q14))
  go_simp
  refine hK _ _ ?_
  clear hK K hb15
  refine wpN_pure [60] (by kernel_rfl) (by kernel_rfl) (by kernel_rfl) (fun _ _ _ _ _ h => h) (fun h => by cases h) ?_
  simp only [pick, List.map_cons, List.map_nil, List.getElem?_cons_succ, List.getElem?_cons_zero, Option.getD_some]
  repeat (go_big_quiet_step (fail))
  refine wpQuiet_nil ?_
  refine wpN_one 61 _ (by kernel_rfl) rfl ?_
  refine NextAt.free (by kernel_rfl) ?_
  intro K hK
  go_simp
  refine hK _ _ ?_
  clear hK K
  refine wpN_done (by kernel_rfl) ?_
  have B15 := Lib.hid (HB1.out.trans (Below.mono (w := w1) Q15 HB1.out.size))
  clear S0 Q1 Q2 Q3 Q4 Q5 Q6 Q7 Q8 Q9 Q10 Q11 Q12 Q13 Q14 Q15 rA rB rC rD rE RM1 RM2 US LG GE HO BK1 EQ1 GA1 GA2 PL1 PL2 c5 c0 cp0 hSL
  go_wp2_with fail
  refine (TR1.out _ B15.out).mono ?_
  rintro e x16 ⟨rfl, hb16⟩
  have B16 := Lib.hid (B15.out.trans (hb16.mono B15.out.size))
  clear hb16 TR1
  go_wp2_with fail
  refine (TR2.out _ B16.out).mono ?_
  rintro e x17 ⟨rfl, hb17⟩
  have B17 := Lib.hid (B16.out.trans (hb17.mono B16.out.size))
  clear hb17 TR2
  go_wp2_with fail
  obtain ⟨i0, hi0, hz0, hz1, hz2⟩ := info_parts infoInt
  obtain ⟨NB, hNB⟩ : ∃ NB, S.bl.length = NB := ⟨_, rfl⟩
  have HNB := Lib.hid hNB
  have hnb : NB ≤ 500 := by rw [← hNB]; exact HBG.out.2
  clear hNB
  have BR18 : Below x17.heap.size x17 (x17.alloc (.cells #[.int .i64 q, .int .i64 0] 3)) := (Below.refl _ _).alloc (Nat.le_refl _) _
  have NR18 := heap_alloc_new x17 (.cells #[.int .i64 q, .int .i64 0] 3)
  have B18 := Lib.hid (B17.out.trans (BR18.mono B17.out.size))
  have OW18 : Hid ((x17.alloc (.cells #[.int .i64 q, .int .i64 0] 3)).ownsRow x17.heap.size 3 1 (.slice (some ⟨x17.heap.size, 0, none⟩) 2 2) 2 ((q :: 0 :: ([] : List Int)).map (Value.int .i64))) := Lib.hid ⟨rfl, Or.inr ⟨x17.heap.size, 2, _, rfl, Nat.le_refl _, NR18, Nat.le_refl _, by unfold maxLen; omega, rfl, rfl⟩⟩
  have BR := Lib.hid BR18
  clear NR18 BR18
  refine (BK2a.out _ B18.out).mono ?_
  rintro e x18 ⟨rfl, hb18⟩
  rw [HUB.out, HNB.out]
  have B19 := Lib.hid (B18.out.trans (hb18.mono B18.out.size))
  have BR19 := Lib.hid (BR.out.trans (hb18.mono BR.out.size))
  have OW19 := Lib.hid (row_kept OW18.out hb18)
  clear hb18 BK2a
  generalize hX : x17.heap.size = X17 at *
  have HX17 : Hid (w.heap.size ≤ X17) := Lib.hid (by rw [← hX]; exact B17.out.size)
  have HX18 : Hid (X17 ≤ x17.heap.size) := Lib.hid (by rw [hX]; exact Nat.le_refl _)
  clear hX
  go_wp2_with fail
  go_loopw [21, 137] (fun v i wr => ∃ k : Nat, k ≤ NB ∧ i = .int .i64 (k : Int) ∧ wr.ownsRow X17 3 1 v (k + 2) ((q :: 0 :: (S.bl.map (fun x => (x.h : Int))).take k).map (Value.int .i64)) ∧ Below X17 x17 wr) (fun _ i _ => NB - (intOf i).toNat)
  case atStart => exact ⟨0, Nat.zero_le _, rfl, OW19.out, BR19.out⟩
  case round =>
    obtain ⟨k, hk, rfl, how, hbr⟩ := hrel
    by_cases hlt : k < NB
    · obtain ⟨x, hx⟩ : ∃ x, S.bl[k]? = some x := ⟨_, List.getElem?_eq_getElem (by have := HNB.out; omega)⟩
      have BW := Lib.hid (B17.out.trans (hbr.mono HX17.out))
      obtain ⟨g, off, cap, hv, d0, d1, d2, _⟩ := oblk_cells (HM.out.below BW.out).row.1 hx
      rw [HUB.out, HNB.out] at hv
      simp only [Value.slice.injEq, true_and] at hv
      obtain ⟨rfl, rfl⟩ := hv
      have T : Hid ((S.bl.map (fun x => (x.h : Int))).take (k + 1) = (S.bl.map (fun x => (x.h : Int))).take k ++ [(x.h : Int)]) := Lib.hid (by rw [List.take_add_one, List.getElem?_map, hx]; rfl)
      have BA := Lib.hid (hbr.alloc (by have := hbr.size; have := HX18.out; omega) (.cells #[.int .i64 (x.h : Int), .int .i64 (x.at' : Int), .int .i64 (x.len : Int)] 78))
      have OW := Lib.hid (how.alloc (.cells #[.int .i64 (x.h : Int), .int .i64 (x.at' : Int), .int .i64 (x.len : Int)] 78))
      obtain ⟨q0, q1, q2⟩ := cells3h (heap_alloc_new wr (.cells #[.int .i64 (x.h : Int), .int .i64 (x.at' : Int), .int .i64 (x.len : Int)] 78))
      clear how hbr hx
      go_upto_region 12 with fail
      clear d0 d1 d2
      generalize wr.alloc (.cells #[.int .i64 (x.h : Int), .int .i64 (x.at' : Int), .int .i64 (x.len : Int)] 78) = W1 at *
      have hsz : X17 ≤ W1.heap.size := by have := BA.out.size; have := HX18.out; omega
      go_wp2_with (at_builtin; go_must (refine wpList_append_new rfl (.tmp 141) (.tmp 144) 25 rfl X17 3 i0 (.int .i64 0) 8 Tryz.underlying25 hi0 hz0 hz1 hz2 rfl _ _ _ W1 _ (.int .i64 (x.h : Int)) rfl (by exact OW.out) rfl rfl (by unfold maxLen; omega) (by omega) hsz ?_))
      intro v' w1' hown hg hbel
      have B2 := Lib.hid (BA.out.trans hbel)
      have OW2 : Hid (w1'.ownsRow X17 3 1 v' (k + 1 + 2) ((q :: 0 :: (S.bl.map (fun x => (x.h : Int))).take (k + 1)).map (Value.int .i64))) := Lib.hid (by
        rw [T.out, show k + 1 + 2 = k + 2 + 1 by omega]
        simpa using hown)
      clear hown hg hbel
      go_wp2_with fail
      go_roundw
      case measure => simp only [intOf]; omega
      case rel => exact ⟨k + 1, by omega, by go_num, OW2.out, B2.out⟩
    · obtain rfl : k = NB := by omega
      obtain ⟨la, lc, hv⟩ := wrow_sh how
      subst hv
      obtain ⟨XS, hXS⟩ : ∃ XS, q :: 0 :: (S.bl.map (fun x => (x.h : Int))).take k = XS := ⟨_, rfl⟩
      rw [hXS] at how
      have HLX : Hid (XS.length = k + 2) := Lib.hid (by rw [← hXS]; simp [HNB.out])
      have OW := Lib.hid how
      have BW := Lib.hid (B17.out.trans (hbr.mono HX17.out))
      clear how hbr hXS
      go_wp2_with fail
      go_loopw [149] (fun i wr => ∃ j : Nat, j ≤ k + 2 ∧ i = .int .i64 (j : Int) ∧ Below w.heap.size w wr ∧ wr.ownsRow X17 3 1 (.slice la (k + 2) lc) (k + 2) (XS.map (Value.int .i64))) (fun i _ => k + 2 - (intOf i).toNat)
      case atStart => exact ⟨0, Nat.zero_le _, rfl, BW.out, OW.out⟩
      case round =>
        obtain ⟨j, hj, rfl, hbj, howj⟩ := hrel
        by_cases hltj : j < k + 2
        · obtain ⟨y, hy⟩ : ∃ y, XS[j]? = some y := ⟨_, List.getElem?_eq_getElem (by have := HLX.out; omega)⟩
          obtain ⟨g, rfl, dy, _⟩ := wrow_cell howj (j := j) (u := .int .i64 y) (by rw [List.getElem?_map, hy]; rfl)
          have HBJ := Lib.hid hbj
          have HOWJ := Lib.hid howj
          have BKy := Lib.hid (BKR.out y)
          unfold BkPost at BKy
          have OCy := Lib.hid (OCR.out y)
          unfold OctPost at OCy
          have CPy := Lib.hid (CP.out y)
          unfold CpPost at CPy
          have LNy := Lib.hid (LN.out y)
          unfold LnPost at LNy
          have ATy := Lib.hid (AT.out y)
          unfold LnPost at ATy
          have BEQ : Hid (∀ i x, findB S.bl y = some (i, x) → fndE S y = 0 → x = blkAt S y) := Lib.hid (fun i x h1 h2 => by
            obtain ⟨_, i', x', h3, _, _, h4⟩ := fndE_zero h2
            rw [h1] at h3
            simp only [Option.some.injEq, Prod.mk.injEq] at h3
            rw [h4, h3.2])
          have INy := HIN.out y
          have hbg := HBG.out.1
          have HIB := Lib.hid (And.intro INy hbg)
          have OLN : Hid ((octB S.mem (blkAt S y)).length = (blkAt S y).len) := Lib.hid (octB_len INy)
          generalize fndE S y = E' at *
          generalize hXB : blkAt S y = XB at *
          clear hy hbj howj hXB
          obtain ⟨xh, xp, xn⟩ := XB
          simp only at INy
          have hxn : xn ≤ 100000 := by omega
          clear INy hbg
          go_wp2_with fail
          refine (BKy.out _ HBJ.out).mono ?_
          rintro e y1 ⟨rfl, hb1⟩
          have B1 := Lib.hid ((HBJ.out.trans (hb1.mono HBJ.out.size)).alloc (Nat.le_trans HBJ.out.size hb1.size) (.cells #[.int .i64 (xh : Int), .int .i64 (xp : Int), .int .i64 (xn : Int)] 78))
          have R1 := Lib.hid ((row_kept HOWJ.out hb1).alloc (.cells #[.int .i64 (xh : Int), .int .i64 (xp : Int), .int .i64 (xn : Int)] 78))
          have N1 := heap_alloc_new y1 (.cells #[.int .i64 (xh : Int), .int .i64 (xp : Int), .int .i64 (xn : Int)] 78)
          clear hb1
          go_upto_region 18 with fail
          obtain ⟨r, hr⟩ : ∃ r, y1.heap.size = r := ⟨_, rfl⟩
          rw [hr] at N1 ⊢
          generalize y1.alloc (.cells #[.int .i64 (xh : Int), .int .i64 (xp : Int), .int .i64 (xn : Int)] 78) = Y1 at *
          clear hr dy
          have HN1 := Lib.hid N1
          clear N1
          go_wp2_with fail
          refine (OCy.out _ B1.out).mono ?_
          rintro e y2 ⟨hb2, vo, rfl, hr2⟩
          have B2 := Lib.hid (B1.out.trans (hb2.mono B1.out.size))
          have R2 := Lib.hid (row_kept R1.out hb2)
          have N2 := Lib.hid ((hb2.block _ (lt_of HN1.out)).trans HN1.out)
          obtain ⟨oa, oc, hvo⟩ := wrow_sh hr2
          subst hvo
          have HR2 := Lib.hid hr2
          clear hb2 hr2
          go_wp2_with fail
          refine (CPy.out _ B2.out).mono ?_
          rintro e y3 ⟨hb3, hcp⟩
          have B3 := Lib.hid (B2.out.trans (hb3.mono B2.out.size))
          have R3 := Lib.hid (row_kept R2.out hb3)
          have N3 := Lib.hid ((hb3.block _ (lt_of N2.out)).trans N2.out)
          have HR3 := Lib.hid (row_kept HR2.out hb3)
          clear hb3
          rcases hcp with ⟨hE, rfl⟩ | ⟨hE, i, x, v, hfx, rfl, hrv⟩
          · have hE1 : (E' == 0) = false := by simpa using hE
            have hE2 : (E' != 0) = true := by simpa using hE
            clear hE
            go_wp2_with fail
            refine (LNy.out _ B3.out).mono ?_
            rintro e y4 ⟨rfl, hy4⟩
            obtain rfl := hy4.symm
            clear hy4
            go_wp2_with fail
            refine (ATy.out _ B3.out).mono ?_
            rintro e y4 ⟨rfl, hy4⟩
            obtain rfl := hy4.symm
            clear hy4
            obtain ⟨q0, q1, q2⟩ := cells3h N3.out
            go_wp2_with fail
            go_roundw
            case measure => simp only [intOf]; omega
            case rel => exact ⟨j + 1, by omega, by go_num, B3.out, R3.out⟩
          · have hxx := BEQ.out i x hfx hE
            subst hE
            subst hxx
            obtain ⟨ga, gc, hv⟩ := wrow_sh hrv
            subst hv
            have HRV := Lib.hid hrv
            have EQB : Hid (Calls Tryz.prog 80 #[.slice ga xn gc, .slice oa xn oc] y3 (fun e w' => e = .returned (.bool true) ∧ w' = y3)) := Lib.hid (by
              have e1 : (octB S.mem ⟨xh, xp, xn⟩).length = xn := OLN.out
              have h1 : y3.ownsRow 0 5 1 (.slice ga xn gc) xn ((octB S.mem ⟨xh, xp, xn⟩).map (Value.int .u8)) := row_low HRV.out (Nat.zero_le _)
              have h2 : y3.ownsRow 0 5 1 (.slice oa xn oc) xn ((octB S.mem ⟨xh, xp, xn⟩).map (Value.int .u8)) := row_low HR3.out (Nat.zero_le _)
              generalize octB S.mem ⟨xh, xp, xn⟩ = zs at e1 h1 h2
              exact equal_octs (zs := zs) (Reads.own (by rw [e1]; exact h1) (by omega)) e1 (Reads.own (by rw [e1]; exact h2) (by omega)) e1)
            clear hrv hfx
            go_wp2_with fail
            refine (LNy.out _ B3.out).mono ?_
            rintro e y4 ⟨rfl, hy4⟩
            obtain rfl := hy4.symm
            clear hy4
            go_wp2_with fail
            refine (ATy.out _ B3.out).mono ?_
            rintro e y4 ⟨rfl, hy4⟩
            obtain rfl := hy4.symm
            clear hy4
            obtain ⟨q0, q1, q2⟩ := cells3h N3.out
            go_wp2_with fail
            refine EQB.out.mono ?_
            rintro e y4 ⟨rfl, hy4⟩
            obtain rfl := hy4.symm
            clear hy4
            go_wp2_with fail
            go_roundw
            case measure => simp only [intOf]; omega
            case rel => exact ⟨j + 1, by omega, by go_num, B3.out, R3.out⟩
        · obtain rfl : j = k + 2 := by omega
          have FIN := Lib.hid hbj
          clear hbj howj
          go_wp2_with fail
          go_ret
          exact ⟨rfl, FIN.out⟩

end Go.Proofs.YtjogaohnphafgaaGreat
