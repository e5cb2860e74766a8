/-
  The reference's Pull: what it gives, with its book. Conditions: numbers in their bounds.
-/
import Derived.Test.YtfnmjlnpfoclbaaGreatQueueRunsPbe
namespace Go.Proofs.YtfnmjlnpfoclbaaGreat
open Go.RowKit
set_option linter.unusedVariables false

set_option maxRecDepth 100000 in
theorem slots142 (f : Nat → Value) : slotsOf 142 f = f 0 :: f 1 :: f 2 :: f 3 :: f 4 :: f 5 :: f 6 :: f 7 :: f 8 :: f 9 :: f 10 :: f 11 :: f 12 :: f 13 :: f 14 :: f 15 :: f 16 :: f 17 :: f 18 :: f 19 :: f 20 :: f 21 :: f 22 :: f 23 :: f 24 :: f 25 :: f 26 :: f 27 :: f 28 :: f 29 :: f 30 :: f 31 :: f 32 :: f 33 :: f 34 :: f 35 :: f 36 :: f 37 :: f 38 :: f 39 :: f 40 :: f 41 :: f 42 :: f 43 :: f 44 :: f 45 :: f 46 :: f 47 :: f 48 :: f 49 :: f 50 :: f 51 :: f 52 :: f 53 :: f 54 :: f 55 :: f 56 :: f 57 :: f 58 :: f 59 :: f 60 :: f 61 :: f 62 :: f 63 :: f 64 :: f 65 :: f 66 :: f 67 :: f 68 :: f 69 :: f 70 :: f 71 :: f 72 :: f 73 :: f 74 :: f 75 :: f 76 :: f 77 :: f 78 :: f 79 :: f 80 :: f 81 :: f 82 :: f 83 :: f 84 :: f 85 :: f 86 :: f 87 :: f 88 :: f 89 :: f 90 :: f 91 :: f 92 :: f 93 :: f 94 :: f 95 :: f 96 :: f 97 :: f 98 :: f 99 :: f 100 :: f 101 :: f 102 :: f 103 :: f 104 :: f 105 :: f 106 :: f 107 :: f 108 :: f 109 :: f 110 :: f 111 :: f 112 :: f 113 :: f 114 :: f 115 :: f 116 :: f 117 :: f 118 :: f 119 :: f 120 :: f 121 :: f 122 :: f 123 :: f 124 :: f 125 :: f 126 :: f 127 :: f 128 :: f 129 :: f 130 :: f 131 :: f 132 :: f 133 :: f 134 :: f 135 :: f 136 :: f 137 :: f 138 :: f 139 :: f 140 :: f 141 :: [] := rfl
def PullRPost (I : QuId) (L : List QCh) (bst : BookSt) (F G : Nat → Prop) (n : Nat) (w : World) : Ending → World → Prop := fun e w' =>
  ∃ v, e = .returned (.tuple #[v, .int .i64 0]) ∧ w'.ownsRow w.heap.size 5 1 v n (((qCont L).take n).map (Value.int .u8)) ∧ RRPost w w' I (dropQ L.length 0 (pullL n L)) (givenSt bst I.o (goneN (pullL n L))) F G ∧ OctStay w w' L

set_option maxHeartbeats 1000000 in
set_option maxRecDepth 100000 in
theorem pullR_shut (r : Nat) (n : Int) (w : World) (c7 : w.cell? ⟨r, 7, none⟩ = some (.bool true)) (c6 : w.cell? ⟨r, 6, none⟩ = some (.slice none 0 0)) :
    Calls Tryz.prog 32 #[.pointer (some ⟨r, 0, none⟩), .int .i64 n] w (fun e w' => e = .returned (.tuple #[.slice none 0 0, .int .i64 11]) ∧ Below w.heap.size w w') := by
  have SZ := Lib.hid (sizes_any r [] _ w c6 ⟨none, 0, rfl, Nat.zero_le _, by decide, fun k hk => by simp at hk⟩ ⟨by simp, by simp⟩)
  unfold SizesPost at SZ
  generalize qsum QCh.len [] = S at *
  generalize qsum QCh.room [] = RM at *
  go_enter Tryz.func32, Tryz.ntmps32
  go_wp2_with fail
  refine SZ.out.mono ?_
  rintro e w1 ⟨rfl, hb1⟩
  have d7 := old_cell hb1 c7
  have HB := Lib.hid hb1
  clear hb1
  go_wp2_with fail
  go_ret2
  exact ⟨rfl, HB.out⟩
set_option maxHeartbeats 1000000 in
set_option maxRecDepth 100000 in
theorem pullR_bad (I : QuId) (L : List QCh) (cv : Value) (F : Nat → Prop) (n : Int) (w : World) (hm : RqMem w F I L cv) (hok : QChsOk L) (hn : ¬ (0 ≤ n ∧ n ≤ (qsum QCh.len L : Nat))) :
    Calls Tryz.prog 32 #[.pointer (some ⟨I.r, 0, none⟩), .int .i64 n] w (fun e w' => e = .returned (.tuple #[.slice none 0 0, .int .i64 2]) ∧ Below w.heap.size w w') := by
  have SZ := Lib.hid (sizes_any I.r L cv w (by rw [cell_of hm.self]; rfl) hm.chs hok)
  have c7 : w.cell? ⟨I.r, 7, none⟩ = some (.bool false) := by rw [cell_of hm.self]; rfl
  unfold SizesPost at SZ
  generalize qsum QCh.len L = S at *
  generalize qsum QCh.room L = RM at *
  clear hm hok
  by_cases h0 : n < 0
  · go_enter Tryz.func32, Tryz.ntmps32
    go_wp2_with fail
    refine SZ.out.mono ?_
    rintro e w1 ⟨rfl, hb1⟩
    have d7 := old_cell hb1 c7
    have HB := Lib.hid hb1
    clear hb1
    go_wp2_with fail
    go_ret2
    exact ⟨rfl, HB.out⟩
  · have h1 : (S : Int) < n := by omega
    clear hn
    go_enter Tryz.func32, Tryz.ntmps32
    go_wp2_with fail
    refine SZ.out.mono ?_
    rintro e w1 ⟨rfl, hb1⟩
    have d7 := old_cell hb1 c7
    have HB := Lib.hid hb1
    clear hb1
    go_wp2_with fail
    go_ret2
    exact ⟨rfl, HB.out⟩

/-- What holds at the loop's head. -/
structure PlAt (n : Nat) (L : List QCh) (k : Nat) (w1 wr : World) (v9 v8 : Value) (gN : Nat) : Prop where
  row : wr.ownsRow w1.heap.size 101 3 v9 (leftQ n k L).length ((leftQ n k L).flatMap QCh.cells)
  out : wr.ownsRow w1.heap.size 5 1 v8 (pullO n (L.take k)).length ((pullO n (L.take k)).map (Value.int .u8))
  sum : gN + qsum QCh.room (keptQ n k L) = qsum QCh.room (L.take k)
  bel : Below w1.heap.size w1 wr
theorem PlAt.below {n : Nat} {L : List QCh} {k : Nat} {w1 wr w2 : World} {v9 v8 : Value} {gN : Nat} (h : PlAt n L k w1 wr v9 v8 gN) (hb : Below wr.heap.size wr w2) : PlAt n L k w1 w2 v9 v8 gN :=
  ⟨ownsRow_same h.row (fun k hk => hb.block k (h.row.lt k hk).2), ownsRow_same h.out (fun k hk => hb.block k (h.out.lt k hk).2), h.sum, h.bel.trans (hb.mono h.bel.size)⟩
/-- The octets are laid beside what is there; then the chunk's From is written. -/
structure PlMid (n : Nat) (L : List QCh) (k : Nat) (w1 wr : World) (v9 v8 : Value) : Prop where
  row : wr.ownsRow w1.heap.size 101 3 v9 (leftQ n k L).length (((leftQ n k L).set (keptQ n k L).length (newQ n k L)).flatMap QCh.cells)
  out : wr.ownsRow w1.heap.size 5 1 v8 (pullO n (L.take (k + 1))).length ((pullO n (L.take (k + 1))).map (Value.int .u8))
  bel : Below w1.heap.size w1 wr
theorem PlMid.below {n : Nat} {L : List QCh} {k : Nat} {w1 wr w2 : World} {v9 v8 : Value} (h : PlMid n L k w1 wr v9 v8) (hb : Below wr.heap.size wr w2) : PlMid n L k w1 w2 v9 v8 :=
  ⟨ownsRow_same h.row (fun k hk => hb.block k (h.row.lt k hk).2), ownsRow_same h.out (fun k hk => hb.block k (h.out.lt k hk).2), h.bel.trans (hb.mono h.bel.size)⟩
theorem PlAt.mid {n : Nat} {L : List QCh} {k : Nat} {w1 wr w5 : World} {g cap : Nat} {v8 v' : Value} {gN : Nat} (h : PlAt n L k w1 wr (.slice (some ⟨g, 0, none⟩) (leftQ n k L).length cap) v8 gN) (hk : k < L.length) (hL : ∀ c ∈ L, ChOk c)
    (hown : w5.ownsRow w1.heap.size 5 1 v' (pullO n (L.take (k + 1))).length ((pullO n (L.take (k + 1))).map (Value.int .u8))) (hgr : ∀ j, j < wr.heap.size → v8.ownBlock ≠ some j → w5.heap[j]? = wr.heap[j]?) (hb5 : Below w1.heap.size w1 w5) :
    PlMid n L k w1 (w5.setCell ⟨g, (keptQ n k L).length * 3 + 1, none⟩ (.int .i64 (newQ n k L).fr)) (.slice (some ⟨g, 0, none⟩) (leftQ n k L).length cap) v' := by
  have hB := h.bel.size
  have hgo : v8.ownBlock ≠ some g := fun e => by
    obtain ⟨c1, h1⟩ := row_block h.out e
    obtain ⟨c2, h2⟩ := row_block h.row (k := g) rfl
    rw [h1] at h2
    simp at h2
  have row5 : w5.ownsRow w1.heap.size 101 3 (.slice (some ⟨g, 0, none⟩) (leftQ n k L).length cap) (leftQ n k L).length ((leftQ n k L).flatMap QCh.cells) :=
    ownsRow_same h.row (fun j hj => hgr j (h.row.lt j hj).2 (fun e => hgo (by simp only [Value.ownBlock, Option.some.injEq] at hj; rw [hj]; exact e)))
  have hgB := (h.row.lt g rfl).1
  have hlen : (keptQ n k L).length < (leftQ n k L).length := by rw [leftQ_len]; omega
  have eget := leftQ_get n k L hk
  refine ⟨?_, ownsRow_setCell_other hown (fun e => ?_) _, hb5.setCell (p := ⟨g, _, none⟩) hgB _⟩
  · have := qrow_set row5 ((keptQ n k L).length * 3 + 1) (.int .i64 (newQ n k L).fr)
    rw [qcells_set (leftQ n k L) (keptQ n k L).length (newQ n k L) (by rw [eget]; rfl) (by rw [eget]; rfl) (by rw [eget]; rfl) hlen] at this
    exact this
  · obtain ⟨c1, h1⟩ := row_block hown e
    obtain ⟨c2, h2⟩ := row_block row5 (k := g) rfl
    rw [h1] at h2
    simp at h2

set_option maxHeartbeats 4000000 in
set_option maxRecDepth 100000 in
theorem pullR_any (I : QuId) (L : List QCh) (bst : BookSt) (F G : Nat → Prop) (n : Nat) (w : World) (h : RR w I L bst F G) (hn : n ≤ qsum QCh.len L) :
    Calls Tryz.prog 32 #[.pointer (some ⟨I.r, 0, none⟩), .int .i64 n] w (PullRPost I L bst F G n w) := by
  obtain ⟨cv, hm⟩ := h.qu
  have SZ := Lib.hid (sizes_any I.r L cv w (by rw [cell_of hm.self]; rfl) hm.chs h.ok)
  have AB0 := Lib.hid h
  have HM := Lib.hid hm
  have hsum := h.ok.sum L.length
  rw [List.take_length] at hsum
  have c7 : w.cell? ⟨I.r, 7, none⟩ = some (.bool false) := by rw [cell_of hm.self]; rfl
  have HOK := Lib.hid (fun c hc => h.ok.2 c hc : ∀ c ∈ L, ChOk c)
  have b63 := h.ok.1
  have HRS := Lib.hid hn
  have CLC := Lib.hid (fun W (hW : Below w.heap.size w W) => clone_chs cv 0 L W (HM.out.below hW).crow (by omega))
  unfold SizesPost at SZ
  generalize hS : qsum QCh.len L = S at *
  generalize hRMs : qsum QCh.room L = RM at *
  have HS := Lib.hid hS
  have HRM := Lib.hid hRMs
  have c6 : w.cell? ⟨I.r, 6, none⟩ = some cv := by rw [cell_of hm.self]; rfl
  obtain ⟨ca, cc, rfl⟩ := qrow_shape hm.crow
  clear h hm hS hRMs
  go_enter Tryz.func32, Tryz.ntmps32
  go_wp2_with fail
  refine SZ.out.mono ?_
  rintro e w1 ⟨rfl, hb1⟩
  have B1 := Lib.hid hb1
  have d7 := old_cell hb1 c7
  have d6 := old_cell hb1 c6
  clear hb1 SZ
  go_wp2_with fail
  refine (CLC.out _ B1.out).mono ?_
  rintro e w2 ⟨v2, rfl, hr2, hb2⟩
  obtain ⟨na, nc, rfl⟩ := qrow_shape hr2
  have P0 : Hid (PlAt n L 0 w1 w2 (.slice na L.length nc) (.slice none 0 0) 0) := Lib.hid ⟨by rw [leftQ_zero]; exact hr2, World.ownsRow_nil _ _ _ _, by rw [keptQ_zero]; simp [qsum], hb2⟩
  clear hr2 hb2 d6 c6 c7 d7 CLC
  go_wp2_with fail
  refine wp_loop_framed 142 (fun gm f wr => ∃ k : Nat, k ≤ L.length ∧ gm = L.length - k ∧ f 0 = .pointer (some ⟨I.r, 0, none⟩) ∧ f 1 = .int .i64 (n : Int) ∧ f 11 = .int .i64 ((keptQ n k L).length : Nat) ∧
    (∃ la lc, f 9 = .slice la (leftQ n k L).length lc) ∧ (∃ oa oc, f 8 = .slice oa (pullO n (L.take k)).length oc) ∧ ∃ gN : Nat, f 10 = .int .i64 (gN : Int) ∧ PlAt n L k w1 wr (f 9) (f 8) gN) _ _ (by kernel_rfl) L.length
    ⟨0, Nat.zero_le _, rfl, rfl, rfl, by rw [keptQ_zero]; rfl, ⟨na, nc, by rw [leftQ_zero]; rfl⟩, ⟨none, 0, rfl⟩, 0, rfl, P0.out⟩ ?_
  clear P0
  intro gm f wr ⟨k, hk, hgm, f0, f1, f11, ⟨la, lc, f9⟩, ⟨oa, oc, f8⟩, gN, f10, hP⟩ J K hJ hK
  rw [f8, f9] at hP
  rw [slots142]
  rw [f0, f1, f8, f9, f10, f11]
  clear f0 f1 f8 f9 f10 f11
  have HPL := Lib.hid hP
  have hgb : gN ≤ 50000000 := by
    have := hP.sum
    have := AB0.out.ok.sumR k
    omega
  have hkl := keptQ_le n k L hk
  have hll : Hid ((leftQ n k L).length = (keptQ n k L).length + (L.length - k)) := Lib.hid (leftQ_len n k L)
  have hol : Hid ((pullO n (L.take k)).length ≤ n) := Lib.hid (by rw [pullO_eq _ _ (fun c hc => HOK.out c (List.mem_of_mem_take hc)), List.length_take]; omega)
  by_cases hlt : k < L.length
  · as_aux_lemma =>
    obtain ⟨g, cap, hv, hcap, d0, d1, d2, cur, hcur⟩ := chrow_at (k := (keptQ n k L).length) hP.row (by rw [leftQ_len]; omega)
    simp only [Value.slice.injEq, true_and] at hv
    obtain ⟨rfl, rfl⟩ := hv
    have hin := qgetD_in hlt
    obtain ⟨q1, q2, q3⟩ := HOK.out _ hin
    rw [leftQ_get n k L hlt] at d0 d1 d2
    have HBR : Hid (byteRow wr (L.getD k QCh.zero).b (L.getD k QCh.zero).os) := Lib.hid (by
      have h1 := (HM.out.mem _ hin).1
      have h2 := lt_of h1
      have h3 := B1.out.size
      exact (hP.bel.block _ (by omega)).trans ((B1.out.block _ h2).trans h1))
    have PO := Lib.hid (pullO_step L n k HOK.out hlt)
    have KEEP := Lib.hid (leftQ_keep n k L HOK.out hlt)
    have GONE := Lib.hid (leftQ_gone n k L HOK.out hlt)
    have MID := Lib.hid (fun wx (bx : Below wr.heap.size wr wx) w5 v' h1 h2 h3 => (hP.below bx).mid (w5 := w5) (v' := v') hlt HOK.out h1 h2 h3)
    have NQ : Hid (newQ n k L = (L.getD k QCh.zero).adv (min (n - (pullO n (L.take k)).length) (L.getD k QCh.zero).len)) := Lib.hid rfl
    have SUM : Hid (qsum QCh.room (L.take (k + 1)) = qsum QCh.room (L.take k) + (L.getD k QCh.zero).os.length) := Lib.hid (qsum_take QCh.room L k hlt)
    have LSET : Hid (((leftQ n k L).set (keptQ n k L).length (newQ n k L)).length = (leftQ n k L).length ∧ ((leftQ n k L).set (keptQ n k L).length (newQ n k L)).getD (keptQ n k L).length QCh.zero = newQ n k L) := Lib.hid (by
      refine ⟨List.length_set, ?_⟩
      rw [List.getD_eq_getElem?_getD, List.getElem?_set_self (by rw [leftQ_len]; omega)]; rfl)
    have OUTR := Lib.hid hP.out
    have SG := Lib.hid hP.sum
    have HBB := Lib.hid hP.bel
    have hszr := hP.bel.size
    have HKJ := Lib.hid (And.intro hJ hK)
    clear hP hin hJ hK
    obtain ⟨T, hT⟩ : ∃ T, T = min (n - (pullO n (L.take k)).length) (L.getD k QCh.zero).len := ⟨_, rfl⟩
    rw [← hT] at NQ PO
    generalize L.getD k QCh.zero = x at *
    obtain ⟨xb, xos, xf, xt⟩ := x
    have hTl : ((xos.drop xf).take T).length = T := by
      simp only [QCh.len] at hT
      dsimp only at q1 q2
      rw [List.length_take, List.length_drop]; omega
    have hOo : (pullO n (L.take k)).length ≤ n := hol.out
    have hTn : (pullO n (L.take k)).length + T ≤ n := by omega
    have hTx : xf + T ≤ xt := by simp only [QCh.len] at hT; dsimp only at q1; omega
    have HT := Lib.hid hT
    clear hT
    generalize hO : pullO n (L.take k) = O at *
    have HLL := Lib.hid hll.out
    generalize hLLg : (leftQ n k L).length = LL at *
    generalize hIg : (keptQ n k L).length = i at *
    have hi5 : i < LL := by have := HLL.out; omega
    have hl5 : LL ≤ 500 := by have := HLL.out; omega
    dsimp only at q1 q2 q3 d0 d1 d2
    generalize hxl : xos.length = xl at *
    have HLT := Lib.hid hlt
    clear hll hol hlt
    go_upto_region 12 with fail
    refine wp_cut_framed 142 (fun f wx => f 0 = .pointer (some ⟨I.r, 0, none⟩) ∧ f 1 = .int .i64 (n : Int) ∧ f 8 = .slice oa O.length oc ∧ f 9 = .slice (some ⟨g, 0, none⟩) LL lc ∧ f 10 = .int .i64 (gN : Int) ∧ f 11 = .int .i64 (i : Int) ∧ f 12 = .pointer (some ⟨g, i * 3, none⟩) ∧ f 13 = .int .i64 (T : Int) ∧ ∃ q, wx = wr.drewN q) _ _ ?_ ?_
    · intro J2 K2 hJ2 hK2
      by_cases hA : n - O.length ≤ xt - xf
      · have eT : Hid (T = n - O.length) := Lib.hid (by rw [HT.out]; exact Nat.min_eq_left hA)
        have eI : (min ((n : Int) - O.length) ((xt : Int) - xf)) = ((n - O.length : Nat) : Int) := by omega
        go_quiet (fail)
        go_wp2_with fail
        exact Met.intro (hJ2 _ _ (by kernel_rfl) ⟨rfl, rfl, rfl, rfl, rfl, rfl, rfl, by show Value.int .i64 _ = Value.int .i64 _; rw [eT.out]; first | done | (congr 1; omega), nq, rfl⟩)
      · have eT : Hid (T = xt - xf) := Lib.hid (by rw [HT.out]; exact Nat.min_eq_right (by unfold QCh.len; dsimp only; omega))
        have eI : (min ((n : Int) - O.length) ((xt : Int) - xf)) = ((xt - xf : Nat) : Int) := by omega
        go_quiet (fail)
        go_wp2_with fail
        exact Met.intro (hJ2 _ _ (by kernel_rfl) ⟨rfl, rfl, rfl, rfl, rfl, rfl, rfl, by show Value.int .i64 _ = Value.int .i64 _; rw [eT.out]; first | done | (congr 1; omega), nq, rfl⟩)
    intro f2 wx ⟨f0, f1, f8, f9, f10, f11, f12, f13, q, hwx⟩
    rw [slots142]
    rw [f0, f1, f8, f9, f10, f11, f12, f13]
    clear f0 f1 f8 f9 f10 f11 f12 f13
    have bx : Below wr.heap.size wr wx := by rw [hwx]; exact bdrewN (Below.refl _ _) q
    have e0 := old_cell bx d0
    have e1 := old_cell bx d1
    have e2 := old_cell bx d2
    have OWx : Hid (wx.ownsRow w1.heap.size 5 1 (.slice oa O.length oc) O.length (O.map (Value.int .u8))) := Lib.hid (ownsRow_same OUTR.out (fun j hj => bx.block j (OUTR.out.lt j hj).2))
    have BRx : Hid (byteRow wx xb xos) := Lib.hid ((bx.block _ (lt_of HBR.out)).trans HBR.out)
    have hsx : w1.heap.size ≤ wx.heap.size := by have := bx.size; omega
    have MIDx := Lib.hid (MID.out wx bx)
    have HBX := Lib.hid (HBB.out.trans (bx.mono HBB.out.size))
    obtain ⟨cur0, hcur0⟩ : ∃ cur0, wx.heap[g]? = some (.cells cur0 101 (0, 0)) := ⟨_, (bx.block g (lt_of hcur)).trans hcur⟩
    have HG := Lib.hid (And.intro (lt_of hcur0) hcur0)
    clear d0 d1 d2 bx HBR OUTR hwx hszr MID
    go_wp2_with fail
    refine wp_region_mid 16 _ (by kernel_rfl) (by kernel_rfl) rfl ?_
    simp only [List.take_succ_cons, List.take_zero, List.drop_succ_cons, List.drop_zero]
    repeat (go_big_quiet_step (fail))
    refine wpQuiet_nil ?_
    intro _ hw'
    obtain ⟨nq4, rfl⟩ := hw'
    refine mid_append rfl (.tmp 58) (.tmp 73) rfl w1.heap.size _ _ _ O rfl (show (wx.drewN nq4).ownsRow w1.heap.size 5 1 (.slice oa O.length oc) O.length (O.map (Value.int .u8)) from OWx.out) _ ((xos.drop xf).take T) rfl ?hr (by rw [hTl]; omega) hsx ?_
    case hr =>
      generalize hX : Act.eval _ _ = X
      unfold Act.eval at hX
      simp at hX
      rw [← hX]
      exact qreads_part (show byteRow (wx.drewN nq4) xb xos from BRx.out) xf T _ (by omega) (by omega) _ (fun h0 => if_neg (by omega))
    intro v' w5 hown hgr
    have hgo : (Value.slice oa O.length oc).ownBlock ≠ some g := fun e => by
      obtain ⟨c1, h1⟩ := row_block OWx.out e
      rw [HG.out.2] at h1
      simp at h1
    have K5 : Hid (∀ q j, j < wx.heap.size → (Value.slice oa O.length oc).ownBlock ≠ some j → (w5.drewN q).heap[j]? = wx.heap[j]?) := Lib.hid (fun q j hj hne => hgr.block j hj (fun e => hne e.symm))
    have B5 := Lib.hid (fun q => bdrewN ((bdrewN HBX.out nq4).grown hgr hsx (fun q hq => (OWx.out.lt q hq).1)) q)
    rw [hTl, ← PO.out] at hown
    have hlenO : O.length + T = (pullO n (L.take (k + 1))).length := by rw [PO.out, List.length_append, hTl]
    rw [hlenO] at hown
    have HLO := Lib.hid hlenO
    obtain ⟨pa, pc, rfl⟩ := qrow_shape hown
    have MW := Lib.hid (fun q => MIDx.out (w5.drewN q) _ hown (K5.out q) (B5.out q))
    have G5 := Lib.hid (fun q => K5.out q g HG.out.1 hgo)
    clear hown hgr hgo hlenO
    go_simp
    repeat (go_big_quiet_step (fail))
    refine wpQuiet_nil ?_
    intro nq5
    have M6 := MW.out nq5
    have g5 := G5.out nq5
    have HS6 := Lib.hid (B5.out nq5)
    generalize w5.drewN nq5 = w6 at *
    have d1' : w6.cell? ⟨g, i * 3 + 1, none⟩ = some (.int .i64 xf) := by rw [← e1]; simp only [World.cell?, g5]
    have fr' : w6.frozen? ⟨g, i * 3 + 1, none⟩ = false := free_of (g5.trans HG.out.2) _
    have NF : Hid (newQ n k L = ⟨xb, xos, xf + T, xt⟩) := Lib.hid NQ.out
    rw [NF.out] at M6
    simp only [Int.natCast_add] at M6
    have HM6 := Lib.hid M6
    clear M6 g5 MW G5 K5 B5 MIDx e0 e1 e2
    go_upto_region 15 with fail
    generalize hW7 : w6.setCell ⟨g, i * 3 + 1, none⟩ (.int .i64 ((xf : Int) + T)) = w7 at *
    clear hW7 d1' fr'
    obtain ⟨LS1, LS2⟩ := LSET.out
    have ROW7 := HM6.out.row
    rw [hIg, hLLg, ← LS1] at ROW7
    obtain ⟨g', cap', hv', hcp, c0, c1, c2, cur7, hcur7⟩ := chrow_at (k := i) ROW7 (by rw [LS1]; exact hi5)
    simp only [Value.slice.injEq, true_and, Option.some.injEq, Addr.mk.injEq, and_true] at hv'
    obtain ⟨rfl, rfl⟩ := hv'
    rw [LS2, NF.out] at c0 c1 c2
    dsimp only at c0 c1 c2
    rw [hxl] at c0
    simp only [Int.natCast_add] at c1
    rw [LS1] at hcp
    have HXL := Lib.hid hxl
    have HLLG := Lib.hid hLLg
    have HIG := Lib.hid hIg
    clear ROW7 LS1 LS2 hcur7 cur7 hxl hLLg hIg hO
    refine wp_cut_framed 142 (fun f wx => f 0 = .pointer (some ⟨I.r, 0, none⟩) ∧ f 1 = .int .i64 (n : Int) ∧ f 8 = .slice pa (pullO n (L.take (k + 1))).length pc ∧ f 9 = .slice (some ⟨g, 0, none⟩) LL lc ∧ f 10 = .int .i64 (gN : Int) ∧ f 11 = .int .i64 (i : Int) ∧ f 12 = .pointer (some ⟨g, i * 3, none⟩) ∧ (∃ b : Bool, f 110 = .bool b ∧ Hid (b = true ↔ goneQ L.length k (newQ n k L))) ∧ ∃ q, wx = w7.drewN q) _ _ ?_ ?_
    · intro J2 K2 hJ2 hK2
      have HLLI : Hid ((LL : Int) = i + (L.length - k : Nat)) := Lib.hid (by have := HLL.out; omega)
      have GQ : Hid (goneQ L.length k (newQ n k L) ↔ (xf + T = xt ∧ (xt = xl ∨ k + 1 < L.length))) := Lib.hid (by rw [NF.out]; unfold goneQ; dsimp only; rw [HXL.out])
      have c1' : w7.cell? ⟨g, i * 3 + 1, none⟩ = some (.int .i64 ((xf + T : Nat) : Int)) := by rw [c1]; simp
      clear c1
      generalize xf + T = y at *
      by_cases h1 : y = xt
      · subst h1
        by_cases h2 : y = xl
        · have GO := Lib.hid (GQ.out.2 ⟨rfl, Or.inl h2⟩)
          clear GQ
          subst h2
          go_quiet (fail)
          go_wp2_with fail
          all_goals exact Met.intro (hJ2 _ _ (by kernel_rfl) ⟨rfl, rfl, rfl, rfl, rfl, rfl, rfl, ⟨true, rfl, Lib.hid ⟨fun _ => GO.out, fun _ => rfl⟩⟩, nq, rfl⟩)
        · have h2' : ((y : Int) == (xl : Int)) = false := by simp; omega
          by_cases h3 : k + 1 < L.length
          · have GO := Lib.hid (GQ.out.2 ⟨rfl, Or.inr h3⟩)
            have h3' : (i : Int) < (LL : Int) - 1 := by have := HLLI.out; omega
            clear GQ h2 h3
            go_quiet (fail)
            go_wp2_with fail
            all_goals exact Met.intro (hJ2 _ _ (by kernel_rfl) ⟨rfl, rfl, rfl, rfl, rfl, rfl, rfl, ⟨true, by first | rfl | simp, Lib.hid ⟨fun _ => GO.out, fun _ => rfl⟩⟩, nq, rfl⟩)
          · have GO := Lib.hid (fun x => (GQ.out.1 x).2.elim h2 h3)
            have h3' : ¬ (i : Int) < (LL : Int) - 1 := by have := HLLI.out; omega
            clear GQ h2 h3
            go_quiet (fail)
            go_wp2_with fail
            all_goals exact Met.intro (hJ2 _ _ (by kernel_rfl) ⟨rfl, rfl, rfl, rfl, rfl, rfl, rfl, ⟨false, by first | rfl | simp, Lib.hid ⟨fun h => (by simp at h), fun h => absurd h GO.out⟩⟩, nq, rfl⟩)
      · have h1' : ((y : Int) == (xt : Int)) = false := by simp; omega
        have GO := Lib.hid (fun x => h1 (GQ.out.1 x).1)
        clear GQ h1
        go_quiet (fail)
        go_wp2_with fail
        all_goals exact Met.intro (hJ2 _ _ (by kernel_rfl) ⟨rfl, rfl, rfl, rfl, rfl, rfl, rfl, ⟨false, by first | rfl | simp, Lib.hid ⟨fun h => (by simp at h), fun h => absurd h GO.out⟩⟩, nq, rfl⟩)
    intro f3 wy ⟨f0, f1, f8, f9, f10, f11, f12, ⟨b, f110, hbq⟩, q2, hwy⟩
    rw [slots142]
    rw [f0, f1, f8, f9, f10, f11, f12, f110]
    clear f0 f1 f8 f9 f10 f11 f12 f110
    have by7 : Below w7.heap.size w7 wy := by rw [hwy]; exact bdrewN (Below.refl _ _) q2
    have HMY := Lib.hid (HM6.out.below by7)
    have y0 := old_cell by7 c0
    clear hwy by7 c0 c1 c2
    cases b with
    | true =>
      have hgo := hbq.out.1 rfl
      obtain ⟨g1, g2, g3⟩ := GONE.out hgo
      have ROWY := HMY.out.row
      rw [HLLG.out, HIG.out] at ROWY
      have DEL := Lib.hid (delete_rch g lc LL i (i + 1) _ wy (ownsRow_base ROWY) (qcells_one _) hi5 rfl (by omega))
      have gB : w1.heap.size ≤ g := (ROWY.lt g rfl).1
      have FIN : Hid (∀ w9, w9.ownsRow 0 101 3 (.slice (some ⟨g, 0, none⟩) (LL - 1) lc) (LL - 1) ((leftQ n (k + 1) L).flatMap QCh.cells) → Touch (fun k => k = g) wy w9 →
          PlAt n L (k + 1) w1 w9 (.slice (some ⟨g, 0, none⟩) (LL - 1) lc) (.slice pa (pullO n (L.take (k + 1))).length pc) (gN + xl)) := Lib.hid (fun w9 hr ht => by
        refine ⟨row_raise ?_ (fun k hk => by simp only [Value.ownBlock, Option.some.injEq] at hk; omega), ownsRow_same HMY.out.out (fun j hj => ht.block j (HMY.out.out.lt j hj).2 (fun e => ?_)), ?_, ?_⟩
        · first | (rw [g2]; exact hr) | (rw [g2, HLLG.out]; exact hr)
        · subst e
          obtain ⟨z1, h1⟩ := row_block HMY.out.out hj
          obtain ⟨z2, h2⟩ := row_block ROWY (k := j) rfl
          rw [h1] at h2
          simp at h2
        · have h1 := SUM.out
          have h2 := SG.out
          rw [g1, h1]
          try rw [HXL.out]
          omega
        · exact ht.below HMY.out.bel.size (fun k e => by omega) |> HMY.out.bel.trans)
      have HG1 := Lib.hid (And.intro (And.intro g1 g2) g3)
      clear g1 g2 g3 hgo hbq ROWY
      go_wp2_with fail
      refine DEL.out.mono ?_
      rintro e w9 ⟨rfl, hr9, ht9, _⟩
      have hr9' := hr9
      have F9 := Lib.hid (FIN.out w9 (by have := HG1.out.2; rw [← this]; exact hr9) ht9)
      clear hr9 hr9' ht9
      go_wp2_with fail
      refine HKJ.out.2 _ _ (Handed.intro (L.length - (k + 1)) (by have := HLT.out; omega) (HKJ.out.1 _ _ _ (by kernel_rfl) ⟨k + 1, by have := HLT.out; omega, rfl, rfl, rfl, ?_, ⟨some ⟨g, 0, none⟩, lc, ?_⟩, ⟨pa, pc, rfl⟩, gN + xl, ?_, F9.out⟩))
      · rw [HG1.out.1.1, HIG.out]; rfl
      · first | (rw [HG1.out.1.2]; rfl) | (rw [HG1.out.1.2, HLLG.out]; rfl)
      · show Value.int .i64 _ = _; simp
    | false =>
      have hgo : ¬ goneQ L.length k (newQ n k L) := fun x => by have := hbq.out.2 x; cases this
      obtain ⟨g1, g2, g3⟩ := KEEP.out hgo
      have FIN : Hid (PlAt n L (k + 1) w1 wy (.slice (some ⟨g, 0, none⟩) LL lc) (.slice pa (pullO n (L.take (k + 1))).length pc) gN) := Lib.hid (by
        refine ⟨?_, HMY.out.out, ?_, HMY.out.bel⟩
        · have := HMY.out.row
          rw [HIG.out, HLLG.out, ← g1] at this
          rw [show (leftQ n (k + 1) L).length = LL by rw [g1]; exact LSET.out.1]
          exact this
        · have h1 := SUM.out
          have h2 := SG.out
          rw [g3, h1]
          try rw [HXL.out]
          omega)
      have HG1 : Hid ((keptQ n (k + 1) L).length = i + 1 ∧ (leftQ n (k + 1) L).length = LL) := Lib.hid ⟨g2, by rw [g1]; exact LSET.out.1⟩
      clear g1 g2 g3 hgo hbq
      go_wp2_with fail
      refine HKJ.out.2 _ _ (Handed.intro (L.length - (k + 1)) (by have := HLT.out; omega) (HKJ.out.1 _ _ _ (by kernel_rfl) ⟨k + 1, by have := HLT.out; omega, rfl, rfl, rfl, ?_, ⟨some ⟨g, 0, none⟩, lc, ?_⟩, ⟨pa, pc, rfl⟩, gN, rfl, FIN.out⟩))
      · rw [HG1.out.1]; show Value.int .i64 _ = _; simp
      · rw [HG1.out.2]; rfl
  · obtain rfl : k = L.length := by omega
    have hfull : (pullO n L).length = n := by rw [pullO_eq _ _ HOK.out, List.length_take, qCont_len HOK.out, HS.out]; omega
    have hrow := hP.row
    have hout := hP.out
    have hgs := hP.sum
    rw [List.take_length] at hout hgs hol ⊢
    rw [leftQ_all] at hrow ⊢
    rw [keptQ_all] at hgs ⊢
    rw [hfull] at hout ⊢
    rw [pullO_eq _ _ HOK.out] at hout
    have BW := Lib.hid (B1.out.trans (hP.bel.mono B1.out.size))
    have hs1 := B1.out.size
    have OUT := Lib.hid hout
    have RW : Hid (wr.ownsRow w.heap.size 101 3 (.slice la (dropQ L.length 0 (pullL n L)).length lc) (dropQ L.length 0 (pullL n L)).length ((dropQ L.length 0 (pullL n L)).flatMap QCh.cells)) := Lib.hid (by
      rw [leftQ_all] at *
      exact qrow_low hrow hs1)
    obtain ⟨h1, T1⟩ := rq_mem HM.out BW.out RW.out (fun c hc => pullL_mem n L c ((dropQ_sub _ _ _).subset hc)) (by rw [← pullL_map n L]; exact (dropQ_sub _ _ _).map _)
    have hKok : QChsOk (dropQ L.length 0 (pullL n L)) := ⟨by have := (dropQ_sub L.length (pullL n L) 0).length_le; rw [pullL_length] at this; omega, fun c hc => pullL_ok L n HOK.out c ((dropQ_sub _ _ _).subset hc)⟩
    have HNEW := Lib.hid (fun (q : Nat) (e : (Value.slice la (dropQ L.length 0 (pullL n L)).length lc).ownBlock = some q) => (RW.out.lt q e).1)
    have hg : goneN (pullL n L) = gN := by unfold goneN; rw [pullL_length, pullL_room]; omega
    have HGN := Lib.hid hg
    have hf6 : wr.frozen? ⟨I.r, 6, none⟩ = false := free_of (HM.out.below BW.out).self 6
    have hr6 : wr.cell? ⟨I.r, 6, none⟩ = some (.slice ca L.length cc) := by rw [cell_of (HM.out.below BW.out).self]; rfl
    have PRE : Hid (∀ w4 bst' G', Touch G (wr.setCell ⟨I.r, 6, none⟩ (.slice la (dropQ L.length 0 (pullL n L)).length lc)) w4 → RB w4 G' I.bp bst' false → (∀ k, G' k → G k ∨ (wr.setCell ⟨I.r, 6, none⟩ (.slice la (dropQ L.length 0 (pullL n L)).length lc)).heap.size ≤ k) → Good bst' → bst' = givenSt bst I.o (goneN (pullL n L)) → PullRPost I L bst F G n w (.returned (.tuple #[.slice oa n oc, .int .i64 0])) w4) := Lib.hid (fun w4 bst' G' t hb hG hgood he => by
      subst he
      obtain ⟨p1, p2⟩ := rr_fin AB0.out h1 T1 HNEW.out t hb hG hgood hKok
      refine ⟨_, rfl, ?_, p1, p2⟩
      refine qrow_low (ownsRow_same OUT.out (fun j hj => ?_)) hs1
      have hjl := OUT.out.lt j hj
      have hne : j ≠ I.r := fun e => by have := lt_of HM.out.self; omega
      refine (t.block j (by have := Below.heap_setCell wr ⟨I.r, 6, none⟩ (.slice la (dropQ L.length 0 (pullL n L)).length lc) j hne; rw [World.size_setCell]; exact hjl.2) (fun e => by have := AB0.out.gl j e; omega)).trans (Below.heap_setCell _ _ _ j hne))
    have BK3 : Hid (RB (wr.setCell ⟨I.r, 6, none⟩ (.slice la (dropQ L.length 0 (pullL n L)).length lc)) G I.bp bst false) := Lib.hid (AB0.out.bk.same (T1.same (fun q hq _ x => AB0.out.dis q (by rw [x]; exact HM.out.fr) hq)))
    have k0 : (wr.setCell ⟨I.r, 6, none⟩ (.slice la (dropQ L.length 0 (pullL n L)).length lc)).cell? ⟨I.r, 0, none⟩ = some (.pointer (some ⟨I.bp, 0, none⟩)) := by rw [cell_of h1.self]; rfl
    have k1 : (wr.setCell ⟨I.r, 6, none⟩ (.slice la (dropQ L.length 0 (pullL n L)).length lc)).cell? ⟨I.r, 1, none⟩ = some (.int .i64 I.o) := by rw [cell_of h1.self]; rfl
    clear hrow hout hgs h1 T1 hg hP HPL hlt hk hll hol hJ hK hKok
    generalize (dropQ L.length 0 (pullL n L)).length = KL at *
    by_cases hg : gN = 0
    · subst hg
      have FIN := Lib.hid (PRE.out _ _ G (Touch.refl _ _) BK3.out (fun _ hk => Or.inl hk) AB0.out.good (by rw [HGN.out]; rfl))
      clear PRE
      go_wp2_with fail
      go_ret2
      exact FIN.out
    · have GV := Lib.hid (fun q => giveR_all I.bp I.o gN ((wr.setCell ⟨I.r, 6, none⟩ (.slice la KL lc)).drewN q) G bst false (BK3.out.below (bdrewN (Below.refl _ _) q)) AB0.out.good.e (by simp))
      have GG := Lib.hid (giveR_good AB0.out.good I.o gN)
      have ES : Hid (givenSt bst I.o (goneN (pullL n L)) = (giveR bst I.o gN).2) := Lib.hid (by unfold givenSt; rw [HGN.out, if_neg hg])
      generalize giveR bst I.o gN = gr at *
      obtain ⟨ge, gs⟩ := gr
      simp only at GV GG ES
      go_upto_region 21 with fail
      refine wp_region_mid 9 _ (by kernel_rfl) (by kernel_rfl) rfl ?_
      simp only [List.take_succ_cons, List.take_zero, List.drop_succ_cons, List.drop_zero]
      generalize hw3 : wr.setCell ⟨I.r, 6, none⟩ (.slice la KL lc) = w3 at *
      repeat (go_big_quiet_step (fail))
      refine wpQuiet_nil ?_
      intro _ hw'
      obtain ⟨nq4, rfl⟩ := hw'
      intro K' hK'
      go_simp
      refine (GV.out _).mono ?_
      rintro e w4 ⟨rfl, hb4, ht4⟩
      have FIN : Hid (∀ q, PullRPost I L bst F G n w (.returned (.tuple #[.slice oa n oc, .int .i64 0])) (w4.drewN q)) := Lib.hid (fun q =>
        PRE.out _ gs _ ((((Touch.refl G w3).drewN nq4).then ht4).drewN q) (hb4.below (bdrewN (Below.refl _ _) q)) (fun _ hk => hk) GG.out ES.out.symm)
      clear hb4 ht4
      go_simp
      refine hK' _ _ ?_
      clear hK' K'
      repeat (go_big_quiet_step (fail))
      refine wpQuiet_nil ?_
      intro _ hw'
      obtain ⟨nq5, rfl⟩ := hw'
      have PP := Lib.hid (FIN.out nq5)
      generalize w4.drewN nq5 = w5 at *
      clear FIN PRE
      go_wp2_with fail
      go_ret2
      exact PP.out

end Go.Proofs.YtfnmjlnpfoclbaaGreat
