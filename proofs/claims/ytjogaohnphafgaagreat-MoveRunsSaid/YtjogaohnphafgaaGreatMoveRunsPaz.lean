/-
  All blocks moved together: Compact. No conditions but bounds.
-/
import Derived.Test.YtjogaohnphafgaaGreatMoveRunsPay
namespace Go.Proofs.YtjogaohnphafgaaGreat
open Go.RowKit
set_option linter.unusedVariables false

def keep8 {α : Type} (l : List α) : List α := l.drop (l.length - 8)
/-- What Compact leaves. -/
def CmPost (w : World) (hp bp : Nat) (S : HpSt) (vm vb vh : Value) (vhs : List Value) (F G : Nat → Prop) (M : Nat) (b : BookSt) : Ending → World → Prop := fun e w' =>
  (S.closed = true ∧ e = .returned (.tuple #[.slice none 0 0, .int .i64 11]) ∧ w' = w) ∨
  (S.closed = false ∧ ∃ (S1 S' : HpSt) (L L' : List Blk) (a : Nat) (v vh' : Value) (vhs' : List Value) (F' : Nat → Prop), S1 = { S with hist := keep8 (S.hist ++ [S.bl]), count := S.count + 1 } ∧ SortedL (lieL S.bl) L ∧ CpI S1 S' a [] ∧ SortedL (lieL S'.bl) L' ∧
    e = .returned (.tuple #[v, .int .i64 0]) ∧ w'.ownsRow w.heap.size 64 3 v (shiftsG 0 L).length ((shiftsG 0 L).flatMap Shf.cells) ∧
    HB w' hp bp { S' with mem := fill 0 S'.mem (endL L') (S'.mem.length - endL L') } vm vb vh' vhs' F' G M b ∧ (∀ k, F' k → F k ∨ w.heap.size ≤ k) ∧ (∀ k, v.ownBlock = some k → ¬ F' k) ∧ Touch F w w')

theorem fnd_ok {S : HpSt} {w : World} {F : Nat → Prop} {hp bp : Nat} {vm vb vh : Value} {vhs : List Value} (m : HpMem w F hp bp S vm vb vh vhs) (hc : S.closed = false) {x : Blk} (hx : x ∈ S.bl) : ∃ i, findB S.bl (x.h : Int) = some (i, x) ∧ fndE S (x.h : Int) = 0 := by
  obtain ⟨i, hi⟩ := findB_of_mem (m.ord.imp (fun h => by omega)) hx
  have := m.hb x hx
  refine ⟨i, hi, ?_⟩
  unfold fndE
  rw [hc, if_neg (by simp), if_neg (by omega), hi]

/-- After the history's turn. -/
def CmH (w : World) (hp bp : Nat) (S : HpSt) (vm vb vh : Value) (vhs : List Value) (F G : Nat → Prop) (M : Nat) (b : BookSt) (wr : World) : Prop := ∃ (vh' : Value) (vhs' : List Value) (F' : Nat → Prop), HB wr hp bp { S with hist := keep8 (S.hist ++ [S.bl]) } vm vb vh' vhs' F' G M b ∧ (∀ k, F' k → F k ∨ w.heap.size ≤ k) ∧ Touch F w wr

set_option maxHeartbeats 8000000 in
set_option maxRecDepth 100000 in
theorem compactM_any {w : World} {hp bp : Nat} {S : HpSt} {vm vb vh : Value} {vhs : List Value} {F G : Nat → Prop} {M : Nat} {b : BookSt} (h : HB w hp bp S vm vb vh vhs F G M b) (h8 : S.hist.length ≤ 8) (hcnt : S.count < 1000000000) (hap : S.bl.Pairwise apartB) :
    Calls Tryz.prog 21 #[.pointer (some ⟨hp, 0, none⟩)] w (CmPost w hp bp S vm vb vh vhs F G M b) := by
  have H := Lib.hid h
  have H8 := Lib.hid h8
  have HCN := Lib.hid hcnt
  have HAP := Lib.hid hap
  have c5 := h.hm.cells.2.2.2.2.2.1
  cases hc : S.closed with
  | true =>
    rw [hc] at c5
    have FIN : Hid (CmPost w hp bp S vm vb vh vhs F G M b (.returned (.tuple #[.slice none 0 0, .int .i64 11])) w) := Lib.hid (Or.inl ⟨hc, rfl, rfl⟩)
    clear h h8 hcnt hap hc
    go_enter Tryz.func21, Tryz.ntmps21
    go_wp2_with fail
    go_ret2
    exact FIN.out
  | false =>
    rw [hc] at c5
    have hc' := hc
    have HCC := Lib.hid hc'
    have KEY : Hid (∀ e w', (∃ (S1 S' : HpSt) (L L' : List Blk) (a : Nat) (v vh' : Value) (vhs' : List Value) (F' : Nat → Prop), S1 = { S with hist := keep8 (S.hist ++ [S.bl]), count := S.count + 1 } ∧ SortedL (lieL S.bl) L ∧ CpI S1 S' a [] ∧ SortedL (lieL S'.bl) L' ∧
      e = .returned (.tuple #[v, .int .i64 0]) ∧ w'.ownsRow w.heap.size 64 3 v (shiftsG 0 L).length ((shiftsG 0 L).flatMap Shf.cells) ∧
      HB w' hp bp { S' with mem := fill 0 S'.mem (endL L') (S'.mem.length - endL L') } vm vb vh' vhs' F' G M b ∧ (∀ k, F' k → F k ∨ w.heap.size ≤ k) ∧ (∀ k, v.ownBlock = some k → ¬ F' k) ∧ Touch F w w') → CmPost w hp bp S vm vb vh vhs F G M b e w') := Lib.hid (fun e w' hx => Or.inr ⟨hc, hx⟩)
    have c7 := h.hm.cells.2.2.2.2.2.2.2.1
    have c10 := h.hm.cells.2.2.2.2.2.2.2.2.2.2
    obtain ⟨va, vc, hvb⟩ := wrow_sh h.hm.row.1
    obtain ⟨ha, hcp, hvh⟩ := wrow_sh h.hm.hrow.1
    have HVB := Lib.hid hvb
    have HVH := Lib.hid hvh
    obtain ⟨BL, hBL⟩ : ∃ BL, S.bl.length = BL := ⟨_, rfl⟩
    obtain ⟨HL, hHL⟩ : ∃ HL, S.hist.length = HL := ⟨_, rfl⟩
    have HBL := Lib.hid hBL
    have HHL := Lib.hid hHL
    have hfew := h.hm.big.2.1
    rw [hBL] at hfew
    rw [hHL] at h8
    rw [hvb, hBL] at c7
    rw [hvh, hHL] at c10
    have s0 := h.hm.self
    obtain ⟨o, ho⟩ : ∃ o, o = (Obj.cells #[.pointer (some ⟨bp, 0, none⟩), .int .i64 1, .int .i64 S.k, .int .i64 S.s, .int .i64 S.m, .bool S.closed, vm, vb, .int .i64 (S.last : Int), .int .i64 (S.count : Int), vh] 75 (0, 0)) := ⟨_, rfl⟩
    have S0 : AtB hp o w.drew := by rw [ho]; exact s0
    have g7 : ∀ y : WIn (AtB hp o), y.w.cell? ⟨hp, 7, none⟩ = some (.slice va BL vc) := fun y => (cell_of (Eq.trans y.h (congrArg some ho)) 7).trans (by show some vb = _; rw [hvb, hBL])
    have g10 : ∀ y : WIn (AtB hp o), y.w.cell? ⟨hp, 10, none⟩ = some (.slice ha HL hcp) := fun y => (cell_of (Eq.trans y.h (congrArg some ho)) 10).trans (by show some vh = _; rw [hvh, hHL])
    haveI ne : Nonempty (WIn (AtB hp o)) := ⟨⟨w.drew, S0⟩⟩
    have HO := Lib.hid ho
    have CL := Lib.hid (clone_blk vb 0 S.bl w.drew (ownsRow_same h.hm.row.1 (fun k _ => rfl)) (by rw [hBL]; omega))
    rw [hvb, hBL] at CL
    clear h hcnt hap hc hc' hvb hvh hBL hHL s0 ho
    go_enter Tryz.func21, Tryz.ntmps21
    go_upto_region 3 with fail
    refine wp_normal ?_
    refine wp_region_plan 14 (AtB hp o) rfl ?_
    refine wpN_seg [0, 1, 2, 3, 4, 5, 6, 7, 8] (by kernel_rfl) (by kernel_rfl) (by kernel_rfl) (by kernel_rfl) (by decide) (fun _ _ _ _ _ h => h) S0 ?_
    simp only [pick, List.map_cons, List.map_nil, List.getElem?_cons_succ, List.getElem?_cons_zero, Option.getD_some]
    repeat (go_big_quiet_step (fail))
    refine wpQuiet_nil ?_
    clear g7 g10 ne
    refine wpN_one 9 _ (by kernel_rfl) rfl ?_
    refine NextAt.held ?_
    intro K hK
    go_simp
    refine CL.out.mono ?_
    rintro e w1 ⟨v, rfl, hrow, hb⟩
    have hb1 : Below w.heap.size w w1 := ((Below.refl _ w).drew).trans hb
    have S1 : AtB hp o w1 := (hb.block hp (lt_of S0)).trans S0
    go_simp
    refine hK _ _ S1 ?_
    clear hK K CL
    obtain ⟨ua, uc, hv⟩ := wrow_sh hrow
    rw [HBL.out] at hv
    subst hv
    refine wpN_one 10 _ (by kernel_rfl) rfl ?_
    refine NextAt.held ?_
    intro K hK
    go_simp
    have AZ : (w1.alloc (.cells #[.slice ua BL uc] 39)).heap[w1.heap.size]? = some (.cells #[.slice ua BL uc] 39 (0, 0)) := heap_alloc_new w1 _
    have BZ : Below w1.heap.size w1 (w1.alloc (.cells #[.slice ua BL uc] 39)) := (Below.refl _ w1).alloc (Nat.le_refl _) _
    have S2 : AtB hp o (w1.alloc (.cells #[.slice ua BL uc] 39)) := (BZ.block hp (lt_of S1)).trans S1
    refine hK _ _ S2 ?_
    clear hK K
    have hb2 := hb1.trans (BZ.mono hb1.size)
    have hrv := row_kept hrow BZ
    have hrh := row_kept H.out.hm.hrow.1 hb2
    rw [HVH.out, HHL.out] at hrh
    obtain ⟨g, cap, w3, hrun, hrow3, hgr3, hpl3⟩ := append_his hrh AZ rfl (by omega) (Nat.zero_le _) 40
    have hvk : vh.ownBlock = (Value.slice ha HL hcp).ownBlock := by rw [HVH.out, HHL.out]
    have hT3 : Touch (fun k => vh.ownBlock = some k) w w3 := by
      rw [hvk]
      exact (Touch.of_below hb2).trans ((Touch.refl (fun k => (Value.slice ha HL hcp).ownBlock = some k) _).grown hgr3 (fun k hk => Or.inl hk)) (fun k hk => Or.inl hk)
    have hvlow : ∀ k, (Value.slice ua BL uc).ownBlock = some k → w.heap.size ≤ k := fun k hk => (hrow.lt k hk).1
    have hv3 : w3.ownsRow w.heap.size 78 3 (.slice ua BL uc) S.bl.length (S.bl.flatMap Blk.cells) := ownsRow_same hrv (fun k hk => hgr3.block k (hrv.lt k hk).2 (fun e => by
      have h1 := hvlow k hk
      have h2 := (H.out.hm.hrow.1.lt k (by rw [hvk]; exact e.symm)).2
      omega))
    have S3 : AtB hp o w3 := (hT3.block hp (lt_of H.out.hm.self) (fun e => H.out.hm.apart.2.1 hp e rfl)).trans (H.out.hm.self.trans (congrArg some HO.out.symm))
    have HPU := H.out.pushed (g := g) (cap := cap) (v := .slice ua BL uc) (w2 := w3) H8.out hv3 (by rw [HHL.out]; exact hrow3) hT3 (by rw [hvk]; exact hpl3.imp id (fun e => Nat.le_trans hb2.size e))
    rw [HHL.out] at HPU
    refine wpN_one 11 _ (by kernel_rfl) rfl ?_
    refine NextAt.held ?_
    intro K hK
    refine step_append_known rfl (.tmp 19) (.tmp 25) 40 rfl _ _ _ (by rfl) (by rfl) hrun ?_
    go_simp
    refine hK _ _ S3 ?_
    clear hK K
    have s3 : w3.heap[hp]? = _ := S3.trans (congrArg some HO.out)
    have d10 : w3.cell? ⟨hp, 10, none⟩ = some vh := (cell_of s3 10).trans rfl
    have f10 := free_of s3 10
    refine wpN_pure [12, 13] (by kernel_rfl) (by kernel_rfl) (by kernel_rfl) (fun _ _ _ _ _ h => h) (fun _ => S3) ?_
    simp only [pick, List.map_cons, List.map_nil, List.getElem?_cons_succ, List.getElem?_cons_zero, Option.getD_some]
    repeat (go_big_quiet_step (fail))
    refine wpQuiet_nil ?_
    refine wpN_one 14 _ (by kernel_rfl) rfl ?_
    refine NextAt.free (by kernel_rfl) ?_
    intro K hK
    go_simp
    refine hK _ _ ?_
    clear hK K
    refine wpN_done (by kernel_rfl) ?_
    obtain ⟨F1, h1, hF1, hF1', hT1⟩ := HPU
    have H1 := Lib.hid h1
    have HF1 := Lib.hid (And.intro hF1 (And.intro hF1' hT1))
    clear d10 f10 s3 S3 hv3 hvlow hT3 hvk hrun hrow3 hgr3 hpl3 hrh hrv hb2 S2 BZ AZ hrow hb hb1 S1 S0 h1 hF1 hF1' hT1
    generalize w3.setCell ⟨hp, 10, none⟩ (.slice (some ⟨g, 0, none⟩) (HL + 1) cap) = W1 at *
    have e10 := H1.out.hm.cells.2.2.2.2.2.2.2.2.2.2
    go_upto_if 35 with fail
    go_cut [4] (fun _ wr => CmH w hp bp S vm vb vh vhs F G M b wr)
    case first =>
      have hhl : (S.hist ++ [S.bl]).length = HL + 1 := by rw [List.length_append, HHL.out]; rfl
      by_cases h9 : HL = 8
      · subst h9
        have hr1 := H1.out.hm.hrow.1
        have e9 : ({ S with hist := S.hist ++ [S.bl] } : HpSt).hist.length = 9 := hhl
        rw [e9] at hr1
        have CL := Lib.hid (clone_his g 9 1 cap _ W1 hr1 (by decide) (by decide) H1.out.hm.hisCells (cap - 1))
        have ek : keep8 (S.hist ++ [S.bl]) = (S.hist ++ [S.bl]).drop 1 := by unfold keep8; rw [hhl]
        have hcap : 9 ≤ cap := by
          rcases hr1.2 with ⟨h1, _⟩ | ⟨_, _, _, h1, _, _, h2, _⟩
          · cases h1
          · simp only [Value.slice.injEq] at h1
            obtain ⟨_, _, rfl⟩ := h1
            exact h2
        have hne : ¬ cap = 1 := by omega
        have f10 := free_of H1.out.hm.self 10
        have EK := Lib.hid ek
        clear hr1 hhl ek e9
        go_wp2_with fail
        refine CL.out.mono ?_
        rintro e w4 ⟨v4, rfl, hr4, hb4⟩
        obtain ⟨F2, h2, hF2, hF2', hT2⟩ := H1.out.lasts (c := 1) hb4 (by show 8 = (S.hist ++ [S.bl]).length - 1; rw [List.length_append, HHL.out]; rfl) hr4
        have d10 : w4.cell? ⟨hp, 10, none⟩ = some (.slice (some ⟨g, 0, none⟩) (8 + 1) cap) := (cell_of ((hb4.block hp (lt_of H1.out.hm.self)).trans H1.out.hm.self) 10).trans rfl
        have f10 := free_of ((hb4.block hp (lt_of H1.out.hm.self)).trans H1.out.hm.self) 10
        have FIN : Hid (CmH w hp bp S vm vb vh vhs F G M b (w4.setCell ⟨hp, 10, none⟩ v4)) := Lib.hid (by
          have sz := HF1.out.2.2.size
          refine ⟨v4, (vhs ++ [Value.slice ua BL uc]).drop 1, F2, ?_, fun k hk => ?_, HF1.out.2.2.trans hT2 (fun k hk => HF1.out.2.1 k hk)⟩
          · rw [EK.out]; exact h2
          · rcases hF2' k hk with e | e
            · exact HF1.out.2.1 k e
            · exact Or.inr (by omega))
        obtain ⟨xa, xc, rfl⟩ := wrow_sh hr4
        clear h2 hF2 hF2' hT2 hr4 hb4 CL
        go_wp2_with fail
        go_meet
        exact FIN.out
      · have ek : keep8 (S.hist ++ [S.bl]) = S.hist ++ [S.bl] := by unfold keep8; rw [hhl, show HL + 1 - 8 = 0 by omega, List.drop_zero]
        have FIN : Hid (CmH w hp bp S vm vb vh vhs F G M b W1) := Lib.hid ⟨_, _, F1, by rw [ek]; exact H1.out, HF1.out.2.1, HF1.out.2.2⟩
        have h9' : ¬ (8 : Int) < (HL : Int) + 1 := by omega
        clear hhl ek h9
        go_wp2_with fail
        go_meet
        exact FIN.out
    case rest =>
      obtain ⟨vh2, vhs2, F2, h2, hF2, hT2⟩ := hcut
      rename_i wc _
      have c9 := h2.hm.cells.2.2.2.2.2.2.2.2.2.1
      have f9 := free_of h2.hm.self 9
      obtain ⟨h3, hT3⟩ := h2.counted HCN.out
      have hcb := HCN.out
      have H3 := Lib.hid h3
      have HF3 := Lib.hid (And.intro hF2 (hT2.trans hT3 (fun k hk => hF2 k hk)))
      clear h2 hF2 hT2 h3 hT3 e10 H1 HF1
      go_upto_region 8 with fail
      clear c9 f9
      generalize wc.setCell ⟨hp, 9, none⟩ (.int .i64 ((S.count : Int) + 1)) = W3 at *
      have PL := Lib.hid (planM_any H3.out.hm)
      go_wp2_with fail
      refine PL.out.mono ?_
      rintro e W4 ⟨L, v, hs, rfl, hrow, hlen, hb⟩
      have H4 := Lib.hid (H3.out.below hb)
      have sz3 := HF3.out.2.size
      have HT4 := Lib.hid (HF3.out.2.then (Touch.of_below hb))
      obtain ⟨N, hN⟩ : ∃ N, (shiftsG 0 L).length = N := ⟨_, rfl⟩
      have HN := Lib.hid hN
      have HS := Lib.hid hs
      have HROW := Lib.hid hrow
      obtain ⟨xa, xc, hv⟩ := wrow_sh hrow
      rw [hN] at hv
      subst hv
      have hN5 : N ≤ 500 := by
        rw [hN] at hlen
        have := H3.out.hm.big.2.1
        have e : ({ S with hist := keep8 (S.hist ++ [S.bl]), count := S.count + 1 } : HpSt).bl = S.bl := rfl
        rw [e] at this
        exact Nat.le_trans hlen this
      have HVF : Hid (∀ k, (Value.slice xa N xc).ownBlock = some k → W3.heap.size ≤ k ∧ k < W4.heap.size) := Lib.hid (fun k hk => hrow.lt k hk)
      have C0 : Hid (CpI { S with hist := keep8 (S.hist ++ [S.bl]), count := S.count + 1 } { S with hist := keep8 (S.hist ++ [S.bl]), count := S.count + 1 } 0 L) := Lib.hid (CpI.start hs HAP.out (H4.out.hm.ord.imp (fun h => by omega)) (fun x hx => (H4.out.hm.hb x hx).2.2))
      have HCL := HCC
      have R4 : Hid (W4.ownsRow W3.heap.size 64 3 (.slice xa N xc) N ((shiftsG 0 L).flatMap Shf.cells)) := Lib.hid (by rw [hN] at hrow; exact hrow)
      clear hs hrow hb PL hN hlen
      go_wp2_with fail
      go_loopw [58] (fun i wr => ∃ (k a : Nat) (l : List Blk) (S' : HpSt), k ≤ N ∧ i = .int .i64 (k : Int) ∧ (shiftsG 0 L).drop k = shiftsG a l ∧ CpI { S with hist := keep8 (S.hist ++ [S.bl]), count := S.count + 1 } S' a l ∧ HB wr hp bp S' vm vb vh2 vhs2 F2 G M b ∧ wr.ownsRow W3.heap.size 64 3 (.slice xa N xc) N ((shiftsG 0 L).flatMap Shf.cells) ∧ Touch F2 W4 wr) (fun i _ => N - (intOf i).toNat)
      case atStart => exact ⟨0, 0, L, _, Nat.zero_le _, rfl, rfl, C0.out, H4.out, R4.out, Touch.refl _ _⟩
      case round =>
        obtain ⟨k, a0, l0, S', hk, rfl, hdr, hcp, hHB, hrow, hT⟩ := hrel
        by_cases hlt : k < N
        · obtain ⟨a, l', hn1, hn2, hn3⟩ := CpI.norm l0 hcp
          rw [hn1] at hdr
          obtain ⟨x, l, rfl, hxa⟩ : ∃ x l, l' = x :: l ∧ x.at' ≠ a := by
            rcases hn3 with rfl | h
            · have h1 := congrArg List.length hdr
              rw [List.length_drop, HN.out] at h1
              simp [shiftsG] at h1
              omega
            · exact h
          have e1 : shiftsG a (x :: l) = ⟨x.h, x.at', a⟩ :: shiftsG (a + x.len) l := by
            show (if x.at' = a then [] else _) ++ _ = _
            rw [if_neg hxa]
            rfl
          rw [e1] at hdr
          have hsk : (shiftsG 0 L)[k]? = some ⟨x.h, x.at', a⟩ := by
            have h1 : ((shiftsG 0 L).drop k)[0]? = some ⟨x.h, x.at', a⟩ := by rw [hdr]; rfl
            rw [List.getElem?_drop, Nat.add_zero] at h1
            exact h1
          have hdr2 : (shiftsG 0 L).drop (k + 1) = shiftsG (a + x.len) l := by
            rw [← List.drop_drop, hdr]
            rfl
          obtain ⟨hxm, hx0, hxle⟩ := hn2.sub x List.mem_cons_self
          have hcl' : S'.closed = false := by rw [hn2.st]; exact HCL.out
          obtain ⟨i, hfi, hfe⟩ := fnd_ok hHB.hm hcl' hxm
          have hin := hn2.inn x hxm
          have hrow2 := hrow
          rw [← HN.out] at hrow2
          obtain ⟨gs, cs, hvs, z0, z1, z2⟩ := shf_cells hrow2 hsk
          rw [HN.out] at hvs
          simp only [Value.slice.injEq, true_and] at hvs
          obtain ⟨rfl, rfl⟩ := hvs
          have hix := (findB_at hfi).1
          have HXA := Lib.hid hxa
          have B1 : Below wr.heap.size wr (wr.alloc (.cells #[.int .i64 (x.h : Int), .int .i64 (x.at' : Int), .int .i64 (a : Int)] 64)) := (Below.refl _ _).alloc (Nat.le_refl _) _
          have N1 := heap_alloc_new wr (.cells #[.int .i64 (x.h : Int), .int .i64 (x.at' : Int), .int .i64 (a : Int)] 64)
          have FD := Lib.hid (findM_any (hHB.below B1).hm (x.h : Int))
          have q0 : (wr.alloc (.cells #[.int .i64 (x.h : Int), .int .i64 (x.at' : Int), .int .i64 (a : Int)] 64)).cell? ⟨wr.heap.size, 0, none⟩ = some (.int .i64 (x.h : Int)) := (cell_of N1 0).trans rfl
          have HN1 := Lib.hid N1
          have HB1 := Lib.hid B1
          have HH := Lib.hid hHB
          have HCP := Lib.hid hn2
          have HDR := Lib.hid hdr2
          have HRW := Lib.hid hrow
          have HTR := Lib.hid hT
          have HFI := Lib.hid (And.intro hfi (And.intro hfe hix))
          have HLE := Lib.hid (And.intro hin hxle)
          clear hdr hcp hHB hrow hT hn1 hn2 hn3 e1 hsk hdr2 hxm hcl' hfi hfe hin hrow2 hix B1 N1 hxle
          go_wp2_with fail
          generalize wr.alloc (.cells #[.int .i64 (x.h : Int), .int .i64 (x.at' : Int), .int .i64 (a : Int)] 64) = Wb at *
          refine FD.out.mono ?_
          rintro e w2 ⟨hw2, hpost⟩
          obtain rfl := hw2.symm
          clear hw2
          rcases hpost with ⟨he, _⟩ | ⟨_, i', x', g, cap2, hf', hv', rfl⟩
          · exact absurd HFI.out.2.1 he
          · rw [HFI.out.1] at hf'
            simp only [Option.some.injEq, Prod.mk.injEq] at hf'
            obtain ⟨rfl, rfl⟩ := hf'
            have HV := Lib.hid hv'
            obtain ⟨g2, cap3, hv2, d0, d1, d2, dz⟩ := blk_cells (HH.out.below HB1.out).hm.row.1 HFI.out.2.2
            rw [hv'] at hv2
            simp only [Value.slice.injEq, Option.some.injEq, Addr.mk.injEq, and_true] at hv2
            obtain ⟨rfl, _, rfl⟩ := hv2
            have OC := Lib.hid (octetsM_any (HH.out.below HB1.out).hm (x.h : Int) x.at' x.len HLE.out.1)
            clear hv' q0
            go_wp2_with fail
            refine OC.out.mono ?_
            rintro e w3 ⟨a1, rfl, ha1, hb3⟩
            have BW3 : Below wr.heap.size wr w3 := HB1.out.trans (hb3.mono HB1.out.size)
            have N3 := (hb3.block _ (lt_of HN1.out)).trans HN1.out
            have q2 : w3.cell? ⟨wr.heap.size, 2, none⟩ = some (.int .i64 (a : Int)) := (cell_of N3 2).trans rfl
            have d1' := old_cell hb3 d1
            have dz' : w3.frozen? ⟨g, i * 3 + 1, none⟩ = false := by
              obtain ⟨_, _, hv2, _, _, _, dz2⟩ := blk_cells (HH.out.below BW3).hm.row.1 HFI.out.2.2
              rw [HV.out] at hv2
              simp only [Value.slice.injEq, Option.some.injEq, Addr.mk.injEq, and_true] at hv2
              obtain ⟨rfl, _, rfl⟩ := hv2
              exact dz2 _
            obtain ⟨h5, t5⟩ := (HH.out.below BW3).set1 (y := ⟨x.h, a, x.len⟩) (r := 1) (v := .int .i64 (a : Int)) HFI.out.2.2 (by decide) rfl rfl (by show a + x.len ≤ _; have := HLE.out; omega) HV.out
            have HA1 := Lib.hid ha1
            have H5 := Lib.hid h5
            have T5 := Lib.hid ((Touch.of_below BW3 (F := F2)).then t5)
            have hx5 : (S'.bl.set i ⟨x.h, a, x.len⟩)[i]? = some ⟨x.h, a, x.len⟩ := by rw [List.getElem?_set_self (List.getElem?_eq_some_iff.1 HFI.out.2.2).1]
            clear OC d0 d1 d2 dz ha1 hb3 BW3 N3 h5 t5
            go_upto_region 15 with fail
            clear q2 d1' dz'
            generalize w3.setCell ⟨g, i * 3 + 1, none⟩ (.int .i64 (a : Int)) = W5 at *
            obtain ⟨g2, cap3, hv2, d0, d1, d2, dz⟩ := blk_cells H5.out.hm.row.1 hx5
            rw [HV.out] at hv2
            simp only [Value.slice.injEq, Option.some.injEq, Addr.mk.injEq, and_true] at hv2
            obtain ⟨rfl, _, rfl⟩ := hv2
            have OC := Lib.hid (octetsM_any H5.out.hm (x.h : Int) a x.len (by show a + x.len ≤ S'.mem.length; have := HLE.out; omega))
            go_wp2_with fail
            refine OC.out.mono ?_
            rintro e w6 ⟨a2, rfl, ha2, hb6⟩
            obtain ⟨w7, CPY, h7, t7⟩ := (H5.out.below hb6).cpy a x.len x.at' x.len x.len a2 a1 (by show a + x.len ≤ S'.mem.length; have := HLE.out; omega) (Nat.le_refl _) (by show x.at' + x.len ≤ S'.mem.length; exact HLE.out.1) ha2 HA1.out
            have T7 : Touch F2 wr w7 := T5.out.then ((Touch.of_below hb6).then (t7.mono (fun k hk => HH.out.hm.mem.2 k hk)))
            have FIN := Lib.hid (And.intro (HCP.out.step HXA.out HFI.out.1) (And.intro h7 (And.intro (ownsRow_same HRW.out (fun k hk => T7.block k (HRW.out.lt k hk).2 (fun e => by
              have h1 := (HVF.out k hk).1
              have h2 := H3.out.fl k e
              omega))) (HTR.out.then T7))))
            clear d0 d1 d2 dz OC ha2 hb6 h7 t7 T7 hx5
            go_wp2_with fail
            go_roundw
            case measure => simp only [intOf]; omega
            case rel => exact ⟨k + 1, a + x.len, l, _, by omega, by go_num, HDR.out, FIN.out⟩
        · obtain rfl : k = N := by omega
          have hd0 : (shiftsG 0 L).drop k = [] := List.drop_eq_nil_of_le (by rw [HN.out]; exact Nat.le_refl _)
          obtain ⟨a, l', hn1, hn2, hn3⟩ := CpI.norm l0 hcp
          rw [hd0, hn1] at hdr
          have hl' : l' = [] := by
            rcases hn3 with h | ⟨x, l'', rfl, hxa⟩
            · exact h
            · have e1 : shiftsG a (x :: l'') = ⟨x.h, x.at', a⟩ :: shiftsG (a + x.len) l'' := by
                show (if x.at' = a then [] else _) ++ _ = _
                rw [if_neg hxa]
                rfl
              rw [e1] at hdr
              cases hdr
          subst hl'
          obtain ⟨K, hK⟩ : ∃ K, S'.mem.length = K := ⟨_, rfl⟩
          have HK := Lib.hid hK
          have HMS := Lib.hid hHB.hm.msh
          obtain ⟨ma, mc, hvm, hmc, hmc2, _⟩ := hHB.hm.memory
          have c6 := hHB.hm.cells.2.2.2.2.2.2.1
          rw [hvm, hK] at c6
          rw [hK] at hmc
          have HVM := Lib.hid hvm
          have hKb : K ≤ 100000 := by rw [← hK]; exact hHB.hm.big.1
          have S0 : BelM wr wr.drew := (Below.refl _ wr).drew
          have g6 : ∀ z : WIn (BelM wr), z.w.cell? ⟨hp, 6, none⟩ = some (.slice ma K mc) := fun z => old_cell z.h c6
          haveI ne : Nonempty (WIn (BelM wr)) := ⟨⟨wr.drew, S0⟩⟩
          have HH := Lib.hid hHB
          have HCP := Lib.hid hn2
          have HRW := Lib.hid hrow
          have HTR := Lib.hid hT
          clear hcp hHB hrow hT hn1 hn2 hn3 hdr hd0 hK hvm c6
          go_upto_region 17 with fail
          refine wp_normal ?_
          refine wp_region_plan 7 (BelM wr) rfl ?_
          refine wpN_seg [0, 1, 2, 3, 4] (by kernel_rfl) (by kernel_rfl) (by kernel_rfl) (by kernel_rfl) (by decide) (fun _ _ _ _ _ h => h) S0 ?_
          simp only [pick, List.map_cons, List.map_nil, List.getElem?_cons_succ, List.getElem?_cons_zero, Option.getD_some]
          repeat (go_big_quiet_step (fail))
          refine wpQuiet_nil ?_
          clear g6 ne
          refine wpN_one 5 _ (by kernel_rfl) rfl ?_
          refine NextAt.held ?_
          intro K1 hK1
          go_simp
          refine (endM_any (HH.out.hm.below S0)).mono ?_
          rintro e w4 ⟨L', hs', rfl, hb4⟩
          have S4 : BelM wr w4 := Below.trans (a := wr) S0 (hb4.mono (Below.size S0))
          have hel : endL L' ≤ K := by rw [← HK.out]; exact endL_le hs' (fun x hx => (HH.out.hm.hb x hx).2.2)
          have HS' := Lib.hid hs'
          obtain ⟨E, hE⟩ : ∃ E, endL L' = E := ⟨_, rfl⟩
          have HE := Lib.hid hE
          rw [hE] at hel ⊢
          go_simp
          refine hK1 _ _ S4 ?_
          clear hK1 K1 hb4 hs' hE
          have FINK : Hid (∀ w5, HB w5 hp bp { S' with mem := fill 0 S'.mem E (K - E) } vm vb vh2 vhs2 F2 G M b → Touch (fun k => vm.ownBlock = some k) w4 w5 → CmPost w hp bp S vm vb vh vhs F G M b (.returned (.tuple #[.slice xa k xc, .int .i64 0])) w5) := Lib.hid (fun w5 h5 t5 => by
            have TT : Touch F2 wr w5 := (Touch.of_below S4).then (t5.mono (fun k hk => HH.out.hm.mem.2 k hk))
            have nF : ∀ j, (Value.slice xa k xc).ownBlock = some j → ¬ F2 j := fun j hj e => by
              have h1 := (HVF.out j hj).1
              have h2 := H3.out.fl j e
              omega
            have hw5 : w5.ownsRow W3.heap.size 64 3 (.slice xa k xc) k ((shiftsG 0 L).flatMap Shf.cells) := ownsRow_same HRW.out (fun j hj => TT.block j (HRW.out.lt j hj).2 (nF j hj))
            refine KEY.out _ w5 ⟨_, S', L, L', a, _, vh2, vhs2, F2, rfl, HS.out, HCP.out, HS'.out, rfl, ?_, ?_, HF3.out.1, nF, ?_⟩
            · rw [HN.out]
              exact row_low hw5 sz3
            · rw [HE.out, HK.out]
              exact h5
            · exact HT4.out.trans (HTR.out.then TT) (fun j hj => HF3.out.1 j hj))
          have CLK : Hid (∀ (c : Nat) (f : Option Addr), (0 < K - E → ∃ g, vm = .slice (some ⟨g, 0, none⟩) S'.mem.length S'.mem.length ∧ f = some ⟨g, E, none⟩) → ∃ w', (∀ ty, (Builtin.clear_ #[38] ty #[.slice f (K - E) c]).run Tryz.prog w4 = .ok (.tuple #[]) w') ∧ HB w' hp bp { S' with mem := fill 0 S'.mem E (K - E) } vm vb vh2 vhs2 F2 G M b ∧ Touch (fun k => vm.ownBlock = some k) w4 w') := Lib.hid (fun c f hf => (HH.out.below S4).clr E (K - E) c f (by rw [HK.out]; omega) hf)
          rcases HMS.out with ⟨hv0, hz0⟩ | ⟨g, hvg⟩
          · have hv1 := HVM.out
            rw [hv0] at hv1
            simp only [Value.slice.injEq] at hv1
            obtain ⟨rfl, _, rfl⟩ := hv1
            have hK0 : K = 0 := by rw [← HK.out]; exact hz0
            subst hK0
            obtain rfl : E = 0 := by omega
            obtain ⟨w5, CLR, h5, t5⟩ := CLK.out 0 none (fun h => by omega)
            have FIN := Lib.hid (FINK.out w5 h5 t5)
            have HCR : Hid (∀ ty, (Builtin.clear_ #[38] ty #[.slice none 0 0]).run Tryz.prog w4 = .ok (.tuple #[]) w5) := Lib.hid CLR
            have HZ0 := Lib.hid hz0
            clear FINK CLK h5 t5 CLR hel hmc hmc2 hKb hz0
            refine wpN_pure [6] (by kernel_rfl) (by kernel_rfl) (by kernel_rfl) (fun _ _ _ _ _ h => h) (fun _ => S4) ?_
            simp only [pick, List.map_cons, List.map_nil, List.getElem?_cons_succ, List.getElem?_cons_zero, Option.getD_some]
            repeat (go_big_quiet_step (fail))
            refine wpQuiet_nil ?_
            refine wpN_one 7 _ (by kernel_rfl) rfl ?_
            refine NextAt.free (by kernel_rfl) ?_
            intro K1 hK1
            refine step_clear_known rfl (.tmp 93) 38 rfl (.slice none 0 0) _ (by simp [Act.eval, List.length_eq_zero_iff.1 HZ0.out]) (HCR.out _) ?_
            go_simp
            refine hK1 _ _ ?_
            clear hK1 K1
            refine wpN_done (by kernel_rfl) ?_
            go_wp2_with fail
            go_ret2
            exact FIN.out
          · have hv1 := HVM.out
            rw [hvg, HK.out] at hv1
            simp only [Value.slice.injEq, true_and] at hv1
            obtain ⟨rfl, rfl⟩ := hv1
            obtain ⟨z, hz⟩ : ∃ z, (if K = E then some (⟨g, 0, none⟩ : Addr) else some ⟨g, E, none⟩) = z := ⟨_, rfl⟩
            obtain ⟨w5, CLR, h5, t5⟩ := CLK.out (K - E) z (fun h => ⟨g, hvg, by rw [← hz, if_neg (by omega)]⟩)
            have FIN := Lib.hid (FINK.out w5 h5 t5)
            have HCR := Lib.hid CLR
            clear FINK CLK h5 t5 hvg CLR
            refine wpN_pure [6] (by kernel_rfl) (by kernel_rfl) (by kernel_rfl) (fun _ _ _ _ _ h => h) (fun _ => S4) ?_
            simp only [pick, List.map_cons, List.map_nil, List.getElem?_cons_succ, List.getElem?_cons_zero, Option.getD_some]
            repeat (go_big_quiet_step (fail))
            refine wpQuiet_nil ?_
            refine wpN_one 7 _ (by kernel_rfl) rfl ?_
            refine NextAt.free (by kernel_rfl) ?_
            intro K1 hK1
            refine step_clear_known rfl (.tmp 93) 38 rfl _ _ (by rfl) (HCR.out _) ?_
            go_simp
            refine hK1 _ _ ?_
            clear hK1 K1
            refine wpN_done (by kernel_rfl) ?_
            go_wp2_with fail
            go_ret2
            exact FIN.out

end Go.Proofs.YtjogaohnphafgaaGreat
