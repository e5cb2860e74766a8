/-
  The reference's heap: Resize. No conditions but bounds and blocks apart.
-/
import Derived.Test.YtjogaohnphafgaaGreatMoveRunsPbo
import Derived.Test.YtjogaohnphafgaaGreatMoveRunsPbj
namespace Go.Proofs.YtjogaohnphafgaaGreat
open Go.RowKit
set_option linter.unusedVariables false

theorem splice_fill {m o : List Int} {a n : Nat} (h : a + n ≤ m.length) (ho : o.length ≤ n) : splice (fill 0 m a n) a o = fill 0 (splice m a o) (a + o.length) (n - o.length) := by
  refine List.ext_getElem? (fun j => ?_)
  rw [splice_get (by rw [fill_len]; omega), fill_at 0 _ _ _ _ h, fill_at 0 _ _ _ _ (by rw [splice_ln (by omega)]; omega), splice_get (by omega)]
  by_cases h1 : a ≤ j ∧ j < a + o.length
  · rw [if_pos h1, if_neg (by omega), if_pos h1]
  · rw [if_neg h1]
    by_cases h2 : a ≤ j ∧ j < a + n
    · rw [if_pos h2, if_pos (by omega)]
    · rw [if_neg h2, if_neg (by omega), if_neg h1]
def RrzRes (w : World) (F : Nat → Prop) (rp pp M : Nat) (S : HpSt) (kept : List (List Blk)) (vm vb vk : Value) (vks : List Value) (i : Nat) (x : Blk) (n : Nat) (y : Blk) (w' : World) : Prop := ∃ (mem2 : List Int) (vm2 : Value) (F' : Nat → Prop),
  RzOk S M x n y mem2 ∧ RfMem w' F' rp pp M { S with mem := mem2, bl := S.bl.set i y } kept vm2 vb vk vks ∧ MemTo w.heap.size S.mem.length mem2.length vm vm2 ∧ (∀ k, F' k → Lost F vm vm2 k ∨ w.heap.size ≤ k) ∧ Touch (Lost F vm vm2) w w'
def RrzPost (w : World) (F : Nat → Prop) (rp pp M : Nat) (S : HpSt) (kept : List (List Blk)) (vm vb vk : Value) (vks : List Value) (q n : Int) : Ending → World → Prop := fun e w' =>
  (rzE S q n ≠ 0 ∧ e = .returned (.tuple #[.bool false, .int .i64 (rzE S q n)]) ∧ Below w.heap.size w w') ∨
  (rzE S q n = 0 ∧ ∃ i x, findB S.bl q = some (i, x) ∧
    ((∃ er, er ≠ 0 ∧ (x.len : Int) < n ∧ (∃ L, SortedL (lieL S.bl) L ∧ (decide (0 < x.len) && (gapsOf S.mem.length L).any (stB x n.toNat)) = false) ∧ PlNo S M n.toNat 1 er ∧ e = .returned (.tuple #[.bool false, .int .i64 er]) ∧ Below w.heap.size w w') ∨
     (∃ y, e = .returned (.tuple #[.bool (decide (¬ y.at' = x.at')), .int .i64 0]) ∧ RrzRes w F rp pp M S kept vm vb vk vks i x n.toNat y w')))

theorem octB_reM {m : List Int} {x : Blk} {z : Nat} (h : x.at' + x.len ≤ m.length) (hz : m.length ≤ z) : octB (reM m z) x = octB m x := octB_same (fun j _ _ => reM_at _ _ _ (by omega) (by omega))
theorem ne_bool {a b : Nat} : ((a : Int) != (b : Int)) = decide (¬ a = b) := by
  by_cases e : a = b
  · rw [e]; simp
  · have : (a : Int) ≠ (b : Int) := by omega
    simp [e, this]

set_option maxHeartbeats 8000000 in
set_option maxRecDepth 100000 in
theorem resizeR_any {w : World} {F : Nat → Prop} {rp pp M : Nat} {S : HpSt} {kept : List (List Blk)} {vm vb vk : Value} {vks : List Value} (m : RfMem w F rp pp M S kept vm vb vk vks) (hfl : ∀ k, F k → k < w.heap.size) (hap : S.bl.Pairwise apartB) (hpol : polErr S.k S.s S.m = 0) (q n : Int) :
    Calls Tryz.prog 13 #[.pointer (some ⟨rp, 0, none⟩), .int .i64 q, .int .i64 n] w (RrzPost w F rp pp M S kept vm vb vk vks q n) := by
  have FD := Lib.hid (atR_any m q)
  unfold AtPost at FD
  have HM := Lib.hid m
  have HAP := Lib.hid hap
  have HPO := Lib.hid hpol
  have HFL := Lib.hid hfl
  clear m hap hpol hfl
  by_cases he : fndE S q = 0
  case neg =>
    have he1 : (fndE S q != 0) = true := by simpa using he
    have he2 : (fndE S q == 0) = false := by simpa using he
    have FIN : Hid (∀ w', Below w.heap.size w w' → RrzPost w F rp pp M S kept vm vb vk vks q n (.returned (.tuple #[.bool false, .int .i64 (fndE S q)])) w') := Lib.hid (fun w' hb => by
      have e : rzE S q n = fndE S q := by unfold rzE; rw [if_pos he]
      exact Or.inl ⟨by rw [e]; exact he, by rw [e], hb⟩)
    generalize fndE S q = E at *
    generalize atI S q = I at *
    clear he
    go_enter Tryz.func13, Tryz.ntmps13
    go_wp2_with fail
    refine FD.out.mono ?_
    rintro e w1 ⟨rfl, hb⟩
    have F1 := Lib.hid (FIN.out w1 hb)
    clear FIN FD hb
    go_wp2_with fail
    go_ret2
    exact F1.out
  case pos =>
    obtain ⟨_, i, x, hf, _, hi, _⟩ := fndE_zero he
    rw [he, hi] at FD
    obtain ⟨hx, hxh⟩ := findB_at hf
    have hin := (HM.out.hb x (List.mem_of_getElem? hx)).2.2
    have hbig := HM.out.big.1
    have hil : i < S.bl.length := (List.getElem?_eq_some_iff.1 hx).1
    have hbl5 := HM.out.big.2.1
    have HX := Lib.hid hx
    by_cases hn : 0 ≤ n ∧ n ≤ 100000
    case neg =>
      have FIN : Hid (∀ w', Below w.heap.size w w' → RrzPost w F rp pp M S kept vm vb vk vks q n (.returned (.tuple #[.bool false, .int .i64 2])) w') := Lib.hid (fun w' hb => by
        have e : rzE S q n = 2 := by unfold rzE; rw [if_neg (by simp [he]), if_pos hn]
        exact Or.inl ⟨by rw [e]; decide, by rw [e], hb⟩)
      clear he hf hi hx hxh hin hbig hil hbl5
      rcases (show n < 0 ∨ (¬ n < 0 ∧ 100000 < n) from by omega) with h1 | ⟨h1, h2⟩
      all_goals
        clear hn
        go_enter Tryz.func13, Tryz.ntmps13
        go_wp2_with fail
        refine FD.out.mono ?_
        rintro e w1 ⟨rfl, hb⟩
        have F1 := Lib.hid (FIN.out w1 hb)
        clear FIN FD hb
        go_wp2_with fail
        go_ret2
        exact F1.out
    case pos =>
      obtain ⟨N, rfl⟩ : ∃ N : Nat, n = (N : Int) := ⟨n.toNat, by omega⟩
      have KEY : Hid (∀ e w', ((∃ er, er ≠ 0 ∧ x.len < N ∧ (∃ L, SortedL (lieL S.bl) L ∧ (decide (0 < x.len) && (gapsOf S.mem.length L).any (stB x N)) = false) ∧ PlNo S M N 1 er ∧ e = .returned (.tuple #[.bool false, .int .i64 er]) ∧ Below w.heap.size w w') ∨
          (∃ y, e = .returned (.tuple #[.bool (decide (¬ y.at' = x.at')), .int .i64 0]) ∧ RrzRes w F rp pp M S kept vm vb vk vks i x N y w')) → RrzPost w F rp pp M S kept vm vb vk vks q N e w') := Lib.hid (fun e w' hk => by
        have eE : rzE S q N = 0 := by unfold rzE; rw [if_neg (by simp [he]), if_neg (by simpa using hn)]
        refine Or.inr ⟨eE, i, x, hf, ?_⟩
        rw [Int.toNat_natCast]
        exact hk.imp (fun ⟨er, h1, h2, h3⟩ => ⟨er, h1, by omega, h3⟩) id)
      have n1 : ¬ (N : Int) < 0 := by omega
      have n2 : ¬ (100000 : Int) < (N : Int) := by omega
      have hN5 : N ≤ 100000 := by omega
      clear he hf hi hx hxh hn
      obtain ⟨NB, hNB⟩ : ∃ NB, S.bl.length = NB := ⟨_, rfl⟩
      have HNB := Lib.hid hNB
      rw [hNB] at hil hbl5
      obtain ⟨ML, hML⟩ : ∃ ML, S.mem.length = ML := ⟨_, rfl⟩
      have HML := Lib.hid hML
      rw [hML] at hin hbig
      clear hNB hML
      obtain ⟨g, off, cap, hvb⟩ : ∃ g off cap, vb = .slice (some ⟨g, off, none⟩) NB cap := by
        obtain ⟨g, off, cap, h1, _⟩ := oblk_cells HM.out.row.1 HX.out
        exact ⟨g, off, cap, by rw [h1, HNB.out]⟩
      have HVB := Lib.hid hvb
      clear hvb
      have CELL : Hid (∀ (W : World) (F2 : Nat → Prop) (S2 : HpSt) (vm2 : Value) (y : Blk), RfMem W F2 rp pp M S2 kept vm2 vb vk vks → S2.bl[i]? = some y → W.cell? ⟨rp, 7, none⟩ = some (.slice (some ⟨g, off, none⟩) NB cap) ∧ W.cell? ⟨g, off + i * 3, none⟩ = some (.int .i64 (y.h : Int)) ∧ W.cell? ⟨g, off + i * 3 + 1, none⟩ = some (.int .i64 (y.at' : Int)) ∧ W.cell? ⟨g, off + i * 3 + 2, none⟩ = some (.int .i64 (y.len : Int)) ∧ ∀ j, W.frozen? ⟨g, j, none⟩ = false) := Lib.hid (fun W F2 S2 vm2 y h hy => by
        obtain ⟨g', off', cap', h1, h2, h3, h4, h5⟩ := oblk_cells h.row.1 hy
        rw [HVB.out] at h1
        simp only [Value.slice.injEq, Option.some.injEq, Addr.mk.injEq, and_true] at h1
        obtain ⟨⟨rfl, rfl⟩, _, rfl⟩ := h1
        have h7 := h.cells.2.2.2.2.2.2.2.1
        rw [HVB.out] at h7
        exact ⟨h7, h2, h3, h4, h5⟩)
      go_enter Tryz.func13, Tryz.ntmps13
      go_wp2_with fail
      refine FD.out.mono ?_
      rintro e w1 ⟨rfl, hb1⟩
      obtain ⟨c7, d0, d1, d2, dz⟩ := CELL.out _ _ _ _ _ (HM.out.below hb1) HX.out
      have BA : Below w.heap.size w (w1.alloc (.cells #[.int .i64 (x.h : Int), .int .i64 (x.at' : Int), .int .i64 (x.len : Int)] 78)) := hb1.alloc hb1.size _
      have NA := heap_alloc_new w1 (.cells #[.int .i64 (x.h : Int), .int .i64 (x.at' : Int), .int .i64 (x.len : Int)] 78)
      have HNX : Hid (w.heap.size ≤ w1.heap.size) := Lib.hid hb1.size
      clear hb1 dz FD
      go_upto_region 7 with fail
      clear c7 d0 d1 d2
      obtain ⟨r, hr⟩ : ∃ r, w1.heap.size = r := ⟨_, rfl⟩
      rw [hr] at NA HNX ⊢
      generalize w1.alloc (.cells #[.int .i64 (x.h : Int), .int .i64 (x.at' : Int), .int .i64 (x.len : Int)] 78) = WA at *
      clear hr
      have MA := Lib.hid (HM.out.below BA)
      have HBA := Lib.hid BA
      have HNA := Lib.hid NA
      obtain ⟨c7, d0, d1, d2, dz⟩ := CELL.out _ _ _ _ _ MA.out HX.out
      obtain ⟨o0, o1, o2⟩ := cells3h NA
      clear NA BA
      by_cases hc : N ≤ x.len
      · obtain ⟨m2, t2⟩ := MA.out.set1 (y := ⟨x.h, x.at', N⟩) (r := 2) (v := .int .i64 (N : Int)) HX.out (by decide) rfl rfl (by show x.at' + N ≤ _; rw [HML.out]; omega) HVB.out
        have hrg : ∀ k, vb.ownBlock = some k → k ≠ r := fun k hk e => by
          have h1 := HM.out.row.1.block hk
          obtain ⟨c1, h1⟩ := h1
          have := lt_of h1
          have := HNX.out
          omega
        have hcI : (N : Int) ≤ (x.len : Int) := by omega
        by_cases h0 : N = 0
        · have hx2 : ({ S with bl := S.bl.set i ⟨x.h, x.at', N⟩ } : HpSt).bl[i]? = some ⟨x.h, x.at', N⟩ := by
            show (S.bl.set i _)[i]? = _
            rw [List.getElem?_set_self (List.getElem?_eq_some_iff.1 HX.out).1]
          obtain ⟨m3, t3⟩ := m2.set1 (y := ⟨x.h, 0, N⟩) (r := 1) (v := .int .i64 0) hx2 (by decide) rfl rfl (by show 0 + N ≤ _; omega) HVB.out
          have e : (S.bl.set i ⟨x.h, x.at', N⟩).set i ⟨x.h, 0, N⟩ = S.bl.set i ⟨x.h, 0, N⟩ := List.set_set _
          simp only [e] at m3
          have NB2 := ((t2.then t3).block r (lt_of HNA.out) (fun e => hrg r e rfl)).trans HNA.out
          have FIN : Hid (∀ q0, RrzPost w F rp pp M S kept vm vb vk vks q N (.returned (.tuple #[.bool ((0 : Int) != (x.at' : Int)), .int .i64 0])) ((((WA.setCell ⟨g, off + i * 3 + 2, none⟩ (.int .i64 (N : Int))).setCell ⟨g, off + i * 3 + 1, none⟩ (.int .i64 0))).drewN q0)) := Lib.hid (fun q0 => by
            have e0 : ((0 : Int) != (x.at' : Int)) = decide (¬ (0 : Nat) = x.at') := by
              rw [← ne_bool]
              rfl
            rw [e0]
            exact KEY.out _ _ (Or.inr ⟨⟨x.h, 0, N⟩, rfl, S.mem, vm, F, Or.inl ⟨hc, by rw [if_pos h0], rfl⟩, m3.below (bdrewN (Below.refl _ _) q0), MemTo.self _ _ _, fun k hk => Or.inl (Lost.self hk), ((Touch.of_below HBA.out).then ((t2.then t3).mono (fun k hk => Lost.self (HM.out.row.2 k hk)))).then (Touch.of_below (bdrewN (Below.refl _ _) q0))⟩))
          have hN0 : ((N : Int) == 0) = true := by rw [h0]; rfl
          have CL1 := Lib.hid (CELL.out _ _ _ _ ⟨x.h, x.at', N⟩ m2 hx2)
          have CL2 := Lib.hid (CELL.out _ _ _ _ ⟨x.h, 0, N⟩ m3 (by show (S.bl.set i _)[i]? = _; rw [List.getElem?_set_self (List.getElem?_eq_some_iff.1 HX.out).1]))
          have f2 := dz (off + i * 3 + 2)
          clear m2 t2 m3 t3 hx2 e hrg dz KEY h0
          go_upto_region 9 with fail
          clear c7 d0 d1 d2 o0 o1 o2 f2
          generalize WA.setCell ⟨g, off + i * 3 + 2, none⟩ (.int .i64 (N : Int)) = W2 at *
          obtain ⟨c7, d0, d1, d2, dz⟩ := CL1.out
          have f1 := dz (off + i * 3 + 1)
          clear dz
          go_upto_region 11 with fail
          clear c7 d0 d1 d2 f1
          generalize W2.setCell ⟨g, off + i * 3 + 1, none⟩ (.int .i64 0) = WB at *
          obtain ⟨c7, d0, d1', d2, dz⟩ := CL2.out
          have d1 : WB.cell? ⟨g, off + i * 3 + 1, none⟩ = some (.int .i64 0) := d1'
          obtain ⟨o0, o1, o2⟩ := cells3h NB2
          obtain ⟨bv, hbv⟩ : ∃ bv, ((0 : Int) != (x.at' : Int)) = bv := ⟨_, rfl⟩
          rw [hbv] at FIN
          clear NB2 dz d1'
          go_quiet (fail)
          go_wp2_with fail
          go_ret2
          exact FIN.out _
        · have NB2 := (t2.block r (lt_of HNA.out) (fun e => hrg r e rfl)).trans HNA.out
          have FIN : Hid (∀ q0, RrzPost w F rp pp M S kept vm vb vk vks q N (.returned (.tuple #[.bool false, .int .i64 0])) ((WA.setCell ⟨g, off + i * 3 + 2, none⟩ (.int .i64 (N : Int))).drewN q0)) := Lib.hid (fun q0 => by
            exact KEY.out _ _ (Or.inr ⟨⟨x.h, x.at', N⟩, by simp, S.mem, vm, F, Or.inl ⟨hc, by rw [if_neg h0], rfl⟩, m2.below (bdrewN (Below.refl _ _) q0), MemTo.self _ _ _, fun k hk => Or.inl (Lost.self hk), ((Touch.of_below HBA.out).then (t2.mono (fun k hk => Lost.self (HM.out.row.2 k hk)))).then (Touch.of_below (bdrewN (Below.refl _ _) q0))⟩))
          have hN0 : ((N : Int) == 0) = false := by simp; exact h0
          have CL2 := Lib.hid (CELL.out _ _ _ _ ⟨x.h, x.at', N⟩ m2 (by show (S.bl.set i _)[i]? = _; rw [List.getElem?_set_self (List.getElem?_eq_some_iff.1 HX.out).1]))
          have f2 := dz (off + i * 3 + 2)
          clear m2 t2 hrg dz KEY h0
          go_upto_region 9 with fail
          clear c7 d0 d1 d2 o0 o1 o2 f2
          generalize WA.setCell ⟨g, off + i * 3 + 2, none⟩ (.int .i64 (N : Int)) = WB at *
          go_upto_region 11 with fail
          obtain ⟨c7, d0, d1, d2, dz⟩ := CL2.out
          obtain ⟨o0, o1, o2⟩ := cells3h NB2
          clear NB2 dz
          go_quiet (fail)
          go_wp2_with fail
          go_ret2
          exact FIN.out _
      · have hcI : ¬ (N : Int) ≤ (x.len : Int) := by omega
        have hxl : x.len < N := by omega
        clear dz hc
        go_upto_if 76 with fail
        go_cut [12] (fun v12 wr => Below WA.heap.size WA wr ∧ ∃ L, SortedL (lieL S.bl) L ∧ (decide (0 < x.len) && (gapsOf S.mem.length L).any (stB x N)) = false)
        case first =>
          by_cases hx0 : 0 < x.len
          · have hx0' : (0 : Int) < (x.len : Int) := by omega
            have GP := Lib.hid (gapsR_any MA.out)
            unfold GapsPost at GP
            clear c7 d0 d1 d2
            go_wp2_with fail
            refine GP.out.mono ?_
            rintro e w2 ⟨L, v, hs, rfl, hrow, hb2⟩
            have hgl : (gapsOf S.mem.length L).length ≤ 501 := by
              have h1 := gapsOf_len S.mem.length L
              have h2 := hs.len
              have h3 := HM.out.big.2.1
              omega
            obtain ⟨GS, hGS⟩ : ∃ GS, gapsOf S.mem.length L = GS := ⟨_, rfl⟩
            rw [hGS] at hrow hgl
            obtain ⟨GN, hGN⟩ : ∃ GN, GS.length = GN := ⟨_, rfl⟩
            obtain ⟨ga, gc, hv⟩ := wrow_sh hrow
            rw [hGN] at hv hgl
            subst hv
            have HROW := Lib.hid hrow
            have HGN := Lib.hid hGN
            have HGS := Lib.hid hGS
            have HS := Lib.hid hs
            have HB2 := Lib.hid hb2
            have N2 := Lib.hid ((hb2.block _ (lt_of HNA.out)).trans HNA.out)
            clear hs hrow hGS hGN hb2 GP o0 o1 o2
            go_wp2_with fail
            go_loopw [80] (fun i wr => ∃ k : Nat, k ≤ GN ∧ i = .int .i64 (k : Int) ∧ Below w2.heap.size w2 wr ∧ (GS.take k).any (stB x N) = false) (fun i _ => GN - (intOf i).toNat)
            case atStart => exact ⟨0, Nat.zero_le _, rfl, Below.refl _ _, by simp⟩
            case round =>
              obtain ⟨k, hk, rfl, hbr, hnone⟩ := hrel
              by_cases hlt : k < GN
              · obtain ⟨gx, hgx⟩ : ∃ gx, GS[k]? = some gx := ⟨_, List.getElem?_eq_getElem (by have := HGN.out; omega)⟩
                have HGX := Lib.hid hgx
                obtain ⟨g5, cap5, cur5, hv5, _, _, _, _, _, _, hc5⟩ := grow_open (row_kept HROW.out hbr) (by rw [HGN.out]; omega)
                rw [HGN.out] at hv5
                simp only [Value.slice.injEq, true_and] at hv5
                obtain ⟨rfl, rfl⟩ := hv5
                have z0 : wr.cell? ⟨g5, k * 2, none⟩ = some (.int .i64 (gx.at' : Int)) := by have := hc5 k gx hgx 0 (by omega); rw [Nat.add_zero] at this; exact this
                have z1 : wr.cell? ⟨g5, k * 2 + 1, none⟩ = some (.int .i64 (gx.len : Int)) := hc5 k gx hgx 1 (by omega)
                have NR := Lib.hid ((hbr.block _ (lt_of N2.out)).trans N2.out)
                obtain ⟨p0, p1, p2⟩ := cells3h NR.out
                have hsum : (x.at' : Int) + (x.len : Int) ≤ 100000 := by omega
                have BR := Lib.hid (hbr.alloc hbr.size (.cells #[.int .i64 (gx.at' : Int), .int .i64 (gx.len : Int)] 92))
                have HNO := Lib.hid hnone
                have ST : Hid (stB x N gx = false → ((GS.take (k + 1)).any (stB x N)) = false) := Lib.hid (fun h => by
                  rw [List.take_add_one, HGX.out, List.any_append, HNO.out]
                  simp [h])
                clear hbr hnone hgx hc5
                have NB3 := Lib.hid ((((Below.refl _ wr).alloc (Nat.le_refl _) (.cells #[.int .i64 (gx.at' : Int), .int .i64 (gx.len : Int)] 92)).block _ (lt_of NR.out)).trans NR.out)
                have NG := heap_alloc_new wr (.cells #[.int .i64 (gx.at' : Int), .int .i64 (gx.len : Int)] 92)
                go_upto_region 16 with fail
                clear p0 p1 p2 z0 z1
                generalize wr.alloc (.cells #[.int .i64 (gx.at' : Int), .int .i64 (gx.len : Int)] 92) = W3 at *
                obtain ⟨p0, p1, p2⟩ := cells3h NB3.out
                have gb0 : W3.cell? ⟨wr.heap.size, 0, none⟩ = some (.int .i64 (gx.at' : Int)) := (cell_of NG 0).trans rfl
                have gb1 : W3.cell? ⟨wr.heap.size, 1, none⟩ = some (.int .i64 (gx.len : Int)) := (cell_of NG 1).trans rfl
                clear NG
                by_cases hq1 : gx.at' = x.at' + x.len
                · have hq1' : ((gx.at' : Int) == (x.at' : Int) + (x.len : Int)) = true := by rw [hq1]; simp
                  by_cases hq2 : N - x.len ≤ gx.len
                  · have hq2' : ((N : Int) - (x.len : Int) ≤ (gx.len : Int)) := by omega
                    have HSB : Hid (stB x N gx = true) := Lib.hid (by unfold stB; rw [Bool.and_eq_true]; exact ⟨decide_eq_true (by omega), decide_eq_true hq2'⟩)
                    have hxn : x.at' + N ≤ ML := by
                      have h3 := gapsOf_in (M := S.mem.length) (L := L) (fun y hy => by have := (HM.out.hb y (HS.out.mem hy).1).2.2; omega) gx (by rw [HGS.out]; exact List.mem_of_getElem? HGX.out)
                      rw [HML.out] at h3
                      omega
                    have HQ := Lib.hid (And.intro hq1 hq2)
                    clear hq1 hq2
                    go_upto_region 17 with fail
                    clear hq1' hq2' gb0 gb1
                    have B3 := Lib.hid (HBA.out.trans ((HB2.out.trans (BR.out.mono HB2.out.size)).mono HBA.out.size))
                    have M3 := Lib.hid (HM.out.below B3.out)
                    obtain ⟨gm, hvm, _, _⟩ := M3.out.bytes (by rw [HML.out]; omega)
                    have c6 := M3.out.cells.2.2.2.2.2.2.1
                    rw [hvm, HML.out] at c6
                    have HVM := Lib.hid hvm
                    have T0 : BelM W3 W3.drew := (Below.refl _ W3).drew
                    have g6 : ∀ z : WIn (BelM W3), z.w.cell? ⟨rp, 6, none⟩ = some (.slice (some ⟨gm, 0, none⟩) ML ML) := fun z => old_cell z.h c6
                    have b1 : ∀ z : WIn (BelM W3), z.w.cell? ⟨r, 1, none⟩ = some (.int .i64 (x.at' : Int)) := fun z => old_cell z.h p1
                    have b2 : ∀ z : WIn (BelM W3), z.w.cell? ⟨r, 2, none⟩ = some (.int .i64 (x.len : Int)) := fun z => old_cell z.h p2
                    haveI ne : Nonempty (WIn (BelM W3)) := ⟨⟨W3.drew, T0⟩⟩
                    have hsum2 : (x.at' : Int) + (N : Int) ≤ 100000 := by omega
                    clear hvm c6 p0 p1 p2
                    refine wp_normal ?_
                    refine wp_region_plan 14 (BelM W3) rfl ?_
                    refine wpN_seg [0, 1, 2, 3, 4, 5, 6, 7, 8, 9, 10, 11, 12, 13] (by kernel_rfl) (by kernel_rfl) (by kernel_rfl) (by kernel_rfl) (by decide) (fun _ _ _ _ _ h => h) T0 ?_
                    simp only [pick, List.map_cons, List.map_nil, List.getElem?_cons_succ, List.getElem?_cons_zero, Option.getD_some]
                    repeat (go_big_quiet_step (fail))
                    refine wpQuiet_nil ?_
                    try rw [show x.at' + N - (x.at' + x.len) = N - x.len by omega]
                    try rw [if_neg (show ¬ ML = x.at' + x.len by omega)]
                    obtain ⟨w5, CLR, m5, t5⟩ := (M3.out.below T0).clr (x.at' + x.len) (N - x.len) (ML - (x.at' + x.len)) (some ⟨gm, x.at' + x.len, none⟩) (by rw [HML.out]; omega) (fun h => ⟨gm, HVM.out, rfl⟩)
                    have M5 := Lib.hid m5
                    have T5 := Lib.hid (((Touch.of_below B3.out).then (Touch.of_below ((Below.refl _ W3).drew))).then (t5.mono (fun k hk => HM.out.mem.2 k hk)))
                    clear g6 b1 b2 ne m5 t5
                    refine wpN_one 14 _ (by kernel_rfl) rfl ?_
                    refine NextAt.free (by kernel_rfl) ?_
                    intro K1 hK1
                    refine step_clear_known rfl (.tmp 114) 38 rfl _ _ (by rfl) (CLR _) ?_
                    go_simp
                    refine hK1 _ _ ?_
                    clear hK1 K1 CLR T0
                    refine wpN_done (by kernel_rfl) ?_
                    obtain ⟨c7, d0, d1, d2, dz⟩ := CELL.out _ _ _ _ _ M5.out HX.out
                    obtain ⟨m6, t6⟩ := M5.out.set1 (y := ⟨x.h, x.at', N⟩) (r := 2) (v := .int .i64 (N : Int)) HX.out (by decide) rfl rfl (by show x.at' + N ≤ (fill 0 S.mem (x.at' + x.len) (N - x.len)).length; rw [fill_len, HML.out]; omega) HVB.out
                    have FIN : Hid (RrzPost w F rp pp M S kept vm vb vk vks q N (.returned (.tuple #[.bool false, .int .i64 0])) (w5.setCell ⟨g, off + i * 3 + 2, none⟩ (.int .i64 (N : Int)))) := Lib.hid (KEY.out _ _ (Or.inr ⟨⟨x.h, x.at', N⟩, by simp, _, vm, F, Or.inr (Or.inl ⟨hxl, hx0, ⟨L, HS.out, by rw [HGS.out]; exact List.any_eq_true.2 ⟨gx, List.mem_of_getElem? HGX.out, HSB.out⟩⟩, rfl, rfl⟩), m6, Or.inl ⟨rfl, fill_len _ _ _ _⟩, fun k hk => Or.inl (Lost.self hk), (T5.out.then (t6.mono (fun k hk => HM.out.row.2 k hk))).mono (fun k hk => Lost.self hk)⟩))
                    have f2 := dz (off + i * 3 + 2)
                    clear m6 t6 d0 d1 dz KEY hx0
                    go_wp2_with fail
                    go_ret2
                    exact FIN.out
                  · have hq2' : ¬ ((N : Int) - (x.len : Int) ≤ (gx.len : Int)) := by omega
                    have NX := Lib.hid (ST.out (by unfold stB; rw [decide_eq_false hq2', Bool.and_false]))
                    clear hq1 hq2
                    go_wp2_with fail
                    go_roundw
                    case measure => simp only [intOf]; omega
                    case rel => exact ⟨k + 1, by omega, by go_num, BR.out, NX.out⟩
                · have hq1' : ((gx.at' : Int) == (x.at' : Int) + (x.len : Int)) = false := beq_eq_false_iff_ne.2 (by omega)
                  have NX := Lib.hid (ST.out (by unfold stB; rw [decide_eq_false (by omega), Bool.false_and]))
                  clear hq1
                  go_wp2_with fail
                  go_roundw
                  case measure => simp only [intOf]; omega
                  case rel => exact ⟨k + 1, by omega, by go_num, BR.out, NX.out⟩
              · obtain rfl : k = GN := by omega
                have FIN : Hid (Below WA.heap.size WA wr ∧ ∃ L, SortedL (lieL S.bl) L ∧ (decide (0 < x.len) && (gapsOf S.mem.length L).any (stB x N)) = false) := Lib.hid ⟨HB2.out.trans (hbr.mono HB2.out.size), L, HS.out, by
                  rw [HGS.out]
                  rw [List.take_of_length_le (by rw [HGN.out]; exact Nat.le_refl _)] at hnone
                  rw [hnone, Bool.and_false]⟩
                clear hbr hnone
                go_wp2_with fail
                go_meet
                exact FIN.out
          · have hx0' : ¬ (0 : Int) < (x.len : Int) := by omega
            obtain ⟨L, hL⟩ := sorted_exists (lieL S.bl)
            have FIN : Hid (Below WA.heap.size WA WA ∧ ∃ L, SortedL (lieL S.bl) L ∧ (decide (0 < x.len) && (gapsOf S.mem.length L).any (stB x N)) = false) := Lib.hid ⟨Below.refl _ _, L, hL, by rw [decide_eq_false hx0, Bool.false_and]⟩
            clear hL hx0
            go_wp2_with fail
            go_meet
            exact FIN.out
        case rest =>
          obtain ⟨hbc, hst⟩ := hcut
          have HST := Lib.hid hst
          have BC := Lib.hid (HBA.out.trans (hbc.mono HBA.out.size))
          have MC := Lib.hid (HM.out.below BC.out)
          have NC := Lib.hid ((hbc.block _ (lt_of HNA.out)).trans HNA.out)
          have hN0 : 0 < N := by omega
          have PL := Lib.hid (placedR_any MC.out HAP.out HPO.out N hN5 hN0 1 (Or.inl rfl))
          unfold RpRes at PL
          clear hbc hst c7 d0 d1 d2 o0 o1 o2
          go_wp2_with fail
          refine PL.out.mono ?_
          rintro e w3 ⟨hb3, ⟨er, her, hno, rfl⟩ | ⟨at', z, rfl, z1, z2, z3, zok, zno⟩⟩
          · have he' : (er != 0) = true := by simp [her]
            have FIN : Hid (RrzPost w F rp pp M S kept vm vb vk vks q N (.returned (.tuple #[.bool false, .int .i64 er])) w3) := Lib.hid (KEY.out _ _ (Or.inl ⟨er, her, hxl, HST.out, hno, rfl, BC.out.trans (hb3.mono BC.out.size)⟩))
            clear hno hb3 PL KEY her
            go_wp2_with fail
            go_ret2
            exact FIN.out
          · have ZOK := Lib.hid zok
            have ZNO := Lib.hid zno
            rw [HML.out] at z2
            have B3 := Lib.hid (BC.out.trans (hb3.mono BC.out.size))
            have M3 := Lib.hid (HM.out.below B3.out)
            have N3 := Lib.hid ((hb3.block _ (lt_of NC.out)).trans NC.out)
            clear zok zno hb3 PL
            go_upto_region 24 with fail
            obtain ⟨o0, o1, o2⟩ := cells3h N3.out
            have c6 := M3.out.cells.2.2.2.2.2.2.1
            go_cut [15] (fun v15 wr => ∃ a c, v15 = .slice a x.len c ∧ Below w3.heap.size w3 wr ∧ wr.ownsRow w3.heap.size 5 1 (.slice a x.len c) x.len ((octB S.mem x).map (Value.int .u8)))
            case first =>
              have S0 : BelM w3 w3.drew := (Below.refl _ w3).drew
              have e6 : ∀ z : WIn (BelM w3), z.w.cell? ⟨rp, 6, none⟩ = some vm := fun z => old_cell z.h c6
              have e1 : ∀ z : WIn (BelM w3), z.w.cell? ⟨r, 1, none⟩ = some (.int .i64 (x.at' : Int)) := fun z => old_cell z.h o1
              have e2 : ∀ z : WIn (BelM w3), z.w.cell? ⟨r, 2, none⟩ = some (.int .i64 (x.len : Int)) := fun z => old_cell z.h o2
              haveI ne : Nonempty (WIn (BelM w3)) := ⟨⟨w3.drew, S0⟩⟩
              have hpn : (x.at' : Int) + (x.len : Int) ≤ 100000 := by omega
              have RUN : Hid (∀ (A : Option Addr) (C : Nat), (0 < x.len → ∃ g, vm = .slice (some ⟨g, 0, none⟩) S.mem.length S.mem.length ∧ A = some ⟨g, x.at', none⟩) → ∀ (W1 : World) (g0 : Nat), W1.heap[g0]? = some (.cells #[] 5 (0, 0)) → w3.heap.size ≤ g0 → Below w3.heap.size w3 W1 → ∃ v w9, (Builtin.append_ #[38, 38] 38 #[.slice (some ⟨g0, 0, none⟩) 0 0, .slice A x.len C]).run Tryz.prog W1 = .ok v w9 ∧ w9.ownsRow w3.heap.size 5 1 v x.len ((octB S.mem x).map (Value.int .u8)) ∧ Below w3.heap.size w3 w9) := Lib.hid (fun A C hA W1 g0 hg hB hb => by
                obtain ⟨v, w9, h1, h2, h3⟩ := append_octets hg hB ((M3.out.below hb).octR x.at' x.len C A (by rw [HML.out]; exact hin) hA) (by omega) 38
                exact ⟨v, w9, h1, h2, hb.trans (h3.mono hb.size)⟩)
              clear o0 o1 o2 c6
              rcases HM.out.msh with ⟨hvm, h0⟩ | ⟨gm, hvm⟩
              · rw [HML.out] at h0
                have hx1 : x.at' = 0 := by omega
                have hx2 : x.len = 0 := by omega
                rw [hx1, hx2] at RUN hpn
                have RUN := Lib.hid (RUN.out none 0 (fun h => absurd h (by omega)))
                rw [hvm] at e6
                rw [hx1] at e1
                rw [hx2] at e2
                refine wp_normal ?_
                refine wp_region_plan 13 (BelM w3) rfl ?_
                refine wpN_pure [1, 2, 3, 5, 7, 9] (by kernel_rfl) (by kernel_rfl) (by kernel_rfl) (fun _ _ _ _ _ h => h) (fun _ => S0) ?_
                simp only [pick, List.map_cons, List.map_nil, List.getElem?_cons_succ, List.getElem?_cons_zero, Option.getD_some]
                repeat (go_big_quiet_step (fail))
                refine wpQuiet_nil ?_
                refine wpN_seg [4, 6, 8, 10, 11, 12] (by kernel_rfl) (by kernel_rfl) (by kernel_rfl) (by kernel_rfl) (by decide) (fun _ _ _ _ _ h => h) S0 ?_
                simp only [pick, List.map_cons, List.map_nil, List.getElem?_cons_succ, List.getElem?_cons_zero, Option.getD_some]
                repeat (go_big_quiet_step (fail))
                refine wpQuiet_nil ?_
                clear e6 e1 e2 ne
                refine wpN_one 0 _ (by kernel_rfl) rfl ?_
                refine NextAt.held ?_
                intro K hK
                go_simp
                have AZ : ((w3.alloc (.cells #[] 5)).drew).heap[w3.heap.size]? = _ := heap_alloc_new w3 (.cells #[] 5)
                have BZ : BelM w3 ((w3.alloc (.cells #[] 5)).drew) := ((Below.refl _ _).alloc (Nat.le_refl _) _).drew
                refine hK _ _ BZ ?_
                clear hK K
                obtain ⟨v, w9, hrun, hrow, hb9⟩ := RUN.out _ w3.heap.size AZ (Nat.le_refl _) BZ
                obtain ⟨va', vc', hva'⟩ := wrow_sh hrow
                subst hva'
                refine wpN_one 13 _ (by kernel_rfl) rfl ?_
                refine NextAt.free (by kernel_rfl) ?_
                intro K hK
                refine step_append_known rfl (.tmp 134) (.tmp 146) 38 rfl _ _ _ (by rfl) (by rfl) hrun ?_
                go_simp
                refine hK _ _ ?_
                clear hK K
                refine wpN_pure [14] (by kernel_rfl) (by kernel_rfl) (by kernel_rfl) (fun _ _ _ _ _ h => h) (fun h => by cases h) ?_
                simp only [pick, List.map_cons, List.map_nil, List.getElem?_cons_succ, List.getElem?_cons_zero, Option.getD_some]
                repeat (go_big_quiet_step (fail))
                refine wpQuiet_nil ?_
                refine wpN_done (by kernel_rfl) ?_
                have FF := Lib.hid (And.intro hb9 hrow)
                clear hrun hrow hb9 S0 AZ BZ
                go_wp2_with fail
                go_meet
                exact ⟨_, _, by rw [hx2], FF.out.1, by rw [hx2]; exact FF.out.2⟩
              · rw [hvm, HML.out] at e6
                have RUN := Lib.hid (RUN.out (if ML = x.at' then some ⟨gm, 0, none⟩ else some ⟨gm, x.at', none⟩) (ML - x.at') (fun h => ⟨gm, hvm, if_neg (by omega)⟩))
                refine wp_normal ?_
                refine wp_region_plan 13 (BelM w3) rfl ?_
                refine wpN_pure [1, 2, 3, 5, 7, 9] (by kernel_rfl) (by kernel_rfl) (by kernel_rfl) (fun _ _ _ _ _ h => h) (fun _ => S0) ?_
                simp only [pick, List.map_cons, List.map_nil, List.getElem?_cons_succ, List.getElem?_cons_zero, Option.getD_some]
                repeat (go_big_quiet_step (fail))
                refine wpQuiet_nil ?_
                refine wpN_seg [4, 6, 8, 10, 11, 12] (by kernel_rfl) (by kernel_rfl) (by kernel_rfl) (by kernel_rfl) (by decide) (fun _ _ _ _ _ h => h) S0 ?_
                simp only [pick, List.map_cons, List.map_nil, List.getElem?_cons_succ, List.getElem?_cons_zero, Option.getD_some]
                repeat (go_big_quiet_step (fail))
                refine wpQuiet_nil ?_
                rw [show x.at' + x.len - x.at' = x.len by omega]
                generalize (if ML = x.at' then (some ⟨gm, 0, none⟩ : Option Addr) else some ⟨gm, x.at', none⟩) = A at *
                generalize ML - x.at' = C at *
                clear e6 e1 e2 ne
                refine wpN_one 0 _ (by kernel_rfl) rfl ?_
                refine NextAt.held ?_
                intro K hK
                go_simp
                have AZ : ((w3.alloc (.cells #[] 5)).drew).heap[w3.heap.size]? = _ := heap_alloc_new w3 (.cells #[] 5)
                have BZ : BelM w3 ((w3.alloc (.cells #[] 5)).drew) := ((Below.refl _ _).alloc (Nat.le_refl _) _).drew
                refine hK _ _ BZ ?_
                clear hK K
    
                obtain ⟨v, w9, hrun, hrow, hb9⟩ := RUN.out _ w3.heap.size AZ (Nat.le_refl _) BZ
                obtain ⟨va', vc', hva'⟩ := wrow_sh hrow
                subst hva'
                refine wpN_one 13 _ (by kernel_rfl) rfl ?_
                refine NextAt.free (by kernel_rfl) ?_
                intro K hK
                refine step_append_known rfl (.tmp 134) (.tmp 146) 38 rfl _ _ _ (by rfl) (by rfl) hrun ?_
                go_simp
                refine hK _ _ ?_
                clear hK K
                refine wpN_pure [14] (by kernel_rfl) (by kernel_rfl) (by kernel_rfl) (fun _ _ _ _ _ h => h) (fun h => by cases h) ?_
                simp only [pick, List.map_cons, List.map_nil, List.getElem?_cons_succ, List.getElem?_cons_zero, Option.getD_some]
                repeat (go_big_quiet_step (fail))
                refine wpQuiet_nil ?_
                refine wpN_done (by kernel_rfl) ?_
                have FF := Lib.hid (And.intro hb9 hrow)
                clear hrun hrow hb9 S0 AZ BZ
                go_wp2_with fail
                go_meet
                exact ⟨_, _, rfl, FF.out.1, FF.out.2⟩
            case rest =>
              obtain ⟨a15, c15, rfl, hb4, hrow4⟩ := hcut
              have M4 := Lib.hid (M3.out.below hb4)
              have B4 := Lib.hid (B3.out.trans (hb4.mono B3.out.size))
              have N4 := Lib.hid ((hb4.block _ (lt_of N3.out)).trans N3.out)
              have HR4 := Lib.hid hrow4
              have HB4 := Lib.hid hb4
              have FT := Lib.hid (fitR_any M4.out z z1 (fun y hy => by have := (HM.out.hb y hy).2.2; rw [HML.out] at this; omega))
              unfold FtPost at FT
              clear hb4 hrow4 o0 o1 o2 c6
              go_wp2_with fail
              refine FT.out.mono ?_
              rintro e w5 (⟨hzM, rfl, hb5⟩ | ⟨hzM, rfl, vm', F', m5, hMT, hF2, ht5⟩)
              · have FIN : Hid (RrzPost w F rp pp M S kept vm vb vk vks q N (.returned (.tuple #[.bool false, .int .i64 12])) w5) := Lib.hid (KEY.out _ _ (Or.inl ⟨12, by decide, hxl, HST.out, ZNO.out hzM, rfl, B4.out.trans (hb5.mono B4.out.size)⟩))
                clear hb5 FT KEY
                go_wp2_with fail
                go_ret2
                exact FIN.out
              · have hml : (S.mem' z).mem.length = z := reM_len S.mem z
                obtain ⟨gm, hvm, _, _⟩ := m5.bytes (by rw [hml]; omega)
                rw [hml] at hvm
                have hgt : at' < z := by omega
                have l4 : ∀ k, F k → k < w3.heap.size := fun k hk => by have := HFL.out k hk; have := B3.out.size; omega
                have r4 : ∀ k, (Value.slice a15 x.len c15).ownBlock = some k → w3.heap.size ≤ k ∧ k < wc.heap.size := fun k hk => HR4.out.lt k hk
                have hrow5 := ownsRow_same HR4.out (fun k hk => ht5.block k (r4 k hk).2 (fun e => by have := l4 k e.1; have := (r4 k hk).1; omega))
                have r15 : ∀ k, (Value.slice a15 x.len c15).ownBlock = some k → vm'.ownBlock ≠ some k := fun k hk e => by
                  have h1 := r4 k hk
                  rcases hMT with ⟨rfl, _⟩ | ⟨_, h2⟩
                  · have := l4 k (HM.out.mem.2 k e); omega
                  · have := h2 k e; omega
                obtain ⟨w6, CLR, m6, t6⟩ := m5.clr at' N (z - at') (some ⟨gm, at', none⟩) (by rw [hml]; exact z3) (fun _ => ⟨gm, by rw [hml]; exact hvm, rfl⟩)
                have hrow6 := ownsRow_same hrow5 (fun k hk => t6.block k (hrow5.lt k hk).2 (r15 k hk))
                have hml6 : (fill 0 (S.mem' z).mem at' N).length = z := by rw [fill_len]; exact hml
                have ho : (octB S.mem x).length = x.len := octB_len (by rw [HML.out]; exact hin)
                have rd6 : Reads w6 .u8 (.slice a15 x.len c15) (octB S.mem x) := by
                  have h1 := row_low hrow6 (Nat.zero_le _)
                  rw [← ho] at h1 ⊢
                  exact Reads.own h1 (by rw [ho]; omega)
                obtain ⟨w7, CPY, m7, t7⟩ := m6.put at' (z - at') x.len c15 (some ⟨gm, at', none⟩) a15 (octB S.mem x) (by show _ ≤ (fill 0 (S.mem' z).mem at' N).length; rw [hml6]; omega) (by omega) (fun _ => ⟨gm, by show vm' = .slice _ (fill 0 (S.mem' z).mem at' N).length (fill 0 (S.mem' z).mem at' N).length; rw [hml6]; exact hvm, rfl⟩) rd6 (fun u hu => HM.out.mb u (List.mem_of_mem_drop (List.mem_of_mem_take hu)))
                have c6 := m5.cells.2.2.2.2.2.2.1
                have c6' := m6.cells.2.2.2.2.2.2.1
                rw [hvm] at c6 c6'
                have N5 := (ht5.block _ (lt_of N4.out) (fun e => by have := HFL.out r e.1; have := HNX.out; omega)).trans N4.out
                have nvr : vm'.ownBlock ≠ some r := fun e => by
                  obtain ⟨c2, h2⟩ := row_block m5.mem.1 e
                  rw [N5] at h2; simp at h2
                have N7 := Lib.hid (((t6.trans t7 (fun k hk => Or.inl hk)).block _ (lt_of N5) nvr).trans N5)
                have M7 := Lib.hid m7
                have hs4 : w.heap.size ≤ wc.heap.size := B4.out.size
                have T7 : Hid (Touch (Lost F vm vm') w w7) := Lib.hid (((Touch.of_below B4.out).then ht5).trans (t6.trans t7 (fun k hk => Or.inl hk)) (fun k hk => (hF2 k (m5.mem.2 k hk)).imp id (fun e => Nat.le_trans hs4 e)))
                have HF2 : Hid (∀ k, F' k → Lost F vm vm' k ∨ w.heap.size ≤ k) := Lib.hid (fun k hk => (hF2 k hk).imp id (fun e => Nat.le_trans hs4 e))
                have HMT := Lib.hid (hMT.mono hs4)
                have HOV := Lib.hid ho
                have HVB7 := Lib.hid m7.row.2
                clear m7 t7 m6 t6 ht5 hF2 hMT m5 hrow5 hrow6 rd6 N5 nvr r15 r4 l4 FT hml hml6 ho hvm hs4
                go_upto_region 29 with fail
                clear c6 c6' CLR CPY
                obtain ⟨c7, d0, d1, d2, dz⟩ := CELL.out _ _ _ _ _ M7.out HX.out
                obtain ⟨m8, t8⟩ := (M7.out.below ((Below.refl w7.heap.size w7).drew)).set1 (y := ⟨x.h, at', x.len⟩) (r := 1) (v := .int .i64 (at' : Int)) HX.out (by decide) rfl rfl (by show at' + x.len ≤ (splice (fill 0 (S.mem' z).mem at' N) at' (octB S.mem x)).length; rw [splice_ln (by rw [fill_len, HOV.out]; show _ ≤ (reM S.mem z).length; rw [reM_len]; omega), fill_len]; show _ ≤ (reM S.mem z).length; rw [reM_len]; omega) HVB.out
                have hx8 : (S.bl.set i ⟨x.h, at', x.len⟩)[i]? = some ⟨x.h, at', x.len⟩ := by rw [List.getElem?_set_self (List.getElem?_eq_some_iff.1 HX.out).1]
                obtain ⟨_, _, _, d28, dz8⟩ := CELL.out _ _ _ _ _ m8 hx8
                obtain ⟨m9, t9⟩ := m8.set1 (y := ⟨x.h, at', N⟩) (r := 2) (v := .int .i64 (N : Int)) hx8 (by decide) rfl rfl (by show at' + N ≤ (splice (fill 0 (S.mem' z).mem at' N) at' (octB S.mem x)).length; rw [splice_ln (by rw [fill_len, HOV.out]; show _ ≤ (reM S.mem z).length; rw [reM_len]; omega), fill_len]; show _ ≤ (reM S.mem z).length; rw [reM_len]; omega) HVB.out
                have e9 : (S.bl.set i ⟨x.h, at', x.len⟩).set i ⟨x.h, at', N⟩ = S.bl.set i ⟨x.h, at', N⟩ := List.set_set _
                have m9 : RfMem ((((w7.drew).setCell ⟨g, off + i * 3 + 1, none⟩ (.int .i64 (at' : Int))).setCell ⟨g, off + i * 3 + 2, none⟩ (.int .i64 (N : Int)))) F' rp pp M { S with mem := splice (fill 0 (S.mem' z).mem at' N) at' (octB S.mem x), bl := S.bl.set i ⟨x.h, at', N⟩ } kept vm' vb vk vks := by rw [← e9]; exact m9
                have nvb : vb.ownBlock ≠ some r := fun e => by
                  obtain ⟨c2, h2⟩ := HM.out.row.1.block e
                  have := lt_of h2
                  have := HNX.out
                  omega
                have N9 := ((t8.trans t9 (fun k hk => Or.inl hk)).block r (lt_of N7.out) nvb).trans (show (w7.drew).heap[r]? = _ from N7.out)
                have emem : splice (fill 0 (S.mem' z).mem at' N) at' (octB S.mem x) = fill 0 (splice (reM S.mem z) at' (octB (reM S.mem z) x)) (at' + x.len) (N - x.len) := by
                  rw [octB_reM (by rw [HML.out]; exact hin) (by rw [HML.out]; exact z2)]
                  have h1 := splice_fill (m := reM S.mem z) (o := octB S.mem x) (a := at') (n := N) (by rw [reM_len]; exact z3) (by rw [HOV.out]; omega)
                  rw [HOV.out] at h1
                  exact h1
                have FIN : Hid (RrzPost w F rp pp M S kept vm vb vk vks q N (.returned (.tuple #[.bool ((at' : Int) != (x.at' : Int)), .int .i64 0])) (((w7.drew).setCell ⟨g, off + i * 3 + 1, none⟩ (.int .i64 (at' : Int))).setCell ⟨g, off + i * 3 + 2, none⟩ (.int .i64 (N : Int)))) := Lib.hid (by
                  rw [ne_bool]
                  refine KEY.out _ _ (Or.inr ⟨⟨x.h, at', N⟩, rfl, _, vm', F', Or.inr (Or.inr ⟨hxl, HST.out, at', reM S.mem z, ZOK.out hzM, by rw [reM_len]; exact z3, by rw [reM_len, HML.out]; exact z2, rfl, emem⟩), m9, ?_, HF2.out, ?_⟩)
                  · rw [splice_ln (by rw [fill_len, HOV.out]; show _ ≤ (reM S.mem z).length; rw [reM_len]; omega), fill_len, show (S.mem' z).mem.length = z from reM_len _ _]
                    exact HMT.out
                  · exact (T7.out.then (Touch.of_below ((Below.refl w7.heap.size w7).drew))).trans (t8.trans t9 (fun k hk => Or.inl hk)) (fun k hk => HF2.out k (HVB7.out k hk)))
                have f1 := dz (off + i * 3 + 1)
                have f2 := dz (off + i * 3 + 2)
                obtain ⟨bv, hbv⟩ : ∃ bv, ((at' : Int) != (x.at' : Int)) = bv := ⟨_, rfl⟩
                rw [hbv] at FIN
                clear m8 t8 m9 t9 e9 nvb emem dz dz8 hx8 KEY d0
                have S0 : (fun y : World => y = w7.drew) w7.drew := rfl
                have g7 : ∀ y : WIn (fun y : World => y = w7.drew), y.w.cell? ⟨rp, 7, none⟩ = some (.slice (some ⟨g, off, none⟩) NB cap) := fun y => by rw [y.h]; exact c7
                haveI ne : Nonempty (WIn (fun y : World => y = w7.drew)) := ⟨⟨w7.drew, S0⟩⟩
                refine wp_normal ?_
                refine wp_region_plan 14 (fun y : World => y = w7.drew) rfl ?_
                refine wpN_pure [0, 1, 2, 4, 5, 6, 7, 9, 10, 11] (by kernel_rfl) (by kernel_rfl) (by kernel_rfl) (fun _ _ _ _ _ h => h) (fun _ => S0) ?_
                simp only [pick, List.map_cons, List.map_nil, List.getElem?_cons_succ, List.getElem?_cons_zero, Option.getD_some]
                repeat (go_big_quiet_step (fail))
                refine wpQuiet_nil ?_
                refine wpN_segX [3, 8, 14] [3, 8] (by kernel_rfl) (by kernel_rfl) (by kernel_rfl) (by kernel_rfl) (by decide) (fun _ _ _ _ _ h => h) S0 ?_
                simp only [pick, List.map_cons, List.map_nil, List.getElem?_cons_succ, List.getElem?_cons_zero, Option.getD_some]
                repeat (go_big_quiet_step (fail))
                refine wpQuiet_nil ?_
                clear g7 ne c7
                refine wpN_pure [12, 13] (by kernel_rfl) (by kernel_rfl) (by kernel_rfl) (fun _ _ _ _ _ h => h) (fun _ => S0) ?_
                simp only [pick, List.map_cons, List.map_nil, List.getElem?_cons_succ, List.getElem?_cons_zero, Option.getD_some]
                repeat (go_big_quiet_step (fail))
                refine wpQuiet_nil ?_
                have d1' : (w7.drew).cell? ⟨g, off + i * 3 + 1, none⟩ = some (.int .i64 (x.at' : Int)) := d1
                have f1' : (w7.drew).frozen? ⟨g, off + i * 3 + 1, none⟩ = false := f1
                refine wpN_one 14 _ (by kernel_rfl) rfl ?_
                refine NextAt.free (by kernel_rfl) ?_
                intro K hK
                go_simp
                refine hK _ _ ?_
                clear hK K
                clear S0 d1' f1'
                refine wpN_pure [15, 16] (by kernel_rfl) (by kernel_rfl) (by kernel_rfl) (fun _ _ _ _ _ h => h) (fun h => by cases h) ?_
                simp only [pick, List.map_cons, List.map_nil, List.getElem?_cons_succ, List.getElem?_cons_zero, Option.getD_some]
                repeat (go_big_quiet_step (fail))
                refine wpQuiet_nil ?_
                refine wpN_one 17 _ (by kernel_rfl) rfl ?_
                refine NextAt.free (by kernel_rfl) ?_
                intro K hK
                go_simp
                refine hK _ _ ?_
                clear hK K
                refine wpN_done (by kernel_rfl) ?_
                have N9' : ((((w7.setCell ⟨g, off + i * 3 + 1, none⟩ (.int .i64 (at' : Int))).setCell ⟨g, off + i * 3 + 2, none⟩ (.int .i64 (N : Int))).drew).heap)[r]? = _ := N9
                have FIN2 : Hid (RrzPost w F rp pp M S kept vm vb vk vks q N (.returned (.tuple #[.bool bv, .int .i64 0])) (((w7.setCell ⟨g, off + i * 3 + 1, none⟩ (.int .i64 (at' : Int))).setCell ⟨g, off + i * 3 + 2, none⟩ (.int .i64 (N : Int))).drew)) := FIN
                clear FIN N9 d1 d2 f1 f2 d28
                generalize ((w7.setCell ⟨g, off + i * 3 + 1, none⟩ (.int .i64 (at' : Int))).setCell ⟨g, off + i * 3 + 2, none⟩ (.int .i64 (N : Int))).drew = W9 at *
                obtain ⟨o0, o1, o2⟩ := cells3h N9'
                clear N9'
                go_wp2_with fail
                go_ret2
                exact FIN2.out

end Go.Proofs.YtjogaohnphafgaaGreat
