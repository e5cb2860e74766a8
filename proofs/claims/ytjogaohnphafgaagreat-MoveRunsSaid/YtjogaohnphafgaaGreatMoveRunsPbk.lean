/-
  The reference's heap: Trim. No conditions but bounds, blocks apart, and where empty blocks lie.
  A heap: Trim. No conditions but bounds, blocks apart, and where empty blocks lie.
-/
import Derived.Test.YtjogaohnphafgaaGreatMoveRunsPbj
import Derived.Test.YtjogaohnphafgaaGreatMoveRunsPaf

namespace Go.Proofs.YtjogaohnphafgaaGreat
section
open Go.RowKit
set_option linter.unusedVariables false

theorem reM_less {o : List Int} {z : Nat} (h : z ≤ o.length) : reM o z = o.take z := by
  unfold reM zeros
  rw [Nat.sub_eq_zero_of_le h]
  simp
theorem shrink_bd {k s m : Int} {N e : Nat} (hp : polErr k s m = 0) (hN : N ≤ 100000) (he : e ≤ N) : ∃ z : Nat, shrinkV k s m (N : Int) (e : Int) = (z : Int) ∧ e ≤ z ∧ z ≤ N := by
  obtain ⟨pk, ps, pm⟩ := pol_ok hp
  have ev : shrinkV k s m (N : Int) (e : Int) = shrV k (N : Int) (e : Int) (gV k s m 0 (e : Int)) (gE m 0 (e : Int)) := by unfold shrinkV; rw [if_pos ⟨hp, ⟨by omega, by omega⟩, by omega, by omega⟩]
  rw [ev]
  unfold shrV
  split
  · next hc =>
    obtain ⟨h1, h2, _⟩ := hc
    have hge : (e : Int) ≤ gV k s m 0 (e : Int) := by
      by_cases h0 : (e : Int) ≤ 0
      · unfold gV; rw [if_pos h0]; exact h0
      · have hem : (e : Int) ≤ m := by
          unfold gE at h1
          rw [if_neg h0] at h1
          split at h1
          · cases h1
          · omega
        rw [← growR_gV hem]
        exact growR_ge pk ps ⟨by omega, by omega⟩ hem (by omega)
    exact ⟨(gV k s m 0 (e : Int)).toNat, by omega, by omega, by omega⟩
  · exact ⟨N, rfl, he, Nat.le_refl _⟩

/-- append of octets to an empty row with room for just them. -/
theorem append_fit {W : World} {g z c : Nat} {a : Option Addr} {zs : List Int} (hg : byteRow W g (zeros z)) (hr : Reads W .u8 (.slice a z c) zs) (ty : TypeId) :
    ∃ w', (Builtin.append_ #[38, 38] ty #[.slice (some ⟨g, 0, none⟩) 0 z, .slice a z c]).run Tryz.prog W = .ok (.slice (some ⟨g, 0, none⟩) z z) w' ∧ byteRow w' g zs ∧ Touch (fun k => k = g) W w' := by
  obtain ⟨i0, hi0, hz0, hz1, hz2⟩ := info_parts byteInfo0
  obtain ⟨hl, hs⟩ := reads_src hr
  by_cases h0 : z = 0
  · subst h0
    have e : zs = [] := List.eq_nil_of_length_eq_zero hl
    subst e
    refine ⟨W, ?_, hg, Touch.refl _ _⟩
    cases a with
    | none => exact run_append_nothing W _ ty _ i0 Tryz.underlying38 hi0 g 0 0 0 c (Nat.le_refl _)
    | some a => exact run_append_room_cells (P := Tryz.prog) (w := W) 38 ty 5 i0 Tryz.underlying38 hi0 g 0 0 0 a 0 c [] (by simp) (fun j u h => by simp at h) (by simp) (Nat.le_refl _) (by simp) (by simp)
  · obtain ⟨ad, rfl, hc⟩ := hs (by omega)
    have hln : (zs.map (Value.int .u8)).length = z := by rw [List.length_map, hl]
    have hrun := run_append_room_cells (P := Tryz.prog) (w := W) 38 ty 5 i0 Tryz.underlying38 hi0 g 0 0 z ad z c (zs.map (Value.int .u8)) (by rw [hln, hz1, Nat.mul_one]) (fun j u hj => by
      rw [List.getElem?_map] at hj
      cases hx : zs[j]? with
      | none => rw [hx] at hj; cases hj
      | some v => rw [hx] at hj; cases hj; exact hc j v hx) (by intro u hu; obtain ⟨v, _, rfl⟩ := List.mem_map.1 hu; rfl) (by omega)
      (fun j hj => by
        rw [hln] at hj
        rw [Nat.zero_mul, Nat.zero_add, hg.cell j (by simp [zeros]; exact hj)]; rfl) (fun j hj => free_of hg _)
    rw [Nat.zero_add, Nat.zero_mul, Nat.zero_add] at hrun
    refine ⟨_, hrun, ?_, ?_⟩
    · obtain ⟨cur', k1, k2, k3⟩ := block_setCells (zs.map (Value.int .u8)) 0 W _ hg (by rw [hln]; simp [zeros])
      unfold byteRow
      rw [k1]
      have e : cur' = (zs.map (Value.int .u8)).toArray := by
        apply Array.ext'
        rw [k3, hln]
        simp [zeros]
      rw [e]
    · obtain ⟨r1, r2, r3⟩ := setCells_rest g (zs.map (Value.int .u8)) 0 W
      exact ⟨r1, r2, r3, by rw [size_setCells]; exact Nat.le_refl _, fun k hk hne => heap_setCells_other g _ 0 W k hne⟩

def RtPost (w : World) (F : Nat → Prop) (rp pp M : Nat) (S : HpSt) (kept : List (List Blk)) (vm vb vk : Value) (vks : List Value) (L : List Blk) : Ending → World → Prop := fun e w' =>
  (S.closed = true ∧ e = .returned (.tuple #[.int .i64 0, .int .i64 11]) ∧ Below w.heap.size w w') ∨
  (S.closed = false ∧ ∃ z : Nat, shrinkV S.k S.s S.m (S.mem.length : Int) (endL L : Int) = (z : Int) ∧ e = .returned (.tuple #[.int .i64 ((S.mem.length : Int) - (z : Int)), .int .i64 0]) ∧
    ((z = S.mem.length ∧ Below w.heap.size w w') ∨ (z < S.mem.length ∧ ∃ (vm' : Value) (F' : Nat → Prop), RfMem w' F' rp pp M (S.mem' z) kept vm' vb vk vks ∧ MemTo w.heap.size S.mem.length z vm vm' ∧ (∀ k, F' k → Lost F vm vm' k ∨ w.heap.size ≤ k) ∧ Touch (Lost F vm vm') w w')))

set_option maxHeartbeats 4000000 in
set_option maxRecDepth 100000 in
theorem trimR_any {w : World} {F : Nat → Prop} {rp pp M : Nat} {S : HpSt} {kept : List (List Blk)} {vm vb vk : Value} {vks : List Value} (m : RfMem w F rp pp M S kept vm vb vk vks) (hap : S.bl.Pairwise apartB) (hp : polErr S.k S.s S.m = 0) (hz0 : ∀ x ∈ S.bl, x.len = 0 → x.at' = 0) {L : List Blk} (hL : SortedL (lieL S.bl) L) :
    Calls Tryz.prog 25 #[.pointer (some ⟨rp, 0, none⟩)] w (RtPost w F rp pp M S kept vm vb vk vks L) := by
  have c4 := m.cells.2.2.2.2.1
  cases hc : S.closed with
  | true =>
    rw [hc] at c4
    have FIN : Hid (RtPost w F rp pp M S kept vm vb vk vks L (.returned (.tuple #[.int .i64 0, .int .i64 11])) w) := Lib.hid (Or.inl ⟨hc, rfl, Below.refl _ _⟩)
    clear m hc
    go_enter Tryz.func25, Tryz.ntmps25
    go_wp2_with fail
    go_ret2
    exact FIN.out
  | false =>
    have HM := Lib.hid m
    rw [hc] at c4
    obtain ⟨c0, c1, c2, c3, _, c5, c6, _⟩ := m.cells
    obtain ⟨ma, mc, hvm, hmc1, hmc2, _⟩ := m.memory
    have hb1 := m.big.1
    have hbM := m.big.2.2.2.2.2
    have hend := endL_le hL (fun x hx => (m.hb x hx).2.2)
    obtain ⟨z, hz, hze, hzN⟩ := shrink_bd (k := S.k) (s := S.s) (m := S.m) hp hb1 hend
    obtain ⟨pk, ps, pm⟩ := pol_ok hp
    have hin : ∀ x ∈ S.bl, x.at' + x.len ≤ z := fun x hx => by
      by_cases h0 : x.len = 0
      · rw [h0, hz0 x hx h0]; exact Nat.zero_le _
      · have hxl : x ∈ L := hL.1.mem_iff.2 (by unfold lieL; simp [hx, h0])
        have := endL_ge L (chain_of hL hap) x hxl
        omega
    have HIN := Lib.hid hin
    have EN : Hid (∀ W, Below w.heap.size w W → Calls Tryz.prog 54 #[.pointer (some ⟨rp, 0, none⟩)] W (fun e W' => e = .returned (.int .i64 (endL L : Int)) ∧ Below W.heap.size W W')) := Lib.hid (fun W hW => by
      refine (endR_any (HM.out.below hW)).mono ?_
      rintro e W' ⟨L', hs, rfl, hb⟩
      rw [← sorted_one hL hs hap]
      exact ⟨rfl, hb⟩)
    have SH := Lib.hid (fun W => shrunkR_any S.k S.s S.m (S.mem.length : Int) (endL L : Int) W hp pk ps pm ⟨by omega, by omega⟩ ⟨by omega, by omega⟩)
    unfold WPost at SH
    rw [hz] at SH
    have FIN : Hid (∀ w', ((z = S.mem.length ∧ Below w.heap.size w w') ∨ (z < S.mem.length ∧ ∃ (vm' : Value) (F' : Nat → Prop), RfMem w' F' rp pp M (S.mem' z) kept vm' vb vk vks ∧ MemTo w.heap.size S.mem.length z vm vm' ∧ (∀ k, F' k → Lost F vm vm' k ∨ w.heap.size ≤ k) ∧ Touch (Lost F vm vm') w w')) → RtPost w F rp pp M S kept vm vb vk vks L (.returned (.tuple #[.int .i64 ((S.mem.length : Int) - (z : Int)), .int .i64 0])) w') := Lib.hid (fun w' h => Or.inr ⟨hc, z, hz, rfl, h⟩)
    generalize endL L = E at *
    obtain ⟨N, hN⟩ : ∃ N, S.mem.length = N := ⟨_, rfl⟩
    have HN := Lib.hid hN
    have HVM := Lib.hid hvm
    rw [hvm, hN] at c6
    rw [hN] at FIN SH hb1 hbM hend hzN hmc1
    obtain ⟨hrl, hpl, hrp⟩ := m.lt
    have S0 : BelM w w.drew := (Below.refl _ w).drew
    have e1 : ∀ z : WIn (BelM w), z.w.cell? ⟨rp, 1, none⟩ = some (.int .i64 S.k) := fun z => old_cell z.h c1
    have e2 : ∀ z : WIn (BelM w), z.w.cell? ⟨rp, 2, none⟩ = some (.int .i64 S.s) := fun z => old_cell z.h c2
    have e3 : ∀ z : WIn (BelM w), z.w.cell? ⟨rp, 3, none⟩ = some (.int .i64 S.m) := fun z => old_cell z.h c3
    haveI ne : Nonempty (WIn (BelM w)) := ⟨⟨w.drew, S0⟩⟩
    clear m hap hp hz0 hL hc hvm hN hz hin hze pk ps pm c1 c2 c3 c5
    go_enter Tryz.func25, Tryz.ntmps25
    go_upto_region 4 with fail
    refine wp_normal ?_
    refine wp_region_plan 7 (BelM w) rfl ?_
    refine wpN_seg [0, 1, 2, 3, 4, 5] (by kernel_rfl) (by kernel_rfl) (by kernel_rfl) (by kernel_rfl) (by decide) (fun _ _ _ _ _ h => h) S0 ?_
    simp only [pick, List.map_cons, List.map_nil, List.getElem?_cons_succ, List.getElem?_cons_zero, Option.getD_some]
    repeat (go_big_quiet_step (fail))
    refine wpQuiet_nil ?_
    clear e1 e2 e3 ne
    refine wpN_one 6 _ (by kernel_rfl) rfl ?_
    refine NextAt.held ?_
    intro K hK
    go_simp
    refine (EN.out _ S0).mono ?_
    rintro e w1 ⟨rfl, hb⟩
    have S1 : BelM w w1 := S0.trans (hb.mono (Nat.le_refl _))
    go_simp
    refine hK _ _ S1 ?_
    clear hK K hb
    refine wpN_one 7 _ (by kernel_rfl) rfl ?_
    refine NextAt.free (by kernel_rfl) ?_
    intro K hK
    go_simp
    refine (SH.out _).mono ?_
    rintro e w2 ⟨rfl, hb⟩
    have HB2 : Hid (Below w.heap.size w w2) := Lib.hid (Below.trans (a := w) S1 (hb.mono (show w.heap.size ≤ w1.heap.size from S1.size)))
    go_simp
    refine hK _ _ ?_
    clear hK K hb S0 S1 EN SH
    refine wpN_pure [8] (by kernel_rfl) (by kernel_rfl) (by kernel_rfl) (fun _ _ _ _ _ h => h) (fun h => by cases h) ?_
    simp only [pick, List.map_cons, List.map_nil, List.getElem?_cons_succ, List.getElem?_cons_zero, Option.getD_some]
    repeat (go_big_quiet_step (fail))
    refine wpQuiet_nil ?_
    refine wpN_done (by kernel_rfl) ?_
    have c6 := old_cell HB2.out c6
    have c0 := old_cell HB2.out c0
    by_cases hlt : z < N
    · have PC := Lib.hid (purse_any pp M N z w2 (by rw [← HN.out]; exact (HM.out.below HB2.out).purse) (by omega) hbM.1 (by omega))
      have hlt' : (z : Int) < (N : Int) := by omega
      go_wp2_with fail
      refine PC.out.mono ?_
      rintro e w3 (⟨hM, rfl, hb⟩ | ⟨hM, rfl, q, rfl⟩)
      · omega
      · go_upto_region 7 with fail
        have m2 := HM.out.below HB2.out
        have PU : Hid (((w2.drewN q).setCell ⟨pp, 0, none⟩ (.int .i64 (z : Int))).heap[pp]? = some (.cells #[.int .i64 (z : Int), .int .i64 (M : Int)] 37 (0, 0))) := Lib.hid (block_setCell (show (w2.drewN q).heap[pp]? = _ from m2.purse) 0 _)
        have KP : Hid (∀ k, k ≠ pp → ((w2.drewN q).setCell ⟨pp, 0, none⟩ (.int .i64 (z : Int))).heap[k]? = w2.heap[k]?) := Lib.hid (fun k hk => Below.heap_setCell (w2.drewN q) ⟨pp, 0, none⟩ _ k hk)
        have TT : Hid (Touch (fun k => k = pp) w2 ((w2.drewN q).setCell ⟨pp, 0, none⟩ (.int .i64 (z : Int)))) := Lib.hid (Touch.setCell (F := fun k => k = pp) ((Touch.refl (fun k => k = pp) w2).drewN q) (p := ⟨pp, 0, none⟩) (Or.inl rfl) _)
        have SZ3 : Hid (((w2.drewN q).setCell ⟨pp, 0, none⟩ (.int .i64 (z : Int))).heap.size = w2.heap.size) := Lib.hid (by simp [World.setCell])
        generalize (w2.drewN q).setCell ⟨pp, 0, none⟩ (.int .i64 (z : Int)) = W3 at *
        obtain ⟨g, hg, hrowm, _⟩ := m2.bytes (by rw [HN.out]; omega)
        have hgp : g ≠ pp := fun e => by
          have h1 : w2.heap[g]? = _ := hrowm
          rw [e, m2.purse] at h1
          simp at h1
        have hrow3 : byteRow W3 g S.mem := (KP.out g hgp).trans hrowm
        have s3 := (KP.out rp hrp).trans m2.self
        have c63 : W3.cell? ⟨rp, 6, none⟩ = some (.slice (some ⟨g, 0, none⟩) N N) := by rw [cell_of s3, ← HN.out, ← hg]; rfl
        have rd3 : Reads W3 .u8 (.slice (some ⟨g, 0, none⟩) z N) (S.mem.take z) := by
          have hl : (S.mem.take z).length = z := by rw [List.length_take, HN.out]; omega
          refine ⟨_, N, by rw [hl], by rw [hl]; omega, fun _ => ⟨g, 0, rfl, fun j hj => ?_⟩⟩
          rw [hl] at hj
          rw [Nat.zero_add, hrow3.cell j (by rw [HN.out]; omega)]
          simp [List.getD_eq_getElem?_getD, hj]
        have HS3 := Lib.hid s3
        have HRD := Lib.hid rd3
        have HR3 := Lib.hid hrow3
        have MK := fun W => run_makeBytes W 0 (z : Int) (by omega) (by omega) (by omega)
        simp only [Int.toNat_natCast, Int.toNat_zero] at MK
        have S3 : BelM W3 W3.drew := (Below.refl _ W3).drew
        have e6 : ∀ y : WIn (BelM W3), y.w.cell? ⟨rp, 6, none⟩ = some (.slice (some ⟨g, 0, none⟩) N N) := fun y => old_cell y.h c63
        haveI ne : Nonempty (WIn (BelM W3)) := ⟨⟨W3.drew, S3⟩⟩
        clear s3 hrow3 rd3 hrowm hg m2 c0 c6 c63 PC
        refine wp_normal ?_
        refine wp_region_plan 12 (BelM W3) rfl ?_
        refine wpN_seg [0, 1, 3, 4, 5, 6, 7, 8] (by kernel_rfl) (by kernel_rfl) (by kernel_rfl) (by kernel_rfl) (by decide) (fun _ _ _ _ _ h => h) S3 ?_
        simp only [pick, List.map_cons, List.map_nil, List.getElem?_cons_succ, List.getElem?_cons_zero, Option.getD_some]
        repeat (go_big_quiet_step (fail))
        refine wpQuiet_nil ?_
        clear e6 ne
        refine wpN_one 2 _ (by kernel_rfl) rfl ?_
        refine NextAt.held ?_
        intro K hK
        go_simp
        have B4 : Below W3.heap.size W3 ((W3.alloc (.cells ((zeros z).map (Value.int .u8)).toArray 5)).drew) := ((Below.refl _ _).alloc (Nat.le_refl _) _).drew
        have N4 : byteRow ((W3.alloc (.cells ((zeros z).map (Value.int .u8)).toArray 5)).drew) W3.heap.size (zeros z) := heap_alloc_new _ _
        refine hK _ _ B4 ?_
        clear hK K
        obtain ⟨w9, hrun, hrow9, ht9⟩ := append_fit N4 (HRD.out.below B4 rfl) 38
        have B9 : BelM W3 w9 := Below.trans (a := W3) B4 (ht9.below B4.size (fun k hk => by omega))
        have s9 := (B9.block rp (by have := SZ3.out; have := HB2.out.size; omega)).trans HS3.out
        have fz9 := free_of s9 6
        have e6 : w9.cell? ⟨rp, 6, none⟩ = some vm := (cell_of s9 6).trans rfl
        have g9 : W3.heap.size < w9.heap.size := lt_of hrow9
        refine wpN_one 9 _ (by kernel_rfl) rfl ?_
        refine NextAt.held ?_
        intro K hK
        refine step_append_known rfl (.tmp 35) (.tmp 41) 38 rfl _ _ _ (by rfl) (by rfl) hrun ?_
        go_simp
        refine hK _ _ B9 ?_
        clear hK K
        refine wpN_pure [10, 11] (by kernel_rfl) (by kernel_rfl) (by kernel_rfl) (fun _ _ _ _ _ h => h) (fun _ => B9) ?_
        simp only [pick, List.map_cons, List.map_nil, List.getElem?_cons_succ, List.getElem?_cons_zero, Option.getD_some]
        repeat (go_big_quiet_step (fail))
        refine wpQuiet_nil ?_
        refine wpN_one 12 _ (by kernel_rfl) rfl ?_
        refine NextAt.free (by kernel_rfl) ?_
        intro K hK
        go_simp
        refine hK _ _ ?_
        clear hK K
        refine wpN_done (by kernel_rfl) ?_
        have K5 : ∀ k, k < W3.heap.size → k ≠ rp → (w9.setCell ⟨rp, 6, none⟩ (.slice (some ⟨W3.heap.size, 0, none⟩) z z)).heap[k]? = W3.heap[k]? := fun k hk hne =>
          (Below.heap_setCell w9 ⟨rp, 6, none⟩ _ k hne).trans (B9.block k hk)
        have hro5 : byteRow (w9.setCell ⟨rp, 6, none⟩ (.slice (some ⟨W3.heap.size, 0, none⟩) z z)) W3.heap.size (S.mem.take z) := hrow9.other (g' := rp) (by have := SZ3.out; have := HB2.out.size; omega) 6 _
        have m2 := HM.out.below HB2.out
        have sz3 := SZ3.out
        have hsz2 := HB2.out.size
        have RL : (S.mem' z).mem = S.mem.take z := reM_less (by rw [HN.out]; omega)
        have RLN : (S.mem.take z).length = z := by rw [List.length_take, HN.out]; omega
        have T5 : Touch (fun k => k = pp ∨ k = rp) w (w9.setCell ⟨rp, 6, none⟩ (.slice (some ⟨W3.heap.size, 0, none⟩) z z)) := Touch.setCell (F := fun k => k = pp ∨ k = rp) (((Touch.of_below HB2.out).trans (TT.out.mono (fun k hk => Or.inl hk)) (fun k hk => Or.inl hk)).then (Touch.of_below B9)) (p := ⟨rp, 6, none⟩) (Or.inl (Or.inr rfl)) _
        have nrp : vm.ownBlock ≠ some rp := fun e => by
          obtain ⟨c2, h2⟩ := row_block HM.out.mem.1 e
          rw [HM.out.self] at h2; simp at h2
        have npp : vm.ownBlock ≠ some pp := fun e => by
          obtain ⟨c2, h2⟩ := row_block HM.out.mem.1 e
          rw [HM.out.purse] at h2; simp at h2
        have F1 := Lib.hid (FIN.out (w9.setCell ⟨rp, 6, none⟩ (.slice (some ⟨W3.heap.size, 0, none⟩) z z)) (Or.inr ⟨hlt, .slice (some ⟨W3.heap.size, 0, none⟩) z z, fun k => (F k ∧ vm.ownBlock ≠ some k) ∨ k = W3.heap.size, by
          refine m2.re2 (S' := S.mem' z) (fun k h => (Classical.em (vm.ownBlock = some k)).elim (fun e => Or.inr (by have := h.2 e; simp [Value.ownBlock] at this; exact this.symm)) (fun e => Or.inl ⟨h.1, e⟩)) (block_setCell s9 6 _) ?_ ⟨?_, ?_⟩ ?_ ?_ ⟨?_, ?_⟩ ?_ m2.ord ?_ ⟨?_, m2.big.2.1, m2.big.2.2.1, m2.big.2.2.2.1, ?_⟩
          · rw [RL, RLN]
            exact (K5 pp (by omega) (Ne.symm hrp)).trans PU.out
          · have := hro5.owns (by rw [RLN]; omega)
            rw [RL]
            rw [RLN] at this ⊢
            exact this
          · intro k hk
            simp [Value.ownBlock] at hk
            exact Or.inr hk.symm
          · rw [RL]
            exact fun u hu => m2.mb u (List.mem_of_mem_take hu)
          · right
            refine ⟨W3.heap.size, ?_⟩
            rw [RL, RLN]
          · refine m2.row.1.same (fun k hk => ?_)
            obtain ⟨cur, hc⟩ := m2.row.1.block hk
            have h1 : k ≠ rp := fun e => by rw [e, m2.self] at hc; simp at hc
            have h2 : k ≠ pp := fun e => by rw [e, m2.purse] at hc; simp at hc
            exact (K5 k (by have := lt_of hc; omega) h1).trans (KP.out k h2)
          · exact fun k hk => ⟨Or.inl ⟨m2.row.2 k hk, fun e => by
              obtain ⟨c1, h1⟩ := row_block m2.mem.1 e
              obtain ⟨c2, h2⟩ := m2.row.1.block hk
              rw [h1] at h2; simp at h2⟩, Or.inl hk⟩
          · exact fun k _ hk h1 h2 _ _ => (K5 k (by omega) h1).trans (KP.out k h2)
          · intro x hx
            have := m2.hb x hx
            refine ⟨this.1, this.2.1, ?_⟩
            rw [RL, RLN]
            exact HIN.out x hx
          · rw [RL, RLN]; omega
          · rw [RL, RLN]; exact hM, MemTo.new (by omega) (fun k hk => by simp [Value.ownBlock] at hk; omega), fun k h => h.imp (fun e => Lost.not e.1 e.2) (fun e => by omega), T5.mono (fun k hk => hk.elim (fun e => e ▸ Lost.not HM.out.fp npp) (fun e => e ▸ Lost.not HM.out.fr nrp))⟩))
        clear RL RLN T5 m2 K5 nrp npp hro5 hrow9 ht9 B9 B4 N4 s9 fz9 e6 hrun S3 MK
        generalize w9.setCell ⟨rp, 6, none⟩ (.slice (some ⟨W3.heap.size, 0, none⟩) z z) = WF at *
        clear sz3 hsz2 g9
        go_wp2_with fail
        go_ret2
        exact F1.out
    · have F1 := Lib.hid (FIN.out w2 (Or.inl ⟨by omega, HB2.out⟩))
      have hlt' : ¬ (z : Int) < (N : Int) := by omega
      clear FIN
      go_wp2_with fail
      go_ret2
      exact F1.out

end
end Go.Proofs.YtjogaohnphafgaaGreat

namespace Go.Proofs.YtjogaohnphafgaaGreat
section
open Go.RowKit
set_option linter.unusedVariables false

def MtPost (w : World) (hp bp : Nat) (S : HpSt) (vm vb vh : Value) (vhs : List Value) (F G : Nat → Prop) (M : Nat) (b : BookSt) (L : List Blk) : Ending → World → Prop := fun e w' =>
  (S.closed = true ∧ e = .returned (.tuple #[.int .i64 0, .int .i64 11]) ∧ Below w.heap.size w w') ∨
  (S.closed = false ∧ ∃ z : Nat, shrinkV S.k S.s S.m (S.mem.length : Int) (endL L : Int) = (z : Int) ∧ e = .returned (.tuple #[.int .i64 ((S.mem.length : Int) - (z : Int)), .int .i64 0]) ∧
    ((z = S.mem.length ∧ Below w.heap.size w w') ∨ (z < S.mem.length ∧ ∃ (vm2 : Value) (F' G' : Nat → Prop) (b' : BookSt), HB w' hp bp (S.mem' z) vm2 vb vh vhs F' G' M b' ∧ MemTo w.heap.size S.mem.length z vm vm2 ∧ (∀ k, F' k → Lost F vm vm2 k ∨ w.heap.size ≤ k) ∧ (∀ k, G' k → G k ∨ w.heap.size ≤ k) ∧ Touch (fun k => Lost F vm vm2 k ∨ G k) w w')))

set_option maxHeartbeats 4000000 in
set_option maxRecDepth 100000 in
theorem trimM_any {w : World} {hp bp : Nat} {S : HpSt} {vm vb vh : Value} {vhs : List Value} {F G : Nat → Prop} {M : Nat} {b : BookSt} (h : HB w hp bp S vm vb vh vhs F G M b) (hM : S.mem.length ≤ M) (hap : S.bl.Pairwise apartB) (hp' : polErr S.k S.s S.m = 0) (hz0 : ∀ x ∈ S.bl, x.len = 0 → x.at' = 0) {L : List Blk} (hL : SortedL (lieL S.bl) L) :
    Calls Tryz.prog 24 #[.pointer (some ⟨hp, 0, none⟩)] w (MtPost w hp bp S vm vb vh vhs F G M b L) := by
  obtain ⟨c0, c1, c2, c3, c4, c5, c6, _⟩ := h.hm.cells
  cases hc : S.closed with
  | true =>
    rw [hc] at c5
    have FIN : Hid (MtPost w hp bp S vm vb vh vhs F G M b L (.returned (.tuple #[.int .i64 0, .int .i64 11])) w) := Lib.hid (Or.inl ⟨hc, rfl, Below.refl _ _⟩)
    clear h hc c0 c1 c2 c3 c4 c6
    go_enter Tryz.func24, Tryz.ntmps24
    go_wp2_with fail
    go_ret2
    exact FIN.out
  | false =>
    have H := Lib.hid h
    rw [hc] at c5
    obtain ⟨ma, mc, hvm, hmc1, hmc2, _⟩ := h.hm.memory
    have hb1 := h.hm.big.1
    have hend := endL_le hL (fun x hx => (h.hm.hb x hx).2.2)
    obtain ⟨z, hz, hze, hzN⟩ := shrink_bd (k := S.k) (s := S.s) (m := S.m) hp' hb1 hend
    have hin : ∀ x ∈ S.bl, x.at' + x.len ≤ z := fun x hx => by
      by_cases h0 : x.len = 0
      · rw [h0, hz0 x hx h0]; exact Nat.zero_le _
      · have hxl : x ∈ L := hL.1.mem_iff.2 (by unfold lieL; simp [hx, h0])
        have := endL_ge L (chain_of hL hap) x hxl
        omega
    have HIN := Lib.hid hin
    have EN : Hid (∀ W, Below w.heap.size w W → Calls Tryz.prog 52 #[.pointer (some ⟨hp, 0, none⟩)] W (fun e W' => e = .returned (.int .i64 (endL L : Int)) ∧ Below W.heap.size W W')) := Lib.hid (fun W hW => by
      refine (endM_any (H.out.hm.below hW)).mono ?_
      rintro e W' ⟨L', hs, rfl, hb⟩
      rw [← sorted_one hL hs hap]
      exact ⟨rfl, hb⟩)
    have SH := Lib.hid (fun W => shrink_any S.k S.s S.m (S.mem.length : Int) (endL L : Int) W)
    unfold RetInt at SH
    have ve : shrinkE S.k S.s S.m (S.mem.length : Int) (endL L : Int) = 0 := by unfold shrinkE; rw [if_pos hp', if_pos ⟨⟨by omega, by omega⟩, by omega, by omega⟩]
    rw [hz, ve] at SH
    have FIN : Hid (∀ w', ((z = S.mem.length ∧ Below w.heap.size w w') ∨ (z < S.mem.length ∧ ∃ (vm2 : Value) (F' G' : Nat → Prop) (b' : BookSt), HB w' hp bp (S.mem' z) vm2 vb vh vhs F' G' M b' ∧ MemTo w.heap.size S.mem.length z vm vm2 ∧ (∀ k, F' k → Lost F vm vm2 k ∨ w.heap.size ≤ k) ∧ (∀ k, G' k → G k ∨ w.heap.size ≤ k) ∧ Touch (fun k => Lost F vm vm2 k ∨ G k) w w')) → MtPost w hp bp S vm vb vh vhs F G M b L (.returned (.tuple #[.int .i64 ((S.mem.length : Int) - (z : Int)), .int .i64 0])) w') := Lib.hid (fun w' h => Or.inr ⟨hc, z, hz, rfl, h⟩)
    generalize endL L = E at *
    have c1' := c2
    have RN := Lib.hid (fun W (hW : Below w.heap.size w W) => renew_any (H.out.below hW) z (by omega))
    obtain ⟨N, hN⟩ : ∃ N, S.mem.length = N := ⟨_, rfl⟩
    have HN := Lib.hid hN
    have HVM := Lib.hid hvm
    rw [hvm, hN] at c6
    rw [hN] at FIN SH hb1 hend hzN hmc1 hM
    have S0 : BelM w w.drew := (Below.refl _ w).drew
    have e1 : ∀ z : WIn (BelM w), z.w.cell? ⟨hp, 2, none⟩ = some (.int .i64 S.k) := fun z => old_cell z.h c2
    have e2 : ∀ z : WIn (BelM w), z.w.cell? ⟨hp, 3, none⟩ = some (.int .i64 S.s) := fun z => old_cell z.h c3
    have e3 : ∀ z : WIn (BelM w), z.w.cell? ⟨hp, 4, none⟩ = some (.int .i64 S.m) := fun z => old_cell z.h c4
    haveI ne : Nonempty (WIn (BelM w)) := ⟨⟨w.drew, S0⟩⟩
    clear h hap hp' hz0 hL hc hvm hN hz hin hze c0 c1 c2 c3 c4 c1' ve
    go_enter Tryz.func24, Tryz.ntmps24
    go_upto_region 4 with fail
    refine wp_normal ?_
    refine wp_region_plan 7 (BelM w) rfl ?_
    refine wpN_seg [0, 1, 2, 3, 4, 5] (by kernel_rfl) (by kernel_rfl) (by kernel_rfl) (by kernel_rfl) (by decide) (fun _ _ _ _ _ h => h) S0 ?_
    simp only [pick, List.map_cons, List.map_nil, List.getElem?_cons_succ, List.getElem?_cons_zero, Option.getD_some]
    repeat (go_big_quiet_step (fail))
    refine wpQuiet_nil ?_
    clear e1 e2 e3 ne
    refine wpN_one 6 _ (by kernel_rfl) rfl ?_
    refine NextAt.held ?_
    intro K hK
    go_simp
    refine (EN.out _ S0).mono ?_
    rintro e w1 ⟨rfl, hb⟩
    have S1 : BelM w w1 := S0.trans (hb.mono (Nat.le_refl _))
    go_simp
    refine hK _ _ S1 ?_
    clear hK K hb
    refine wpN_one 7 _ (by kernel_rfl) rfl ?_
    refine NextAt.free (by kernel_rfl) ?_
    intro K hK
    go_simp
    refine (SH.out _).mono ?_
    rintro e w2 ⟨rfl, hb⟩
    have HB2 : Hid (Below w.heap.size w w2) := Lib.hid (Below.trans (a := w) S1 (hb.mono (show w.heap.size ≤ w1.heap.size from S1.size)))
    go_simp
    refine hK _ _ ?_
    clear hK K hb S0 S1 EN SH
    refine wpN_pure [8, 9, 10, 11, 12] (by kernel_rfl) (by kernel_rfl) (by kernel_rfl) (fun _ _ _ _ _ h => h) (fun h => by cases h) ?_
    simp only [pick, List.map_cons, List.map_nil, List.getElem?_cons_succ, List.getElem?_cons_zero, Option.getD_some]
    repeat (go_big_quiet_step (fail))
    refine wpQuiet_nil ?_
    refine wpN_done (by kernel_rfl) ?_
    have R2 := Lib.hid (RN.out w2 HB2.out)
    unfold RnPost at R2
    go_wp2_with fail
    refine R2.out.mono ?_
    rintro e w3 (⟨r1, rfl, hw3⟩ | ⟨r1, r2, rfl, _⟩ | ⟨r1, r2, rfl, G', b', g, hbk, hG, hgs, hgl, hgG, hrow, hself, ht⟩)
    · have F1 := Lib.hid (FIN.out w3 (Or.inl ⟨by rw [r1, HN.out], by rw [hw3]; exact HB2.out⟩))
      clear FIN RN R2 hw3 r1 c6
      go_wp2_with fail
      go_ret2
      exact F1.out
    · omega
    · obtain ⟨a1, a2, a3, a4⟩ := H.out.hm.apart
      have h' := H.out.renewed HB2.out hbk hG hgs hgl hgG hrow hself ht (by omega) HIN.out a1 a2 a3
      have hs2 := HB2.out.size
      have F1 := Lib.hid (FIN.out w3 (Or.inr ⟨by have := HN.out; omega, _, _, G', b', h', MemTo.new (by have := HN.out; omega) (fun k hk => by simp [Value.ownBlock] at hk; omega), fun k hk => hk.imp (fun e => Lost.not e.1 e.2) (fun e => by omega), fun k hk => (hG k hk).imp id (fun e => by omega), (Touch.of_below HB2.out).then (ht.mono (fun k hk => hk.elim Or.inr (fun e => Or.inl (e ▸ Lost.not H.out.hm.fh (fun e2 => a4 hp e2 rfl)))))⟩))
      clear FIN RN R2 hbk hG hrow hself ht hgG h' c6
      go_wp2_with fail
      go_ret2
      exact F1.out

end
end Go.Proofs.YtjogaohnphafgaaGreat
