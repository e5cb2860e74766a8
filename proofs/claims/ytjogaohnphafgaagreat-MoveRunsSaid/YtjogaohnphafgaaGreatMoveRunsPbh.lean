/-
  The reference's heap: Alloc. No conditions but bounds and blocks apart.
-/
import Derived.Test.YtjogaohnphafgaaGreatMoveRunsPbg
namespace Go.Proofs.YtjogaohnphafgaaGreat
open Go.RowKit
set_option linter.unusedVariables false

/-- A block is put at the end. -/
theorem RfMem.added {w w9 : World} {F : Nat → Prop} {rp pp M at' n g off cap : Nat} {S : HpSt} {kept : List (List Blk)} {vm vb vk : Value} {vks : List Value} (m : RfMem w F rp pp M S kept vm vb vk vks) (hle : at' + n ≤ S.mem.length) (hfew : S.bl.length < 500) (hlast : S.last < 1000000000)
    (hrow : OffRow w9 78 3 (.slice (some ⟨g, off, none⟩) (S.bl.length + 1) cap) (S.bl.length + 1) (S.bl.flatMap Blk.cells ++ [.int .i64 ((S.last : Int) + 1), .int .i64 (at' : Int), .int .i64 (n : Int)])) (hgr : (w.setCell ⟨rp, 8, none⟩ (.int .i64 ((S.last : Int) + 1))).grownBy w9 vb.ownBlock) (hpl : vb.ownBlock = some g ∨ w.heap.size ≤ g) :
    RfMem (w9.setCell ⟨rp, 7, none⟩ (.slice (some ⟨g, off, none⟩) (S.bl.length + 1) cap)) (fun k => F k ∨ k = g) rp pp M (S.give at' n S.mem) kept vm (.slice (some ⟨g, off, none⟩) (S.bl.length + 1) cap) vk vks ∧ Touch F w (w9.setCell ⟨rp, 7, none⟩ (.slice (some ⟨g, off, none⟩) (S.bl.length + 1) cap)) := by
  have sz : (w.setCell ⟨rp, 8, none⟩ (.int .i64 ((S.last : Int) + 1))).heap.size = w.heap.size := by simp [World.setCell]
  have nvb : ∀ {k : Nat} {cur : Array Value} {e : TypeId}, w.heap[k]? = some (.cells cur e (0, 0)) → e ≠ 78 → some k ≠ vb.ownBlock := fun {k cur e} hk he h => by
    obtain ⟨c2, h2⟩ := m.row.1.block h.symm
    rw [hk] at h2; simp at h2; exact he h2.2
  have nrp : ∀ {k : Nat} {cur : Array Value} {e : TypeId}, w.heap[k]? = some (.cells cur e (0, 0)) → e ≠ 42 → k ≠ rp := fun {k cur e} hk he h => by
    rw [h, m.self] at hk; simp at hk; exact he hk.2.symm
  have key : ∀ k, k < w.heap.size → k ≠ rp → some k ≠ vb.ownBlock → (w9.setCell ⟨rp, 7, none⟩ (.slice (some ⟨g, off, none⟩) (S.bl.length + 1) cap)).heap[k]? = w.heap[k]? := fun k hk h1 h2 =>
    (Below.heap_setCell w9 ⟨rp, 7, none⟩ _ k h1).trans ((hgr.block k (by rw [sz]; exact hk) h2).trans (Below.heap_setCell w ⟨rp, 8, none⟩ _ k h1))
  have s9 := (hgr.block rp (by rw [sz]; exact lt_of m.self) (nvb m.self (by decide))).trans (block_setCell m.self 8 (.int .i64 ((S.last : Int) + 1)))
  obtain ⟨c9, hg9⟩ := hrow.block (k := g) (by simp [Value.ownBlock])
  have hgrp : g ≠ rp := fun e => by rw [e, s9] at hg9; simp at hg9
  refine ⟨m.re (fun _ h => Or.inl h) (block_setCell s9 7 _) ((key pp (lt_of m.purse) (nrp m.purse (by decide)) (nvb m.purse (by decide))).trans m.purse) ⟨ownsRow_same m.mem.1 (fun k hk => ?_), fun k hk => Or.inl (m.mem.2 k hk)⟩ m.mb m.msh ⟨?_, fun k hk => ?_⟩ (fun k _ hk h1 _ _ h4 => key k hk h1 (fun e => h4 e.symm)) ?_ ?_ ⟨m.big.1, ?_, ?_, m.big.2.2.2.1, m.big.2.2.2.2.2.2⟩, ?_⟩
  · obtain ⟨cur, hc⟩ := row_block m.mem.1 hk
    exact key k (lt_of hc) (nrp hc (by decide)) (nvb hc (by decide))
  · have h1 := hrow.same (w' := w9.setCell ⟨rp, 7, none⟩ (.slice (some ⟨g, off, none⟩) (S.bl.length + 1) cap)) (fun k hk => by
      simp [Value.ownBlock] at hk
      exact Below.heap_setCell w9 ⟨rp, 7, none⟩ _ k (fun e => hgrp (hk.trans e)))
    show OffRow _ _ 3 _ (S.bl ++ [_]).length ((S.bl ++ [_]).flatMap Blk.cells)
    rw [List.length_append, List.flatMap_append]
    exact h1
  · simp [Value.ownBlock] at hk
    subst hk
    exact ⟨Or.inr rfl, hpl⟩
  · show ((S.bl ++ [(⟨S.last + 1, at', n⟩ : Blk)]).map Blk.h).Pairwise (· < ·)
    rw [List.map_append, List.pairwise_append]
    refine ⟨m.ord, by simp, fun a ha b hb => ?_⟩
    obtain ⟨x, hx, rfl⟩ := List.mem_map.1 ha
    simp at hb
    subst hb
    have := (m.hb x hx).2.1
    omega
  · intro x hx
    rcases List.mem_append.1 hx with h1 | h1
    · have := m.hb x h1
      exact ⟨this.1, Nat.le_succ_of_le this.2.1, this.2.2⟩
    · rw [List.mem_singleton.1 h1]
      exact ⟨Nat.succ_le_succ (Nat.zero_le _), Nat.le_refl _, hle⟩
  · show (S.bl ++ [_]).length ≤ 500
    rw [List.length_append]
    simp
    omega
  · show S.last + 1 ≤ _
    omega
  · refine Touch.setCell (F := F) ?_ (p := ⟨rp, 7, none⟩) (Or.inl m.fr) _
    refine ((Touch.refl F w).setCell (p := ⟨rp, 8, none⟩) (Or.inl m.fr) _).grown hgr (fun k hk => Or.inl (m.row.2 k hk))

def RaPost (w : World) (F : Nat → Prop) (rp pp M : Nat) (S : HpSt) (kept : List (List Blk)) (vm vk : Value) (vks : List Value) (n way : Int) : Ending → World → Prop := fun e w' =>
  (∃ er, er ≠ 0 ∧ (alE S n way = er ∨ (alE S n way = 0 ∧ 0 < n ∧ PlNo S M n.toNat way er)) ∧ e = .returned (.tuple #[.int .i64 0, .int .i64 er]) ∧ Below w.heap.size w w') ∨
  (alE S n way = 0 ∧ e = .returned (.tuple #[.int .i64 ((S.last : Int) + 1), .int .i64 0]) ∧ ∃ (at' : Nat) (mem2 : List Int) (vm2 vb2 : Value) (F' : Nat → Prop),
    ((n = 0 ∧ at' = 0 ∧ mem2 = S.mem) ∨ (0 < n ∧ ∃ mem1, PlOk S M n.toNat way at' mem1 ∧ S.mem.length ≤ mem1.length ∧ mem2 = fill 0 mem1 at' n.toNat)) ∧ at' + n.toNat ≤ mem2.length ∧ RfMem w' F' rp pp M (S.give at' n.toNat mem2) kept vm2 vb2 vk vks ∧ MemTo w.heap.size S.mem.length mem2.length vm vm2 ∧ (∀ k, F' k → Lost F vm vm2 k ∨ w.heap.size ≤ k) ∧ Touch (Lost F vm vm2) w w')

def RaCut (w : World) (F : Nat → Prop) (rp pp M : Nat) (S : HpSt) (kept : List (List Blk)) (vm vb vk : Value) (vks : List Value) (N : Nat) (way : Int) (v8 : Value) (wr : World) : Prop :=
  ∃ (at' : Nat) (mem2 : List Int) (vm2 : Value) (F' : Nat → Prop), v8 = .int .i64 (at' : Int) ∧ ((N = 0 ∧ at' = 0 ∧ mem2 = S.mem) ∨ (0 < N ∧ ∃ mem1, PlOk S M N way at' mem1 ∧ S.mem.length ≤ mem1.length ∧ mem2 = fill 0 mem1 at' N)) ∧ at' + N ≤ mem2.length ∧
    RfMem wr F' rp pp M { S with mem := mem2 } kept vm2 vb vk vks ∧ MemTo w.heap.size S.mem.length mem2.length vm vm2 ∧ (∀ k, F' k → Lost F vm vm2 k ∨ w.heap.size ≤ k) ∧ Touch (Lost F vm vm2) w wr

set_option maxHeartbeats 8000000 in
set_option maxRecDepth 100000 in
theorem allocR_any {w : World} {F : Nat → Prop} {rp pp M : Nat} {S : HpSt} {kept : List (List Blk)} {vm vb vk : Value} {vks : List Value} (m : RfMem w F rp pp M S kept vm vb vk vks) (hap : S.bl.Pairwise apartB) (hp : polErr S.k S.s S.m = 0) (hlast : S.last < 1000000000) (n way : Int) :
    Calls Tryz.prog 9 #[.pointer (some ⟨rp, 0, none⟩), .int .i64 n, .int .i64 way] w (RaPost w F rp pp M S kept vm vk vks n way) := by
  obtain ⟨i0, hi0, hz0, hz1, hz2⟩ := info_parts infoBlk
  obtain ⟨c0, c1, c2, c3, c4, c5, c6, c7, c8, c9⟩ := m.cells
  have HM := Lib.hid m
  have HAP := Lib.hid hap
  have HP := Lib.hid hp
  have REF : Hid (∀ er, er ≠ 0 → alE S n way = er → RaPost w F rp pp M S kept vm vk vks n way (.returned (.tuple #[.int .i64 0, .int .i64 er])) w) := Lib.hid (fun er h1 h2 => Or.inl ⟨er, h1, Or.inl h2, rfl, Below.refl _ _⟩)
  obtain ⟨BL, hBL⟩ : ∃ BL, S.bl.length = BL := ⟨_, rfl⟩
  have HBL := Lib.hid hBL
  obtain ⟨va, vc, hvb, _⟩ := m.row.1.sh
  have HVB := Lib.hid hvb
  rw [hvb, hBL] at c7
  have hfew := m.big.2.1
  rw [hBL] at hfew
  have HL0 := Lib.hid hlast
  clear m hap hp hvb c0 c1 c2 c3 c5 c6 c8 c9 hlast
  cases hc : S.closed with
  | true =>
    have FIN := Lib.hid (REF.out 11 (by decide) (by unfold alE; rw [hc]; rfl))
    rw [hc] at c4
    clear hc hBL REF
    go_enter Tryz.func9, Tryz.ntmps9
    go_wp2_with fail
    go_ret2
    exact FIN.out
  | false =>
    rw [hc] at c4
    have E0 : alE S n way = if ¬ (0 ≤ n ∧ n ≤ 100000) then 2 else if way ≠ 1 ∧ way ≠ 2 then 10 else if S.bl.length = 500 then 4 else 0 := by unfold alE; rw [hc]; rfl
    by_cases hn : 0 ≤ n ∧ n ≤ 100000
    case neg =>
      have FIN := Lib.hid (REF.out 2 (by decide) (by rw [E0, if_pos hn]))
      clear hc hBL REF E0
      rcases (show n < 0 ∨ (¬ n < 0 ∧ 100000 < n) from by omega) with h1 | ⟨h1, h2⟩
      all_goals
        clear hn
        go_enter Tryz.func9, Tryz.ntmps9
        go_wp2_with fail
        go_ret2
        exact FIN.out
    case pos =>
      rw [if_neg (by simpa using hn)] at E0
      have n1 : ¬ n < 0 := by omega
      have n2 : ¬ 100000 < n := by omega
      by_cases hw : way ≠ 1 ∧ way ≠ 2
      · have hw1 : (way != 1) = true := by simpa using hw.1
        have hw2 : (way != 2) = true := by simpa using hw.2
        have FIN := Lib.hid (REF.out 10 (by decide) (by rw [E0, if_pos hw]))
        clear hc hBL REF E0 hw hn
        go_enter Tryz.func9, Tryz.ntmps9
        go_wp2_with fail
        go_ret2
        exact FIN.out
      · rw [if_neg hw, hBL] at E0
        have hwy : way = 1 ∨ way = 2 := by omega
        by_cases hfull : BL = 500
        · have FIN := Lib.hid (REF.out 4 (by decide) (by rw [E0, if_pos hfull]))
          subst hfull
          clear hc hBL REF E0 hw hn
          rcases hwy with rfl | rfl
          all_goals
            go_enter Tryz.func9, Tryz.ntmps9
            go_wp2_with fail
            go_ret2
            exact FIN.out
        · rw [if_neg hfull] at E0
          have HE0 := Lib.hid E0
          have HFU := Lib.hid hfull
          obtain ⟨N, hN⟩ : ∃ N : Nat, n = (N : Int) := ⟨n.toNat, by omega⟩
          subst hN
          have hN5 : N ≤ 100000 := by omega
          have hlt5 : BL < 500 := by omega
          have PLA := Lib.hid (fun (h0 : 0 < N) => placedR_any HM.out HAP.out HP.out N hN5 h0 way hwy)
          clear hc hBL E0 hw hfull hfew
          have hwb : ((way != 1) = false ∧ True) ∨ ((way != 1) = true ∧ (way != 2) = false) := by
            rcases hwy with h1 | h1
            · exact Or.inl ⟨by simp [h1], trivial⟩
            · exact Or.inr ⟨by simp [h1], by simp [h1]⟩
          clear hwy
          rcases hwb with ⟨hw1, hw2⟩ | ⟨hw1, hw2⟩
          all_goals
            go_enter Tryz.func9, Tryz.ntmps9
            go_upto_if 38 with fail
            go_cut [8] (fun v8 wr => RaCut w F rp pp M S kept vm vb vk vks N way v8 wr)
            case first =>
              by_cases h0 : 0 < N
              · have PL1 := Lib.hid (PLA.out h0)
                have h0' : decide (0 < N) = true := by simp [h0]
                have H0 := Lib.hid h0
                clear h0
                go_wp2_with fail
                refine PL1.out.mono ?_
                rintro e w3 ⟨hb, ⟨er, he, hno, rfl⟩ | ⟨at', z, rfl, z1, z2, z3, zok, zno⟩⟩
                · have he' : (er != 0) = true := by simp [he]
                  have FIN : Hid (RaPost w F rp pp M S kept vm vk vks (N : Int) way (.returned (.tuple #[.int .i64 0, .int .i64 er])) w3) := Lib.hid (Or.inl ⟨er, he, Or.inr ⟨HE0.out, by omega, by rw [Int.toNat_natCast]; exact hno⟩, rfl, hb⟩)
                  clear hno hb PL1 PLA REF he
                  go_wp2_with fail
                  go_ret2
                  exact FIN.out
                · have FT := Lib.hid (fitR_any (HM.out.below hb) z z1 (fun x hx => by have := (HM.out.hb x hx).2.2; omega))
                  unfold FtPost at FT
                  have HB3 := Lib.hid hb
                  have ZOK := Lib.hid zok
                  have ZNO := Lib.hid zno
                  clear hb zok zno PL1 PLA
                  go_wp2_with fail
                  refine FT.out.mono ?_
                  rintro e w4 (⟨hzM, rfl, hb4⟩ | ⟨hzM, rfl, vm', F', m4, hF1, hF2, ht4⟩)
                  · have FIN : Hid (RaPost w F rp pp M S kept vm vk vks (N : Int) way (.returned (.tuple #[.int .i64 0, .int .i64 12])) w4) := Lib.hid (Or.inl ⟨12, by decide, Or.inr ⟨HE0.out, by have := H0.out; omega, by rw [Int.toNat_natCast]; exact ZNO.out hzM⟩, rfl, HB3.out.trans (hb4.mono HB3.out.size)⟩)
                    clear hb4 FT REF
                    go_wp2_with fail
                    go_ret2
                    exact FIN.out
                  · have hml : (S.mem' z).mem.length = z := reM_len S.mem z
                    obtain ⟨g, hvm, hrow, _⟩ := m4.bytes (by rw [hml]; have := H0.out; omega)
                    rw [hml] at hvm
                    obtain ⟨w5, CLR, m5, ht5⟩ := m4.clr at' N (z - at') (some ⟨g, at', none⟩) (by rw [hml]; exact z3) (fun _ => ⟨g, by rw [hml]; exact hvm, rfl⟩)
                    have c6 := m4.cells.2.2.2.2.2.2.1
                    rw [hvm] at c6
                    have FIN : Hid (RaCut w F rp pp M S kept vm vb vk vks N way (.int .i64 (at' : Int)) w5) := Lib.hid ⟨at', fill 0 (reM S.mem z) at' N, vm', F', rfl, Or.inr ⟨H0.out, reM S.mem z, ZOK.out hzM, by rw [reM_len]; exact z2, rfl⟩, by rw [fill_len, reM_len]; exact z3, m5, by rw [fill_len, reM_len]; exact hF1.mono HB3.out.size, fun k hk => (hF2 k hk).imp id (fun h => Nat.le_trans HB3.out.size h), ((Touch.of_below HB3.out).trans (ht4.mono (fun k hk => hk)) (fun k hk => Or.inl hk)).trans (ht5.mono (fun k hk => m4.mem.2 k hk)) (fun k hk => (hF2 k hk).imp id (fun h => Nat.le_trans HB3.out.size h))⟩
                    have hpos := H0.out
                    have hgt : at' < z := by omega
                    clear hml hvm hrow m5 ht5 m4 hF1 hF2 ht4 FT REF
                    go_wp2_with fail
                    go_meet
                    exact FIN.out
              · have FIN : Hid (RaCut w F rp pp M S kept vm vb vk vks N way (.int .i64 0) w) := Lib.hid ⟨0, S.mem, vm, F, rfl, Or.inl ⟨by omega, rfl, rfl⟩, by omega, HM.out, MemTo.self _ _ _, fun k hk => Or.inl (Lost.self hk), Touch.refl _ _⟩
                clear PLA REF
                go_wp2_with fail
                go_meet
                exact FIN.out
            case rest =>
              obtain ⟨at', mem2, vm2, F', rfl, hmm, hle, m2, hMT, hF, ht⟩ := hcut
              have HMT := Lib.hid hMT
              obtain ⟨d0, d1, d2, d3, d4, d5, d6, d7, d8, d9⟩ := m2.cells
              have hvb2 : vb = .slice va BL vc := by rw [← HBL.out]; exact HVB.out
              rw [hvb2] at d7
              have hl1 := HL0.out
              have HM2 := Lib.hid m2
              have HVB2 := Lib.hid hvb2
              have s2 : (wc.setCell ⟨rp, 8, none⟩ (.int .i64 ((S.last : Int) + 1))).heap[rp]? = some (Obj.cells #[.pointer (some ⟨pp, 0, none⟩), .int .i64 S.k, .int .i64 S.s, .int .i64 S.m, .bool S.closed, .int .i64 (S.count : Int), vm2, .slice va BL vc, .int .i64 ((S.last : Int) + 1), vk] 42 (0, 0)) := by
                have := block_setCell m2.self 8 (.int .i64 ((S.last : Int) + 1))
                rw [hvb2] at this
                exact this
              have fz := free_of m2.self 8
              have hr2 : OffRow (wc.setCell ⟨rp, 8, none⟩ (.int .i64 ((S.last : Int) + 1))) 78 3 (.slice va BL vc) BL (S.bl.flatMap Blk.cells) := by
                have h1 := m2.row.1.same (w' := wc.setCell ⟨rp, 8, none⟩ (.int .i64 ((S.last : Int) + 1))) (fun k hk => Below.heap_setCell wc ⟨rp, 8, none⟩ _ k (fun e => by
                  obtain ⟨cur, hc⟩ := m2.row.1.block hk
                  have e' : k = rp := e
                  rw [e', m2.self] at hc
                  simp at hc))
                have h1 : OffRow _ _ 3 vb S.bl.length (S.bl.flatMap Blk.cells) := h1
                rw [hvb2, HBL.out] at h1
                exact h1
              have FIN := Lib.hid (And.intro hmm (And.intro hle (And.intro hF ht)))
              have hBL5 : BL ≤ 500 := by omega
              clear hmm hle m2 hMT hF ht d0 d1 d2 d3 d4 d5 d6 d9 PLA REF hvb2
              go_upto_region 20 with fail
              clear d7 d8 fz
              generalize hW2 : wc.setCell ⟨rp, 8, none⟩ (.int .i64 ((S.last : Int) + 1)) = W2 at *
              have HW2 := Lib.hid hW2
              clear hW2
              obtain ⟨o, ho⟩ : ∃ o, o = (Obj.cells #[.pointer (some ⟨pp, 0, none⟩), .int .i64 S.k, .int .i64 S.s, .int .i64 S.m, .bool S.closed, .int .i64 (S.count : Int), vm2, .slice va BL vc, .int .i64 ((S.last : Int) + 1), vk] 42 (0, 0)) := ⟨_, rfl⟩
              have S0 : AtB rp o W2.drew := by rw [← ho] at s2; exact s2
              have g7 : ∀ y : WIn (AtB rp o), y.w.cell? ⟨rp, 7, none⟩ = some (.slice va BL vc) := fun y => (cell_of (Eq.trans y.h (congrArg some ho)) 7).trans rfl
              have g8 : ∀ y : WIn (AtB rp o), y.w.cell? ⟨rp, 8, none⟩ = some (.int .i64 ((S.last : Int) + 1)) := fun y => (cell_of (Eq.trans y.h (congrArg some ho)) 8).trans rfl
              haveI ne : Nonempty (WIn (AtB rp o)) := ⟨⟨W2.drew, S0⟩⟩
              have HO := Lib.hid ho
              have HS2 := Lib.hid s2
              have HR2 := Lib.hid hr2
              clear ho s2 hr2
              refine wp_normal ?_
              refine wp_region_plan 16 (AtB rp o) rfl ?_
              refine wpN_seg [0, 1, 2, 3, 4, 5, 6, 7, 8, 9, 10] (by kernel_rfl) (by kernel_rfl) (by kernel_rfl) (by kernel_rfl) (by decide) (fun _ _ _ _ _ h => h) S0 ?_
              simp only [pick, List.map_cons, List.map_nil, List.getElem?_cons_succ, List.getElem?_cons_zero, Option.getD_some]
              repeat (go_big_quiet_step (fail))
              refine wpQuiet_nil ?_
              clear g7 g8 ne
              refine wpN_one 11 _ (by kernel_rfl) rfl ?_
              refine NextAt.held ?_
              intro K hK
              go_simp
              refine hK _ _ S0 ?_
              clear hK K
              refine wpN_one 12 _ (by kernel_rfl) rfl ?_
              refine NextAt.held ?_
              intro K hK
              go_simp
              have AZ : (W2.alloc (.cells #[.int .i64 ((S.last : Int) + 1), .int .i64 (at' : Int), .int .i64 (N : Int)] 78)).drew.heap[W2.heap.size]? = some (.cells [.int .i64 ((S.last : Int) + 1), .int .i64 (at' : Int), .int .i64 (N : Int)].toArray 78 (0, 0)) := heap_alloc_new W2 _
              have BZ : Below W2.heap.size W2 (W2.alloc (.cells #[.int .i64 ((S.last : Int) + 1), .int .i64 (at' : Int), .int .i64 (N : Int)] 78)).drew := ((Below.refl _ W2).alloc (Nat.le_refl _) _).drew
              have S1 : AtB rp o (W2.alloc (.cells #[.int .i64 ((S.last : Int) + 1), .int .i64 (at' : Int), .int .i64 (N : Int)] 78)).drew := (BZ.block rp (lt_of HS2.out)).trans S0
              refine hK _ _ S1 ?_
              clear hK K
              have hr3 := HR2.out.same (fun k hk => BZ.block k (by obtain ⟨cur, hc⟩ := HR2.out.block hk; exact lt_of hc))
              obtain ⟨g, off, cap, w9, hrun, hrow9, hg9, hpl9⟩ := run_append_off (P := Tryz.prog) _ 39 39 78 i0 (.agg #[.int .i64 0, .int .i64 0, .int .i64 0]) 3 24 Tryz.underlying39 hi0 hz0 hz1 hz2 rfl (by decide) _ _ _ hr3 ⟨W2.heap.size, 0, none⟩ 1 1 [.int .i64 ((S.last : Int) + 1), .int .i64 (at' : Int), .int .i64 (N : Int)] rfl (fun j u hj => by
                rw [Addr.add_lit, Nat.zero_add, cell_of AZ]
                simpa using hj) (by intro u hu; simp at hu; rcases hu with rfl | rfl | rfl <;> rfl) (by decide) (by unfold maxLen; omega) (by omega)
              have hgr : W2.grownBy w9 (Value.slice va BL vc).ownBlock := ⟨hg9.os, hg9.tape, hg9.output, Nat.le_trans BZ.size hg9.size, fun k hk hne => (hg9.block k (Nat.lt_of_lt_of_le hk BZ.size) hne).trans (BZ.block k hk)⟩
              have hpl : (Value.slice va BL vc).ownBlock = some g ∨ W2.heap.size ≤ g := hpl9.imp id (fun e => Nat.le_trans BZ.size e)
              have hne : some rp ≠ (Value.slice va BL vc).ownBlock := fun e => by
                obtain ⟨cur, hc⟩ := HR2.out.block e.symm
                rw [HS2.out] at hc
                simp at hc
              have S9 : AtB rp o w9 := (hgr.block rp (lt_of HS2.out) hne).trans S0
              refine wpN_one 13 _ (by kernel_rfl) rfl ?_
              refine NextAt.held ?_
              intro K hK
              refine step_append_known rfl (.tmp 74) (.tmp 82) 39 rfl _ _ _ (by rfl) (by rfl) hrun ?_
              go_simp
              refine hK _ _ S9 ?_
              clear hK K
              refine wpN_pure [14, 15] (by kernel_rfl) (by kernel_rfl) (by kernel_rfl) (fun _ _ _ _ _ h => h) (fun _ => S9) ?_
              simp only [pick, List.map_cons, List.map_nil, List.getElem?_cons_succ, List.getElem?_cons_zero, Option.getD_some]
              repeat (go_big_quiet_step (fail))
              refine wpQuiet_nil ?_
              have s9 : w9.heap[rp]? = _ := S9.trans (congrArg some HO.out)
              have fz9 := free_of s9 7
              have e7 : w9.cell? ⟨rp, 7, none⟩ = some (.slice va BL vc) := (cell_of s9 7).trans rfl
              have e8 : w9.cell? ⟨rp, 8, none⟩ = some (.int .i64 ((S.last : Int) + 1)) := (cell_of s9 8).trans rfl
              have hs2 : wc.heap.size = W2.heap.size := by rw [← HW2.out]; simp [World.setCell]
              obtain ⟨mA, tA⟩ := HM2.out.added (n := N) (at' := at') (w9 := w9) (g := g) (off := off) (cap := cap) FIN.out.2.1 (by show S.bl.length < 500; rw [HBL.out]; exact hlt5) hl1 (by show OffRow w9 _ 3 (.slice _ (S.bl.length + 1) cap) (S.bl.length + 1) (S.bl.flatMap Blk.cells ++ _); rw [HBL.out]; exact hrow9) (by show World.grownBy (wc.setCell ⟨rp, 8, none⟩ (.int .i64 ((S.last : Int) + 1))) _ _; rw [HW2.out, HVB2.out]; exact hgr) (by rw [HVB2.out, hs2]; exact hpl)
              have FIN2 : Hid (RaPost w F rp pp M S kept vm vk vks (N : Int) way (.returned (.tuple #[.int .i64 ((S.last : Int) + 1), .int .i64 0])) (w9.setCell ⟨rp, 7, none⟩ (.slice (some ⟨g, off, none⟩) (BL + 1) cap))) := Lib.hid (by
                have mA : RfMem (w9.setCell ⟨rp, 7, none⟩ (.slice (some ⟨g, off, none⟩) (S.bl.length + 1) cap)) _ rp pp M _ kept vm2 (.slice (some ⟨g, off, none⟩) (S.bl.length + 1) cap) vk vks := mA
                have tA : Touch F' wc (w9.setCell ⟨rp, 7, none⟩ (.slice (some ⟨g, off, none⟩) (S.bl.length + 1) cap)) := tA
                rw [HBL.out] at mA tA
                obtain ⟨q1, q2, q3, q4⟩ := FIN.out
                refine Or.inr ⟨HE0.out, rfl, at', mem2, vm2, _, _, by rw [Int.toNat_natCast]; rcases q1 with ⟨x1, x2, x3⟩ | ⟨x1, x2⟩; exact Or.inl ⟨by omega, x2, x3⟩; exact Or.inr ⟨by omega, x2⟩, by rw [Int.toNat_natCast]; exact q2, by rw [Int.toNat_natCast]; exact mA, HMT.out, fun k hk => ?_, q4.trans tA (fun k hk => q3 k hk)⟩
                rcases hk with h | h
                · exact q3 k h
                · rcases hpl with h1 | h1
                  · exact q3 k (HM2.out.row.2 k (by rw [HVB2.out, h]; exact h1))
                  · right
                    have := q4.size
                    omega)
              refine wpN_one 16 _ (by kernel_rfl) rfl ?_
              refine NextAt.free (by kernel_rfl) ?_
              intro K hK
              go_simp
              refine hK _ _ ?_
              clear hK K
              refine wpN_done (by kernel_rfl) ?_
              have e8' : (w9.setCell ⟨rp, 7, none⟩ (.slice (some ⟨g, off, none⟩) (BL + 1) cap)).cell? ⟨rp, 8, none⟩ = some (.int .i64 ((S.last : Int) + 1)) := (World.cell?_setCell_other _ _ _ _ (by simp)).trans e8
              clear mA tA hrow9 hgr hpl hpl9 hg9 hrun hr3 S0 S1 S9 s9 fz9 e7 e8 AZ BZ hs2 hne
              generalize w9.setCell ⟨rp, 7, none⟩ (.slice (some ⟨g, off, none⟩) (BL + 1) cap) = WF at *
              go_wp2_with fail
              go_ret2
              exact FIN2.out

end Go.Proofs.YtjogaohnphafgaaGreat
