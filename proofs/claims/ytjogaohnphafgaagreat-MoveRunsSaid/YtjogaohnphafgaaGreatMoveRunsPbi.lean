/-
  The reference's heap: Free. No conditions but bounds.
  The reference's heap: Close. No conditions but bounds.
-/
import Derived.Test.YtjogaohnphafgaaGreatMoveRunsPbh

namespace Go.Proofs.YtjogaohnphafgaaGreat
section
open Go.RowKit
set_option linter.unusedVariables false

/-- Other blocks, fewer. -/
theorem RfMem.blk {w w2 : World} {F : Nat → Prop} {rp pp M : Nat} {S : HpSt} {kept : List (List Blk)} {vm vb vk v' : Value} {vks : List Value} (m : RfMem w F rp pp M S kept vm vb vk vks) (hb : Below w.heap.size w w2) {bl' : List Blk}
    (hrow : OffRow w2 78 3 v' bl'.length (bl'.flatMap Blk.cells)) (hpl : ∀ k, v'.ownBlock = some k → vb.ownBlock = some k ∨ w.heap.size ≤ k) (hsub : bl'.Sublist S.bl) :
    RfMem (w2.setCell ⟨rp, 7, none⟩ v') (fun k => F k ∨ v'.ownBlock = some k) rp pp M { S with bl := bl' } kept vm v' vk vks ∧ Touch F w (w2.setCell ⟨rp, 7, none⟩ v') := by
  have key : ∀ k, k < w.heap.size → k ≠ rp → (w2.setCell ⟨rp, 7, none⟩ v').heap[k]? = w.heap[k]? := fun k hk h1 => (Below.heap_setCell w2 ⟨rp, 7, none⟩ _ k h1).trans (hb.block k hk)
  have nrp : ∀ {k : Nat} {cur : Array Value} {e : TypeId}, w.heap[k]? = some (.cells cur e (0, 0)) → e ≠ 42 → k ≠ rp := fun {k cur e} hk he h => by
    rw [h, m.self] at hk; simp at hk; exact he hk.2.symm
  have s2 := (hb.block rp (lt_of m.self)).trans m.self
  have hlen : bl'.length ≤ S.bl.length := hsub.length_le
  refine ⟨m.re (fun _ h => Or.inl h) (block_setCell s2 7 _) ((key pp (lt_of m.purse) (nrp m.purse (by decide))).trans m.purse) ⟨ownsRow_same m.mem.1 (fun k hk => ?_), fun k hk => Or.inl (m.mem.2 k hk)⟩ m.mb m.msh ⟨?_, fun k hk => ⟨Or.inr hk, hpl k hk⟩⟩ (fun k _ hk h1 _ _ _ => key k hk h1) (m.ord.sublist (hsub.map Blk.h)) (fun x hx => m.hb x (hsub.subset hx)) ⟨m.big.1, Nat.le_trans hlen m.big.2.1, m.big.2.2.1, m.big.2.2.2.1, m.big.2.2.2.2.2.2⟩, (Touch.of_below hb).setCell (p := ⟨rp, 7, none⟩) (Or.inl m.fr) _⟩
  · obtain ⟨cur, hc⟩ := row_block m.mem.1 hk
    exact key k (lt_of hc) (nrp hc (by decide))
  · refine hrow.same (fun k hk => Below.heap_setCell w2 ⟨rp, 7, none⟩ _ k (fun e => ?_))
    obtain ⟨cur, hc⟩ := hrow.block hk
    have e' : k = rp := e
    rw [e', s2] at hc
    simp at hc

theorem filter_at : ∀ {l : List Blk} {q : Int} {k : Nat} {x : Blk}, (l.map Blk.h).Pairwise (· < ·) → l[k]? = some x → (x.h : Int) = q → l.filter (fun y => !decide ((y.h : Int) = q)) = l.take k ++ l.drop (k + 1)
  | [], q, k, x, _, h, _ => by simp at h
  | y :: l, q, 0, x, hp, h, hq => by
    simp at h
    subst h
    rw [List.map_cons, List.pairwise_cons] at hp
    rw [List.filter_cons_of_neg (by simp [hq]), List.take_zero, List.nil_append, List.drop_succ_cons, List.drop_zero]
    refine List.filter_eq_self.2 (fun z hz => ?_)
    have := hp.1 z.h (List.mem_map_of_mem hz)
    simp
    omega
  | y :: l, q, k + 1, x, hp, h, hq => by
    rw [List.map_cons, List.pairwise_cons] at hp
    have hx : l[k]? = some x := by simpa using h
    have hy := hp.1 x.h (List.mem_map_of_mem (List.mem_of_getElem? hx))
    rw [List.filter_cons_of_pos (by simp; omega), filter_at hp.2 hx hq]
    rfl

set_option maxRecDepth 100000 in
/-- A row of which one block is left out. -/
theorem append_cut {w : World} {g off n cap k : Nat} {l : List Blk} (h : OffRow w 78 3 (.slice (some ⟨g, off, none⟩) n cap) n (l.flatMap Blk.cells)) (hl : l.length = n) (hk : k < n) (hn : n ≤ 500) (A : Option Addr) (C : Nat) (hA : k + 1 < n → A = some ⟨g, off + (k + 1) * 3, none⟩) (ty : TypeId) :
    ∃ v w', (Builtin.append_ #[39, 39] ty #[.slice (some ⟨g, off, none⟩) k k, .slice A (n - (k + 1)) C]).run Tryz.prog w = .ok v w' ∧ OffRow w' 78 3 v (n - 1) ((l.take k ++ l.drop (k + 1)).flatMap Blk.cells) ∧ Below w.heap.size w w' ∧ ∀ b, v.ownBlock = some b → b = g ∨ w.heap.size ≤ b := by
  obtain ⟨i0, hi0, hz0, hz1, hz2⟩ := info_parts infoBlk
  have htk : ((l.take k ++ l.drop (k + 1)).flatMap Blk.cells) = (l.flatMap Blk.cells).take (k * 3) ++ (l.flatMap Blk.cells).drop ((k + 1) * 3) := by
    rw [List.flatMap_append, bcells_take]
    congr 1
    have : ∀ (l : List Blk) (j : Nat), (l.drop j).flatMap Blk.cells = (l.flatMap Blk.cells).drop (j * 3) := by
      intro l
      induction l with
      | nil => intro j; simp
      | cons y l ih =>
        intro j
        cases j with
        | zero => simp
        | succ j =>
          rw [List.drop_succ_cons, ih, List.flatMap_cons, show (j + 1) * 3 = 3 + j * 3 by omega, ← List.drop_drop]
          rfl
    exact this l (k + 1)
  have hcl : (l.flatMap Blk.cells).length = n * 3 := by rw [blk_len, hl]
  have hone : ∀ u ∈ l.flatMap Blk.cells, u.oneCell' = true := bcells_one l
  rcases Nat.lt_or_ge (k + 1) n with hlt | hge
  · have e := hA hlt
    subst e
    obtain ⟨v', w', h1, h2, h3⟩ := run_append_arg_grows (P := Tryz.prog) (w := w) 39 ty 78 i0 (.agg #[.int .i64 0, .int .i64 0, .int .i64 0]) 3 24 Tryz.underlying39 hi0 hz0 hz1 hz2 rfl (by decide) ⟨g, off, none⟩ k k ((l.flatMap Blk.cells).take (k * 3)) (by rw [List.length_take, hcl]; omega)
      (fun j u hj => by
        have e1 : (⟨g, off, none⟩ : Addr).add j = ⟨g, off + j, none⟩ := by unfold Addr.add; split <;> simp_all
        rw [e1]
        have hj3 : j < k * 3 := by
          have := (List.getElem?_eq_some_iff.1 hj).1
          rw [List.length_take] at this; omega
        rw [List.getElem?_take_of_lt hj3] at hj
        exact h.cell hj)
      ⟨g, off + (k + 1) * 3, none⟩ (n - (k + 1)) C ((l.flatMap Blk.cells).drop ((k + 1) * 3)) (by rw [List.length_drop, hcl]; omega)
      (fun j u hj => by
        have e1 : (⟨g, off + (k + 1) * 3, none⟩ : Addr).add j = ⟨g, off + ((k + 1) * 3 + j), none⟩ := by unfold Addr.add; split <;> simp_all [Nat.add_assoc]
        rw [e1]
        rw [List.getElem?_drop] at hj
        exact h.cell hj) (by omega) (by unfold maxLen; omega) (by omega)
    refine ⟨v', w', h1, ?_, (Below.refl _ w).grown h3 (Nat.le_refl _) (by simp), fun b hb => ?_⟩
    · have := OffRow.of_own h2
      rw [show k + (n - (k + 1)) = n - 1 by omega, ← htk] at this
      exact this
    · exact Or.inr (h2.lt b hb).1
  · have hkn : n = k + 1 := by omega
    subst hkn
    have e0 : (l.flatMap Blk.cells).drop ((k + 1) * 3) = [] := List.drop_eq_nil_of_le (by rw [hcl]; omega)
    have own : OffRow w 78 3 (.slice (some ⟨g, off, none⟩) k k) k ((l.flatMap Blk.cells).take (k * 3)) := by
      refine ⟨by rw [List.length_take, hcl]; omega, ?_⟩
      rcases h.2 with ⟨h1, _⟩ | ⟨g', off', cap', cur, hv, hg, hn', hm, hs, ht⟩
      · simp at h1
      · simp only [Value.slice.injEq, Option.some.injEq, Addr.mk.injEq, and_true, true_and] at hv
        obtain ⟨⟨rfl, rfl⟩, rfl⟩ := hv
        refine Or.inr ⟨g, off, k, cur, rfl, hg, Nat.le_refl _, by omega, by omega, ?_⟩
        rw [← ht, List.take_take, Nat.min_eq_left (by omega)]
    refine ⟨.slice (some ⟨g, off, none⟩) k k, w, ?_, ?_, Below.refl _ _, fun b hb => Or.inl (by simpa [Value.ownBlock] using hb.symm)⟩
    · rw [show k + 1 - (k + 1) = 0 by omega]
      cases A with
      | none => exact run_append_nothing w _ ty _ i0 Tryz.underlying39 hi0 g off k k C (Nat.le_refl _)
      | some a => exact run_append_room_cells (P := Tryz.prog) (w := w) 39 ty 78 i0 Tryz.underlying39 hi0 g off k k a 0 C [] (by simp) (fun j u h => by simp at h) (by simp) (Nat.le_refl _) (by simp) (by simp)
    · rw [htk, e0, List.append_nil]
      exact own

def RfPost (w : World) (F : Nat → Prop) (rp pp M : Nat) (S : HpSt) (kept : List (List Blk)) (vm vb vk : Value) (vks : List Value) (q : Int) : Ending → World → Prop := fun e w' => e = .returned (.int .i64 (fndE S q)) ∧
  ((fndE S q ≠ 0 ∧ Below w.heap.size w w') ∨ (fndE S q = 0 ∧ ∃ (vb2 : Value) (F' : Nat → Prop), RfMem w' F' rp pp M (S.free q) kept vm vb2 vk vks ∧ (∀ k, F' k → F k ∨ w.heap.size ≤ k) ∧ Touch F w w'))

set_option maxHeartbeats 4000000 in
set_option maxRecDepth 100000 in
theorem freeR_any {w : World} {F : Nat → Prop} {rp pp M : Nat} {S : HpSt} {kept : List (List Blk)} {vm vb vk : Value} {vks : List Value} (m : RfMem w F rp pp M S kept vm vb vk vks) (q : Int) :
    Calls Tryz.prog 11 #[.pointer (some ⟨rp, 0, none⟩), .int .i64 q] w (RfPost w F rp pp M S kept vm vb vk vks q) := by
  have AT := Lib.hid (atR_any m q)
  unfold AtPost at AT
  have HM := Lib.hid m
  clear m
  by_cases hE : fndE S q = 0
  case neg =>
    have FIN : Hid (∀ w', Below w.heap.size w w' → RfPost w F rp pp M S kept vm vb vk vks q (.returned (.int .i64 (fndE S q))) w') := Lib.hid (fun w' h => ⟨rfl, Or.inl ⟨hE, h⟩⟩)
    have hE2 : (fndE S q == 0) = false := by simpa using hE
    generalize fndE S q = E at *
    generalize atI S q = I at *
    clear hE
    go_enter Tryz.func11, Tryz.ntmps11
    go_wp2_with fail
    refine AT.out.mono ?_
    rintro e w2 ⟨rfl, hb2⟩
    have HB2 := Lib.hid hb2
    clear hb2 AT
    go_wp2_with fail
    go_ret
    exact FIN.out _ HB2.out
  case pos =>
    obtain ⟨hcl, i, x, hf, hx, hi, _⟩ := fndE_zero hE
    have FIN : Hid (∀ vb2 F' w', RfMem w' F' rp pp M (S.free q) kept vm vb2 vk vks → (∀ k, F' k → F k ∨ w.heap.size ≤ k) → Touch F w w' → RfPost w F rp pp M S kept vm vb vk vks q (.returned (.int .i64 0)) w') := Lib.hid (fun vb2 F' w' h1 h2 h3 => ⟨by rw [hE], Or.inr ⟨hE, vb2, F', h1, h2, h3⟩⟩)
    have hfil : (S.free q).bl = S.bl.take i ++ S.bl.drop (i + 1) := filter_at HM.out.ord hx (findB_at hf).2
    have HFIL := Lib.hid hfil
    rw [hE, hi] at AT
    have hil : i < S.bl.length := (List.getElem?_eq_some_iff.1 hx).1
    obtain ⟨N, hN⟩ : ∃ N, S.bl.length = N := ⟨_, rfl⟩
    have HN := Lib.hid hN
    have hfew := HM.out.big.2.1
    obtain ⟨g, off, cap, hvb, _⟩ := oblk_cells HM.out.row.1 hx
    have HVB := Lib.hid hvb
    rw [hN] at hil hfew
    obtain ⟨hNc, hcm⟩ : N ≤ cap ∧ cap ≤ maxLen := by
      obtain ⟨a', c', e, h1, h2⟩ := HM.out.row.1.sh
      rw [hvb] at e
      simp only [Value.slice.injEq] at e
      obtain ⟨_, _, rfl⟩ := e
      exact ⟨by omega, h2⟩
    unfold maxLen at hcm
    clear hE hcl hf hx hi hfil hN hvb
    go_enter Tryz.func11, Tryz.ntmps11
    go_wp2_with fail
    refine AT.out.mono ?_
    rintro e w2 ⟨rfl, hb2⟩
    have HB2 := Lib.hid hb2
    have m2 := HM.out.below hb2
    have HM2 := Lib.hid m2
    have c7 := m2.cells.2.2.2.2.2.2.2.1
    rw [HVB.out, HN.out] at c7
    clear hb2 AT m2
    go_upto_region 3 with fail
    have S0 : BelM w2 w2.drew := (Below.refl _ w2).drew
    have e7 : ∀ z : WIn (BelM w2), z.w.cell? ⟨rp, 7, none⟩ = some (.slice (some ⟨g, off, none⟩) N cap) := fun z => old_cell z.h c7
    haveI ne : Nonempty (WIn (BelM w2)) := ⟨⟨w2.drew, S0⟩⟩
    refine wp_normal ?_
    refine wp_region_plan 15 (BelM w2) rfl ?_
    refine wpN_pure [0, 1, 2, 3, 5, 6, 8, 9, 10, 12, 13] (by kernel_rfl) (by kernel_rfl) (by kernel_rfl) (fun _ _ _ _ _ h => h) (fun _ => S0) ?_
    simp only [pick, List.map_cons, List.map_nil, List.getElem?_cons_succ, List.getElem?_cons_zero, Option.getD_some]
    repeat (go_big_quiet_step (fail))
    refine wpQuiet_nil ?_
    refine wpN_segX [4, 7, 11, 14, 15] [4, 7, 11, 14] (by kernel_rfl) (by kernel_rfl) (by kernel_rfl) (by kernel_rfl) (by decide) (fun _ _ _ _ _ h => h) S0 ?_
    simp only [pick, List.map_cons, List.map_nil, List.getElem?_cons_succ, List.getElem?_cons_zero, Option.getD_some]
    repeat (go_big_quiet_step (fail))
    refine wpQuiet_nil ?_
    clear e7 ne
    have hrowD : OffRow w2.drew 78 3 (.slice (some ⟨g, off, none⟩) N cap) N (S.bl.flatMap Blk.cells) := by
      have h1 := HM2.out.row.1
      rw [HVB.out, HN.out] at h1
      exact h1
    obtain ⟨v, w9, hrun, hrow9, hb9, hpl9⟩ := append_cut hrowD HN.out hil hfew (if cap = i + 1 then some ⟨g, off, none⟩ else some ⟨g, off + (i + 1) * 3, none⟩) (cap - (i + 1)) (fun h => if_neg (by omega)) 39
    generalize (if cap = i + 1 then (some ⟨g, off, none⟩ : Option Addr) else some ⟨g, off + (i + 1) * 3, none⟩) = A at *
    obtain ⟨a9, c9, hv9, _⟩ := hrow9.sh
    subst hv9
    have hbB : Below w2.heap.size w2 w9 := S0.trans hb9
    have hln : (S.bl.take i ++ S.bl.drop (i + 1)).length = N - 1 := by rw [List.length_append, List.length_take, List.length_drop, HN.out]; omega
    obtain ⟨mB, tB⟩ := HM2.out.blk hbB (v' := .slice a9 (N - 1) c9) (bl' := S.bl.take i ++ S.bl.drop (i + 1)) (by rw [hln]; exact hrow9) (fun b hb => (hpl9 b hb).imp (fun e => by rw [HVB.out, e]; rfl) id) (by
      have := List.take_append_drop i S.bl
      conv => rhs; rw [← this]
      exact List.Sublist.append_left (List.drop_sublist_drop_left S.bl (Nat.le_succ i)) _)
    have FIN2 := Lib.hid (FIN.out (.slice a9 (N - 1) c9) (fun k => F k ∨ (Value.slice a9 (N - 1) c9).ownBlock = some k) (w9.setCell ⟨rp, 7, none⟩ (.slice a9 (N - 1) c9)) (by
      have e : S.free q = { S with bl := S.bl.take i ++ S.bl.drop (i + 1) } := by rw [← HFIL.out]; rfl
      rw [e]; exact mB) (fun k hk => by
      rcases hk with h | h
      · exact Or.inl h
      · rcases hpl9 k h with h1 | h1
        · exact Or.inl (HM.out.row.2 k (by rw [HVB.out, h1]; rfl))
        · exact Or.inr (Nat.le_trans HB2.out.size h1)) ((Touch.of_below HB2.out).trans tB (fun k hk => Or.inl hk)))
    have s9 := (hbB.block rp (lt_of HM2.out.self)).trans HM2.out.self
    have fz9 := free_of s9 7
    have e7 : w9.cell? ⟨rp, 7, none⟩ = some vb := (cell_of s9 7).trans rfl
    clear mB tB hbB hrow9 hb9 hpl9 hrowD hln s9
    refine wpN_one 15 _ (by kernel_rfl) rfl ?_
    refine NextAt.free (by kernel_rfl) ?_
    intro K hK
    refine step_append_known rfl (.tmp 22) (.tmp 29) 39 rfl _ _ _ (by rfl) (by rfl) hrun ?_
    go_simp
    refine hK _ _ ?_
    clear hK K
    refine wpN_pure [16, 17] (by kernel_rfl) (by kernel_rfl) (by kernel_rfl) (fun _ _ _ _ _ h => h) (fun h => by cases h) ?_
    simp only [pick, List.map_cons, List.map_nil, List.getElem?_cons_succ, List.getElem?_cons_zero, Option.getD_some]
    repeat (go_big_quiet_step (fail))
    refine wpQuiet_nil ?_
    refine wpN_one 18 _ (by kernel_rfl) rfl ?_
    refine NextAt.free (by kernel_rfl) ?_
    intro K hK
    go_simp
    refine hK _ _ ?_
    clear hK K
    refine wpN_done (by kernel_rfl) ?_
    clear S0 hrun fz9 e7
    generalize w9.setCell ⟨rp, 7, none⟩ (.slice a9 (N - 1) c9) = WF at *
    go_wp2_with fail
    go_ret
    exact FIN2.out

end
end Go.Proofs.YtjogaohnphafgaaGreat

namespace Go.Proofs.YtjogaohnphafgaaGreat
section
open Go.RowKit
set_option linter.unusedVariables false

def HpSt.shut (S : HpSt) : HpSt := { S with mem := [], bl := [], closed := true }
def RcPost (w : World) (F : Nat → Prop) (rp pp M : Nat) (S : HpSt) (vm : Value) : Ending → World → Prop := fun e w' =>
  (S.closed = true ∧ e = .returned (.int .i64 11) ∧ w' = w) ∨
  (S.closed = false ∧ e = .returned (.int .i64 0) ∧ RfMem w' (Lost F vm (.slice none 0 0)) rp pp M S.shut [] (.slice none 0 0) (.slice none 0 0) (.slice none 0 0) [] ∧ Touch (Lost F vm (.slice none 0 0)) w w')

set_option maxHeartbeats 4000000 in
set_option maxRecDepth 100000 in
theorem closeR_any {w : World} {F : Nat → Prop} {rp pp M : Nat} {S : HpSt} {kept : List (List Blk)} {vm vb vk : Value} {vks : List Value} (m : RfMem w F rp pp M S kept vm vb vk vks) :
    Calls Tryz.prog 27 #[.pointer (some ⟨rp, 0, none⟩)] w (RcPost w F rp pp M S vm) := by
  have c4 := m.cells.2.2.2.2.1
  cases hc : S.closed with
  | true =>
    rw [hc] at c4
    have FIN : Hid (RcPost w F rp pp M S vm (.returned (.int .i64 11)) w) := Lib.hid (Or.inl ⟨hc, rfl, rfl⟩)
    clear m hc
    go_enter Tryz.func27, Tryz.ntmps27
    go_wp2_with fail
    go_ret
    exact FIN.out
  | false =>
    have HM := Lib.hid m
    have HC := Lib.hid hc
    rw [hc] at c4
    have c0 := m.cells.1
    have c6 := m.cells.2.2.2.2.2.2.1
    obtain ⟨ma, mc, hvm, _⟩ := m.memory
    obtain ⟨N, hN⟩ : ∃ N, S.mem.length = N := ⟨_, rfl⟩
    have HN := Lib.hid hN
    rw [hvm, hN] at c6
    have hb1 := m.big.1
    have hbM := m.big.2.2.2.2.2
    have PC := Lib.hid (purse_any pp M N 0 w.drew (by rw [← hN]; exact m.purse) (by omega) hbM.1 (by omega))
    obtain ⟨hrl, hpl, hrp⟩ := m.lt
    clear m hvm hN hc
    go_enter Tryz.func27, Tryz.ntmps27
    go_upto_region 3 with fail
    have S0 : (fun y : World => y = w.drew) w.drew := rfl
    have g0 : ∀ z : WIn (fun y : World => y = w.drew), z.w.cell? ⟨rp, 0, none⟩ = some (.pointer (some ⟨pp, 0, none⟩)) := fun z => by rw [z.h]; exact c0
    have g6 : ∀ z : WIn (fun y : World => y = w.drew), z.w.cell? ⟨rp, 6, none⟩ = some (.slice ma N mc) := fun z => by rw [z.h]; exact c6
    haveI ne : Nonempty (WIn (fun y : World => y = w.drew)) := ⟨⟨w.drew, S0⟩⟩
    refine wp_normal ?_
    refine wp_region_plan 9 (fun y : World => y = w.drew) rfl ?_
    refine wpN_seg [0, 1, 2, 3, 4, 5, 6, 7, 8] (by kernel_rfl) (by kernel_rfl) (by kernel_rfl) (by kernel_rfl) (by decide) (fun _ _ _ _ _ h => h) S0 ?_
    simp only [pick, List.map_cons, List.map_nil, List.getElem?_cons_succ, List.getElem?_cons_zero, Option.getD_some]
    repeat (go_big_quiet_step (fail))
    refine wpQuiet_nil ?_
    clear g0 g6 ne
    refine wpN_one 9 _ (by kernel_rfl) rfl ?_
    refine NextAt.free (by kernel_rfl) ?_
    intro K hK
    go_simp
    refine PC.out.mono ?_
    rintro e w1 (⟨hM, rfl, hb⟩ | ⟨hM, rfl, q, rfl⟩)
    · omega
    · go_simp
      refine hK _ _ ?_
      clear hK K
      refine wpN_done (by kernel_rfl) ?_
      clear S0 PC c0 c6 c4
      have PU : Hid (((w.drewN (1 + q)).setCell ⟨pp, 0, none⟩ (.int .i64 0)).heap[pp]? = some (.cells #[.int .i64 0, .int .i64 (M : Int)] 37 (0, 0))) := Lib.hid (block_setCell (show (w.drewN (1 + q)).heap[pp]? = _ from HM.out.purse) 0 _)
      have KP : Hid (∀ k, k ≠ pp → ((w.drewN (1 + q)).setCell ⟨pp, 0, none⟩ (.int .i64 0)).heap[k]? = w.heap[k]?) := Lib.hid (fun k hk => Below.heap_setCell (w.drewN (1 + q)) ⟨pp, 0, none⟩ _ k hk)
      have nrp : vm.ownBlock ≠ some rp := fun e => by
        obtain ⟨c2, h2⟩ := row_block HM.out.mem.1 e
        rw [HM.out.self] at h2; simp at h2
      have npp : vm.ownBlock ≠ some pp := fun e => by
        obtain ⟨c2, h2⟩ := row_block HM.out.mem.1 e
        rw [HM.out.purse] at h2; simp at h2
      have LR := Lib.hid (Lost.not (vm2 := .slice none 0 0) HM.out.fr nrp)
      have LP := Lib.hid (Lost.not (vm2 := .slice none 0 0) HM.out.fp npp)
      clear nrp npp
      have TT : Hid (Touch (Lost F vm (.slice none 0 0)) w ((w.drewN (1 + q)).setCell ⟨pp, 0, none⟩ (.int .i64 0))) := Lib.hid (Touch.setCell (F := Lost F vm (.slice none 0 0)) ((Touch.refl _ w).drewN (1 + q)) (p := ⟨pp, 0, none⟩) (Or.inl LP.out) _)
      generalize (w.drewN (1 + q)).setCell ⟨pp, 0, none⟩ (.int .i64 0) = W1 at *
      have s1 := (KP.out rp hrp).trans HM.out.self
      have e6 : W1.cell? ⟨rp, 6, none⟩ = some vm := by rw [cell_of s1]; rfl
      have e7 : W1.cell? ⟨rp, 7, none⟩ = some vb := by rw [cell_of s1]; rfl
      have e9 : W1.cell? ⟨rp, 9, none⟩ = some vk := by rw [cell_of s1]; rfl
      have e4 : W1.cell? ⟨rp, 4, none⟩ = some (.bool S.closed) := by rw [cell_of s1]; rfl
      have fz := fun j => free_of s1 j
      have FIN : Hid (RcPost w F rp pp M S vm (.returned (.int .i64 0)) ((((W1.setCell ⟨rp, 6, none⟩ (.slice none 0 0)).setCell ⟨rp, 7, none⟩ (.slice none 0 0)).setCell ⟨rp, 9, none⟩ (.slice none 0 0)).setCell ⟨rp, 4, none⟩ (.bool true))) := Lib.hid (by
        have k5 : ∀ k, k ≠ rp → ((((W1.setCell ⟨rp, 6, none⟩ (.slice none 0 0)).setCell ⟨rp, 7, none⟩ (.slice none 0 0)).setCell ⟨rp, 9, none⟩ (.slice none 0 0)).setCell ⟨rp, 4, none⟩ (.bool true)).heap[k]? = W1.heap[k]? := fun k hk =>
          (Below.heap_setCell _ ⟨rp, 4, none⟩ _ k hk).trans ((Below.heap_setCell _ ⟨rp, 9, none⟩ _ k hk).trans ((Below.heap_setCell _ ⟨rp, 7, none⟩ _ k hk).trans (Below.heap_setCell _ ⟨rp, 6, none⟩ _ k hk)))
        refine Or.inr ⟨HC.out, rfl, ⟨block_setCell (block_setCell (block_setCell (block_setCell s1 6 _) 7 _) 9 _) 4 _, LR.out, (k5 pp (Ne.symm hrp)).trans PU.out, LP.out, ⟨World.ownsRow_nil _ _ _ _, fun k hk => by simp [Value.ownBlock] at hk⟩, fun z hz => by simp [HpSt.shut] at hz, Or.inl ⟨rfl, rfl⟩, ⟨OffRow.nil _ _ _, fun k hk => by simp [Value.ownBlock] at hk⟩, ⟨World.ownsRow_nil _ _ _ _, fun k hk => by simp [Value.ownBlock] at hk⟩, ⟨rfl, fun i v l h => by simp at h⟩, List.Pairwise.nil, fun x hx => by simp [HpSt.shut] at hx, ⟨Nat.zero_le _, Nat.zero_le _, HM.out.big.2.2.1, HM.out.big.2.2.2.1, Nat.zero_le _, HM.out.big.2.2.2.2.2.1, Nat.zero_le _⟩, fun l hl => by simp at hl⟩, Touch.setCell (F := Lost F vm (.slice none 0 0)) (Touch.setCell (F := Lost F vm (.slice none 0 0)) (Touch.setCell (F := Lost F vm (.slice none 0 0)) (Touch.setCell (F := Lost F vm (.slice none 0 0)) TT.out (p := ⟨rp, 6, none⟩) (Or.inl LR.out) _) (p := ⟨rp, 7, none⟩) (Or.inl LR.out) _) (p := ⟨rp, 9, none⟩) (Or.inl LR.out) _) (p := ⟨rp, 4, none⟩) (Or.inl LR.out) _⟩)
      have f6 := fz 6
      have f7 := fz 7
      have f9 := fz 9
      have f4 := fz 4
      clear s1 fz
      go_wp2_with fail
      go_ret
      exact FIN.out

end
end Go.Proofs.YtjogaohnphafgaaGreat
