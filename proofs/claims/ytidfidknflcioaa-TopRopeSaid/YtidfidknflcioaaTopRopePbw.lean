/-
  Join of the two parts of a rope. Conditions: numbers in their bounds.
-/
import Derived.Test.YtidfidknflcioaaTopRopePbu
import Derived.Test.YtidfidknflcioaaTopRopePbv
import Derived.Deep.Cut
import Derived.Deep.CutRange
import Derived.Deep.DeepCutAuto
namespace Go.Proofs.Ytidfidknflcioaa
open Go.RowKit
set_option linter.unusedVariables false

def JoinPost (I : RopI) (q : Nat) (L1 L2 : List Lm) (F G : Nat → Prop) (b : BookSt) (w : World) : Ending → World → Prop := fun e w' =>
  e = .returned (.int .i64 0) ∧ ∃ v F', (⟨I, L1 ++ L2, v, b, F', G⟩ : RS).At w' ∧ (∀ k, F' k → F k ∨ w.heap.size ≤ k) ∧ Touch F w w'

theorem concatR2 {wB : World} {S1 S2 : Value} {n1 n2 : Nat} {l1 l2 : List Value} (r1 : Seg wB 1 S1 n1 l1) (r2 : Seg wB 1 S2 n2 l2) (hl : n1 + n2 ≤ 100000000) :
    Calls Try.prog 51 #[.slice (some ⟨wB.heap.size, 0, none⟩) 2 2] (wB.alloc (.cells #[S1, S2] 66)) (Own_row (n1 + n2) (l1 ++ l2) (wB.alloc (.cells #[S1, S2] 66))) := by
  have W1 : Below wB.heap.size wB (wB.alloc (.cells #[S1, S2] 66)) := (Below.refl wB.heap.size wB).alloc (Nat.le_refl _) _
  have q1 := r1.below W1
  have q2 := r2.below W1
  have hn : (wB.alloc (.cells #[S1, S2] 66)).heap[wB.heap.size]? = some (.cells #[S1, S2] 66 (0, 0)) := heap_alloc_new _ _
  have e3 : num_row [(S1, n1, l1), (S2, n2, l2)] 2 = n1 + n2 := by simp [num_row]
  have e4 : cat_row [(S1, n1, l1), (S2, n2, l2)] 2 = l1 ++ l2 := by simp [cat_row]
  have h := concat_row wB.heap.size [(S1, n1, l1), (S2, n2, l2)] (wB.alloc (.cells #[S1, S2] 66)) (fun k x hx => by
    match k, hx with
    | 0, hx => simp at hx; subst hx; exact ⟨by rw [cell_of hn]; rfl, q1⟩
    | 1, hx => simp at hx; subst hx; exact ⟨by rw [cell_of hn]; rfl, q2⟩
    | k + 2, hx => simp at hx) (by rw [show [(S1, n1, l1), (S2, n2, l2)].length = 2 from rfl, e3]; exact hl) (by simp)
  change Calls _ _ _ _ (Own_row (num_row _ 2) (cat_row _ 2) _) at h
  rw [e3, e4] at h
  exact h

/-- The rope behind a join. -/
theorem Two.join {w w1 w2 : World} {I : RopI} {q : Nat} {L1 L2 : List Lm} {v1 v2 v : Value} {F G : Nat → Prop} {b : BookSt} (h : Two w I q L1 L2 v1 v2 F G b) (hb : Below w.heap.size w w1)
    (hrow : w1.ownsRow w.heap.size 32 1 v (L1.length + L2.length) (L1.map Lm.val ++ L2.map Lm.val)) (ht : Touch (fun k => k = q) (w1.setCell ⟨I.r, 7, none⟩ v) w2) :
    ∃ F', (⟨I, L1 ++ L2, v, b, F', G⟩ : RS).At w2 ∧ (∀ k, F' k → F k ∨ w.heap.size ≤ k) ∧ Touch F w w2 := by
  have off : ∀ (W : World) (p k j : Nat) (u : Value), k ≠ p → (W.setCell ⟨p, j, none⟩ u).heap[k]? = W.heap[k]? := fun W p k j u hk => Below.heap_setCell _ _ _ _ hk
  have T : Touch F w w2 := ((Touch.of_below hb).setCell (p := ⟨I.r, 7, none⟩) (Or.inl h.m1.fr) v).then (ht.mono (fun k hk => hk ▸ h.m2.fr))
  have s1 := (hb.block _ (lt_of h.m1.self)).trans h.m1.self
  have s2 := block_setCell s1 7 v
  have s3 := (ht.block _ (lt_of s2) h.ne.symm).trans s2
  have qself : w.heap[q]? = _ := h.m2.self
  have sz : (w1.setCell ⟨I.r, 7, none⟩ v).heap.size = w1.heap.size := by simp [World.setCell]
  have szT := T.size
  have sz2 := ht.size
  have keep : ∀ x ∈ L1 ++ L2, byteRow w2 x.g x.cs ∧ x.ok ∧ F x.g := fun x hx => by
    have m : byteRow w x.g x.cs ∧ x.ok ∧ F x.g := (List.mem_append.1 hx).elim (h.m1.mem x) (h.m2.mem x)
    have m1 : w.heap[x.g]? = _ := m.1
    have n1 : x.g ≠ I.r := type_ne m1 h.m1.self (by decide)
    have n2 : x.g ≠ q := type_ne m1 qself (by decide)
    have m2 := (hb.block _ (lt_of m1)).trans m1
    have m3 := (off w1 I.r x.g 7 v n1).trans m2
    exact ⟨(ht.block _ (lt_of m3) n2).trans m3, m.2.1, m.2.2⟩
  refine ⟨fun k => F k ∨ (w.heap.size ≤ k ∧ k < w2.heap.size), h.gr.done (F' := fun k => F k ∨ (w.heap.size ≤ k ∧ k < w2.heap.size)) ⟨s3, ?_, fun x hx => by obtain ⟨a, b, c⟩ := keep x hx; exact ⟨a, b, Or.inl c⟩, h.nd, Or.inl h.m1.fr, fun k hk => ?_⟩ T (fun k hk => hk.imp id (fun h => h.1)) (fun k hk => ?_) h.own h.pok rfl h.oct h.each, fun k hk => hk.imp id (fun h => h.1), T⟩
  · rw [List.length_append, List.map_append]
    refine row_low (ownsRow_same hrow (fun k hk => ?_)) (Nat.zero_le _)
    have hk1 := hrow.lt k hk
    obtain ⟨cur, hc⟩ := row_block hrow hk
    have n1 : k ≠ I.r := type_ne hc s1 (by decide)
    have hq1 := (hb.block _ (lt_of qself)).trans qself
    have n2 : k ≠ q := type_ne hc hq1 (by decide)
    rw [ht.block k (by rw [sz]; exact hk1.2) n2, off _ _ _ _ _ n1]
  · have := hrow.lt k hk
    exact Or.inr ⟨this.1, by omega⟩
  · rcases hk with hk | hk
    · exact Nat.lt_of_lt_of_le (h.gr.fl k hk) szT
    · exact hk.2

set_option maxHeartbeats 4000000 in
set_option maxRecDepth 100000 in
theorem join_two (I : RopI) (q : Nat) (L1 L2 : List Lm) (v1 v2 : Value) (F G : Nat → Prop) (b : BookSt) (w : World) (h : Two w I q L1 L2 v1 v2 F G b) :
    Calls Try.prog 16 #[.pointer (some ⟨I.r, 0, none⟩), .pointer (some ⟨q, 0, none⟩)] w (JoinPost I q L1 L2 F G b w) := by
  have hlen : ∀ l : List Lm, (∀ x ∈ l, 1 ≤ x.n) → l.length ≤ (totS (l.map Lm.sz)).1 := leaves_le
  have hl := hlen (L1 ++ L2) (fun x hx => (h.each x hx).1)
  have hoct := h.oct
  rw [List.length_append] at hl
  have tt : (totS ((L1 ++ L2).map Lm.sz)).1 = (totS (L1.map Lm.sz)).1 + (totS (L2.map Lm.sz)).1 := by rw [List.map_append, totS_app]
  rw [tt] at hl hoct
  have so : ∀ {J : RopI} {L : List Lm} {v : Value}, RopeMem w F J L v → L.length ≤ 50000 → SzOk (L.map Lm.sz) := fun {J L v} hm hl => ⟨by rw [List.length_map]; omega, fun p hp => by
    obtain ⟨x, hx, rfl⟩ := List.mem_map.1 hp
    have ok := (hm.mem x hx).2.1
    exact ⟨by have := ok.1; have := ok.2.1; show x.n ≤ 100000; omega, ok.2.1⟩⟩
  have LE1 := Lib.hid (fun W (hW : Below w.heap.size w W) => len_any I L1 v1 F W (h.m1.below hW) (by omega) (so h.m1 (by omega)))
  have LE2 := Lib.hid (fun W (hW : Below w.heap.size w W) => len_any ⟨q, I.bp, I.o, I.p⟩ L2 v2 F W (h.m2.below hW) (by omega) (so h.m2 (by omega)))
  obtain ⟨N1, hN1⟩ : ∃ N, (totS (L1.map Lm.sz)).1 = N := ⟨_, rfl⟩
  obtain ⟨N2, hN2⟩ : ∃ N, (totS (L2.map Lm.sz)).1 = N := ⟨_, rfl⟩
  rw [hN1] at LE1 hoct hl
  rw [hN2] at LE2 hoct hl
  obtain ⟨c0, c1, c2, c3, c4, c5, c6, c7, c8⟩ := h.m1.cells
  obtain ⟨d0, d1, d2, d3, d4, d5, d6, d7, d8⟩ := h.m2.cells
  obtain ⟨la, lc, rfl⟩ := wrow_sh h.m1.row
  obtain ⟨ma, mc, rfl⟩ := wrow_sh h.m2.row
  obtain ⟨j9, hj9, hjs9⟩ := Option.map_eq_some_iff.1 ropeSize
  have ap := run_eql_ptr_other w Try.underlying28 hj9 (of_decide_eq_true hjs9) (a := ⟨I.r, 0, none⟩) (b := ⟨q, 0, none⟩) (fun e => h.ne (congrArg Addr.block e).symm) h.m1.self h.m2.self
  have bp := fun W => books_same W I.bp
  have pp := fun W => pol_same W I.p.k I.p.s I.p.m
  have oo : (I.o != I.o) = false := by simp
  have ll : ((I.p.leaf : Int) != (I.p.leaf : Int)) = false := by simp
  have H := Lib.hid h
  clear h so hlen tt hN1 hN2
  go_enter Try.func16, Try.ntmps16
  go_wp2_with fail
  go_quiet (fail)
  have BA : Below w.heap.size w (w.drewN nq) := bdrewN (Below.refl _ _) nq
  have HTA := Lib.hid (And.intro (H.out.m1.below BA) (H.out.m2.below BA))
  have BA := Lib.hid BA
  clear ap c0 c1 c2 c3 c4 c5 c6 c7 c8 d0 d1 d2 d3 d4 d5 d6 d7 d8
  generalize w.drewN nq = Wa at *
  obtain ⟨c0, c1, c2, c3, c4, c5, c6, c7, c8⟩ := HTA.out.1.cells
  obtain ⟨d0, d1, d2, d3, d4, d5, d6, d7, d8⟩ := HTA.out.2.cells
  go_wp2_with fail
  go_quiet (fail)
  have BB := Lib.hid (BA.out.trans ((bdrewN (Below.refl Wa.heap.size Wa) nq).mono BA.out.size))
  clear BA HTA c0 c1 c2 c3 c4 c5 c6 c7 c8 d0 d1 d2 d3 d4 d5 d6 d7 d8
  generalize Wa.drewN nq = Wb at *
  go_wp2_with fail
  refine (LE1.out _ BB.out).mono ?_
  rintro e Wc ⟨rfl, hbc⟩
  have BC := Lib.hid (BB.out.trans (hbc.mono BB.out.size))
  clear hbc BB
  go_wp2_with fail
  refine (LE2.out _ BC.out).mono ?_
  rintro e Wd ⟨rfl, hbd⟩
  have BD := Lib.hid (BC.out.trans (hbd.mono BC.out.size))
  clear hbd BC LE1 LE2
  have HTD := Lib.hid (And.intro (H.out.m1.below BD.out) (H.out.m2.below BD.out))
  obtain ⟨c0, c1, c2, c3, c4, c5, c6, c7, c8⟩ := HTD.out.1.cells
  obtain ⟨d0, d1, d2, d3, d4, d5, d6, d7, d8⟩ := HTD.out.2.cells
  have hsum : ¬ ((50000 : Int) < (N1 : Int) + (N2 : Int)) := by omega
  go_wp2_with fail
  refine (containsMark_none _ _).mono ?_
  rintro e We ⟨rfl, hwe⟩
  obtain rfl := hwe.symm
  clear hwe
  go_wp2_with fail
  go_quiet (fail)
  have BF := Lib.hid (BD.out.trans ((bdrewN (Below.refl Wd.heap.size Wd) nq).mono BD.out.size))
  clear BD HTD c0 c1 c2 c3 c4 c5 c6 c7 c8 d0 d1 d2 d3 d4 d5 d6 d7 d8
  generalize Wd.drewN nq = Wf at *
  have HTF := Lib.hid (And.intro (H.out.m1.below BF.out) (H.out.m2.below BF.out))
  obtain ⟨c0, c1, c2, c3, c4, c5, c6, c7, c8⟩ := HTF.out.1.cells
  obtain ⟨d0, d1, d2, d3, d4, d5, d6, d7, d8⟩ := HTF.out.2.cells
  go_wp2_with fail
  go_loopw [97] (fun i wr => i = .int .i64 0 ∧ wr = Wf) (fun _ _ => 0)
  case atStart => exact ⟨rfl, rfl⟩
  case round =>
    obtain ⟨rfl, hwr⟩ := hrel
    obtain rfl := hwr.symm
    clear hwr
    go_upto_region 21 with fail
    have S0 : BelS Wf Wf.drew := (Below.refl _ Wf).drew
    have s7 : ∀ y : WIn (BelS Wf), y.w.cell? ⟨I.r, 7, none⟩ = some (.slice la L1.length lc) := fun y => old_cell y.h c7
    have q7 : ∀ y : WIn (BelS Wf), y.w.cell? ⟨q, 7, none⟩ = some (.slice ma L2.length mc) := fun y => old_cell y.h d7
    haveI ne : Nonempty (WIn (BelS Wf)) := ⟨⟨Wf.drew, S0⟩⟩
    clear c0 c1 c2 c3 c4 c5 c6 c7 c8 d0 d1 d2 d3 d4 d5 d6 d7 d8
    refine wp_normal ?_
    refine wp_region_plan 13 (BelS Wf) rfl ?_
    refine wpN_seg [0, 1, 2, 3, 4, 5, 6, 7, 8] (by kernel_rfl) (by kernel_rfl) (by kernel_rfl) (by kernel_rfl) (by decide) (fun _ _ _ _ _ h => h) S0 ?_
    simp only [pick, List.map_cons, List.map_nil, List.getElem?_cons_succ, List.getElem?_cons_zero, Option.getD_some]
    repeat (go_big_quiet_step (fail))
    refine wpQuiet_nil ?_
    clear s7 q7 ne
    generalize Wf.drew = W5 at *
    have S5 := Lib.hid (show Below Wf.heap.size Wf W5 from S0)
    have vals : ∀ l : List Lm, ∀ u ∈ l.map Lm.val, u.oneCell' = true := fun l u hu => by obtain ⟨y', _, rfl⟩ := List.mem_map.1 hu; rfl
    have CR := Lib.hid (concatR2 (wB := W5) (Seg.of_row (HTF.out.1.below S0).row (vals _)) (Seg.of_row (HTF.out.2.below S0).row (vals _)) (by omega))
    clear vals
    refine wpN_one 9 _ (by kernel_rfl) rfl ?_
    refine NextAt.held ?_
    intro K hK
    go_simp
    have S6 : BelS Wf (W5.alloc (.cells #[.slice la L1.length lc, .slice ma L2.length mc] 66)) := S5.out.alloc S5.out.size _
    have HS6 := Lib.hid (show Below Wf.heap.size Wf (W5.alloc (.cells #[.slice la L1.length lc, .slice ma L2.length mc] 66)) from S6)
    refine hK _ _ S6 ?_
    clear hK K S6 S0
    refine wpN_one 10 _ (by kernel_rfl) rfl ?_
    refine NextAt.held ?_
    intro K hK
    go_simp
    refine CR.out.mono ?_
    rintro e w7 ⟨v7, rfl, hown7, hb7⟩
    obtain ⟨va7, vc7, rfl⟩ := wrow_sh hown7
    have S7 : BelS Wf w7 := HS6.out.trans (hb7.mono HS6.out.size)
    have BW : Below w.heap.size w w7 := BF.out.trans ((show Below Wf.heap.size Wf w7 from S7).mono BF.out.size)
    have r7 := (BW.block _ (lt_of H.out.m1.self)).trans H.out.m1.self
    have q7 := (BW.block _ (lt_of H.out.m2.self)).trans H.out.m2.self
    have off : ∀ (W : World) (p k j : Nat) (u : Value), k ≠ p → (W.setCell ⟨p, j, none⟩ u).heap[k]? = W.heap[k]? := fun W p k j u hk => Below.heap_setCell _ _ _ _ hk
    have q8 := (off w7 I.r q 7 (.slice va7 (L1.length + L2.length) vc7) H.out.ne).trans q7
    have T : Touch (fun k => k = q) (w7.setCell ⟨I.r, 7, none⟩ (.slice va7 (L1.length + L2.length) vc7)) ((((w7.setCell ⟨I.r, 7, none⟩ (.slice va7 (L1.length + L2.length) vc7)).setCell ⟨q, 7, none⟩ (.slice none 0 0)).setCell ⟨q, 8, none⟩ (.slice none 0 0)).setCell ⟨q, 6, none⟩ (.bool true)) :=
      (((Touch.refl (fun k => k = q) _).setCell (p := ⟨q, 7, none⟩) (Or.inl rfl) _).setCell (p := ⟨q, 8, none⟩) (Or.inl rfl) _).setCell (p := ⟨q, 6, none⟩) (Or.inl rfl) _
    obtain ⟨F9, h91, h92, h93⟩ := H.out.join BW (row_low hown7 (Nat.le_trans BF.out.size HS6.out.size)) T
    have FIN : Hid (JoinPost I q L1 L2 F G b w (.returned (.int .i64 0)) ((((w7.setCell ⟨I.r, 7, none⟩ (.slice va7 (L1.length + L2.length) vc7)).setCell ⟨q, 7, none⟩ (.slice none 0 0)).setCell ⟨q, 8, none⟩ (.slice none 0 0)).setCell ⟨q, 6, none⟩ (.bool true))) := Lib.hid ⟨rfl, _, F9, h91, h92, h93⟩
    have d1 : w7.cell? ⟨I.r, 7, none⟩ = some (.slice la L1.length lc) := by rw [cell_of r7]; rfl
    have f1 : w7.frozen? ⟨I.r, 7, none⟩ = false := free_of r7 7
    have Q8 := Lib.hid q8
    clear h91 h92 h93 T hown7 hb7 CR BW r7 q7 off q8 HS6
    go_simp
    refine hK _ _ S7 ?_
    clear hK K
    refine wpN_pure [11, 12] (by kernel_rfl) (by kernel_rfl) (by kernel_rfl) (fun _ _ _ _ _ h => h) (fun _ => S7) ?_
    simp only [pick, List.map_cons, List.map_nil, List.getElem?_cons_succ, List.getElem?_cons_zero, Option.getD_some]
    repeat (go_big_quiet_step (fail))
    refine wpQuiet_nil ?_
    clear S7
    refine wpN_one 13 _ (by kernel_rfl) rfl ?_
    refine NextAt.free (by kernel_rfl) ?_
    intro K hK
    go_simp
    refine hK _ _ ?_
    clear hK K d1 f1
    refine wpN_done (by kernel_rfl) ?_
    have x7 : (w7.setCell ⟨I.r, 7, none⟩ (.slice va7 (L1.length + L2.length) vc7)).cell? ⟨q, 7, none⟩ = some (.slice ma L2.length mc) := by rw [cell_of Q8.out]; rfl
    have x8 : (w7.setCell ⟨I.r, 7, none⟩ (.slice va7 (L1.length + L2.length) vc7)).cell? ⟨q, 8, none⟩ = some (.slice none 0 0) := by rw [cell_of Q8.out]; rfl
    have x6 : (w7.setCell ⟨I.r, 7, none⟩ (.slice va7 (L1.length + L2.length) vc7)).cell? ⟨q, 6, none⟩ = some (.bool false) := by rw [cell_of Q8.out]; rfl
    have y7 : (w7.setCell ⟨I.r, 7, none⟩ (.slice va7 (L1.length + L2.length) vc7)).frozen? ⟨q, 7, none⟩ = false := free_of Q8.out 7
    have y8 : (w7.setCell ⟨I.r, 7, none⟩ (.slice va7 (L1.length + L2.length) vc7)).frozen? ⟨q, 8, none⟩ = false := free_of Q8.out 8
    have y6 : (w7.setCell ⟨I.r, 7, none⟩ (.slice va7 (L1.length + L2.length) vc7)).frozen? ⟨q, 6, none⟩ = false := free_of Q8.out 6
    generalize w7.setCell ⟨I.r, 7, none⟩ (.slice va7 (L1.length + L2.length) vc7) = W8 at *
    go_wp2_with fail
    go_ret
    exact FIN.out

end Go.Proofs.Ytidfidknflcioaa
