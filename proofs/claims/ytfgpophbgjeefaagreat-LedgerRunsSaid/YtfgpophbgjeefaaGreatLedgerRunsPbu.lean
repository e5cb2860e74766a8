/-
  bookCall: one call of both books: they answer alike, and are in the same state. No conditions but what always holds of a book.
-/
import Derived.Test.YtfgpophbgjeefaaGreatLedgerRunsPbq
import Derived.Test.YtfgpophbgjeefaaGreatLedgerRunsPbs
import Derived.Test.YtfgpophbgjeefaaGreatLedgerRunsPaf
import Derived.Test.YtfgpophbgjeefaaGreatLedgerRunsPbt
namespace Go.Proofs.YtfgpophbgjeefaaGreat
open Go.RowKit
set_option linter.unusedVariables false

/-! The number of the last lease. -/
theorem openR_lastN (st : BookSt) (o l : Int) : (openR st o l).2.last = st.last := by
  unfold openR; split
  · split <;> rfl
  · rfl
theorem takeR_lastN (st : BookSt) (o n : Int) : (takeR st o n).2.last = st.last := by
  unfold takeR; split
  · split
    · rfl
    · show (takeSt _ _ _ _ _ _).last = _
      unfold takeSt; split <;> rfl
  · rfl
theorem giveR_lastN (st : BookSt) (o n : Int) : (giveR st o n).2.last = st.last := by
  unfold giveR; split
  · split
    · rfl
    · show (giveSt _ _ _ _ _ _).last = _
      unfold giveSt; split <;> rfl
  · rfl
theorem leaseR_lastN (st : BookSt) (o n u : Int) : (leaseR st o n u).2.last ≤ st.last + 1 := by
  unfold leaseR; split
  · split
    · show st.last ≤ _; omega
    · show (leaseSt _ _ _ _ _ _ _).last ≤ _
      exact Int.le_refl _
  · show st.last ≤ _; omega
theorem passR_lastN (st : BookSt) (now : Int) : (passR st now).2.last = st.last := by
  unfold passR; split
  · exact endAll_last _ _
  · rfl
theorem shutR_last (st : BookSt) (o : Int) : (shutR st o).2.last = st.last := by
  unfold shutR; split
  · split
    · rfl
    · split <;> rfl
  · rfl
theorem changeR_last (st : BookSt) (o f t : Int) : (changeR st o f t).2.last = st.last := by
  unfold changeR; split
  · split
    · rfl
    · unfold changeSt; split <;> rfl
  · rfl
theorem payR_last (st : BookSt) (f t n : Int) : (payR st f t n).2.last = st.last := by
  unfold payR; split
  · split
    · split
      · rfl
      · split
        · rfl
        · unfold paid; split <;> rfl
    · rfl
  · rfl
theorem limR_last (st : BookSt) (o n : Int) : (limR st o n).2.last = st.last := by
  unfold limR; split
  · split
    · rfl
    · split <;> rfl
  · rfl
theorem budR_last (st : BookSt) (b : Int) : (budR st b).2.last = st.last := by
  unfold budR; split
  · split <;> rfl
  · rfl
theorem renewR_last (st : BookSt) (no u : Int) : (renewR st no u).2.last = st.last := by
  unfold renewR; split
  · rfl
  · split <;> rfl
def BothPost (w0 : World) (p q : Nat) (st : BookSt) (N : Nat) (F G : Nat → Prop) (w : World) : Ending → World → Prop := fun e w' =>
  e = .returned (.bool true) ∧ (∃ st' F' G', BothAt w0 w' p q st' (N + 1) F' G' ∧ Good st' ∧ st'.last ≤ st.last + 1) ∧ Touch (fun k => F k ∨ G k) w w'
theorem both_touch {F G : Nat → Prop} {w W w3 w4 : World} (h : Below w.heap.size w W) (h3 : Touch F W w3) (h4 : Touch G w3 w4) : Touch (fun k => F k ∨ G k) w w4 :=
  (((Touch.of_below h).trans (h3.mono (fun k hk => Or.inl hk)) (fun k hk => Or.inl hk))).trans (h4.mono (fun k hk => Or.inr hk)) (fun k hk => Or.inl hk)

/-- The box of the call. -/
def BoxC (bx : Nat) (k a b c : Int) (dv : Value) : World → Prop := fun W => W.heap[bx]? = some (.cells #[.int .i64 k, .int .i64 a, .int .i64 b, .int .i64 c, dv] 44 (0, 0))
theorem BoxC.touch {bx : Nat} {k a b c : Int} {dv : Value} {W W' : World} {F : Nat → Prop} (h : BoxC bx k a b c dv W) (ht : Touch F W W') (hF : ¬ F bx) : BoxC bx k a b c dv W' := (ht.block bx (lt_of h) hF).trans h
theorem BothAt.drewN {w wr : World} {p q : Nat} {st : BookSt} {N : Nat} {F G : Nat → Prop} (h : BothAt w wr p q st N F G) (n : Nat) : BothAt w (wr.drewN n) p q st N F G := h.under (bdrewN (Below.refl _ _) n)
theorem BothAt.fin {w w1 w2 : World} {p q : Nat} {st st' : BookSt} {N N' : Nat} {F G : Nat → Prop} {W : World} (h : BothAt w W p q st N F G) {e1 e2 : Int} (h1 : BookAt w1 (fun k => F k ∨ W.heap.size ≤ k) p st' N') (t1 : Touch F W w1) (h2 : RB w2 (fun k => G k ∨ w1.heap.size ≤ k) q st' false) (t2 : Touch G w1 w2) :
    ∃ F' G', BothAt w w2 p q st' N' F' G' := ⟨_, _, h.step h1 t1 h2 t2⟩


set_option maxHeartbeats 4000000 in
set_option maxRecDepth 100000 in
theorem bookCall_0 (p q : Nat) (k a b c : Int) (da : Option Addr) (dn dc : Nat) (w0 w : World) (st : BookSt) (N : Nat) (F G : Nat → Prop) (h : BothAt w0 w p q st N F G) (g : Good st) (hN : N < maxLen) (hk : -9223372036854775808 ≤ k ∧ k ≤ 9223372036854775807) (hm : modv k 12 = 0) :
    Calls Tryz.prog 37 #[.pointer (some ⟨p, 0, none⟩), .pointer (some ⟨q, 0, none⟩), .agg #[.int .i64 k, .int .i64 a, .int .i64 b, .int .i64 c, .slice da dn dc]] w (BothPost w0 p q st N F G w) := by
  have MD := mod_any k 12 (w.alloc (.cells #[.int .i64 k, .int .i64 a, .int .i64 b, .int .i64 c, .slice da dn dc] 44)) (by decide) (by decide) hk
  rw [hm] at MD
  have MD := Lib.hid MD
  have hbx : BoxC w.heap.size k a b c (.slice da dn dc) (w.alloc (.cells #[.int .i64 k, .int .i64 a, .int .i64 b, .int .i64 c, .slice da dn dc] 44)) := heap_alloc_new w _
  have h1 := h.under ((Below.refl w.heap.size w).alloc (Nat.le_refl _) (.cells #[.int .i64 k, .int .i64 a, .int .i64 b, .int .i64 c, .slice da dn dc] 44))
  have hF : ¬ F w.heap.size := fun x => Nat.lt_irrefl _ (h.flt _ x)
  have hG : ¬ G w.heap.size := fun x => Nat.lt_irrefl _ (h.glt _ x)
  have PC : ∀ W, BookAt W F p st N → Calls Tryz.prog 38 #[.pointer (some ⟨p, 0, none⟩), .int .i64 a, .int .i64 b] W (OpPost (openR st a b).1 F p (openR st a b).2 (N + 1) W) := fun W B => open_all p a b W F st N B g hN
  have RC : ∀ W, RB W G q st false → Calls Tryz.prog 39 #[.pointer (some ⟨q, 0, none⟩), .int .i64 a, .int .i64 b] W (RP (openR st a b).1 G q (openR st a b).2 false W) := fun W R => openR_all q a b W G st false R (by simp)
  have GD := Lib.hid (And.intro (openR_good g a b) (openR_lastN st a b))
  generalize openR st a b = r at *
  obtain ⟨re, rst⟩ := r
  simp only at PC RC GD
  have PC := Lib.hid PC
  have RC := Lib.hid RC
  have HF := Lib.hid hF
  have HG := Lib.hid hG
  have HB := Lib.hid h1
  have HX := Lib.hid hbx
  clear h g hN hk hm h1 hF hG hbx
  have m0 : ((w.alloc (.cells #[.int .i64 k, .int .i64 a, .int .i64 b, .int .i64 c, .slice da dn dc] 44))).cell? ⟨w.heap.size, 0, none⟩ = some (.int .i64 k) := by rw [cell_of HX.out]; rfl
  go_enter Tryz.func37, Tryz.ntmps37
  go_wp2_with fail
  refine MD.out.mono ?_
  rintro e w1 ⟨rfl, rfl⟩
  go_upto_region 3 with fail
  clear m0
  generalize hW1 : w.alloc (.cells #[.int .i64 k, .int .i64 a, .int .i64 b, .int .i64 c, .slice da dn dc] 44) = W1 at *
  have S0 : BoxC w.heap.size k a b c (.slice da dn dc) W1.drew := HX.out
  have s1 : ∀ y : WIn (BoxC w.heap.size k a b c (.slice da dn dc)), y.w.cell? ⟨w.heap.size, 1, none⟩ = some (.int .i64 a) := fun y => by rw [cell_of y.h]; rfl
  have s2 : ∀ y : WIn (BoxC w.heap.size k a b c (.slice da dn dc)), y.w.cell? ⟨w.heap.size, 2, none⟩ = some (.int .i64 b) := fun y => by rw [cell_of y.h]; rfl
  have s3 : ∀ y : WIn (BoxC w.heap.size k a b c (.slice da dn dc)), y.w.cell? ⟨w.heap.size, 3, none⟩ = some (.int .i64 c) := fun y => by rw [cell_of y.h]; rfl
  haveI ne : Nonempty (WIn (BoxC w.heap.size k a b c (.slice da dn dc))) := ⟨⟨W1.drew, S0⟩⟩
  have HB' := Lib.hid (HB.out.drewN 1)
  have BB := Lib.hid (bdrewN (show Below w.heap.size w W1 from hW1 ▸ (Below.refl w.heap.size w).alloc (Nat.le_refl _) _) 1)
  generalize hbxe : w.heap.size = bx at *
  have HBXE := Lib.hid hbxe
  clear hbxe
  clear hW1 HX HB
  refine wp_normal ?_
  refine wp_region_plan 13 (BoxC bx k a b c (.slice da dn dc)) rfl ?_
  refine wpN_seg [0, 1, 2, 3, 4, 6, 7, 8, 9, 10] (by kernel_rfl) (by kernel_rfl) (by kernel_rfl) (by kernel_rfl) (by decide) (fun _ _ _ _ _ h => h) S0 ?_
  simp only [pick, List.map_cons, List.map_nil, List.getElem?_cons_succ, List.getElem?_cons_zero, Option.getD_some]
  repeat (go_big_quiet_step (fail))
  refine wpQuiet_nil ?_
  refine wpN_one 5 _ (by kernel_rfl) rfl ?_
  refine NextAt.held ?_
  intro K hK
  go_simp
  refine (PC.out _ HB'.out.own).mono ?_
  rintro e w3 ⟨rfl, hb3, ht3⟩
  have S1 := S0.touch ht3 HF.out
  have MID := Lib.hid (HB'.out.mid ht3)
  have H3 := Lib.hid (And.intro hb3 ht3)
  clear hb3 ht3
  go_simp
  refine hK _ _ S1 ?_
  clear hK K
  refine wpN_one 11 _ (by kernel_rfl) rfl ?_
  refine NextAt.held ?_
  intro K hK
  go_simp
  refine (RC.out _ MID.out).mono ?_
  rintro e w4 ⟨rfl, hb4, ht4⟩
  have S2 := S1.touch ht4 HG.out
  have FIN : Hid ((∃ F' G', BothAt w0 w4 p q rst (N + 1) F' G') ∧ Touch (fun k => F k ∨ G k) w w4) := Lib.hid ⟨⟨_, _, HB'.out.step H3.out.1 H3.out.2 hb4 ht4⟩, both_touch (by rw [HBXE.out]; exact BB.out) H3.out.2 ht4⟩
  clear hb4 ht4
  go_simp
  refine hK _ _ S2 ?_
  clear hK K
  refine wpN_pure [12] (by kernel_rfl) (by kernel_rfl) (by kernel_rfl) (fun _ _ _ _ _ h => h) (fun _ => S2) ?_
  simp only [pick, List.map_cons, List.map_nil, List.getElem?_cons_succ, List.getElem?_cons_zero, Option.getD_some]
  repeat (go_big_quiet_step (fail))
  refine wpQuiet_nil ?_
  refine wpN_one 13 _ (by kernel_rfl) rfl ?_
  refine NextAt.free (by kernel_rfl) ?_
  intro K hK
  go_simp
  refine hK _ _ ?_
  clear hK K
  refine wpN_done (by kernel_rfl) ?_
  clear S0 S1 S2 s1 s2 s3 ne
  go_wp2_with fail
  go_ret
  obtain ⟨⟨F', G', hfin⟩, htt⟩ := FIN.out
  exact ⟨rfl, ⟨rst, F', G', hfin, GD.out.1, by rw [GD.out.2]; omega⟩, htt⟩

set_option maxHeartbeats 4000000 in
set_option maxRecDepth 100000 in
theorem bookCall_1 (p q : Nat) (k a b c : Int) (da : Option Addr) (dn dc : Nat) (w0 w : World) (st : BookSt) (N : Nat) (F G : Nat → Prop) (h : BothAt w0 w p q st N F G) (g : Good st) (hN : N < maxLen) (hk : -9223372036854775808 ≤ k ∧ k ≤ 9223372036854775807) (hm : modv k 12 = 1) :
    Calls Tryz.prog 37 #[.pointer (some ⟨p, 0, none⟩), .pointer (some ⟨q, 0, none⟩), .agg #[.int .i64 k, .int .i64 a, .int .i64 b, .int .i64 c, .slice da dn dc]] w (BothPost w0 p q st N F G w) := by
  have MD := mod_any k 12 (w.alloc (.cells #[.int .i64 k, .int .i64 a, .int .i64 b, .int .i64 c, .slice da dn dc] 44)) (by decide) (by decide) hk
  rw [hm] at MD
  have MD := Lib.hid MD
  have hbx : BoxC w.heap.size k a b c (.slice da dn dc) (w.alloc (.cells #[.int .i64 k, .int .i64 a, .int .i64 b, .int .i64 c, .slice da dn dc] 44)) := heap_alloc_new w _
  have h1 := h.under ((Below.refl w.heap.size w).alloc (Nat.le_refl _) (.cells #[.int .i64 k, .int .i64 a, .int .i64 b, .int .i64 c, .slice da dn dc] 44))
  have hF : ¬ F w.heap.size := fun x => Nat.lt_irrefl _ (h.flt _ x)
  have hG : ¬ G w.heap.size := fun x => Nat.lt_irrefl _ (h.glt _ x)
  have PC : ∀ W, BookAt W F p st N → Calls Tryz.prog 149 #[.pointer (some ⟨p, 0, none⟩), .int .i64 a] W (OpPost (shutR st a).1 F p (shutR st a).2 (N + 1) W) := fun W B => (shut_all p a W F st N B g).mono fun e w' h => OpPost.more (Nat.le_succ N) h
  have RC : ∀ W, RB W G q st false → Calls Tryz.prog 150 #[.pointer (some ⟨q, 0, none⟩), .int .i64 a] W (RP (shutR st a).1 G q (shutR st a).2 false W) := fun W R => shutR_all q a W G st false R g.e (by simp)
  have GD := Lib.hid (And.intro (shutR_good g a) (shutR_last st a))
  generalize shutR st a = r at *
  obtain ⟨re, rst⟩ := r
  simp only at PC RC GD
  have PC := Lib.hid PC
  have RC := Lib.hid RC
  have HF := Lib.hid hF
  have HG := Lib.hid hG
  have HB := Lib.hid h1
  have HX := Lib.hid hbx
  clear h g hN hk hm h1 hF hG hbx
  have m0 : ((w.alloc (.cells #[.int .i64 k, .int .i64 a, .int .i64 b, .int .i64 c, .slice da dn dc] 44))).cell? ⟨w.heap.size, 0, none⟩ = some (.int .i64 k) := by rw [cell_of HX.out]; rfl
  go_enter Tryz.func37, Tryz.ntmps37
  go_wp2_with fail
  refine MD.out.mono ?_
  rintro e w1 ⟨rfl, rfl⟩
  go_upto_region 5 with fail
  clear m0
  generalize hW1 : w.alloc (.cells #[.int .i64 k, .int .i64 a, .int .i64 b, .int .i64 c, .slice da dn dc] 44) = W1 at *
  have S0 : BoxC w.heap.size k a b c (.slice da dn dc) W1.drew := HX.out
  have s1 : ∀ y : WIn (BoxC w.heap.size k a b c (.slice da dn dc)), y.w.cell? ⟨w.heap.size, 1, none⟩ = some (.int .i64 a) := fun y => by rw [cell_of y.h]; rfl
  have s2 : ∀ y : WIn (BoxC w.heap.size k a b c (.slice da dn dc)), y.w.cell? ⟨w.heap.size, 2, none⟩ = some (.int .i64 b) := fun y => by rw [cell_of y.h]; rfl
  have s3 : ∀ y : WIn (BoxC w.heap.size k a b c (.slice da dn dc)), y.w.cell? ⟨w.heap.size, 3, none⟩ = some (.int .i64 c) := fun y => by rw [cell_of y.h]; rfl
  haveI ne : Nonempty (WIn (BoxC w.heap.size k a b c (.slice da dn dc))) := ⟨⟨W1.drew, S0⟩⟩
  have HB' := Lib.hid (HB.out.drewN 1)
  have BB := Lib.hid (bdrewN (show Below w.heap.size w W1 from hW1 ▸ (Below.refl w.heap.size w).alloc (Nat.le_refl _) _) 1)
  generalize hbxe : w.heap.size = bx at *
  have HBXE := Lib.hid hbxe
  clear hbxe
  clear hW1 HX HB
  refine wp_normal ?_
  refine wp_region_plan 9 (BoxC bx k a b c (.slice da dn dc)) rfl ?_
  refine wpN_seg [0, 1, 2, 4, 5, 6] (by kernel_rfl) (by kernel_rfl) (by kernel_rfl) (by kernel_rfl) (by decide) (fun _ _ _ _ _ h => h) S0 ?_
  simp only [pick, List.map_cons, List.map_nil, List.getElem?_cons_succ, List.getElem?_cons_zero, Option.getD_some]
  repeat (go_big_quiet_step (fail))
  refine wpQuiet_nil ?_
  refine wpN_one 3 _ (by kernel_rfl) rfl ?_
  refine NextAt.held ?_
  intro K hK
  go_simp
  refine (PC.out _ HB'.out.own).mono ?_
  rintro e w3 ⟨rfl, hb3, ht3⟩
  have S1 := S0.touch ht3 HF.out
  have MID := Lib.hid (HB'.out.mid ht3)
  have H3 := Lib.hid (And.intro hb3 ht3)
  clear hb3 ht3
  go_simp
  refine hK _ _ S1 ?_
  clear hK K
  refine wpN_one 7 _ (by kernel_rfl) rfl ?_
  refine NextAt.held ?_
  intro K hK
  go_simp
  refine (RC.out _ MID.out).mono ?_
  rintro e w4 ⟨rfl, hb4, ht4⟩
  have S2 := S1.touch ht4 HG.out
  have FIN : Hid ((∃ F' G', BothAt w0 w4 p q rst (N + 1) F' G') ∧ Touch (fun k => F k ∨ G k) w w4) := Lib.hid ⟨⟨_, _, HB'.out.step H3.out.1 H3.out.2 hb4 ht4⟩, both_touch (by rw [HBXE.out]; exact BB.out) H3.out.2 ht4⟩
  clear hb4 ht4
  go_simp
  refine hK _ _ S2 ?_
  clear hK K
  refine wpN_pure [8] (by kernel_rfl) (by kernel_rfl) (by kernel_rfl) (fun _ _ _ _ _ h => h) (fun _ => S2) ?_
  simp only [pick, List.map_cons, List.map_nil, List.getElem?_cons_succ, List.getElem?_cons_zero, Option.getD_some]
  repeat (go_big_quiet_step (fail))
  refine wpQuiet_nil ?_
  refine wpN_one 9 _ (by kernel_rfl) rfl ?_
  refine NextAt.free (by kernel_rfl) ?_
  intro K hK
  go_simp
  refine hK _ _ ?_
  clear hK K
  refine wpN_done (by kernel_rfl) ?_
  clear S0 S1 S2 s1 s2 s3 ne
  go_wp2_with fail
  go_ret
  obtain ⟨⟨F', G', hfin⟩, htt⟩ := FIN.out
  exact ⟨rfl, ⟨rst, F', G', hfin, GD.out.1, by rw [GD.out.2]; omega⟩, htt⟩

set_option maxHeartbeats 4000000 in
set_option maxRecDepth 100000 in
theorem bookCall_2 (p q : Nat) (k a b c : Int) (da : Option Addr) (dn dc : Nat) (w0 w : World) (st : BookSt) (N : Nat) (F G : Nat → Prop) (h : BothAt w0 w p q st N F G) (g : Good st) (hN : N < maxLen) (hk : -9223372036854775808 ≤ k ∧ k ≤ 9223372036854775807) (hm : modv k 12 = 2) :
    Calls Tryz.prog 37 #[.pointer (some ⟨p, 0, none⟩), .pointer (some ⟨q, 0, none⟩), .agg #[.int .i64 k, .int .i64 a, .int .i64 b, .int .i64 c, .slice da dn dc]] w (BothPost w0 p q st N F G w) := by
  have MD := mod_any k 12 (w.alloc (.cells #[.int .i64 k, .int .i64 a, .int .i64 b, .int .i64 c, .slice da dn dc] 44)) (by decide) (by decide) hk
  rw [hm] at MD
  have MD := Lib.hid MD
  have hbx : BoxC w.heap.size k a b c (.slice da dn dc) (w.alloc (.cells #[.int .i64 k, .int .i64 a, .int .i64 b, .int .i64 c, .slice da dn dc] 44)) := heap_alloc_new w _
  have h1 := h.under ((Below.refl w.heap.size w).alloc (Nat.le_refl _) (.cells #[.int .i64 k, .int .i64 a, .int .i64 b, .int .i64 c, .slice da dn dc] 44))
  have hF : ¬ F w.heap.size := fun x => Nat.lt_irrefl _ (h.flt _ x)
  have hG : ¬ G w.heap.size := fun x => Nat.lt_irrefl _ (h.glt _ x)
  have PC : ∀ W, BookAt W F p st N → Calls Tryz.prog 151 #[.pointer (some ⟨p, 0, none⟩), .int .i64 a, .int .i64 b] W (OpPost (takeR st a b).1 F p (takeR st a b).2 (N + 1) W) := fun W B => (take_all p a b W F st N B g).mono fun e w' h => OpPost.more (Nat.le_succ N) h
  have RC : ∀ W, RB W G q st false → Calls Tryz.prog 152 #[.pointer (some ⟨q, 0, none⟩), .int .i64 a, .int .i64 b] W (RP (takeR st a b).1 G q (takeR st a b).2 false W) := fun W R => takeR_all q a b W G st false R g.e (by simp)
  have GD := Lib.hid (And.intro (takeR_good g a b) (takeR_lastN st a b))
  generalize takeR st a b = r at *
  obtain ⟨re, rst⟩ := r
  simp only at PC RC GD
  have PC := Lib.hid PC
  have RC := Lib.hid RC
  have HF := Lib.hid hF
  have HG := Lib.hid hG
  have HB := Lib.hid h1
  have HX := Lib.hid hbx
  clear h g hN hk hm h1 hF hG hbx
  have m0 : ((w.alloc (.cells #[.int .i64 k, .int .i64 a, .int .i64 b, .int .i64 c, .slice da dn dc] 44))).cell? ⟨w.heap.size, 0, none⟩ = some (.int .i64 k) := by rw [cell_of HX.out]; rfl
  go_enter Tryz.func37, Tryz.ntmps37
  go_wp2_with fail
  refine MD.out.mono ?_
  rintro e w1 ⟨rfl, rfl⟩
  go_upto_region 7 with fail
  clear m0
  generalize hW1 : w.alloc (.cells #[.int .i64 k, .int .i64 a, .int .i64 b, .int .i64 c, .slice da dn dc] 44) = W1 at *
  have S0 : BoxC w.heap.size k a b c (.slice da dn dc) W1.drew := HX.out
  have s1 : ∀ y : WIn (BoxC w.heap.size k a b c (.slice da dn dc)), y.w.cell? ⟨w.heap.size, 1, none⟩ = some (.int .i64 a) := fun y => by rw [cell_of y.h]; rfl
  have s2 : ∀ y : WIn (BoxC w.heap.size k a b c (.slice da dn dc)), y.w.cell? ⟨w.heap.size, 2, none⟩ = some (.int .i64 b) := fun y => by rw [cell_of y.h]; rfl
  have s3 : ∀ y : WIn (BoxC w.heap.size k a b c (.slice da dn dc)), y.w.cell? ⟨w.heap.size, 3, none⟩ = some (.int .i64 c) := fun y => by rw [cell_of y.h]; rfl
  haveI ne : Nonempty (WIn (BoxC w.heap.size k a b c (.slice da dn dc))) := ⟨⟨W1.drew, S0⟩⟩
  have HB' := Lib.hid (HB.out.drewN 1)
  have BB := Lib.hid (bdrewN (show Below w.heap.size w W1 from hW1 ▸ (Below.refl w.heap.size w).alloc (Nat.le_refl _) _) 1)
  generalize hbxe : w.heap.size = bx at *
  have HBXE := Lib.hid hbxe
  clear hbxe
  clear hW1 HX HB
  refine wp_normal ?_
  refine wp_region_plan 13 (BoxC bx k a b c (.slice da dn dc)) rfl ?_
  refine wpN_seg [0, 1, 2, 3, 4, 6, 7, 8, 9, 10] (by kernel_rfl) (by kernel_rfl) (by kernel_rfl) (by kernel_rfl) (by decide) (fun _ _ _ _ _ h => h) S0 ?_
  simp only [pick, List.map_cons, List.map_nil, List.getElem?_cons_succ, List.getElem?_cons_zero, Option.getD_some]
  repeat (go_big_quiet_step (fail))
  refine wpQuiet_nil ?_
  refine wpN_one 5 _ (by kernel_rfl) rfl ?_
  refine NextAt.held ?_
  intro K hK
  go_simp
  refine (PC.out _ HB'.out.own).mono ?_
  rintro e w3 ⟨rfl, hb3, ht3⟩
  have S1 := S0.touch ht3 HF.out
  have MID := Lib.hid (HB'.out.mid ht3)
  have H3 := Lib.hid (And.intro hb3 ht3)
  clear hb3 ht3
  go_simp
  refine hK _ _ S1 ?_
  clear hK K
  refine wpN_one 11 _ (by kernel_rfl) rfl ?_
  refine NextAt.held ?_
  intro K hK
  go_simp
  refine (RC.out _ MID.out).mono ?_
  rintro e w4 ⟨rfl, hb4, ht4⟩
  have S2 := S1.touch ht4 HG.out
  have FIN : Hid ((∃ F' G', BothAt w0 w4 p q rst (N + 1) F' G') ∧ Touch (fun k => F k ∨ G k) w w4) := Lib.hid ⟨⟨_, _, HB'.out.step H3.out.1 H3.out.2 hb4 ht4⟩, both_touch (by rw [HBXE.out]; exact BB.out) H3.out.2 ht4⟩
  clear hb4 ht4
  go_simp
  refine hK _ _ S2 ?_
  clear hK K
  refine wpN_pure [12] (by kernel_rfl) (by kernel_rfl) (by kernel_rfl) (fun _ _ _ _ _ h => h) (fun _ => S2) ?_
  simp only [pick, List.map_cons, List.map_nil, List.getElem?_cons_succ, List.getElem?_cons_zero, Option.getD_some]
  repeat (go_big_quiet_step (fail))
  refine wpQuiet_nil ?_
  refine wpN_one 13 _ (by kernel_rfl) rfl ?_
  refine NextAt.free (by kernel_rfl) ?_
  intro K hK
  go_simp
  refine hK _ _ ?_
  clear hK K
  refine wpN_done (by kernel_rfl) ?_
  clear S0 S1 S2 s1 s2 s3 ne
  go_wp2_with fail
  go_ret
  obtain ⟨⟨F', G', hfin⟩, htt⟩ := FIN.out
  exact ⟨rfl, ⟨rst, F', G', hfin, GD.out.1, by rw [GD.out.2]; omega⟩, htt⟩

set_option maxHeartbeats 4000000 in
set_option maxRecDepth 100000 in
theorem bookCall_3 (p q : Nat) (k a b c : Int) (da : Option Addr) (dn dc : Nat) (w0 w : World) (st : BookSt) (N : Nat) (F G : Nat → Prop) (h : BothAt w0 w p q st N F G) (g : Good st) (hN : N < maxLen) (hk : -9223372036854775808 ≤ k ∧ k ≤ 9223372036854775807) (hm : modv k 12 = 3) :
    Calls Tryz.prog 37 #[.pointer (some ⟨p, 0, none⟩), .pointer (some ⟨q, 0, none⟩), .agg #[.int .i64 k, .int .i64 a, .int .i64 b, .int .i64 c, .slice da dn dc]] w (BothPost w0 p q st N F G w) := by
  have MD := mod_any k 12 (w.alloc (.cells #[.int .i64 k, .int .i64 a, .int .i64 b, .int .i64 c, .slice da dn dc] 44)) (by decide) (by decide) hk
  rw [hm] at MD
  have MD := Lib.hid MD
  have hbx : BoxC w.heap.size k a b c (.slice da dn dc) (w.alloc (.cells #[.int .i64 k, .int .i64 a, .int .i64 b, .int .i64 c, .slice da dn dc] 44)) := heap_alloc_new w _
  have h1 := h.under ((Below.refl w.heap.size w).alloc (Nat.le_refl _) (.cells #[.int .i64 k, .int .i64 a, .int .i64 b, .int .i64 c, .slice da dn dc] 44))
  have hF : ¬ F w.heap.size := fun x => Nat.lt_irrefl _ (h.flt _ x)
  have hG : ¬ G w.heap.size := fun x => Nat.lt_irrefl _ (h.glt _ x)
  have PC : ∀ W, BookAt W F p st N → Calls Tryz.prog 153 #[.pointer (some ⟨p, 0, none⟩), .int .i64 a, .int .i64 b] W (OpPost (giveR st a b).1 F p (giveR st a b).2 (N + 1) W) := fun W B => (give_all p a b W F st N B g).mono fun e w' h => OpPost.more (Nat.le_succ N) h
  have RC : ∀ W, RB W G q st false → Calls Tryz.prog 154 #[.pointer (some ⟨q, 0, none⟩), .int .i64 a, .int .i64 b] W (RP (giveR st a b).1 G q (giveR st a b).2 false W) := fun W R => giveR_all q a b W G st false R g.e (by simp)
  have GD := Lib.hid (And.intro (giveR_good g a b) (giveR_lastN st a b))
  generalize giveR st a b = r at *
  obtain ⟨re, rst⟩ := r
  simp only at PC RC GD
  have PC := Lib.hid PC
  have RC := Lib.hid RC
  have HF := Lib.hid hF
  have HG := Lib.hid hG
  have HB := Lib.hid h1
  have HX := Lib.hid hbx
  clear h g hN hk hm h1 hF hG hbx
  have m0 : ((w.alloc (.cells #[.int .i64 k, .int .i64 a, .int .i64 b, .int .i64 c, .slice da dn dc] 44))).cell? ⟨w.heap.size, 0, none⟩ = some (.int .i64 k) := by rw [cell_of HX.out]; rfl
  go_enter Tryz.func37, Tryz.ntmps37
  go_wp2_with fail
  refine MD.out.mono ?_
  rintro e w1 ⟨rfl, rfl⟩
  go_upto_region 9 with fail
  clear m0
  generalize hW1 : w.alloc (.cells #[.int .i64 k, .int .i64 a, .int .i64 b, .int .i64 c, .slice da dn dc] 44) = W1 at *
  have S0 : BoxC w.heap.size k a b c (.slice da dn dc) W1.drew := HX.out
  have s1 : ∀ y : WIn (BoxC w.heap.size k a b c (.slice da dn dc)), y.w.cell? ⟨w.heap.size, 1, none⟩ = some (.int .i64 a) := fun y => by rw [cell_of y.h]; rfl
  have s2 : ∀ y : WIn (BoxC w.heap.size k a b c (.slice da dn dc)), y.w.cell? ⟨w.heap.size, 2, none⟩ = some (.int .i64 b) := fun y => by rw [cell_of y.h]; rfl
  have s3 : ∀ y : WIn (BoxC w.heap.size k a b c (.slice da dn dc)), y.w.cell? ⟨w.heap.size, 3, none⟩ = some (.int .i64 c) := fun y => by rw [cell_of y.h]; rfl
  haveI ne : Nonempty (WIn (BoxC w.heap.size k a b c (.slice da dn dc))) := ⟨⟨W1.drew, S0⟩⟩
  have HB' := Lib.hid (HB.out.drewN 1)
  have BB := Lib.hid (bdrewN (show Below w.heap.size w W1 from hW1 ▸ (Below.refl w.heap.size w).alloc (Nat.le_refl _) _) 1)
  generalize hbxe : w.heap.size = bx at *
  have HBXE := Lib.hid hbxe
  clear hbxe
  clear hW1 HX HB
  refine wp_normal ?_
  refine wp_region_plan 13 (BoxC bx k a b c (.slice da dn dc)) rfl ?_
  refine wpN_seg [0, 1, 2, 3, 4, 6, 7, 8, 9, 10] (by kernel_rfl) (by kernel_rfl) (by kernel_rfl) (by kernel_rfl) (by decide) (fun _ _ _ _ _ h => h) S0 ?_
  simp only [pick, List.map_cons, List.map_nil, List.getElem?_cons_succ, List.getElem?_cons_zero, Option.getD_some]
  repeat (go_big_quiet_step (fail))
  refine wpQuiet_nil ?_
  refine wpN_one 5 _ (by kernel_rfl) rfl ?_
  refine NextAt.held ?_
  intro K hK
  go_simp
  refine (PC.out _ HB'.out.own).mono ?_
  rintro e w3 ⟨rfl, hb3, ht3⟩
  have S1 := S0.touch ht3 HF.out
  have MID := Lib.hid (HB'.out.mid ht3)
  have H3 := Lib.hid (And.intro hb3 ht3)
  clear hb3 ht3
  go_simp
  refine hK _ _ S1 ?_
  clear hK K
  refine wpN_one 11 _ (by kernel_rfl) rfl ?_
  refine NextAt.held ?_
  intro K hK
  go_simp
  refine (RC.out _ MID.out).mono ?_
  rintro e w4 ⟨rfl, hb4, ht4⟩
  have S2 := S1.touch ht4 HG.out
  have FIN : Hid ((∃ F' G', BothAt w0 w4 p q rst (N + 1) F' G') ∧ Touch (fun k => F k ∨ G k) w w4) := Lib.hid ⟨⟨_, _, HB'.out.step H3.out.1 H3.out.2 hb4 ht4⟩, both_touch (by rw [HBXE.out]; exact BB.out) H3.out.2 ht4⟩
  clear hb4 ht4
  go_simp
  refine hK _ _ S2 ?_
  clear hK K
  refine wpN_pure [12] (by kernel_rfl) (by kernel_rfl) (by kernel_rfl) (fun _ _ _ _ _ h => h) (fun _ => S2) ?_
  simp only [pick, List.map_cons, List.map_nil, List.getElem?_cons_succ, List.getElem?_cons_zero, Option.getD_some]
  repeat (go_big_quiet_step (fail))
  refine wpQuiet_nil ?_
  refine wpN_one 13 _ (by kernel_rfl) rfl ?_
  refine NextAt.free (by kernel_rfl) ?_
  intro K hK
  go_simp
  refine hK _ _ ?_
  clear hK K
  refine wpN_done (by kernel_rfl) ?_
  clear S0 S1 S2 s1 s2 s3 ne
  go_wp2_with fail
  go_ret
  obtain ⟨⟨F', G', hfin⟩, htt⟩ := FIN.out
  exact ⟨rfl, ⟨rst, F', G', hfin, GD.out.1, by rw [GD.out.2]; omega⟩, htt⟩

set_option maxHeartbeats 4000000 in
set_option maxRecDepth 100000 in
theorem bookCall_4 (p q : Nat) (k a b c : Int) (da : Option Addr) (dn dc : Nat) (w0 w : World) (st : BookSt) (N : Nat) (F G : Nat → Prop) (h : BothAt w0 w p q st N F G) (g : Good st) (hN : N < maxLen) (hk : -9223372036854775808 ≤ k ∧ k ≤ 9223372036854775807) (hm : modv k 12 = 4) :
    Calls Tryz.prog 37 #[.pointer (some ⟨p, 0, none⟩), .pointer (some ⟨q, 0, none⟩), .agg #[.int .i64 k, .int .i64 a, .int .i64 b, .int .i64 c, .slice da dn dc]] w (BothPost w0 p q st N F G w) := by
  have MD := mod_any k 12 (w.alloc (.cells #[.int .i64 k, .int .i64 a, .int .i64 b, .int .i64 c, .slice da dn dc] 44)) (by decide) (by decide) hk
  rw [hm] at MD
  have MD := Lib.hid MD
  have hbx : BoxC w.heap.size k a b c (.slice da dn dc) (w.alloc (.cells #[.int .i64 k, .int .i64 a, .int .i64 b, .int .i64 c, .slice da dn dc] 44)) := heap_alloc_new w _
  have h1 := h.under ((Below.refl w.heap.size w).alloc (Nat.le_refl _) (.cells #[.int .i64 k, .int .i64 a, .int .i64 b, .int .i64 c, .slice da dn dc] 44))
  have hF : ¬ F w.heap.size := fun x => Nat.lt_irrefl _ (h.flt _ x)
  have hG : ¬ G w.heap.size := fun x => Nat.lt_irrefl _ (h.glt _ x)
  have PC : ∀ W, BookAt W F p st N → Calls Tryz.prog 155 #[.pointer (some ⟨p, 0, none⟩), .int .i64 a, .int .i64 b, .int .i64 c] W (OpPost (changeR st a b c).1 F p (changeR st a b c).2 (N + 1) W) := fun W B => (change_all p a b c W F st N B g).mono fun e w' h => OpPost.more (Nat.le_succ N) h
  have RC : ∀ W, RB W G q st false → Calls Tryz.prog 156 #[.pointer (some ⟨q, 0, none⟩), .int .i64 a, .int .i64 b, .int .i64 c] W (RP (changeR st a b c).1 G q (changeR st a b c).2 false W) := fun W R => changeR_all q a b c W G st false R g.e (by simp)
  have GD := Lib.hid (And.intro (changeR_good g a b c) (changeR_last st a b c))
  generalize changeR st a b c = r at *
  obtain ⟨re, rst⟩ := r
  simp only at PC RC GD
  have PC := Lib.hid PC
  have RC := Lib.hid RC
  have HF := Lib.hid hF
  have HG := Lib.hid hG
  have HB := Lib.hid h1
  have HX := Lib.hid hbx
  clear h g hN hk hm h1 hF hG hbx
  have m0 : ((w.alloc (.cells #[.int .i64 k, .int .i64 a, .int .i64 b, .int .i64 c, .slice da dn dc] 44))).cell? ⟨w.heap.size, 0, none⟩ = some (.int .i64 k) := by rw [cell_of HX.out]; rfl
  go_enter Tryz.func37, Tryz.ntmps37
  go_wp2_with fail
  refine MD.out.mono ?_
  rintro e w1 ⟨rfl, rfl⟩
  go_upto_region 11 with fail
  clear m0
  generalize hW1 : w.alloc (.cells #[.int .i64 k, .int .i64 a, .int .i64 b, .int .i64 c, .slice da dn dc] 44) = W1 at *
  have S0 : BoxC w.heap.size k a b c (.slice da dn dc) W1.drew := HX.out
  have s1 : ∀ y : WIn (BoxC w.heap.size k a b c (.slice da dn dc)), y.w.cell? ⟨w.heap.size, 1, none⟩ = some (.int .i64 a) := fun y => by rw [cell_of y.h]; rfl
  have s2 : ∀ y : WIn (BoxC w.heap.size k a b c (.slice da dn dc)), y.w.cell? ⟨w.heap.size, 2, none⟩ = some (.int .i64 b) := fun y => by rw [cell_of y.h]; rfl
  have s3 : ∀ y : WIn (BoxC w.heap.size k a b c (.slice da dn dc)), y.w.cell? ⟨w.heap.size, 3, none⟩ = some (.int .i64 c) := fun y => by rw [cell_of y.h]; rfl
  haveI ne : Nonempty (WIn (BoxC w.heap.size k a b c (.slice da dn dc))) := ⟨⟨W1.drew, S0⟩⟩
  have HB' := Lib.hid (HB.out.drewN 1)
  have BB := Lib.hid (bdrewN (show Below w.heap.size w W1 from hW1 ▸ (Below.refl w.heap.size w).alloc (Nat.le_refl _) _) 1)
  generalize hbxe : w.heap.size = bx at *
  have HBXE := Lib.hid hbxe
  clear hbxe
  clear hW1 HX HB
  refine wp_normal ?_
  refine wp_region_plan 17 (BoxC bx k a b c (.slice da dn dc)) rfl ?_
  refine wpN_seg [0, 1, 2, 3, 4, 5, 6, 8, 9, 10, 11, 12, 13, 14] (by kernel_rfl) (by kernel_rfl) (by kernel_rfl) (by kernel_rfl) (by decide) (fun _ _ _ _ _ h => h) S0 ?_
  simp only [pick, List.map_cons, List.map_nil, List.getElem?_cons_succ, List.getElem?_cons_zero, Option.getD_some]
  repeat (go_big_quiet_step (fail))
  refine wpQuiet_nil ?_
  refine wpN_one 7 _ (by kernel_rfl) rfl ?_
  refine NextAt.held ?_
  intro K hK
  go_simp
  refine (PC.out _ HB'.out.own).mono ?_
  rintro e w3 ⟨rfl, hb3, ht3⟩
  have S1 := S0.touch ht3 HF.out
  have MID := Lib.hid (HB'.out.mid ht3)
  have H3 := Lib.hid (And.intro hb3 ht3)
  clear hb3 ht3
  go_simp
  refine hK _ _ S1 ?_
  clear hK K
  refine wpN_one 15 _ (by kernel_rfl) rfl ?_
  refine NextAt.held ?_
  intro K hK
  go_simp
  refine (RC.out _ MID.out).mono ?_
  rintro e w4 ⟨rfl, hb4, ht4⟩
  have S2 := S1.touch ht4 HG.out
  have FIN : Hid ((∃ F' G', BothAt w0 w4 p q rst (N + 1) F' G') ∧ Touch (fun k => F k ∨ G k) w w4) := Lib.hid ⟨⟨_, _, HB'.out.step H3.out.1 H3.out.2 hb4 ht4⟩, both_touch (by rw [HBXE.out]; exact BB.out) H3.out.2 ht4⟩
  clear hb4 ht4
  go_simp
  refine hK _ _ S2 ?_
  clear hK K
  refine wpN_pure [16] (by kernel_rfl) (by kernel_rfl) (by kernel_rfl) (fun _ _ _ _ _ h => h) (fun _ => S2) ?_
  simp only [pick, List.map_cons, List.map_nil, List.getElem?_cons_succ, List.getElem?_cons_zero, Option.getD_some]
  repeat (go_big_quiet_step (fail))
  refine wpQuiet_nil ?_
  refine wpN_one 17 _ (by kernel_rfl) rfl ?_
  refine NextAt.free (by kernel_rfl) ?_
  intro K hK
  go_simp
  refine hK _ _ ?_
  clear hK K
  refine wpN_done (by kernel_rfl) ?_
  clear S0 S1 S2 s1 s2 s3 ne
  go_wp2_with fail
  go_ret
  obtain ⟨⟨F', G', hfin⟩, htt⟩ := FIN.out
  exact ⟨rfl, ⟨rst, F', G', hfin, GD.out.1, by rw [GD.out.2]; omega⟩, htt⟩

set_option maxHeartbeats 4000000 in
set_option maxRecDepth 100000 in
theorem bookCall_5 (p q : Nat) (k a b c : Int) (da : Option Addr) (dn dc : Nat) (w0 w : World) (st : BookSt) (N : Nat) (F G : Nat → Prop) (h : BothAt w0 w p q st N F G) (g : Good st) (hN : N < maxLen) (hk : -9223372036854775808 ≤ k ∧ k ≤ 9223372036854775807) (hm : modv k 12 = 5) :
    Calls Tryz.prog 37 #[.pointer (some ⟨p, 0, none⟩), .pointer (some ⟨q, 0, none⟩), .agg #[.int .i64 k, .int .i64 a, .int .i64 b, .int .i64 c, .slice da dn dc]] w (BothPost w0 p q st N F G w) := by
  have MD := mod_any k 12 (w.alloc (.cells #[.int .i64 k, .int .i64 a, .int .i64 b, .int .i64 c, .slice da dn dc] 44)) (by decide) (by decide) hk
  rw [hm] at MD
  have MD := Lib.hid MD
  have hbx : BoxC w.heap.size k a b c (.slice da dn dc) (w.alloc (.cells #[.int .i64 k, .int .i64 a, .int .i64 b, .int .i64 c, .slice da dn dc] 44)) := heap_alloc_new w _
  have h1 := h.under ((Below.refl w.heap.size w).alloc (Nat.le_refl _) (.cells #[.int .i64 k, .int .i64 a, .int .i64 b, .int .i64 c, .slice da dn dc] 44))
  have hF : ¬ F w.heap.size := fun x => Nat.lt_irrefl _ (h.flt _ x)
  have hG : ¬ G w.heap.size := fun x => Nat.lt_irrefl _ (h.glt _ x)
  have PC : ∀ W, BookAt W F p st N → Calls Tryz.prog 157 #[.pointer (some ⟨p, 0, none⟩), .int .i64 a, .int .i64 b, .int .i64 c] W (OpPost (payR st a b c).1 F p (payR st a b c).2 (N + 1) W) := fun W B => (pay_all p a b c W F st N B g).mono fun e w' h => OpPost.more (Nat.le_succ N) h
  have RC : ∀ W, RB W G q st false → Calls Tryz.prog 158 #[.pointer (some ⟨q, 0, none⟩), .int .i64 a, .int .i64 b, .int .i64 c] W (RP (payR st a b c).1 G q (payR st a b c).2 false W) := fun W R => payR_all q a b c W G st false R g.e (by simp)
  have GD := Lib.hid (And.intro (payR_good g a b c) (payR_last st a b c))
  generalize payR st a b c = r at *
  obtain ⟨re, rst⟩ := r
  simp only at PC RC GD
  have PC := Lib.hid PC
  have RC := Lib.hid RC
  have HF := Lib.hid hF
  have HG := Lib.hid hG
  have HB := Lib.hid h1
  have HX := Lib.hid hbx
  clear h g hN hk hm h1 hF hG hbx
  have m0 : ((w.alloc (.cells #[.int .i64 k, .int .i64 a, .int .i64 b, .int .i64 c, .slice da dn dc] 44))).cell? ⟨w.heap.size, 0, none⟩ = some (.int .i64 k) := by rw [cell_of HX.out]; rfl
  go_enter Tryz.func37, Tryz.ntmps37
  go_wp2_with fail
  refine MD.out.mono ?_
  rintro e w1 ⟨rfl, rfl⟩
  go_upto_region 13 with fail
  clear m0
  generalize hW1 : w.alloc (.cells #[.int .i64 k, .int .i64 a, .int .i64 b, .int .i64 c, .slice da dn dc] 44) = W1 at *
  have S0 : BoxC w.heap.size k a b c (.slice da dn dc) W1.drew := HX.out
  have s1 : ∀ y : WIn (BoxC w.heap.size k a b c (.slice da dn dc)), y.w.cell? ⟨w.heap.size, 1, none⟩ = some (.int .i64 a) := fun y => by rw [cell_of y.h]; rfl
  have s2 : ∀ y : WIn (BoxC w.heap.size k a b c (.slice da dn dc)), y.w.cell? ⟨w.heap.size, 2, none⟩ = some (.int .i64 b) := fun y => by rw [cell_of y.h]; rfl
  have s3 : ∀ y : WIn (BoxC w.heap.size k a b c (.slice da dn dc)), y.w.cell? ⟨w.heap.size, 3, none⟩ = some (.int .i64 c) := fun y => by rw [cell_of y.h]; rfl
  haveI ne : Nonempty (WIn (BoxC w.heap.size k a b c (.slice da dn dc))) := ⟨⟨W1.drew, S0⟩⟩
  have HB' := Lib.hid (HB.out.drewN 1)
  have BB := Lib.hid (bdrewN (show Below w.heap.size w W1 from hW1 ▸ (Below.refl w.heap.size w).alloc (Nat.le_refl _) _) 1)
  generalize hbxe : w.heap.size = bx at *
  have HBXE := Lib.hid hbxe
  clear hbxe
  clear hW1 HX HB
  refine wp_normal ?_
  refine wp_region_plan 17 (BoxC bx k a b c (.slice da dn dc)) rfl ?_
  refine wpN_seg [0, 1, 2, 3, 4, 5, 6, 8, 9, 10, 11, 12, 13, 14] (by kernel_rfl) (by kernel_rfl) (by kernel_rfl) (by kernel_rfl) (by decide) (fun _ _ _ _ _ h => h) S0 ?_
  simp only [pick, List.map_cons, List.map_nil, List.getElem?_cons_succ, List.getElem?_cons_zero, Option.getD_some]
  repeat (go_big_quiet_step (fail))
  refine wpQuiet_nil ?_
  refine wpN_one 7 _ (by kernel_rfl) rfl ?_
  refine NextAt.held ?_
  intro K hK
  go_simp
  refine (PC.out _ HB'.out.own).mono ?_
  rintro e w3 ⟨rfl, hb3, ht3⟩
  have S1 := S0.touch ht3 HF.out
  have MID := Lib.hid (HB'.out.mid ht3)
  have H3 := Lib.hid (And.intro hb3 ht3)
  clear hb3 ht3
  go_simp
  refine hK _ _ S1 ?_
  clear hK K
  refine wpN_one 15 _ (by kernel_rfl) rfl ?_
  refine NextAt.held ?_
  intro K hK
  go_simp
  refine (RC.out _ MID.out).mono ?_
  rintro e w4 ⟨rfl, hb4, ht4⟩
  have S2 := S1.touch ht4 HG.out
  have FIN : Hid ((∃ F' G', BothAt w0 w4 p q rst (N + 1) F' G') ∧ Touch (fun k => F k ∨ G k) w w4) := Lib.hid ⟨⟨_, _, HB'.out.step H3.out.1 H3.out.2 hb4 ht4⟩, both_touch (by rw [HBXE.out]; exact BB.out) H3.out.2 ht4⟩
  clear hb4 ht4
  go_simp
  refine hK _ _ S2 ?_
  clear hK K
  refine wpN_pure [16] (by kernel_rfl) (by kernel_rfl) (by kernel_rfl) (fun _ _ _ _ _ h => h) (fun _ => S2) ?_
  simp only [pick, List.map_cons, List.map_nil, List.getElem?_cons_succ, List.getElem?_cons_zero, Option.getD_some]
  repeat (go_big_quiet_step (fail))
  refine wpQuiet_nil ?_
  refine wpN_one 17 _ (by kernel_rfl) rfl ?_
  refine NextAt.free (by kernel_rfl) ?_
  intro K hK
  go_simp
  refine hK _ _ ?_
  clear hK K
  refine wpN_done (by kernel_rfl) ?_
  clear S0 S1 S2 s1 s2 s3 ne
  go_wp2_with fail
  go_ret
  obtain ⟨⟨F', G', hfin⟩, htt⟩ := FIN.out
  exact ⟨rfl, ⟨rst, F', G', hfin, GD.out.1, by rw [GD.out.2]; omega⟩, htt⟩

set_option maxHeartbeats 4000000 in
set_option maxRecDepth 100000 in
theorem bookCall_6 (p q : Nat) (k a b c : Int) (da : Option Addr) (dn dc : Nat) (w0 w : World) (st : BookSt) (N : Nat) (F G : Nat → Prop) (h : BothAt w0 w p q st N F G) (g : Good st) (hN : N < maxLen) (hk : -9223372036854775808 ≤ k ∧ k ≤ 9223372036854775807) (hm : modv k 12 = 6) :
    Calls Tryz.prog 37 #[.pointer (some ⟨p, 0, none⟩), .pointer (some ⟨q, 0, none⟩), .agg #[.int .i64 k, .int .i64 a, .int .i64 b, .int .i64 c, .slice da dn dc]] w (BothPost w0 p q st N F G w) := by
  have MD := mod_any k 12 (w.alloc (.cells #[.int .i64 k, .int .i64 a, .int .i64 b, .int .i64 c, .slice da dn dc] 44)) (by decide) (by decide) hk
  rw [hm] at MD
  have MD := Lib.hid MD
  have hbx : BoxC w.heap.size k a b c (.slice da dn dc) (w.alloc (.cells #[.int .i64 k, .int .i64 a, .int .i64 b, .int .i64 c, .slice da dn dc] 44)) := heap_alloc_new w _
  have h1 := h.under ((Below.refl w.heap.size w).alloc (Nat.le_refl _) (.cells #[.int .i64 k, .int .i64 a, .int .i64 b, .int .i64 c, .slice da dn dc] 44))
  have hF : ¬ F w.heap.size := fun x => Nat.lt_irrefl _ (h.flt _ x)
  have hG : ¬ G w.heap.size := fun x => Nat.lt_irrefl _ (h.glt _ x)
  have PC : ∀ W, BookAt W F p st N → Calls Tryz.prog 159 #[.pointer (some ⟨p, 0, none⟩), .int .i64 a, .int .i64 b] W (OpPost (limR st a b).1 F p (limR st a b).2 (N + 1) W) := fun W B => (limit_all p a b W F st N B g).mono fun e w' h => OpPost.more (Nat.le_succ N) h
  have RC : ∀ W, RB W G q st false → Calls Tryz.prog 160 #[.pointer (some ⟨q, 0, none⟩), .int .i64 a, .int .i64 b] W (RP (limR st a b).1 G q (limR st a b).2 false W) := fun W R => limR_all q a b W G st false R g.e (by simp)
  have GD := Lib.hid (And.intro (limR_good g a b) (limR_last st a b))
  generalize limR st a b = r at *
  obtain ⟨re, rst⟩ := r
  simp only at PC RC GD
  have PC := Lib.hid PC
  have RC := Lib.hid RC
  have HF := Lib.hid hF
  have HG := Lib.hid hG
  have HB := Lib.hid h1
  have HX := Lib.hid hbx
  clear h g hN hk hm h1 hF hG hbx
  have m0 : ((w.alloc (.cells #[.int .i64 k, .int .i64 a, .int .i64 b, .int .i64 c, .slice da dn dc] 44))).cell? ⟨w.heap.size, 0, none⟩ = some (.int .i64 k) := by rw [cell_of HX.out]; rfl
  go_enter Tryz.func37, Tryz.ntmps37
  go_wp2_with fail
  refine MD.out.mono ?_
  rintro e w1 ⟨rfl, rfl⟩
  go_upto_region 15 with fail
  clear m0
  generalize hW1 : w.alloc (.cells #[.int .i64 k, .int .i64 a, .int .i64 b, .int .i64 c, .slice da dn dc] 44) = W1 at *
  have S0 : BoxC w.heap.size k a b c (.slice da dn dc) W1.drew := HX.out
  have s1 : ∀ y : WIn (BoxC w.heap.size k a b c (.slice da dn dc)), y.w.cell? ⟨w.heap.size, 1, none⟩ = some (.int .i64 a) := fun y => by rw [cell_of y.h]; rfl
  have s2 : ∀ y : WIn (BoxC w.heap.size k a b c (.slice da dn dc)), y.w.cell? ⟨w.heap.size, 2, none⟩ = some (.int .i64 b) := fun y => by rw [cell_of y.h]; rfl
  have s3 : ∀ y : WIn (BoxC w.heap.size k a b c (.slice da dn dc)), y.w.cell? ⟨w.heap.size, 3, none⟩ = some (.int .i64 c) := fun y => by rw [cell_of y.h]; rfl
  haveI ne : Nonempty (WIn (BoxC w.heap.size k a b c (.slice da dn dc))) := ⟨⟨W1.drew, S0⟩⟩
  have HB' := Lib.hid (HB.out.drewN 1)
  have BB := Lib.hid (bdrewN (show Below w.heap.size w W1 from hW1 ▸ (Below.refl w.heap.size w).alloc (Nat.le_refl _) _) 1)
  generalize hbxe : w.heap.size = bx at *
  have HBXE := Lib.hid hbxe
  clear hbxe
  clear hW1 HX HB
  refine wp_normal ?_
  refine wp_region_plan 13 (BoxC bx k a b c (.slice da dn dc)) rfl ?_
  refine wpN_seg [0, 1, 2, 3, 4, 6, 7, 8, 9, 10] (by kernel_rfl) (by kernel_rfl) (by kernel_rfl) (by kernel_rfl) (by decide) (fun _ _ _ _ _ h => h) S0 ?_
  simp only [pick, List.map_cons, List.map_nil, List.getElem?_cons_succ, List.getElem?_cons_zero, Option.getD_some]
  repeat (go_big_quiet_step (fail))
  refine wpQuiet_nil ?_
  refine wpN_one 5 _ (by kernel_rfl) rfl ?_
  refine NextAt.held ?_
  intro K hK
  go_simp
  refine (PC.out _ HB'.out.own).mono ?_
  rintro e w3 ⟨rfl, hb3, ht3⟩
  have S1 := S0.touch ht3 HF.out
  have MID := Lib.hid (HB'.out.mid ht3)
  have H3 := Lib.hid (And.intro hb3 ht3)
  clear hb3 ht3
  go_simp
  refine hK _ _ S1 ?_
  clear hK K
  refine wpN_one 11 _ (by kernel_rfl) rfl ?_
  refine NextAt.held ?_
  intro K hK
  go_simp
  refine (RC.out _ MID.out).mono ?_
  rintro e w4 ⟨rfl, hb4, ht4⟩
  have S2 := S1.touch ht4 HG.out
  have FIN : Hid ((∃ F' G', BothAt w0 w4 p q rst (N + 1) F' G') ∧ Touch (fun k => F k ∨ G k) w w4) := Lib.hid ⟨⟨_, _, HB'.out.step H3.out.1 H3.out.2 hb4 ht4⟩, both_touch (by rw [HBXE.out]; exact BB.out) H3.out.2 ht4⟩
  clear hb4 ht4
  go_simp
  refine hK _ _ S2 ?_
  clear hK K
  refine wpN_pure [12] (by kernel_rfl) (by kernel_rfl) (by kernel_rfl) (fun _ _ _ _ _ h => h) (fun _ => S2) ?_
  simp only [pick, List.map_cons, List.map_nil, List.getElem?_cons_succ, List.getElem?_cons_zero, Option.getD_some]
  repeat (go_big_quiet_step (fail))
  refine wpQuiet_nil ?_
  refine wpN_one 13 _ (by kernel_rfl) rfl ?_
  refine NextAt.free (by kernel_rfl) ?_
  intro K hK
  go_simp
  refine hK _ _ ?_
  clear hK K
  refine wpN_done (by kernel_rfl) ?_
  clear S0 S1 S2 s1 s2 s3 ne
  go_wp2_with fail
  go_ret
  obtain ⟨⟨F', G', hfin⟩, htt⟩ := FIN.out
  exact ⟨rfl, ⟨rst, F', G', hfin, GD.out.1, by rw [GD.out.2]; omega⟩, htt⟩

set_option maxHeartbeats 4000000 in
set_option maxRecDepth 100000 in
theorem bookCall_7 (p q : Nat) (k a b c : Int) (da : Option Addr) (dn dc : Nat) (w0 w : World) (st : BookSt) (N : Nat) (F G : Nat → Prop) (h : BothAt w0 w p q st N F G) (g : Good st) (hN : N < maxLen) (hk : -9223372036854775808 ≤ k ∧ k ≤ 9223372036854775807) (hm : modv k 12 = 7) :
    Calls Tryz.prog 37 #[.pointer (some ⟨p, 0, none⟩), .pointer (some ⟨q, 0, none⟩), .agg #[.int .i64 k, .int .i64 a, .int .i64 b, .int .i64 c, .slice da dn dc]] w (BothPost w0 p q st N F G w) := by
  have MD := mod_any k 12 (w.alloc (.cells #[.int .i64 k, .int .i64 a, .int .i64 b, .int .i64 c, .slice da dn dc] 44)) (by decide) (by decide) hk
  rw [hm] at MD
  have MD := Lib.hid MD
  have hbx : BoxC w.heap.size k a b c (.slice da dn dc) (w.alloc (.cells #[.int .i64 k, .int .i64 a, .int .i64 b, .int .i64 c, .slice da dn dc] 44)) := heap_alloc_new w _
  have h1 := h.under ((Below.refl w.heap.size w).alloc (Nat.le_refl _) (.cells #[.int .i64 k, .int .i64 a, .int .i64 b, .int .i64 c, .slice da dn dc] 44))
  have hF : ¬ F w.heap.size := fun x => Nat.lt_irrefl _ (h.flt _ x)
  have hG : ¬ G w.heap.size := fun x => Nat.lt_irrefl _ (h.glt _ x)
  have PC : ∀ W, BookAt W F p st N → Calls Tryz.prog 161 #[.pointer (some ⟨p, 0, none⟩), .int .i64 a] W (OpPost (budR st a).1 F p (budR st a).2 (N + 1) W) := fun W B => (budget_all p a W F st N B g).mono fun e w' h => OpPost.more (Nat.le_succ N) h
  have RC : ∀ W, RB W G q st false → Calls Tryz.prog 162 #[.pointer (some ⟨q, 0, none⟩), .int .i64 a] W (RP (budR st a).1 G q (budR st a).2 false W) := fun W R => budR_all q a W G st false R g.e (by simp)
  have GD := Lib.hid (And.intro (budR_good g a) (budR_last st a))
  generalize budR st a = r at *
  obtain ⟨re, rst⟩ := r
  simp only at PC RC GD
  have PC := Lib.hid PC
  have RC := Lib.hid RC
  have HF := Lib.hid hF
  have HG := Lib.hid hG
  have HB := Lib.hid h1
  have HX := Lib.hid hbx
  clear h g hN hk hm h1 hF hG hbx
  have m0 : ((w.alloc (.cells #[.int .i64 k, .int .i64 a, .int .i64 b, .int .i64 c, .slice da dn dc] 44))).cell? ⟨w.heap.size, 0, none⟩ = some (.int .i64 k) := by rw [cell_of HX.out]; rfl
  go_enter Tryz.func37, Tryz.ntmps37
  go_wp2_with fail
  refine MD.out.mono ?_
  rintro e w1 ⟨rfl, rfl⟩
  go_upto_region 17 with fail
  clear m0
  generalize hW1 : w.alloc (.cells #[.int .i64 k, .int .i64 a, .int .i64 b, .int .i64 c, .slice da dn dc] 44) = W1 at *
  have S0 : BoxC w.heap.size k a b c (.slice da dn dc) W1.drew := HX.out
  have s1 : ∀ y : WIn (BoxC w.heap.size k a b c (.slice da dn dc)), y.w.cell? ⟨w.heap.size, 1, none⟩ = some (.int .i64 a) := fun y => by rw [cell_of y.h]; rfl
  have s2 : ∀ y : WIn (BoxC w.heap.size k a b c (.slice da dn dc)), y.w.cell? ⟨w.heap.size, 2, none⟩ = some (.int .i64 b) := fun y => by rw [cell_of y.h]; rfl
  have s3 : ∀ y : WIn (BoxC w.heap.size k a b c (.slice da dn dc)), y.w.cell? ⟨w.heap.size, 3, none⟩ = some (.int .i64 c) := fun y => by rw [cell_of y.h]; rfl
  haveI ne : Nonempty (WIn (BoxC w.heap.size k a b c (.slice da dn dc))) := ⟨⟨W1.drew, S0⟩⟩
  have HB' := Lib.hid (HB.out.drewN 1)
  have BB := Lib.hid (bdrewN (show Below w.heap.size w W1 from hW1 ▸ (Below.refl w.heap.size w).alloc (Nat.le_refl _) _) 1)
  generalize hbxe : w.heap.size = bx at *
  have HBXE := Lib.hid hbxe
  clear hbxe
  clear hW1 HX HB
  refine wp_normal ?_
  refine wp_region_plan 9 (BoxC bx k a b c (.slice da dn dc)) rfl ?_
  refine wpN_seg [0, 1, 2, 4, 5, 6] (by kernel_rfl) (by kernel_rfl) (by kernel_rfl) (by kernel_rfl) (by decide) (fun _ _ _ _ _ h => h) S0 ?_
  simp only [pick, List.map_cons, List.map_nil, List.getElem?_cons_succ, List.getElem?_cons_zero, Option.getD_some]
  repeat (go_big_quiet_step (fail))
  refine wpQuiet_nil ?_
  refine wpN_one 3 _ (by kernel_rfl) rfl ?_
  refine NextAt.held ?_
  intro K hK
  go_simp
  refine (PC.out _ HB'.out.own).mono ?_
  rintro e w3 ⟨rfl, hb3, ht3⟩
  have S1 := S0.touch ht3 HF.out
  have MID := Lib.hid (HB'.out.mid ht3)
  have H3 := Lib.hid (And.intro hb3 ht3)
  clear hb3 ht3
  go_simp
  refine hK _ _ S1 ?_
  clear hK K
  refine wpN_one 7 _ (by kernel_rfl) rfl ?_
  refine NextAt.held ?_
  intro K hK
  go_simp
  refine (RC.out _ MID.out).mono ?_
  rintro e w4 ⟨rfl, hb4, ht4⟩
  have S2 := S1.touch ht4 HG.out
  have FIN : Hid ((∃ F' G', BothAt w0 w4 p q rst (N + 1) F' G') ∧ Touch (fun k => F k ∨ G k) w w4) := Lib.hid ⟨⟨_, _, HB'.out.step H3.out.1 H3.out.2 hb4 ht4⟩, both_touch (by rw [HBXE.out]; exact BB.out) H3.out.2 ht4⟩
  clear hb4 ht4
  go_simp
  refine hK _ _ S2 ?_
  clear hK K
  refine wpN_pure [8] (by kernel_rfl) (by kernel_rfl) (by kernel_rfl) (fun _ _ _ _ _ h => h) (fun _ => S2) ?_
  simp only [pick, List.map_cons, List.map_nil, List.getElem?_cons_succ, List.getElem?_cons_zero, Option.getD_some]
  repeat (go_big_quiet_step (fail))
  refine wpQuiet_nil ?_
  refine wpN_one 9 _ (by kernel_rfl) rfl ?_
  refine NextAt.free (by kernel_rfl) ?_
  intro K hK
  go_simp
  refine hK _ _ ?_
  clear hK K
  refine wpN_done (by kernel_rfl) ?_
  clear S0 S1 S2 s1 s2 s3 ne
  go_wp2_with fail
  go_ret
  obtain ⟨⟨F', G', hfin⟩, htt⟩ := FIN.out
  exact ⟨rfl, ⟨rst, F', G', hfin, GD.out.1, by rw [GD.out.2]; omega⟩, htt⟩

set_option maxHeartbeats 4000000 in
set_option maxRecDepth 100000 in
theorem bookCall_9 (p q : Nat) (k a b c : Int) (da : Option Addr) (dn dc : Nat) (w0 w : World) (st : BookSt) (N : Nat) (F G : Nat → Prop) (h : BothAt w0 w p q st N F G) (g : Good st) (hN : N < maxLen) (hk : -9223372036854775808 ≤ k ∧ k ≤ 9223372036854775807) (hm : modv k 12 = 9) :
    Calls Tryz.prog 37 #[.pointer (some ⟨p, 0, none⟩), .pointer (some ⟨q, 0, none⟩), .agg #[.int .i64 k, .int .i64 a, .int .i64 b, .int .i64 c, .slice da dn dc]] w (BothPost w0 p q st N F G w) := by
  have MD := mod_any k 12 (w.alloc (.cells #[.int .i64 k, .int .i64 a, .int .i64 b, .int .i64 c, .slice da dn dc] 44)) (by decide) (by decide) hk
  rw [hm] at MD
  have MD := Lib.hid MD
  have hbx : BoxC w.heap.size k a b c (.slice da dn dc) (w.alloc (.cells #[.int .i64 k, .int .i64 a, .int .i64 b, .int .i64 c, .slice da dn dc] 44)) := heap_alloc_new w _
  have h1 := h.under ((Below.refl w.heap.size w).alloc (Nat.le_refl _) (.cells #[.int .i64 k, .int .i64 a, .int .i64 b, .int .i64 c, .slice da dn dc] 44))
  have hF : ¬ F w.heap.size := fun x => Nat.lt_irrefl _ (h.flt _ x)
  have hG : ¬ G w.heap.size := fun x => Nat.lt_irrefl _ (h.glt _ x)
  have PC : ∀ W, BookAt W F p st N → Calls Tryz.prog 165 #[.pointer (some ⟨p, 0, none⟩), .int .i64 a, .int .i64 b] W (OpPost (renewR st a b).1 F p (renewR st a b).2 (N + 1) W) := fun W B => (renew_all p a b W F st N B g).mono fun e w' h => OpPost.more (Nat.le_succ N) h
  have RC : ∀ W, RB W G q st false → Calls Tryz.prog 166 #[.pointer (some ⟨q, 0, none⟩), .int .i64 a, .int .i64 b] W (RP (renewR st a b).1 G q (renewR st a b).2 false W) := fun W R => renewRR_all q a b W G st false R g.e (by simp)
  have GD := Lib.hid (And.intro (renewR_good g a b) (renewR_last st a b))
  generalize renewR st a b = r at *
  obtain ⟨re, rst⟩ := r
  simp only at PC RC GD
  have PC := Lib.hid PC
  have RC := Lib.hid RC
  have HF := Lib.hid hF
  have HG := Lib.hid hG
  have HB := Lib.hid h1
  have HX := Lib.hid hbx
  clear h g hN hk hm h1 hF hG hbx
  have m0 : ((w.alloc (.cells #[.int .i64 k, .int .i64 a, .int .i64 b, .int .i64 c, .slice da dn dc] 44))).cell? ⟨w.heap.size, 0, none⟩ = some (.int .i64 k) := by rw [cell_of HX.out]; rfl
  go_enter Tryz.func37, Tryz.ntmps37
  go_wp2_with fail
  refine MD.out.mono ?_
  rintro e w1 ⟨rfl, rfl⟩
  go_upto_region 23 with fail
  clear m0
  generalize hW1 : w.alloc (.cells #[.int .i64 k, .int .i64 a, .int .i64 b, .int .i64 c, .slice da dn dc] 44) = W1 at *
  have S0 : BoxC w.heap.size k a b c (.slice da dn dc) W1.drew := HX.out
  have s1 : ∀ y : WIn (BoxC w.heap.size k a b c (.slice da dn dc)), y.w.cell? ⟨w.heap.size, 1, none⟩ = some (.int .i64 a) := fun y => by rw [cell_of y.h]; rfl
  have s2 : ∀ y : WIn (BoxC w.heap.size k a b c (.slice da dn dc)), y.w.cell? ⟨w.heap.size, 2, none⟩ = some (.int .i64 b) := fun y => by rw [cell_of y.h]; rfl
  have s3 : ∀ y : WIn (BoxC w.heap.size k a b c (.slice da dn dc)), y.w.cell? ⟨w.heap.size, 3, none⟩ = some (.int .i64 c) := fun y => by rw [cell_of y.h]; rfl
  haveI ne : Nonempty (WIn (BoxC w.heap.size k a b c (.slice da dn dc))) := ⟨⟨W1.drew, S0⟩⟩
  have HB' := Lib.hid (HB.out.drewN 1)
  have BB := Lib.hid (bdrewN (show Below w.heap.size w W1 from hW1 ▸ (Below.refl w.heap.size w).alloc (Nat.le_refl _) _) 1)
  generalize hbxe : w.heap.size = bx at *
  have HBXE := Lib.hid hbxe
  clear hbxe
  clear hW1 HX HB
  refine wp_normal ?_
  refine wp_region_plan 13 (BoxC bx k a b c (.slice da dn dc)) rfl ?_
  refine wpN_seg [0, 1, 2, 3, 4, 6, 7, 8, 9, 10] (by kernel_rfl) (by kernel_rfl) (by kernel_rfl) (by kernel_rfl) (by decide) (fun _ _ _ _ _ h => h) S0 ?_
  simp only [pick, List.map_cons, List.map_nil, List.getElem?_cons_succ, List.getElem?_cons_zero, Option.getD_some]
  repeat (go_big_quiet_step (fail))
  refine wpQuiet_nil ?_
  refine wpN_one 5 _ (by kernel_rfl) rfl ?_
  refine NextAt.held ?_
  intro K hK
  go_simp
  refine (PC.out _ HB'.out.own).mono ?_
  rintro e w3 ⟨rfl, hb3, ht3⟩
  have S1 := S0.touch ht3 HF.out
  have MID := Lib.hid (HB'.out.mid ht3)
  have H3 := Lib.hid (And.intro hb3 ht3)
  clear hb3 ht3
  go_simp
  refine hK _ _ S1 ?_
  clear hK K
  refine wpN_one 11 _ (by kernel_rfl) rfl ?_
  refine NextAt.held ?_
  intro K hK
  go_simp
  refine (RC.out _ MID.out).mono ?_
  rintro e w4 ⟨rfl, hb4, ht4⟩
  have S2 := S1.touch ht4 HG.out
  have FIN : Hid ((∃ F' G', BothAt w0 w4 p q rst (N + 1) F' G') ∧ Touch (fun k => F k ∨ G k) w w4) := Lib.hid ⟨⟨_, _, HB'.out.step H3.out.1 H3.out.2 hb4 ht4⟩, both_touch (by rw [HBXE.out]; exact BB.out) H3.out.2 ht4⟩
  clear hb4 ht4
  go_simp
  refine hK _ _ S2 ?_
  clear hK K
  refine wpN_pure [12] (by kernel_rfl) (by kernel_rfl) (by kernel_rfl) (fun _ _ _ _ _ h => h) (fun _ => S2) ?_
  simp only [pick, List.map_cons, List.map_nil, List.getElem?_cons_succ, List.getElem?_cons_zero, Option.getD_some]
  repeat (go_big_quiet_step (fail))
  refine wpQuiet_nil ?_
  refine wpN_one 13 _ (by kernel_rfl) rfl ?_
  refine NextAt.free (by kernel_rfl) ?_
  intro K hK
  go_simp
  refine hK _ _ ?_
  clear hK K
  refine wpN_done (by kernel_rfl) ?_
  clear S0 S1 S2 s1 s2 s3 ne
  go_wp2_with fail
  go_ret
  obtain ⟨⟨F', G', hfin⟩, htt⟩ := FIN.out
  exact ⟨rfl, ⟨rst, F', G', hfin, GD.out.1, by rw [GD.out.2]; omega⟩, htt⟩

set_option maxHeartbeats 4000000 in
set_option maxRecDepth 100000 in
theorem bookCall_10 (p q : Nat) (k a b c : Int) (da : Option Addr) (dn dc : Nat) (w0 w : World) (st : BookSt) (N : Nat) (F G : Nat → Prop) (h : BothAt w0 w p q st N F G) (g : Good st) (hN : N < maxLen) (hk : -9223372036854775808 ≤ k ∧ k ≤ 9223372036854775807) (hm : modv k 12 = 10) :
    Calls Tryz.prog 37 #[.pointer (some ⟨p, 0, none⟩), .pointer (some ⟨q, 0, none⟩), .agg #[.int .i64 k, .int .i64 a, .int .i64 b, .int .i64 c, .slice da dn dc]] w (BothPost w0 p q st N F G w) := by
  have MD := mod_any k 12 (w.alloc (.cells #[.int .i64 k, .int .i64 a, .int .i64 b, .int .i64 c, .slice da dn dc] 44)) (by decide) (by decide) hk
  rw [hm] at MD
  have MD := Lib.hid MD
  have hbx : BoxC w.heap.size k a b c (.slice da dn dc) (w.alloc (.cells #[.int .i64 k, .int .i64 a, .int .i64 b, .int .i64 c, .slice da dn dc] 44)) := heap_alloc_new w _
  have h1 := h.under ((Below.refl w.heap.size w).alloc (Nat.le_refl _) (.cells #[.int .i64 k, .int .i64 a, .int .i64 b, .int .i64 c, .slice da dn dc] 44))
  have hF : ¬ F w.heap.size := fun x => Nat.lt_irrefl _ (h.flt _ x)
  have hG : ¬ G w.heap.size := fun x => Nat.lt_irrefl _ (h.glt _ x)
  have PC : ∀ W, BookAt W F p st N → Calls Tryz.prog 167 #[.pointer (some ⟨p, 0, none⟩), .int .i64 a] W (OpPost (endR st a).1 F p (endR st a).2 (N + 1) W) := fun W B => (end_all p a W F st N B g.e).mono fun e w' h => OpPost.more (Nat.le_succ N) h
  have RC : ∀ W, RB W G q st false → Calls Tryz.prog 168 #[.pointer (some ⟨q, 0, none⟩), .int .i64 a] W (RP (endR st a).1 G q (endR st a).2 false W) := fun W R => endRR_all q a W G st false R g.e (by simp)
  have GD := Lib.hid (And.intro (endR_good g a) (endR_last st a))
  generalize endR st a = r at *
  obtain ⟨re, rst⟩ := r
  simp only at PC RC GD
  have PC := Lib.hid PC
  have RC := Lib.hid RC
  have HF := Lib.hid hF
  have HG := Lib.hid hG
  have HB := Lib.hid h1
  have HX := Lib.hid hbx
  clear h g hN hk hm h1 hF hG hbx
  have m0 : ((w.alloc (.cells #[.int .i64 k, .int .i64 a, .int .i64 b, .int .i64 c, .slice da dn dc] 44))).cell? ⟨w.heap.size, 0, none⟩ = some (.int .i64 k) := by rw [cell_of HX.out]; rfl
  go_enter Tryz.func37, Tryz.ntmps37
  go_wp2_with fail
  refine MD.out.mono ?_
  rintro e w1 ⟨rfl, rfl⟩
  go_upto_region 25 with fail
  clear m0
  generalize hW1 : w.alloc (.cells #[.int .i64 k, .int .i64 a, .int .i64 b, .int .i64 c, .slice da dn dc] 44) = W1 at *
  have S0 : BoxC w.heap.size k a b c (.slice da dn dc) W1.drew := HX.out
  have s1 : ∀ y : WIn (BoxC w.heap.size k a b c (.slice da dn dc)), y.w.cell? ⟨w.heap.size, 1, none⟩ = some (.int .i64 a) := fun y => by rw [cell_of y.h]; rfl
  have s2 : ∀ y : WIn (BoxC w.heap.size k a b c (.slice da dn dc)), y.w.cell? ⟨w.heap.size, 2, none⟩ = some (.int .i64 b) := fun y => by rw [cell_of y.h]; rfl
  have s3 : ∀ y : WIn (BoxC w.heap.size k a b c (.slice da dn dc)), y.w.cell? ⟨w.heap.size, 3, none⟩ = some (.int .i64 c) := fun y => by rw [cell_of y.h]; rfl
  haveI ne : Nonempty (WIn (BoxC w.heap.size k a b c (.slice da dn dc))) := ⟨⟨W1.drew, S0⟩⟩
  have HB' := Lib.hid (HB.out.drewN 1)
  have BB := Lib.hid (bdrewN (show Below w.heap.size w W1 from hW1 ▸ (Below.refl w.heap.size w).alloc (Nat.le_refl _) _) 1)
  generalize hbxe : w.heap.size = bx at *
  have HBXE := Lib.hid hbxe
  clear hbxe
  clear hW1 HX HB
  refine wp_normal ?_
  refine wp_region_plan 9 (BoxC bx k a b c (.slice da dn dc)) rfl ?_
  refine wpN_seg [0, 1, 2, 4, 5, 6] (by kernel_rfl) (by kernel_rfl) (by kernel_rfl) (by kernel_rfl) (by decide) (fun _ _ _ _ _ h => h) S0 ?_
  simp only [pick, List.map_cons, List.map_nil, List.getElem?_cons_succ, List.getElem?_cons_zero, Option.getD_some]
  repeat (go_big_quiet_step (fail))
  refine wpQuiet_nil ?_
  refine wpN_one 3 _ (by kernel_rfl) rfl ?_
  refine NextAt.held ?_
  intro K hK
  go_simp
  refine (PC.out _ HB'.out.own).mono ?_
  rintro e w3 ⟨rfl, hb3, ht3⟩
  have S1 := S0.touch ht3 HF.out
  have MID := Lib.hid (HB'.out.mid ht3)
  have H3 := Lib.hid (And.intro hb3 ht3)
  clear hb3 ht3
  go_simp
  refine hK _ _ S1 ?_
  clear hK K
  refine wpN_one 7 _ (by kernel_rfl) rfl ?_
  refine NextAt.held ?_
  intro K hK
  go_simp
  refine (RC.out _ MID.out).mono ?_
  rintro e w4 ⟨rfl, hb4, ht4⟩
  have S2 := S1.touch ht4 HG.out
  have FIN : Hid ((∃ F' G', BothAt w0 w4 p q rst (N + 1) F' G') ∧ Touch (fun k => F k ∨ G k) w w4) := Lib.hid ⟨⟨_, _, HB'.out.step H3.out.1 H3.out.2 hb4 ht4⟩, both_touch (by rw [HBXE.out]; exact BB.out) H3.out.2 ht4⟩
  clear hb4 ht4
  go_simp
  refine hK _ _ S2 ?_
  clear hK K
  refine wpN_pure [8] (by kernel_rfl) (by kernel_rfl) (by kernel_rfl) (fun _ _ _ _ _ h => h) (fun _ => S2) ?_
  simp only [pick, List.map_cons, List.map_nil, List.getElem?_cons_succ, List.getElem?_cons_zero, Option.getD_some]
  repeat (go_big_quiet_step (fail))
  refine wpQuiet_nil ?_
  refine wpN_one 9 _ (by kernel_rfl) rfl ?_
  refine NextAt.free (by kernel_rfl) ?_
  intro K hK
  go_simp
  refine hK _ _ ?_
  clear hK K
  refine wpN_done (by kernel_rfl) ?_
  clear S0 S1 S2 s1 s2 s3 ne
  go_wp2_with fail
  go_ret
  obtain ⟨⟨F', G', hfin⟩, htt⟩ := FIN.out
  exact ⟨rfl, ⟨rst, F', G', hfin, GD.out.1, by rw [GD.out.2]; omega⟩, htt⟩

end Go.Proofs.YtfgpophbgjeefaaGreat
