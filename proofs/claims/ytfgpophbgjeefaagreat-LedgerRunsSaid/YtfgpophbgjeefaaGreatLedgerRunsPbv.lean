/-
  bookCall at Lease and at Pass; at every call. No conditions but what always holds of a book.
-/
import Derived.Test.YtfgpophbgjeefaaGreatLedgerRunsPbu
namespace Go.Proofs.YtfgpophbgjeefaaGreat
open Go.RowKit
set_option linter.unusedVariables false

theorem Reads.past {w w' : World} {k : IntKind} {v : Value} {zs : List Int} {F : Nat → Prop} (h : Reads w k v zs) (ht : Touch F w w') (hF : ∀ b, v.ownBlock = some b → ¬ F b) : Reads w' k v zs := by
  obtain ⟨a, cap, rfl, hl, hc⟩ := h
  refine ⟨a, cap, rfl, hl, fun hne => ?_⟩
  obtain ⟨b, o, rfl, hd⟩ := hc hne
  refine ⟨b, o, rfl, fun j hj => ?_⟩
  have h1 := hd j hj
  have hlt := World.block_lt_of_cell? w _ h1
  have hb := ht.block b hlt (hF b rfl)
  have : w'.cell? ⟨b, o + j, none⟩ = w.cell? ⟨b, o + j, none⟩ := by
    unfold World.cell?
    simp only
    rw [hb]
  rw [this]; exact h1

set_option maxHeartbeats 4000000 in
set_option maxRecDepth 100000 in
theorem bookCall_8 (p q : Nat) (k a b c : Int) (da : Option Addr) (dn dc : Nat) (w0 w : World) (st : BookSt) (N : Nat) (F G : Nat → Prop) (h : BothAt w0 w p q st N F G) (g : Good st) (hl : st.last < 9223372036854775807) (hk : -9223372036854775808 ≤ k ∧ k ≤ 9223372036854775807) (hm : modv k 12 = 8) :
    Calls Tryz.prog 37 #[.pointer (some ⟨p, 0, none⟩), .pointer (some ⟨q, 0, none⟩), .agg #[.int .i64 k, .int .i64 a, .int .i64 b, .int .i64 c, .slice da dn dc]] w (BothPost w0 p q st N F G w) := by
  have MD := mod_any k 12 (w.alloc (.cells #[.int .i64 k, .int .i64 a, .int .i64 b, .int .i64 c, .slice da dn dc] 44)) (by decide) (by decide) hk
  rw [hm] at MD
  have MD := Lib.hid MD
  have hbx : BoxC w.heap.size k a b c (.slice da dn dc) (w.alloc (.cells #[.int .i64 k, .int .i64 a, .int .i64 b, .int .i64 c, .slice da dn dc] 44)) := heap_alloc_new w _
  have h1 := h.under ((Below.refl w.heap.size w).alloc (Nat.le_refl _) (.cells #[.int .i64 k, .int .i64 a, .int .i64 b, .int .i64 c, .slice da dn dc] 44))
  have hF : ¬ F w.heap.size := fun x => Nat.lt_irrefl _ (h.flt _ x)
  have hG : ¬ G w.heap.size := fun x => Nat.lt_irrefl _ (h.glt _ x)
  have PC : ∀ W, BookAt W F p st N → Calls Tryz.prog 163 #[.pointer (some ⟨p, 0, none⟩), .int .i64 a, .int .i64 b, .int .i64 c] W (TwoPost (leaseV st a b c) (leaseR st a b c).1 F p (leaseR st a b c).2 N W) := fun W B => lease_all p a b c W F st N B g hl
  have RC : ∀ W, RB W G q st false → Calls Tryz.prog 164 #[.pointer (some ⟨q, 0, none⟩), .int .i64 a, .int .i64 b, .int .i64 c] W (RP2 (leaseV st a b c) (leaseR st a b c).1 G q (leaseR st a b c).2 false W) := fun W R => leaseRR_all q a b c W G st false R g.e (by simp) hl
  have GD := Lib.hid (And.intro (leaseR_good g a b c) (leaseR_lastN st a b c))
  generalize leaseR st a b c = r at *
  obtain ⟨re, rst⟩ := r
  generalize leaseV st a b c = lv at *
  simp only at PC RC GD
  have PC := Lib.hid PC
  have RC := Lib.hid RC
  have HF := Lib.hid hF
  have HG := Lib.hid hG
  have HB := Lib.hid h1
  have HX := Lib.hid hbx
  clear h g hk hm h1 hF hG hbx hl
  have m0 : ((w.alloc (.cells #[.int .i64 k, .int .i64 a, .int .i64 b, .int .i64 c, .slice da dn dc] 44))).cell? ⟨w.heap.size, 0, none⟩ = some (.int .i64 k) := by rw [cell_of HX.out]; rfl
  go_enter Tryz.func37, Tryz.ntmps37
  go_wp2_with fail
  refine MD.out.mono ?_
  rintro e w1 ⟨rfl, rfl⟩
  go_upto_region 19 with fail
  clear m0
  generalize hW1 : w.alloc (.cells #[.int .i64 k, .int .i64 a, .int .i64 b, .int .i64 c, .slice da dn dc] 44) = W1 at *
  have BB := Lib.hid (show Below w.heap.size w W1 from hW1 ▸ (Below.refl w.heap.size w).alloc (Nat.le_refl _) _)
  generalize hbxe : w.heap.size = bx at *
  have HBXE := Lib.hid hbxe
  clear hbxe
  have m1 : W1.cell? ⟨bx, 1, none⟩ = some (.int .i64 a) := by rw [cell_of HX.out]; rfl
  have m2 : W1.cell? ⟨bx, 2, none⟩ = some (.int .i64 b) := by rw [cell_of HX.out]; rfl
  have m3 : W1.cell? ⟨bx, 3, none⟩ = some (.int .i64 c) := by rw [cell_of HX.out]; rfl
  clear hW1
  go_wp2_with fail
  refine (PC.out _ HB.out.own).mono ?_
  rintro e w3 ⟨rfl, hb3, ht3⟩
  have S1 := HX.out.touch ht3 HF.out
  have MID := Lib.hid (HB.out.mid ht3)
  have H3 := Lib.hid (And.intro hb3 ht3)
  have n1 : w3.cell? ⟨bx, 1, none⟩ = some (.int .i64 a) := by rw [cell_of S1]; rfl
  have n2 : w3.cell? ⟨bx, 2, none⟩ = some (.int .i64 b) := by rw [cell_of S1]; rfl
  have n3 : w3.cell? ⟨bx, 3, none⟩ = some (.int .i64 c) := by rw [cell_of S1]; rfl
  clear hb3 ht3 S1 m1 m2 m3
  go_wp2_with fail
  refine (RC.out _ MID.out).mono ?_
  rintro e w4 ⟨rfl, hb4, ht4⟩
  have FIN : Hid ((∃ F' G', BothAt w0 w4 p q rst N F' G') ∧ Touch (fun k => F k ∨ G k) w w4) := Lib.hid ⟨⟨_, _, HB.out.step H3.out.1 H3.out.2 hb4 ht4⟩, both_touch (by rw [HBXE.out]; exact BB.out) H3.out.2 ht4⟩
  clear hb4 ht4 n1 n2 n3
  go_wp2_with fail
  go_ret
  obtain ⟨⟨F', G', hfin⟩, htt⟩ := FIN.out
  exact ⟨rfl, ⟨rst, F', G', ⟨hfin.own.more (Nat.le_succ N), hfin.ref, hfin.dis, hfin.flt, hfin.glt, hfin.flo, hfin.glo, hfin.below⟩, GD.out.1, GD.out.2⟩, htt⟩

set_option maxHeartbeats 4000000 in
set_option maxRecDepth 100000 in
theorem bookCall_11 (p q : Nat) (k a b c : Int) (da : Option Addr) (dn dc : Nat) (w0 w : World) (st : BookSt) (N : Nat) (F G : Nat → Prop) (h : BothAt w0 w p q st N F G) (g : Good st) (hk : -9223372036854775808 ≤ k ∧ k ≤ 9223372036854775807) (hm : modv k 12 = 11) :
    Calls Tryz.prog 37 #[.pointer (some ⟨p, 0, none⟩), .pointer (some ⟨q, 0, none⟩), .agg #[.int .i64 k, .int .i64 a, .int .i64 b, .int .i64 c, .slice da dn dc]] w (BothPost w0 p q st N F G w) := by
  have MD := mod_any k 12 (w.alloc (.cells #[.int .i64 k, .int .i64 a, .int .i64 b, .int .i64 c, .slice da dn dc] 44)) (by decide) (by decide) hk
  rw [hm] at MD
  have MD := Lib.hid MD
  have hbx : BoxC w.heap.size k a b c (.slice da dn dc) (w.alloc (.cells #[.int .i64 k, .int .i64 a, .int .i64 b, .int .i64 c, .slice da dn dc] 44)) := heap_alloc_new w _
  have h1 := h.under ((Below.refl w.heap.size w).alloc (Nat.le_refl _) (.cells #[.int .i64 k, .int .i64 a, .int .i64 b, .int .i64 c, .slice da dn dc] 44))
  have hF : ¬ F w.heap.size := fun x => Nat.lt_irrefl _ (h.flt _ x)
  have hG : ¬ G w.heap.size := fun x => Nat.lt_irrefl _ (h.glt _ x)
  have PC : ∀ W, BookAt W F p st N → Calls Tryz.prog 169 #[.pointer (some ⟨p, 0, none⟩), .int .i64 a] W (PassPost (passV st a) (passR st a).1 F p (passR st a).2 N W) := fun W B => pass_all p a W F st N B g
  have RC : ∀ W, RB W G q st false → Calls Tryz.prog 170 #[.pointer (some ⟨q, 0, none⟩), .int .i64 a] W (PassPostR (passV st a) (passR st a).1 G q (passR st a).2 false W) := fun W R => passRR_all q a W G st false R g (by simp)
  have GD := Lib.hid (And.intro (passR_good g a) (passR_lastN st a))
  generalize passR st a = r at *
  obtain ⟨re, rst⟩ := r
  generalize passV st a = pv at *
  simp only at PC RC GD
  have PC := Lib.hid PC
  have RC := Lib.hid RC
  have HF := Lib.hid hF
  have HG := Lib.hid hG
  have HB := Lib.hid h1
  have HX := Lib.hid hbx
  clear h g hk hm h1 hF hG hbx
  have m0 : ((w.alloc (.cells #[.int .i64 k, .int .i64 a, .int .i64 b, .int .i64 c, .slice da dn dc] 44))).cell? ⟨w.heap.size, 0, none⟩ = some (.int .i64 k) := by rw [cell_of HX.out]; rfl
  go_enter Tryz.func37, Tryz.ntmps37
  go_wp2_with fail
  refine MD.out.mono ?_
  rintro e w1 ⟨rfl, rfl⟩
  go_upto_region 26 with fail
  clear m0
  generalize hW1 : w.alloc (.cells #[.int .i64 k, .int .i64 a, .int .i64 b, .int .i64 c, .slice da dn dc] 44) = W1 at *
  have BB := Lib.hid (show Below w.heap.size w W1 from hW1 ▸ (Below.refl w.heap.size w).alloc (Nat.le_refl _) _)
  generalize hbxe : w.heap.size = bx at *
  have HBXE := Lib.hid hbxe
  clear hbxe
  have m1 : W1.cell? ⟨bx, 1, none⟩ = some (.int .i64 a) := by rw [cell_of HX.out]; rfl
  clear hW1
  go_wp2_with fail
  refine (PC.out _ HB.out.own).mono ?_
  rintro e w3 ⟨v3, rfl, hr3, hv3, hb3, ht3⟩
  have S1 := HX.out.touch ht3 HF.out
  have MID := Lib.hid (HB.out.mid ht3)
  have H3 := Lib.hid (And.intro hb3 ht3)
  have n1 : w3.cell? ⟨bx, 1, none⟩ = some (.int .i64 a) := by rw [cell_of S1]; rfl
  have HR3 := Lib.hid (And.intro hr3 hv3)
  obtain ⟨a3, c3, rfl, _, _⟩ := hr3
  clear hb3 ht3 S1 m1 hv3
  go_wp2_with fail
  refine (RC.out _ MID.out).mono ?_
  rintro e w4 ⟨v4, rfl, hr4, hv4, hb4, ht4⟩
  have FIN : Hid ((∃ F' G', BothAt w0 w4 p q rst N F' G') ∧ Touch (fun k => F k ∨ G k) w w4) := Lib.hid ⟨⟨_, _, HB.out.step H3.out.1 H3.out.2 hb4 ht4⟩, both_touch (by rw [HBXE.out]; exact BB.out) H3.out.2 ht4⟩
  have R3 := HR3.out.1.past ht4 (fun b hb hGb => by have := HR3.out.2 b hb; have := HB.out.glt b hGb; omega)
  have EQ := equal_int _ _ _ _ w4 R3 hr4
  rw [decide_eq_true rfl] at EQ
  have EQ := Lib.hid EQ
  obtain ⟨a4, c4, rfl, _, _⟩ := hr4
  clear hb4 ht4 n1 hv4 R3
  go_wp2_with fail
  refine EQ.out.mono ?_
  rintro e w5 ⟨rfl, q5, rfl⟩
  go_wp2_with fail
  go_ret
  obtain ⟨⟨F', G', hfin⟩, htt⟩ := FIN.out
  have hfin := hfin.drewN q5
  exact ⟨rfl, ⟨rst, F', G', ⟨hfin.own.more (Nat.le_succ N), hfin.ref, hfin.dis, hfin.flt, hfin.glt, hfin.flo, hfin.glo, hfin.below⟩, GD.out.1, by rw [GD.out.2]; omega⟩, htt.drewN q5⟩

theorem bookCall_any (p q : Nat) (k a b c : Int) (da : Option Addr) (dn dc : Nat) (w0 w : World) (st : BookSt) (N : Nat) (F G : Nat → Prop) (h : BothAt w0 w p q st N F G) (g : Good st) (hN : N < maxLen) (hl : st.last < 9223372036854775807) (hk : -9223372036854775808 ≤ k ∧ k ≤ 9223372036854775807) :
    Calls Tryz.prog 37 #[.pointer (some ⟨p, 0, none⟩), .pointer (some ⟨q, 0, none⟩), .agg #[.int .i64 k, .int .i64 a, .int .i64 b, .int .i64 c, .slice da dn dc]] w (BothPost w0 p q st N F G w) := by
  have h12 := modv_lt k 12 (by decide)
  rcases (show modv k 12 = 0 ∨ modv k 12 = 1 ∨ modv k 12 = 2 ∨ modv k 12 = 3 ∨ modv k 12 = 4 ∨ modv k 12 = 5 ∨ modv k 12 = 6 ∨ modv k 12 = 7 ∨ modv k 12 = 8 ∨ modv k 12 = 9 ∨ modv k 12 = 10 ∨ modv k 12 = 11 by omega) with e | e | e | e | e | e | e | e | e | e | e | e
  · exact bookCall_0 p q k a b c da dn dc w0 w st N F G h g hN hk e
  · exact bookCall_1 p q k a b c da dn dc w0 w st N F G h g hN hk e
  · exact bookCall_2 p q k a b c da dn dc w0 w st N F G h g hN hk e
  · exact bookCall_3 p q k a b c da dn dc w0 w st N F G h g hN hk e
  · exact bookCall_4 p q k a b c da dn dc w0 w st N F G h g hN hk e
  · exact bookCall_5 p q k a b c da dn dc w0 w st N F G h g hN hk e
  · exact bookCall_6 p q k a b c da dn dc w0 w st N F G h g hN hk e
  · exact bookCall_7 p q k a b c da dn dc w0 w st N F G h g hN hk e
  · exact bookCall_8 p q k a b c da dn dc w0 w st N F G h g hl hk e
  · exact bookCall_9 p q k a b c da dn dc w0 w st N F G h g hN hk e
  · exact bookCall_10 p q k a b c da dn dc w0 w st N F G h g hN hk e
  · exact bookCall_11 p q k a b c da dn dc w0 w st N F G h g hk e

end Go.Proofs.YtfgpophbgjeefaaGreat
