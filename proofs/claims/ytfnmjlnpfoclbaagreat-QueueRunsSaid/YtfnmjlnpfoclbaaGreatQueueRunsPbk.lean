/-
  Join of the reference's queues: what it gives, with the book. Conditions: two queues, both open, over one book; numbers in their bounds. (Printed by qrj.py.)
-/
import Derived.Test.YtfnmjlnpfoclbaaGreatQueueRunsPbi
import Derived.Test.YtfnmjlnpfoclbaaGreatQueueRunsPbj
namespace Go.Proofs.YtfnmjlnpfoclbaaGreat
open Go.RowKit
set_option linter.unusedVariables false

set_option maxRecDepth 100000 in
theorem slots110 (f : Nat → Value) : slotsOf 110 f = f 0 :: f 1 :: f 2 :: f 3 :: f 4 :: f 5 :: f 6 :: f 7 :: f 8 :: f 9 :: f 10 :: f 11 :: f 12 :: f 13 :: f 14 :: f 15 :: f 16 :: f 17 :: f 18 :: f 19 :: f 20 :: f 21 :: f 22 :: f 23 :: f 24 :: f 25 :: f 26 :: f 27 :: f 28 :: f 29 :: f 30 :: f 31 :: f 32 :: f 33 :: f 34 :: f 35 :: f 36 :: f 37 :: f 38 :: f 39 :: f 40 :: f 41 :: f 42 :: f 43 :: f 44 :: f 45 :: f 46 :: f 47 :: f 48 :: f 49 :: f 50 :: f 51 :: f 52 :: f 53 :: f 54 :: f 55 :: f 56 :: f 57 :: f 58 :: f 59 :: f 60 :: f 61 :: f 62 :: f 63 :: f 64 :: f 65 :: f 66 :: f 67 :: f 68 :: f 69 :: f 70 :: f 71 :: f 72 :: f 73 :: f 74 :: f 75 :: f 76 :: f 77 :: f 78 :: f 79 :: f 80 :: f 81 :: f 82 :: f 83 :: f 84 :: f 85 :: f 86 :: f 87 :: f 88 :: f 89 :: f 90 :: f 91 :: f 92 :: f 93 :: f 94 :: f 95 :: f 96 :: f 97 :: f 98 :: f 99 :: f 100 :: f 101 :: f 102 :: f 103 :: f 104 :: f 105 :: f 106 :: f 107 :: f 108 :: f 109 :: [] := rfl
def JoinRPost (I J : QuId) (L M : List QCh) (bst : BookSt) (F E G : Nat → Prop) (w : World) : Ending → World → Prop := fun e w' =>
  e = .returned (.int .i64 (joinE I J L M bst)) ∧ ∃ G', RB w' G' I.bp (joinSt I J L M bst) false ∧ (∀ k, G' k → k < w'.heap.size) ∧ QLater w w' G G' ∧
  (joinE I J L M bst ≠ 0 → Touch G w w') ∧
  (joinE I J L M bst = 0 → ∃ kv, RqMem w' (fun k => F k ∨ E k ∨ kv.ownBlock = some k) I (L ++ M) kv ∧ RqMem w' E J [] (.slice none 0 0) ∧ (∀ k, kv.ownBlock = some k → w.heap.size ≤ k ∧ ¬ G' k) ∧ Touch (fun k => k = I.r ∨ k = J.r ∨ G k) w w')

/-- What Sizes gives of a queue, open or not. -/
def SzKnown (w : World) (r : Nat) : Prop := ∃ a b : Nat, ∀ W, Below w.heap.size w W → Calls Tryz.prog 10 #[.pointer (some ⟨r, 0, none⟩)] W (fun e w' => e = .returned (.tuple #[.int .i64 (a : Int), .int .i64 (b : Int)]) ∧ Below W.heap.size W w')
theorem szKnown_open {w : World} {F : Nat → Prop} {I : QuId} {L : List QCh} {cv : Value} (h : RqMem w F I L cv) (hok : QChsOk L) : SzKnown w I.r :=
  ⟨_, _, fun W hW => sizes_any I.r L cv W (by rw [cell_of (h.below hW).self]; rfl) (h.below hW).chs hok⟩
theorem szKnown_shut {w : World} {r : Nat} (c6 : w.cell? ⟨r, 6, none⟩ = some (.slice none 0 0)) : SzKnown w r :=
  ⟨_, _, fun W hW => sizes_any r [] _ W (old_cell hW c6) ⟨none, 0, rfl, Nat.zero_le _, by decide, fun k hk => by simp at hk⟩ ⟨by simp, by simp⟩⟩
set_option maxHeartbeats 1000000 in
set_option maxRecDepth 100000 in
theorem joinR_shut (r s : Nat) (w : World) (hr : SzKnown w r) (hs : SzKnown w s) (h : w.cell? ⟨r, 7, none⟩ = some (.bool true) ∨ (w.cell? ⟨r, 7, none⟩ = some (.bool false) ∧ w.cell? ⟨s, 7, none⟩ = some (.bool true))) :
    Calls Tryz.prog 38 #[.pointer (some ⟨r, 0, none⟩), .pointer (some ⟨s, 0, none⟩)] w (fun e w' => e = .returned (.int .i64 11) ∧ Below w.heap.size w w') := by
  obtain ⟨a1, b1, hr⟩ := hr
  obtain ⟨a2, b2, hs⟩ := hs
  have HR := Lib.hid hr
  have HS := Lib.hid hs
  clear hr hs
  rcases h with c6 | ⟨c6, d6⟩
  all_goals
    go_enter Tryz.func38, Tryz.ntmps38
    go_wp2_with fail
    refine (HR.out w (Below.refl _ _)).mono ?_
    rintro e w1 ⟨rfl, hb1⟩
    have B1 := Lib.hid hb1
    clear hb1
    go_wp2_with fail
    refine (HS.out w1 B1.out).mono ?_
    rintro e w2 ⟨rfl, hb2⟩
    have B2 := Lib.hid (B1.out.trans (hb2.mono B1.out.size))
    clear hb2
    have c6' := old_cell B2.out c6
    first
      | (have d6' := old_cell B2.out d6
         go_wp2_with fail
         go_ret
         exact ⟨rfl, B2.out⟩)
      | (go_wp2_with fail
         go_ret
         exact ⟨rfl, B2.out⟩)
theorem queueRSize : (Tryz.prog.info? 83).map (fun j => decide (j.size ≠ 0)) = some true := by kernel_rfl
theorem queueR_self (w : World) (a : Nat) : (binOp .eql 32 (.pointer (some ⟨a, 0, none⟩)) (.pointer (some ⟨a, 0, none⟩))).run Tryz.prog w = .ok (.bool true) w := by
  obtain ⟨j, hj, _⟩ := Option.map_eq_some_iff.1 queueRSize
  exact run_eql_ptr_same w _ Tryz.underlying32 hj
set_option maxHeartbeats 1000000 in
set_option maxRecDepth 100000 in
theorem joinR_self (r : Nat) (w : World) (hr : SzKnown w r) (c7 : w.cell? ⟨r, 7, none⟩ = some (.bool false)) :
    Calls Tryz.prog 38 #[.pointer (some ⟨r, 0, none⟩), .pointer (some ⟨r, 0, none⟩)] w (fun e w' => e = .returned (.int .i64 6) ∧ Below w.heap.size w w') := by
  obtain ⟨a1, b1, hr⟩ := hr
  have HR := Lib.hid hr
  have SE := fun W => queueR_self W r
  clear hr
  go_enter Tryz.func38, Tryz.ntmps38
  go_wp2_with fail
  refine (HR.out w (Below.refl _ _)).mono ?_
  rintro e w1 ⟨rfl, hb1⟩
  have B1 := Lib.hid hb1
  clear hb1
  go_wp2_with fail
  refine (HR.out w1 B1.out).mono ?_
  rintro e w2 ⟨rfl, hb2⟩
  have B2 := Lib.hid (B1.out.trans (hb2.mono B1.out.size))
  clear hb2
  have c7' := old_cell B2.out c7
  go_wp2_with fail
  go_ret
  exact ⟨rfl, B2.out⟩
theorem queuesR_apart {w : World} {a b : Nat} {ca cb : Array Value} (ha : w.heap[a]? = some (.cells ca 83 (0, 0))) (hb : w.heap[b]? = some (.cells cb 83 (0, 0))) (hab : a ≠ b) :
    (binOp .eql 32 (.pointer (some ⟨a, 0, none⟩)) (.pointer (some ⟨b, 0, none⟩))).run Tryz.prog w = .ok (.bool false) w := by
  obtain ⟨j, hj, hjs⟩ := Option.map_eq_some_iff.1 queueRSize
  exact run_eql_ptr_other w Tryz.underlying32 hj (of_decide_eq_true hjs) (fun e => hab (congrArg Addr.block e)) ha hb
theorem bookSizeR : (Tryz.prog.info? 66).map (fun j => decide (j.size ≠ 0)) = some true := by kernel_rfl
theorem booksR_one (w : World) (p : Nat) :
    (binOp .neq 27 (.pointer (some ⟨p, 0, none⟩)) (.pointer (some ⟨p, 0, none⟩))).run Tryz.prog w = .ok (.bool false) w := by
  obtain ⟨j, hj, _⟩ := Option.map_eq_some_iff.1 bookSizeR
  exact Lib.run_neq_ptr_same w _ Tryz.underlying27 hj

/-- Both rows of chunks are one; the other queue has none. -/
theorem joinR_fin {w6 w9 : World} {I J : QuId} {L M : List QCh} {cv dv kv : Value} {F E : Nat → Prop} (hq : RqMem w6 F I L cv) (ho : RqMem w6 E J M dv) (hFE : ∀ k, F k → ¬ E k) (hb : Below w6.heap.size w6 w9)
    (hrow : w9.ownsRow w6.heap.size 101 3 kv (L ++ M).length ((L ++ M).flatMap QCh.cells)) :
    RqMem ((w9.setCell ⟨I.r, 6, none⟩ kv).setCell ⟨J.r, 6, none⟩ (.slice none 0 0)) (fun k => F k ∨ E k ∨ kv.ownBlock = some k) I (L ++ M) kv ∧ RqMem ((w9.setCell ⟨I.r, 6, none⟩ kv).setCell ⟨J.r, 6, none⟩ (.slice none 0 0)) E J [] (.slice none 0 0) ∧
    Touch (fun k => k = I.r ∨ k = J.r) w6 ((w9.setCell ⟨I.r, 6, none⟩ kv).setCell ⟨J.r, 6, none⟩ (.slice none 0 0)) := by
  have hne : I.r ≠ J.r := fun e => hFE _ hq.fr (e ▸ ho.fr)
  have q9 := hq.below hb
  have o9 := ho.below hb
  have hi := lt_of hq.self
  have hj := lt_of ho.self
  have keep : ∀ k, k ≠ I.r → k ≠ J.r → ((w9.setCell ⟨I.r, 6, none⟩ kv).setCell ⟨J.r, 6, none⟩ (.slice none 0 0)).heap[k]? = w9.heap[k]? := fun k h1 h2 => (Below.heap_setCell _ _ _ k h2).trans (Below.heap_setCell _ _ _ k h1)
  have oct : ∀ (k : Nat) (cs : List Int), byteRow w9 k cs → byteRow ((w9.setCell ⟨I.r, 6, none⟩ kv).setCell ⟨J.r, 6, none⟩ (.slice none 0 0)) k cs := fun k cs h => by
    refine (keep k (fun e => ?_) (fun e => ?_)).trans h
    · have := q9.self; rw [← e, h] at this; simp at this
    · have := o9.self; rw [← e, h] at this; simp at this
  have T : Touch (fun k => k = I.r ∨ k = J.r) w6 ((w9.setCell ⟨I.r, 6, none⟩ kv).setCell ⟨J.r, 6, none⟩ (.slice none 0 0)) := Touch.setCell (F := fun k => k = I.r ∨ k = J.r) (Touch.setCell (F := fun k => k = I.r ∨ k = J.r) (Touch.of_below hb) (Or.inl (Or.inl rfl)) _) (Or.inl (Or.inr rfl)) _
  refine ⟨⟨?_, Or.inl hq.fr, ?_, fun k hk => Or.inr (Or.inr hk), ?_, ?_⟩, ⟨?_, ho.fr, World.ownsRow_nil _ _ _ _, fun k hk => by simp [Value.ownBlock] at hk, by simp, by simp⟩, T⟩
  · rw [Below.heap_setCell _ _ _ _ hne, block_setCell q9.self]; rfl
  · refine ownsRow_same (ownsRow_base hrow) (fun k hk => keep k (fun e => ?_) (fun e => ?_))
    · have := (hrow.lt k hk).1; omega
    · have := (hrow.lt k hk).1; omega
  · intro c hc
    rcases List.mem_append.1 hc with hc | hc
    · exact ⟨oct _ _ (q9.mem c hc).1, Or.inl (hq.mem c hc).2⟩
    · exact ⟨oct _ _ (o9.mem c hc).1, Or.inr (Or.inl (ho.mem c hc).2)⟩
  · rw [List.map_append, List.nodup_append]
    refine ⟨hq.inj, ho.inj, fun a ha b hb2 e => ?_⟩
    obtain ⟨c, hc, rfl⟩ := List.mem_map.1 ha
    obtain ⟨d, hd, rfl⟩ := List.mem_map.1 hb2
    exact hFE _ (hq.mem c hc).2 (e ▸ (ho.mem d hd).2)
  · rw [block_setCell (show (w9.setCell ⟨I.r, 6, none⟩ kv).heap[J.r]? = _ from (Below.heap_setCell _ _ _ _ (fun e => hne e.symm)).trans o9.self)]; rfl

set_option maxHeartbeats 8000000 in
set_option maxRecDepth 100000 in
theorem joinR_any (I J : QuId) (L M : List QCh) (bst : BookSt) (F E G : Nat → Prop) (w : World) (hq : RR w I L bst F G) (ho : RR w J M bst E G) (hbp : J.bp = I.bp) (hFE : ∀ k, F k → ¬ E k) :
    Calls Tryz.prog 38 #[.pointer (some ⟨I.r, 0, none⟩), .pointer (some ⟨J.r, 0, none⟩)] w (JoinRPost I J L M bst F E G w) := by
  obtain ⟨i0, hi0, hz0, hz1, hz2⟩ := info_parts infoRCh
  obtain ⟨cv, mq⟩ := hq.qu
  obtain ⟨dv, mo⟩ := ho.qu
  have LQ := Lib.hid (fun W (h : BelQ w W) => sizes_any I.r L cv W (by rw [cell_of (mq.below h).self]; rfl) (mq.below h).chs hq.ok)
  have LO := Lib.hid (fun W (h : BelQ w W) => sizes_any J.r M dv W (by rw [cell_of (mo.below h).self]; rfl) (mo.below h).chs ho.ok)
  have HQ := Lib.hid hq
  have HO := Lib.hid ho
  have MQ := Lib.hid mq
  have MO := Lib.hid mo
  have HFE := Lib.hid hFE
  have hl1 := hq.ok.sum L.length
  have hl2 := ho.ok.sum M.length
  have hr2 := ho.ok.sumR M.length
  rw [List.take_length] at hl1 hl2 hr2
  have b1 := hq.ok.1
  have b2 := ho.ok.1
  have a6 : w.cell? ⟨I.r, 7, none⟩ = some (.bool false) := by rw [cell_of mq.self]; rfl
  have e6 : w.cell? ⟨J.r, 7, none⟩ = some (.bool false) := by rw [cell_of mo.self]; rfl
  have a0 : w.cell? ⟨I.r, 0, none⟩ = some (.pointer (some ⟨I.bp, 0, none⟩)) := by rw [cell_of mq.self]; rfl
  have e0 : w.cell? ⟨J.r, 0, none⟩ = some (.pointer (some ⟨I.bp, 0, none⟩)) := by rw [cell_of mo.self]; rw [← hbp]; rfl
  have a1 : w.cell? ⟨I.r, 1, none⟩ = some (.int .i64 I.o) := by rw [cell_of mq.self]; rfl
  have e1 : w.cell? ⟨J.r, 1, none⟩ = some (.int .i64 J.o) := by rw [cell_of mo.self]; rfl
  have a7 : w.cell? ⟨I.r, 6, none⟩ = some cv := by rw [cell_of mq.self]; rfl
  have e7 : w.cell? ⟨J.r, 6, none⟩ = some dv := by rw [cell_of mo.self]; rfl
  obtain ⟨ca, cc, rfl⟩ := qrow_shape mq.crow
  obtain ⟨da, dc, rfl⟩ := qrow_shape mo.crow
  have hne : I.r ≠ J.r := fun e => hFE _ mq.fr (e ▸ mo.fr)
  have AP := Lib.hid (fun W (hW : Below w.heap.size w W) => queuesR_apart (mq.below hW).self (mo.below hW).self hne)
  have BO := fun W => booksR_one W I.bp
  have BIG : Hid (bigJ L M ↔ (100000 < qsum QCh.len L + qsum QCh.len M ∨ 500 < L.length + M.length)) := Lib.hid Iff.rfl
  have PAI : Hid (paidJ I J M ↔ (I.o ≠ J.o ∧ 0 < qsum QCh.room M)) := Lib.hid Iff.rfl
  have JE : Hid (joinE I J L M bst = if bigJ L M then 4 else if paidJ I J M then (payR bst J.o I.o (qsum QCh.room M : Nat)).1 else 0) := Lib.hid rfl
  have JS : Hid (joinSt I J L M bst = if bigJ L M then bst else if paidJ I J M then (payR bst J.o I.o (qsum QCh.room M : Nat)).2 else bst) := Lib.hid rfl
  unfold JoinRPost
  generalize joinE I J L M bst = je at *
  generalize joinSt I J L M bst = js at *
  unfold SizesPost at LQ LO
  generalize qsum QCh.len L = SL at *
  generalize qsum QCh.len M = SM at *
  generalize qsum QCh.room M = RM at *
  generalize qsum QCh.room L = RL at *
  have HBP := Lib.hid hbp
  have S0' := Lib.hid (show BelQ w w from Below.refl _ _)
  clear hq ho mq mo hFE hbp
  go_enter Tryz.func38, Tryz.ntmps38
  go_wp2_with fail
  refine (LQ.out _ (Below.refl _ _)).mono ?_
  rintro e w1 ⟨rfl, hb1⟩
  have B1 : BelQ w w1 := hb1
  clear hb1
  go_wp2_with fail
  refine (LO.out _ B1).mono ?_
  rintro e w2 ⟨rfl, hb2⟩
  have B2 : Below w.heap.size w w2 := Below.trans (a := w) B1 (hb2.mono (Below.size B1))
  have HB2 := Lib.hid B2
  clear hb2 B1
  have AP := AP.out w2 HB2.out
  have x7 := old_cell B2 a6
  have y7 := old_cell B2 e6
  have x0 := old_cell B2 a0
  have y0 := old_cell B2 e0
  have x1 := old_cell B2 a1
  have y1' := old_cell B2 e1
  have x6 := old_cell B2 a7
  have y6 := old_cell B2 e7
  clear a6 e6 e0 a7 e7 B2
  go_upto_region 7 with fail
  go_quiet (fail)
  have B3 := Lib.hid (bdrewN HB2.out nq)
  go_upto_region 9 with fail
  refine wp_cut_framed 110 (fun f wx => f 0 = .pointer (some ⟨I.r, 0, none⟩) ∧ f 1 = .pointer (some ⟨J.r, 0, none⟩) ∧ f 7 = .int .i64 (RM : Int) ∧ (∃ b : Bool, f 45 = .bool b ∧ Hid (b = true ↔ bigJ L M)) ∧ ∃ q, wx = w2.drewN q) _ _ ?_ ?_
  · intro J2 K2 hJ2 hK2
    by_cases g1 : 100000 < SL + SM
    · have g1' : (100000 : Int) < (SL : Int) + SM := by omega
      have GO := Lib.hid (BIG.out.2 (Or.inl g1))
      clear g1 BIG
      go_quiet (fail)
      go_wp2_with fail
      exact Met.intro (hJ2 _ _ (by kernel_rfl) ⟨rfl, rfl, rfl, ⟨true, by first | rfl | simp, Lib.hid ⟨fun _ => GO.out, fun _ => rfl⟩⟩, _, rfl⟩)
    · have g1' : ¬ (100000 : Int) < (SL : Int) + SM := by omega
      by_cases g2 : 500 < L.length + M.length
      · have g2' : (500 : Int) < (L.length : Int) + M.length := by omega
        have GO := Lib.hid (BIG.out.2 (Or.inr g2))
        clear g1 g2 BIG
        go_quiet (fail)
        go_wp2_with fail
        exact Met.intro (hJ2 _ _ (by kernel_rfl) ⟨rfl, rfl, rfl, ⟨true, by first | rfl | simp, Lib.hid ⟨fun _ => GO.out, fun _ => rfl⟩⟩, _, rfl⟩)
      · have g2' : ¬ (500 : Int) < (L.length : Int) + M.length := by omega
        have GO : Hid (¬ bigJ L M) := Lib.hid (fun x => (BIG.out.1 x).elim g1 g2)
        clear g1 g2 BIG
        go_quiet (fail)
        go_wp2_with fail
        exact Met.intro (hJ2 _ _ (by kernel_rfl) ⟨rfl, rfl, rfl, ⟨false, by first | rfl | simp, Lib.hid ⟨fun h => (by simp at h), fun h => absurd h GO.out⟩⟩, _, rfl⟩)
  intro f2 wx ⟨f0, f1, f7, ⟨b, f45, hb⟩, q, hwx⟩
  rw [slots110]
  rw [f0, f1, f7, f45]
  clear f0 f1 f7 f45
  have hbx : Below w.heap.size w wx := by rw [hwx]; exact bdrewN HB2.out q
  have y1 : wx.cell? ⟨I.r, 1, none⟩ = some (.int .i64 I.o) := by rw [hwx]; exact x1
  have z1 : wx.cell? ⟨J.r, 1, none⟩ = some (.int .i64 J.o) := by rw [hwx]; exact y1'
  clear hwx
  cases b with
  | true =>
    have hbig := hb.out.1 rfl
    have e1' : je = 4 := by rw [JE.out, if_pos hbig]
    have e2' : js = bst := by rw [JS.out, if_pos hbig]
    have QB := Lib.hid (HQ.out.below hbx)
    have HBX := Lib.hid hbx
    subst e1' e2'
    clear hbx JE JS hbig hb
    go_wp2_with fail
    go_ret
    exact ⟨rfl, G, QB.out.bk, QB.out.gl, fun k hk => Or.inl hk, fun _ => Touch.of_below HBX.out, fun h => by cases h⟩
  | false =>
    have hbig : ¬ bigJ L M := fun h => by have := hb.out.2 h; cases this
    have JE2 : Hid (je = if paidJ I J M then (payR bst J.o I.o (RM : Nat)).1 else 0) := Lib.hid (by rw [JE.out, if_neg hbig])
    have JS2 : Hid (js = if paidJ I J M then (payR bst J.o I.o (RM : Nat)).2 else bst) := Lib.hid (by rw [JS.out, if_neg hbig])
    have h500 : L.length + M.length ≤ 500 := Nat.le_of_not_lt (fun h => hbig (BIG.out.2 (Or.inr h)))
    have BX := Lib.hid hbx
    clear JE JS hbig hb hbx
    have B2 := BX
    go_upto_region 11 with fail
    refine wp_cut_framed 110 (fun f wy => f 0 = .pointer (some ⟨I.r, 0, none⟩) ∧ f 1 = .pointer (some ⟨J.r, 0, none⟩) ∧ f 7 = .int .i64 (RM : Int) ∧ (∃ b : Bool, f 76 = .bool b ∧ Hid (b = true ↔ paidJ I J M)) ∧ Below w.heap.size w wy) _ _ ?_ ?_
    · intro J2 K2 hJ2 hK2
      by_cases hoo : I.o = J.o
      · have GO : Hid (¬ paidJ I J M) := Lib.hid (fun x : paidJ I J M => (PAI.out.1 x).1 hoo)
        rw [← hoo] at z1
        clear hoo PAI
        go_quiet (fail)
        have B3 := bdrewN B2.out nq
        go_wp2_with fail
        all_goals exact Met.intro (hJ2 _ _ (by kernel_rfl) ⟨rfl, rfl, rfl, ⟨false, by first | rfl | simp, Lib.hid ⟨fun h => (by simp at h), fun h => absurd h GO.out⟩⟩, B3⟩)
      · have hne1 : (I.o == J.o) = false := by simpa using hoo
        have hne2 : (I.o != J.o) = true := by simpa using hoo
        by_cases hrm : RM = 0
        · have GO : Hid (¬ paidJ I J M) := Lib.hid (fun x : paidJ I J M => by have := (PAI.out.1 x).2; omega)
          clear PAI hoo
          subst hrm
          go_quiet (fail)
          have B3 := bdrewN B2.out nq
          go_wp2_with fail
          all_goals exact Met.intro (hJ2 _ _ (by kernel_rfl) ⟨rfl, rfl, rfl, ⟨false, by first | rfl | simp, Lib.hid ⟨fun h => (by simp at h), fun h => absurd h GO.out⟩⟩, B3⟩)
        · have GO := Lib.hid (PAI.out.2 ⟨hoo, Nat.pos_of_ne_zero hrm⟩)
          have hrp : (0 : Int) < RM := by omega
          clear PAI hoo hrm
          go_quiet (fail)
          have B3 := bdrewN B2.out nq
          go_wp2_with fail
          all_goals exact Met.intro (hJ2 _ _ (by kernel_rfl) ⟨rfl, rfl, rfl, ⟨true, by first | rfl | (simp; omega) | simp, Lib.hid ⟨fun _ => GO.out, fun _ => rfl⟩⟩, B3⟩)
    intro f3 wy ⟨f0, f1, f5, ⟨b, f67, hb⟩, hby⟩
    rw [slots110]
    rw [f0, f1, f5, f67]
    clear f0 f1 f5 f67 y1 z1 B2 BX
    have BY := Lib.hid hby
    have QY := Lib.hid (HQ.out.below hby)
    have y0 := old_cell hby a0
    have y1 := old_cell hby a1
    have z1 := old_cell hby e1
    have hsy := hby.size
    clear hby
    go_upto_if 76 with fail
    refine wp_cut_framed 110 (fun f wz => f 0 = .pointer (some ⟨I.r, 0, none⟩) ∧ f 1 = .pointer (some ⟨J.r, 0, none⟩) ∧ Hid (je = 0) ∧ ∃ G6, RB wz G6 I.bp js false ∧ (∀ k, G6 k → k < wz.heap.size) ∧ QLater w wz G G6 ∧ Touch G w wz) _ _ ?_ ?_
    · intro J2 K2 hJ2 hK2
      cases b with
      | false =>
        have hnp : ¬ paidJ I J M := fun h => by have := hb.out.2 h; cases this
        have TC : Hid (Hid (je = 0) ∧ ∃ G6, RB wy G6 I.bp js false ∧ (∀ k, G6 k → k < wy.heap.size) ∧ QLater w wy G G6 ∧ Touch G w wy) := Lib.hid ⟨Lib.hid (by rw [JE2.out, if_neg hnp]), G, by rw [JS2.out, if_neg hnp]; exact QY.out.bk, QY.out.gl, fun k hk => Or.inl hk, Touch.of_below BY.out⟩
        clear hnp hb
        go_wp2_with fail
        exact Met.intro (hJ2 _ _ (by kernel_rfl) ⟨rfl, rfl, TC.out⟩)
      | true =>
        have hp := hb.out.1 rfl
        have EE : Hid (je = (payR bst J.o I.o (RM : Nat)).1) := Lib.hid (by rw [JE2.out, if_pos hp])
        have ES : Hid (js = (payR bst J.o I.o (RM : Nat)).2) := Lib.hid (by rw [JS2.out, if_pos hp])
        have PY := Lib.hid (fun q => payR_all I.bp J.o I.o (RM : Nat) (wy.drewN q) G bst false (QY.out.bk.below (bdrewN (Below.refl _ _) q)) QY.out.good.e (by simp))
        generalize payR bst J.o I.o (RM : Nat) = pr at *
        obtain ⟨pe, ps⟩ := pr
        simp only at PY EE ES
        clear hp hb JE2 JS2
        go_upto_region 12 with fail
        refine wp_region_mid 13 _ (by kernel_rfl) (by kernel_rfl) rfl ?_
        simp only [List.take_succ_cons, List.take_zero, List.drop_succ_cons, List.drop_zero]
        repeat (go_big_quiet_step (fail))
        refine wpQuiet_nil ?_
        intro _ hw'
        obtain ⟨nq6, rfl⟩ := hw'
        intro K' hK'
        go_simp
        refine (PY.out _).mono ?_
        rintro e w6 ⟨rfl, hb6, ht6⟩
        have TC : Hid (∀ q, ∃ G6, RB (w6.drewN q) G6 I.bp js false ∧ (∀ k, G6 k → k < (w6.drewN q).heap.size) ∧ QLater w (w6.drewN q) G G6 ∧ Touch G w (w6.drewN q)) := Lib.hid (fun q => by
          rw [ES.out]
          have s6 : wy.heap.size ≤ (wy.drewN nq6).heap.size := (bdrewN (Below.refl wy.heap.size wy) nq6).size
          refine ⟨fun k => (G k ∨ (wy.drewN nq6).heap.size ≤ k) ∧ k < w6.heap.size, RB.below (RefAt.narrow' hb6) (bdrewN (Below.refl _ w6) q), fun k hk => hk.2, fun k hk => hk.1.imp id (fun x => ?_), ((Touch.of_below (bdrewN BY.out nq6)).then ht6).drewN q⟩
          omega)
        clear hb6 ht6
        by_cases hE : pe = 0
        · subst hE
          have PE0 : Hid (je = 0) := EE
          go_simp
          refine hK' _ _ ?_
          clear hK' K'
          repeat (go_big_quiet_step (fail))
          refine wpQuiet_nil ?_
          intro _ hw'
          obtain ⟨nq7, rfl⟩ := hw'
          have TC5 := Lib.hid (TC.out nq7)
          generalize w6.drewN nq7 = w7 at *
          clear TC
          go_wp2_with fail
          exact Met.intro (hJ2 _ _ (by kernel_rfl) ⟨rfl, rfl, PE0, TC5.out⟩)
        · have HE := Lib.hid hE
          go_simp
          refine hK' _ _ ?_
          clear hK' K'
          repeat (go_big_quiet_step (fail))
          refine wpQuiet_nil ?_
          intro _ hw'
          obtain ⟨nq7, rfl⟩ := hw'
          have TC5 := Lib.hid (TC.out nq7)
          generalize w6.drewN nq7 = w7 at *
          clear TC
          go_wp2_with fail
          go_ret
          rw [EE.out]
          obtain ⟨G6, t1, t2, t3, t4⟩ := TC5.out
          exact ⟨rfl, G6, t1, t2, t3, fun _ => t4, fun x => absurd x HE.out⟩
    intro f4 wz ⟨f0, f1, JE0, G6, k1, k2, k3, k4⟩
    rw [slots110]
    rw [f0, f1]
    clear f0 f1 y0 y1 z1 QY BY hb
    have qz := MQ.out.same (k4.same (fun k hk _ x => HQ.out.dis k hk x))
    have oz := MO.out.same (k4.same (fun k hk _ x => HO.out.dis k hk x))
    have S0 : BelQ wz wz.drew := bdrewN (Below.refl _ wz) 1
    have c7 : wz.cell? ⟨I.r, 6, none⟩ = some (.slice ca L.length cc) := by rw [cell_of qz.self]; rfl
    have d7 : wz.cell? ⟨J.r, 6, none⟩ = some (.slice da M.length dc) := by rw [cell_of oz.self]; rfl
    have CL := Lib.hid (fun W (h : BelQ wz W) => clone_chs (.slice ca L.length cc) 0 L W (qz.below h).crow (by omega))
    have SQ := Lib.hid (fun W (h : BelQ wz W) => Seg.of_row (qz.below h).crow (qcells_one L))
    have SO := Lib.hid (fun W (h : BelQ wz W) => Seg.of_row (oz.below h).crow (qcells_one M))
    have FIN := Lib.hid (fun w9 kv h1 h2 => joinR_fin (w9 := w9) (kv := kv) qz oz HFE.out h1 h2)
    have FQ := Lib.hid (fun W (h : BelQ wz W) => free_of (qz.below h).self 6)
    have FO := Lib.hid (fun W (h : BelQ wz W) => free_of (oz.below h).self 6)
    have CQ := Lib.hid (fun W (h : BelQ wz W) => show W.cell? ⟨I.r, 6, none⟩ = some (.slice ca L.length cc) from old_cell h c7)
    have CO := Lib.hid (fun W (h : BelQ wz W) => show W.cell? ⟨J.r, 6, none⟩ = some (.slice da M.length dc) from old_cell h d7)
    have K1 := Lib.hid (And.intro k1 (And.intro k2 (And.intro k3 k4)))
    clear qz oz k1 k2 k3 k4 
    go_upto_region 15 with fail
    refine wp_normal ?_
    refine wp_region_plan 13 (BelQ wz) rfl ?_
    have h7 : ∀ y : WIn (BelQ wz), y.w.cell? ⟨I.r, 6, none⟩ = some (.slice ca L.length cc) := fun y => old_cell y.h c7
    have k7 : ∀ y : WIn (BelQ wz), y.w.cell? ⟨J.r, 6, none⟩ = some (.slice da M.length dc) := fun y => old_cell y.h d7
    haveI ne : Nonempty (WIn (BelQ wz)) := ⟨⟨_, S0⟩⟩
    refine wpN_seg [0, 1, 2, 3, 4, 6, 7, 8, 9] (by kernel_rfl) (by kernel_rfl) (by kernel_rfl) (by kernel_rfl) (by decide) (fun _ _ _ _ _ h => h) S0 ?_
    simp only [pick, List.map_cons, List.map_nil, List.getElem?_cons_succ, List.getElem?_cons_zero, Option.getD_some]
    repeat (go_big_quiet_step (fail))
    refine wpQuiet_nil ?_
    clear ne
    refine wpN_one 5 _ (by kernel_rfl) rfl ?_
    refine NextAt.held ?_
    intro K hK
    go_simp
    refine (CL.out _ S0).mono ?_
    rintro e wa ⟨v9, rfl, hr9, hb9⟩
    have S1 : BelQ wz wa := Below.trans (a := wz) S0 (hb9.mono (Below.size S0))
    obtain ⟨v', w9, hrun, hra, hga⟩ := run_append_seg (P := Tryz.prog) wa wz.heap.size 81 81 101 i0 (.agg #[.slice none 0 0, .int .i64 0, .int .i64 0]) 3 40 Tryz.underlying81 hi0 hz0 hz1 hz2 rfl (by decide) v9 L.length (L.flatMap QCh.cells) (qrow_low hr9 (Below.size S0)) (.slice da M.length dc) M.length (M.flatMap QCh.cells) (SO.out _ S1) (by unfold maxLen; omega) (by omega) (Below.size S1)
    have S2 : BelQ wz w9 := (show Below wz.heap.size wz wa from S1).grown hga (Below.size S1) (fun q hq => by have h1 := (hr9.lt q hq).1; have h2 := Below.size S0; omega)
    obtain ⟨va, vc, rfl⟩ := qrow_shape hra
    have FN := Lib.hid (FIN.out w9 _ S2 (by
      rw [List.length_append, List.flatMap_append]
      exact hra))
    have KN := Lib.hid (fun k (hk : (Value.slice va (L.length + M.length) vc).ownBlock = some k) => (hra.lt k hk).1)
    have HSA : Hid (wz.heap.size ≤ wz.heap.size) := Lib.hid (Nat.le_refl _)
    obtain ⟨ka, kc, rfl⟩ := qrow_shape hr9
    clear hr9 hb9 hga hra
    go_simp
    refine hK _ _ S1 ?_
    clear hK K
    refine wpN_one 10 _ (by kernel_rfl) rfl ?_
    refine NextAt.held ?_
    intro K hK
    refine step_append_known rfl (.tmp 99) (.tmp 103) 81 rfl _ _ _ (by rfl) (by rfl) hrun ?_
    go_simp
    refine hK _ _ S2 ?_
    clear hK K hrun
    refine wpN_pure [11, 12] (by kernel_rfl) (by kernel_rfl) (by kernel_rfl) (fun _ _ _ _ _ h => h) (fun _ => S2) ?_
    simp only [pick, List.map_cons, List.map_nil, List.getElem?_cons_succ, List.getElem?_cons_zero, Option.getD_some]
    repeat (go_big_quiet_step (fail))
    refine wpQuiet_nil ?_
    have n7 := CQ.out _ S2
    have fr7 := FQ.out _ S2
    have fo7 := FO.out _ S2
    have m7 := CO.out _ S2
    refine wpN_one 13 _ (by kernel_rfl) rfl ?_
    refine NextAt.free (by kernel_rfl) ?_
    intro K hK
    go_simp
    refine hK _ _ ?_
    clear hK K
    refine wpN_done (by kernel_rfl) ?_
    go_wp2_with fail
    go_ret
    obtain ⟨p1, p2, p3⟩ := FN.out
    obtain ⟨k1, k2, k3, k4⟩ := K1.out
    have JZ := JE0.out
    have hsz := k4.size
    have hri : I.r < w.heap.size := lt_of MQ.out.self
    have hrj : J.r < w.heap.size := lt_of MO.out.self
    have off : ∀ k, G6 k → ¬ (k = I.r ∨ k = J.r) := fun k hk e => by
      rcases k3 k hk with x | x
      · rcases e with e | e
        · subst e; exact HQ.out.dis _ MQ.out.fr x
        · subst e; exact HO.out.dis _ MO.out.fr x
      · rcases e with e | e <;> omega
    refine ⟨by rw [JZ]; rfl, G6, RB.same k1 (fun k hk hl => p3.block k hl (off k hk)), fun k hk => Nat.lt_of_lt_of_le (k2 k hk) p3.size, k3, fun h => absurd JZ h, fun _ => ⟨_, p1, p2, fun k hk => ?_, (k4.mono (fun k hk => Or.inr (Or.inr hk))).then (p3.mono (fun k hk => hk.elim Or.inl (fun e => Or.inr (Or.inl e))))⟩⟩
    have q1 := KN.out k hk
    have q2 := HSA.out
    exact ⟨by omega, fun hg => by have := k2 k hg; omega⟩

end Go.Proofs.YtfnmjlnpfoclbaaGreat
