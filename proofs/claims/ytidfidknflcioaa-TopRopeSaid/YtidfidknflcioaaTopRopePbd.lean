/-
  A rope with its book; ask: what it gives. Conditions: numbers in their bounds; the rope's blocks are not the book's.
-/
import Derived.Test.YtidfidknflcioaaTopRopePaz
import Derived.Test.YtidfidknflcioaaTopRopePbc
import Derived.Test.YtidfidknflcioaaTopRopePar
namespace Go.Proofs.Ytidfidknflcioaa
open Go.RowKit
set_option linter.unusedVariables false

/-- The room of leaves. -/
def roomS (l : List Sz) : Nat := (totS l).2
/-- A rope of account 1, and its book. -/
structure RB (w : World) (I : RopI) (L : List Lm) (lv : Value) (bst : BookSt) (F G : Nat → Prop) : Prop where
  rm : RopeMem w F I L lv
  bk : BookAt w G I.bp bst 1
  dis : ∀ k, F k → ¬ G k
  fl : ∀ k, F k → k < w.heap.size
  gl : ∀ k, G k → k < w.heap.size
  own : I.o = 1
  pok : POk I.p
  acc : bst.acc 1 = some (10000000, ((roomS (L.map Lm.sz) : Nat) : Int), 0)
  bud : bst.budget = 10000000
  tot : bst.total = ((roomS (L.map Lm.sz) : Nat) : Int)
  ent : bst.entries.length ≤ 10000
  room : roomS (L.map Lm.sz) ≤ 10000000
  oct : (totS (L.map Lm.sz)).1 ≤ 50000
  each : ∀ x ∈ L, 1 ≤ x.n ∧ x.n ≤ I.p.leaf
theorem RB.len {w : World} {I : RopI} {L : List Lm} {lv : Value} {bst : BookSt} {F G : Nat → Prop} (h : RB w I L lv bst F G) : L.length ≤ 50000 := by
  have h1 : ∀ l : List Lm, (∀ x ∈ l, 1 ≤ x.n) → l.length ≤ (totS (l.map Lm.sz)).1 := by
    intro l
    induction l with
    | nil => intro _; simp
    | cons x l ih =>
      intro hx
      have := ih (fun y hy => hx y (by simp [hy]))
      have := hx x (by simp)
      simp only [totS, List.map_cons, List.sum_cons, List.length_cons, Lm.sz] at *
      omega
  have := h1 L (fun x hx => (h.each x hx).1)
  have := h.oct
  omega
theorem RB.szok {w : World} {I : RopI} {L : List Lm} {lv : Value} {bst : BookSt} {F G : Nat → Prop} (h : RB w I L lv bst F G) : SzOk (L.map Lm.sz) := by
  refine ⟨by rw [List.length_map]; have := h.len; omega, fun p hp => ?_⟩
  obtain ⟨x, hx, rfl⟩ := List.mem_map.1 hp
  have ok := (h.rm.mem x hx).2.1
  exact ⟨by have := ok.1; have := ok.2.1; show x.n ≤ 100000; omega, ok.2.1⟩
/-- Another world, where neither's blocks were touched. -/
theorem RB.same {w w' : World} {I : RopI} {L : List Lm} {lv : Value} {bst : BookSt} {F G : Nat → Prop} (h : RB w I L lv bst F G) (hb : Below w.heap.size w w') : RB w' I L lv bst F G :=
  ⟨h.rm.below hb, h.bk.same (Below.same_on hb), h.dis, fun k hk => Nat.lt_of_lt_of_le (h.fl k hk) hb.size, fun k hk => Nat.lt_of_lt_of_le (h.gl k hk) hb.size, h.own, h.pok, h.acc, h.bud, h.tot, h.ent, h.room, h.oct, h.each⟩

/-- What ask answers. -/
def askE (cur next : Nat) : Int := if next = cur then 0 else if next ≤ 10000000 then 0 else 2
/-- The book after it. -/
def askSt (st : BookSt) (cur next : Nat) : BookSt := if next = cur then st else if next ≤ 10000000 then changeSt st 1 10000000 cur 0 cur next else st
def AskPost (I : RopI) (L : List Lm) (lv : Value) (bst : BookSt) (F G : Nat → Prop) (cur next : Nat) (w : World) : Ending → World → Prop := fun e w' =>
  e = .returned (.int .i64 (askE cur next)) ∧ (∃ G', BookAt w' G' I.bp (askSt bst cur next) 1 ∧ ∀ k, G' k → G k ∨ (w.heap.size ≤ k ∧ k < w'.heap.size)) ∧ Touch G w w' ∧ RopeMem w' F I L lv

theorem BookAt.narrowR {w : World} {F : Nat → Prop} {p : Nat} {st : BookSt} {N : Nat} (h : BookAt w F p st N) : BookAt w (fun k => F k ∧ k < w.heap.size) p st N := by
  obtain ⟨mb, blk, lv, ev, D, hm⟩ := h
  refine ⟨mb, blk, lv, ev, D, ⟨hm.self, ⟨hm.fp, lt_of hm.self⟩, hm.map, ⟨hm.fmap, hm.map.lt⟩, hm.look, hm.anone, ?_, hm.inj, hm.lrow, ?_, hm.erow, ?_⟩⟩
  · intro o b hb
    obtain ⟨l, h, s, h1, h2, h3⟩ := hm.asome o b hb
    exact ⟨l, h, s, h1, h2, h3, lt_of h2⟩
  · intro k hk
    obtain ⟨cur, h1⟩ := row_block hm.lrow hk
    exact ⟨hm.flea k hk, lt_of h1⟩
  · intro k hk
    obtain ⟨cur, h1⟩ := row_block hm.erow hk
    exact ⟨hm.fent k hk, lt_of h1⟩
set_option maxHeartbeats 1000000 in
set_option maxRecDepth 100000 in
theorem change_far (p : Nat) (o n t : Int) (w : World) (F : Nat → Prop) (st : BookSt) (N : Nat) (hb : BookAt w F p st N) (he : chkE o [n, t] ≠ 0) :
    Calls Try.prog 62 #[.pointer (some ⟨p, 0, none⟩), .int .i64 o, .int .i64 n, .int .i64 t] w (OpPost 2 F p st N w) := by
  have B1 : Below w.heap.size w (w.alloc (.cells #[.int .i64 n, .int .i64 t] 3)) := (Below.refl _ _).alloc (Nat.le_refl _) _
  have C := Lib.hid (account_err p o _ [n, t] _ (reads_two w n t) he)
  have FIN : Hid (BookAt (w.alloc (.cells #[.int .i64 n, .int .i64 t] 3)) (fun k => F k ∨ w.heap.size ≤ k) p st N ∧ Touch F w (w.alloc (.cells #[.int .i64 n, .int .i64 t] 3))) := Lib.hid ⟨(hb.same (Below.same_on B1)).wider (fun k hk => Or.inl hk), Touch.of_below B1⟩
  clear hb he B1
  go_enter Try.func62, Try.ntmps62
  go_wp2_with fail
  refine C.out.mono ?_
  rintro e w1 ⟨rfl, rfl⟩
  unfold ptrOf
  go_wp2_with fail
  go_ret
  exact ⟨rfl, FIN.out.1, FIN.out.2⟩
theorem chg_any (p : Nat) (cur next : Nat) (w : World) (G : Nat → Prop) (st : BookSt) (hb : BookAt w G p st 1) (hacc : st.acc 1 = some (10000000, (cur : Int), 0)) (hbud : st.budget = 10000000) (htot : st.total = (cur : Int)) (hent : st.entries.length ≤ 10000) (hc : cur ≤ 10000000) (hne : next ≠ cur) :
    Calls Try.prog 62 #[.pointer (some ⟨p, 0, none⟩), .int .i64 1, .int .i64 (cur : Int), .int .i64 (next : Int)] w (fun e w' => e = .returned (.int .i64 (askE cur next)) ∧ BookAt w' (fun k => G k ∨ w.heap.size ≤ k) p (askSt st cur next) 1 ∧ Touch G w w') := by
  by_cases hn : next ≤ 10000000
  · refine (change_any p 1 cur next 10000000 cur 0 w G st 1 hb hacc (by omega) (by omega) (by omega) (by omega) (by omega) (by omega) (by omega) (by omega) hent).mono ?_
    rintro e w' ⟨rfl, h2, h3⟩
    have hE : changeE st 10000000 cur 0 cur next = 0 := by
      unfold changeE
      rw [if_neg (by omega), if_neg (by rw [hbud, htot]; omega)]
    refine ⟨?_, ?_, h3⟩
    · rw [hE]; unfold askE; rw [if_neg hne, if_pos hn]
    · unfold askSt
      rw [if_neg hne, if_pos hn]
      exact h2
  · refine (change_far p 1 cur next w G st 1 hb (by
      unfold chkE
      rw [if_neg (fun h => by have := h.2 (next : Int) (by simp); omega)]
      decide)).mono ?_
    rintro e w' ⟨rfl, h2, h3⟩
    refine ⟨by unfold askE; rw [if_neg hne, if_neg hn], ?_, h3⟩
    unfold askSt
    rw [if_neg hne, if_neg hn]
    exact h2

set_option maxHeartbeats 4000000 in
set_option maxRecDepth 100000 in
theorem ask_any (I : RopI) (L : List Lm) (lv : Value) (bst : BookSt) (F G : Nat → Prop) (v : Value) (l : List Sz) (w : World) (h : RB w I L lv bst F G) (hv : SzIn w v l) (hl : SzOk l) :
    Calls Try.prog 33 #[.pointer (some ⟨I.r, 0, none⟩), v] w (AskPost I L lv bst F G (roomS (L.map Lm.sz)) (roomS l) w) := by
  have TT := Lib.hid (total_any v l w hv hl)
  have H := Lib.hid h
  have h60 : L.length ≤ 60000 := by have := h.len; omega
  have hso := h.szok
  have hl2 := hl.tot.2
  have RR := Lib.hid (fun (W : World) (hW : Below w.heap.size w W) => ropeRoom_any I L lv F W (h.rm.below hW) h60 hso)
  have cur7 := h.room
  obtain ⟨cur, hcur⟩ : ∃ cur, roomS (L.map Lm.sz) = cur := ⟨_, rfl⟩
  obtain ⟨next, hnext⟩ : ∃ next, roomS l = next := ⟨_, rfl⟩
  have hcur' : (totS (L.map Lm.sz)).2 = cur := hcur
  have hnext' : (totS l).2 = next := hnext
  rw [hcur'] at RR
  rw [hnext'] at TT hl2
  rw [hcur, hnext]
  rw [hcur] at cur7
  have HCUR := Lib.hid hcur
  have FIN : Hid (∀ (W : World), Below w.heap.size w W → ∀ e, next = cur → e = Ending.returned (.int .i64 0) → AskPost I L lv bst F G cur next w e W) := Lib.hid (fun W hW e he1 he2 => by
    refine ⟨?_, ⟨G, ?_, fun k hk => Or.inl hk⟩, Touch.of_below hW, h.rm.below hW⟩
    · rw [he2]; unfold askE; rw [if_pos he1]
    · unfold askSt; rw [if_pos he1]; exact (h.same hW).bk)
  obtain ⟨tl, htl⟩ : ∃ tl, (totS l).1 = tl := ⟨_, rfl⟩
  rw [htl] at TT
  clear h hv hl h60 hso hcur hnext hcur' hnext' htl
  go_enter Try.func33, Try.ntmps33
  go_wp2_with fail
  refine TT.out.mono ?_
  rintro e w1 ⟨rfl, hb1⟩
  have HB1 := Lib.hid hb1
  clear hb1
  go_wp2_with fail
  refine (RR.out w1 HB1.out).mono ?_
  rintro e w2 ⟨rfl, hb2⟩
  have HB2 := Lib.hid (HB1.out.trans (hb2.mono HB1.out.size))
  clear hb2
  by_cases hne : next = cur
  · have hne' : (next : Int) = (cur : Int) := by omega
    go_wp2_with fail
    go_ret
    exact FIN.out _ HB2.out _ hne rfl
  · have hne' : ((next : Int) == (cur : Int)) = false := by simp; omega
    obtain ⟨c0, c1, _⟩ := (H.out.rm.below HB2.out).cells
    have own := H.out.own
    rw [own] at c1
    go_upto_region 5 with fail
    have S0 : BelS w2 w2.drew := (Below.refl _ w2).drew
    have s1 : ∀ y : WIn (BelS w2), y.w.cell? ⟨I.r, 1, none⟩ = some (.int .i64 1) := fun y => old_cell y.h c1
    haveI ne : Nonempty (WIn (BelS w2)) := ⟨⟨w2.drew, S0⟩⟩
    have R2 := Lib.hid (RR.out w2.drew (HB2.out.trans (S0.mono HB2.out.size)))
    refine wp_normal ?_
    refine wp_region_plan 8 (BelS w2) rfl ?_
    refine wpN_seg [0, 1, 2, 3, 4, 5, 7] (by kernel_rfl) (by kernel_rfl) (by kernel_rfl) (by kernel_rfl) (by decide) (fun _ _ _ _ _ h => h) S0 ?_
    simp only [pick, List.map_cons, List.map_nil, List.getElem?_cons_succ, List.getElem?_cons_zero, Option.getD_some]
    repeat (go_big_quiet_step (fail))
    refine wpQuiet_nil ?_
    clear s1 ne c0 c1
    refine wpN_one 6 _ (by kernel_rfl) rfl ?_
    refine NextAt.held ?_
    intro K hK
    go_simp
    refine R2.out.mono ?_
    rintro e w3 ⟨rfl, hb3⟩
    have B3 : Below w2.heap.size w2 w3 := S0.trans (hb3.mono (by simp))
    have HB3 := Lib.hid (HB2.out.trans (B3.mono HB2.out.size))
    clear hb3 R2
    go_simp
    refine hK _ _ B3 ?_
    clear hK K B3
    refine wpN_one 8 _ (by kernel_rfl) rfl ?_
    refine NextAt.free (by kernel_rfl) ?_
    intro K hK
    go_simp
    have h3 := H.out.same HB3.out
    have CH := Lib.hid (chg_any I.bp cur next w3 G bst h3.bk (by rw [h3.acc, HCUR.out]) h3.bud (by rw [h3.tot, HCUR.out]) h3.ent cur7 hne)
    clear h3
    refine CH.out.mono ?_
    rintro e w4 ⟨rfl, hbk, ht⟩
    have hs3 := HB3.out.size
    have FIN2 : Hid (AskPost I L lv bst F G cur next w (.returned (.int .i64 (askE cur next))) w4) := Lib.hid ⟨rfl, ⟨_, hbk.narrowR, fun k hk => hk.1.imp id (fun h1 => ⟨by omega, hk.2⟩)⟩,
      (Touch.of_below HB3.out).trans ht (fun i hi => Or.inl hi), (H.out.rm.below HB3.out).same (fun k hk hlt => ht.block k hlt (H.out.dis k hk))⟩
    clear hbk ht
    go_simp
    refine hK _ _ ?_
    clear hK K
    refine wpN_one 9 _ (by kernel_rfl) rfl ?_
    refine NextAt.free (by kernel_rfl) ?_
    intro K hK
    go_simp
    refine hK _ _ ?_
    clear hK K
    refine wpN_done (by kernel_rfl) ?_
    go_wp2_with fail
    go_ret
    exact FIN2.out

end Go.Proofs.Ytidfidknflcioaa
