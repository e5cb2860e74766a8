/-
  Take of an arena: what it gives. Conditions: numbers in their bounds.
-/
import Derived.Test.YtfolidedcejafaaArenC
import Derived.Deep.CutRange
import Derived.Deep.DeepCutAuto
namespace Go.Proofs.Ytfolidedcejafaa
open Go.RowKit
set_option linter.unusedVariables false

def zeroSize : Option Value → Nat
  | some z => z.cells.size
  | none => 77
theorem infoReg : (Try.prog.info? 94).map (fun i => (zeroSize i.zero, i.size, i.bytes)) = some (4, 4, 32) := by kernel_rfl
theorem info_reg : ∃ i z, Try.prog.info? 94 = some i ∧ i.zero = some z ∧ i.size = 4 ∧ i.bytes = 32 ∧ z.cells.size = 4 := by
  have h := infoReg
  cases hi : Try.prog.info? 94 with
  | none => rw [hi] at h; cases h
  | some i =>
    rw [hi] at h
    simp only [Option.map_some, Option.some.injEq, Prod.mk.injEq] at h
    obtain ⟨h1, h2, h3⟩ := h
    cases hz : i.zero with
    | none => rw [hz] at h1; simp [zeroSize] at h1
    | some z => rw [hz] at h1; exact ⟨i, z, rfl, hz, h2, h3, h1⟩

/-- Behind the append of a region. -/
theorem region_mem {w W w' : World} {F : Nat → Prop} {I : ArId} {st : ArSt} {cv rv mv : Value} (h : ArMem w F I st cv rv mv) (x : Reg) (g cap : Nat) (hT : Touch (fun k => k = I.r) w W)
    (hself : W.heap[I.r]? = some (.cells (arCells I.bp I.o I.k I.s I.m I.sz cv rv mv (st.lr + 1) st.lm st.pk) 85 (0, 0)))
    (hrow : w'.ownsRow 0 94 4 (.slice (some ⟨g, 0, none⟩) (st.regs.length + 1) cap) (st.regs.length + 1) (st.regs.flatMap Reg.cells ++ x.cells))
    (hgr : W.grownBy w' rv.ownBlock) (hpl : rv.ownBlock = some g ∨ W.heap.size ≤ g) :
    ArMem (w'.setCell ⟨I.r, 8, none⟩ (.slice (some ⟨g, 0, none⟩) (st.regs.length + 1) cap)) (fun k => F k ∨ k = g) I { st with regs := st.regs ++ [x], lr := st.lr + 1 } cv (.slice (some ⟨g, 0, none⟩) (st.regs.length + 1) cap) mv ∧
      Touch F w (w'.setCell ⟨I.r, 8, none⟩ (.slice (some ⟨g, 0, none⟩) (st.regs.length + 1) cap)) ∧ (F g ∨ w.heap.size ≤ g) ∧ g < w'.heap.size := by
  have hsz := hT.size
  have hr := lt_of h.self
  have hmr : rv.ownBlock ≠ some I.r := row_ne h.rrow h.self (by decide)
  have hgr0 : g ≠ I.r := by
    rcases hpl with e | e
    · exact fun x => hmr (x ▸ e)
    · omega
  have keep : ∀ k, k < w.heap.size → k ≠ I.r → rv.ownBlock ≠ some k → (w'.setCell ⟨I.r, 8, none⟩ (.slice (some ⟨g, 0, none⟩) (st.regs.length + 1) cap)).heap[k]? = w.heap[k]? := fun k hk h1 h2 =>
    (Below.heap_setCell _ _ _ k h1).trans ((hgr.block k (by omega) (fun e => h2 e.symm)).trans (hT.block k hk h1))
  have hself' := (hgr.block I.r (by omega) (fun e => hmr e.symm)).trans hself
  refine ⟨⟨?_, Or.inl h.fr, ?_, fun k hk => Or.inl (h.fc k hk), ?_, ?_, ?_, fun k hk => Or.inl (h.fm k hk), ?_, h.inj⟩, ?_, ?_, (hrow.lt g rfl).2⟩
  · rw [block_setCell hself']; rfl
  · exact ownsRow_same h.crow (fun k hk => keep k (h.crow.lt k hk).2 (fun e => row_ne h.crow h.self (by decide) (e ▸ hk)) (rows_ne h.crow h.rrow (by decide) k hk))
  · have := ownsRow_setCell_other hrow (a := ⟨I.r, 8, none⟩) (by simp [Value.ownBlock]; exact hgr0) (.slice (some ⟨g, 0, none⟩) (st.regs.length + 1) cap)
    simpa [List.flatMap_append] using this
  · intro k hk
    simp only [Value.ownBlock, Option.some.injEq] at hk
    exact Or.inr hk.symm
  · exact ownsRow_same h.mrow (fun k hk => keep k (h.mrow.lt k hk).2 (fun e => row_ne h.mrow h.self (by decide) (e ▸ hk)) (rows_ne h.mrow h.rrow (by decide) k hk))
  · intro c hc
    obtain ⟨h1, h2⟩ := h.mem c hc
    refine ⟨(keep _ (lt_of h1) ?_ (row_ne h.rrow h1 (by decide))).trans h1, Or.inl h2⟩
    intro e
    have := h.self
    rw [← e, h1] at this
    simp at this
  · refine Touch.setCell ?_ (Or.inl h.fr) _
    exact (hT.mono (fun k e => e ▸ h.fr)).grown hgr (fun k hk => Or.inl (h.frg k hk))
  · exact hpl.imp (fun e => h.frg _ e) (fun e => by omega)

/-- The new region's state: the place ch, at. -/
def newSt2 (st : ArSt) (ch at' n : Nat) (pk : Int) : ArSt := { st with chunks := setChunk st.chunks ch (fill 0 (st.chunks.getD ch Chk.zero).os at' n), regs := st.regs ++ [⟨st.lr + 1, ch, at', at' + n⟩], lr := st.lr + 1, pk := pk }
def TakeOk (st : ArSt) (n : Nat) (st' : ArSt) : Prop := ∃ chunks' ch at' pk, (chunks' = st.chunks ∨ ∃ g V, chunks' = st.chunks ++ [⟨g, zeros V⟩]) ∧ ch < chunks'.length ∧ at' + n ≤ (chunks'.getD ch Chk.zero).os.length ∧
  (0 < st.regs.length → (st.regs.getD (st.regs.length - 1) Reg.zero).ch < ch ∨ ((st.regs.getD (st.regs.length - 1) Reg.zero).ch = ch ∧ (st.regs.getD (st.regs.length - 1) Reg.zero).to ≤ at')) ∧ st' = newSt2 { st with chunks := chunks' } ch at' n pk
def TakesPost (I : ArId) (st : ArSt) (F G : Nat → Prop) (n : Int) (w : World) : Ending → World → Prop := fun e w' =>
  (∃ err : Int, err ≠ 0 ∧ e = .returned (.tuple #[.int .i64 0, .int .i64 err]) ∧ ABPost w w' I st F G) ∨
  (e = .returned (.tuple #[.int .i64 (st.lr + 1), .int .i64 0]) ∧ 0 ≤ n ∧ ∃ st', TakeOk st n.toNat st' ∧ ABPost w w' I st' F G)

/-- AB behind the append of a region. -/
theorem AB.region {w W w' : World} {F G : Nat → Prop} {I : ArId} {st : ArSt} {bst : BookSt} {cv rv mv : Value} (hA : AB w I st bst F G) (h : ArMem w F I st cv rv mv) (x : Reg) (g cap : Nat) (hT : Touch (fun k => k = I.r) w W)
    (hself : W.heap[I.r]? = some (.cells (arCells I.bp I.o I.k I.s I.m I.sz cv rv mv (st.lr + 1) st.lm st.pk) 85 (0, 0)))
    (hrow : w'.ownsRow 0 94 4 (.slice (some ⟨g, 0, none⟩) (st.regs.length + 1) cap) (st.regs.length + 1) (st.regs.flatMap Reg.cells ++ x.cells))
    (hgr : W.grownBy w' rv.ownBlock) (hpl : rv.ownBlock = some g ∨ W.heap.size ≤ g) (hn : st.regs.length ≠ 2000) (hx : x.fr ≤ x.to ∧ x.ch < st.chunks.length ∧ x.to ≤ (st.chunks.getD x.ch Chk.zero).os.length) :
    AB (w'.setCell ⟨I.r, 8, none⟩ (.slice (some ⟨g, 0, none⟩) (st.regs.length + 1) cap)) I { st with regs := st.regs ++ [x], lr := st.lr + 1 } bst (fun k => F k ∨ k = g) G ∧
    ArMem (w'.setCell ⟨I.r, 8, none⟩ (.slice (some ⟨g, 0, none⟩) (st.regs.length + 1) cap)) (fun k => F k ∨ k = g) I { st with regs := st.regs ++ [x], lr := st.lr + 1 } cv (.slice (some ⟨g, 0, none⟩) (st.regs.length + 1) cap) mv ∧
      Touch F w (w'.setCell ⟨I.r, 8, none⟩ (.slice (some ⟨g, 0, none⟩) (st.regs.length + 1) cap)) ∧ (F g ∨ w.heap.size ≤ g) := by
  obtain ⟨h1, h2, h3, h4⟩ := region_mem h x g cap hT hself hrow hgr hpl
  have hs := h2.size
  have hg : ∀ k, (F k ∨ k = g) → ¬ G k := by
    rintro k (hk | rfl) hG
    · exact hA.dis k hk hG
    · rcases h3 with h3 | h3
      · exact hA.dis _ h3 hG
      · have := hA.gl _ hG; omega
  have hgw : g < (w'.setCell ⟨I.r, 8, none⟩ (.slice (some ⟨g, 0, none⟩) (st.regs.length + 1) cap)).heap.size := by simpa [World.setCell] using h4
  refine ⟨⟨⟨cv, _, mv, h1⟩, hA.bk.same (h2.same (fun k hk _ e => hA.dis k e hk)), hg, ?_, fun k hk => by have := hA.gl k hk; omega, hA.own, hA.pol, hA.sz, hA.acc, hA.bud, hA.tot, hA.ent, ?_, hA.cok, ?_, hA.room⟩, h1, h2, h3⟩
  · rintro k (hk | rfl)
    · have := hA.fl k hk; omega
    · exact hgw
  · have h5 := hA.rok.1
    refine ⟨by rw [List.length_append]; simp; omega, fun y hy => ?_⟩
    rcases List.mem_append.1 hy with hy | hy
    · exact hA.rok.2 y hy
    · obtain rfl : y = x := by simpa using hy
      have := hA.cok.2 _ (getD_in Chk.zero hx.2.1)
      exact ⟨hx.1, by omega⟩
  · intro y hy
    rcases List.mem_append.1 hy with hy | hy
    · exact hA.fit y hy
    · obtain rfl : y = x := by simpa using hy
      exact hx.2

/-- AB behind a store of the peak. -/
theorem AB.peak {w : World} {F G : Nat → Prop} {I : ArId} {st : ArSt} {bst : BookSt} (hA : AB w I st bst F G) (pk : Int) : AB (w.setCell ⟨I.r, 12, none⟩ (.int .i64 pk)) I { st with pk := pk } bst F G ∧ Touch F w (w.setCell ⟨I.r, 12, none⟩ (.int .i64 pk)) := by
  obtain ⟨cv, rv, mv, h⟩ := hA.ar
  have hT : Touch (fun k => k = I.r) w (w.setCell ⟨I.r, 12, none⟩ (.int .i64 pk)) := (Touch.refl (fun k => k = I.r) w).setCell (p := ⟨I.r, 12, none⟩) (Or.inl rfl) _
  have hs := hT.size
  have ne : ∀ (v : Value) (e n sz : Nat) (xs : List Value), w.ownsRow 0 e sz v n xs → 85 ≠ e → ∀ k, v.ownBlock = some k → k ≠ I.r := fun v e n sz xs hr he k hk x => row_ne hr h.self he (x ▸ hk)
  refine ⟨⟨⟨cv, rv, mv, ⟨by rw [block_setCell h.self]; rfl, h.fr, ?_, h.fc, ?_, h.frg, ?_, h.fm, ?_, h.inj⟩⟩, hA.bk.same (hT.same (fun k hk _ e => hA.dis k (e ▸ h.fr) hk)), hA.dis, fun k hk => by have := hA.fl k hk; omega, fun k hk => by have := hA.gl k hk; omega, hA.own, hA.pol, hA.sz, hA.acc, hA.bud, hA.tot, hA.ent, hA.rok, hA.cok, hA.fit, hA.room⟩, hT.mono (fun k e => e ▸ h.fr)⟩
  · exact ownsRow_same h.crow (fun k hk => hT.block k (h.crow.lt k hk).2 (ne _ _ _ _ _ h.crow (by decide) k hk))
  · exact ownsRow_same h.rrow (fun k hk => hT.block k (h.rrow.lt k hk).2 (ne _ _ _ _ _ h.rrow (by decide) k hk))
  · exact ownsRow_same h.mrow (fun k hk => hT.block k (h.mrow.lt k hk).2 (ne _ _ _ _ _ h.mrow (by decide) k hk))
  · intro c hc
    obtain ⟨h1, h2⟩ := h.mem c hc
    refine ⟨(hT.block _ (lt_of h1) ?_).trans h1, h2⟩
    intro e
    have := h.self
    rw [← e, h1] at this
    simp at this


set_option maxHeartbeats 8000000 in
set_option maxRecDepth 100000 in
theorem arTake_any (I : ArId) (st : ArSt) (bst : BookSt) (F G : Nat → Prop) (n al : Int) (w : World) (h : AB w I st bst F G) (hlr : 0 ≤ st.lr ∧ st.lr ≤ 1000000000000000) :
    Calls Try.prog 14 #[.pointer (some ⟨I.r, 0, none⟩), .int .i64 n, .int .i64 al] w (TakesPost I st F G n w) := by
  obtain ⟨i0, z0, hi0, hz0, hz1, hz2, hz3⟩ := info_reg
  obtain ⟨cv, rv, mv, hm⟩ := h.ar
  have AB0 := Lib.hid h
  have rlt := lt_of hm.self
  have c6 : w.cell? ⟨I.r, 6, none⟩ = some (.bool false) := by rw [cell_of hm.self]; rfl
  obtain ⟨ra, rc, hrv, hr1, hr2, _⟩ := hm.regs
  subst hrv
  have c8 : w.cell? ⟨I.r, 8, none⟩ = some (.slice ra st.regs.length rc) := by rw [cell_of hm.self]; rfl
  have HM := Lib.hid hm
  have b63 := h.rok.1
  have BAD : Hid (∀ err : Int, err ≠ 0 → TakesPost I st F G n w (.returned (.tuple #[.int .i64 0, .int .i64 err])) w) := Lib.hid (fun err he => Or.inl ⟨err, he, rfl, ABPost.of_below AB0.out (Below.refl _ _)⟩)
  by_cases hn : 0 ≤ n ∧ n ≤ 100000
  case neg =>
    have HN := Lib.hid hn
    clear hn h hm
    go_enter Try.func14, Try.ntmps14
    go_wp2_with fail
    refine (within_arena_no _ _ _ _ HN.out).mono ?_
    rintro e w' ⟨rfl, rfl⟩
    go_wp2_with fail
    go_ret2
    exact BAD.out 2 (by simp)
  by_cases ha : 1 ≤ al ∧ al ≤ 64
  case neg =>
    have HA := Lib.hid ha
    obtain ⟨n1, n2⟩ := hn
    clear h hm ha
    go_enter Try.func14, Try.ntmps14
    go_wp2_with fail
    refine (within_arena_yes _ _ _ _ n1 n2).mono ?_
    rintro e w' ⟨rfl, rfl⟩
    go_wp2_with fail
    refine (within_arena_no _ _ _ _ HA.out).mono ?_
    rintro e w' ⟨rfl, rfl⟩
    go_wp2_with fail
    go_ret2
    exact BAD.out 2 (by simp)
  obtain ⟨n1, n2⟩ := hn
  obtain ⟨a1, a2⟩ := ha
  by_cases h2000 : st.regs.length = 2000
  · have h2 : (st.regs.length : Int) = 2000 := by omega
    clear h hm
    go_enter Try.func14, Try.ntmps14
    go_wp2_with fail
    refine (within_arena_yes _ _ _ _ n1 n2).mono ?_
    rintro e w' ⟨rfl, rfl⟩
    go_wp2_with fail
    refine (within_arena_yes _ _ _ _ a1 a2).mono ?_
    rintro e w' ⟨rfl, rfl⟩
    go_wp2_with fail
    go_ret2
    exact BAD.out 4 (by simp)
  have h2 : ¬ ((st.regs.length : Int) = 2000) := by omega
  obtain ⟨nn, rfl⟩ : ∃ nn : Nat, n = (nn : Int) := ⟨n.toNat, by omega⟩
  obtain ⟨aa, rfl⟩ : ∃ aa : Nat, al = (aa : Int) := ⟨al.toNat, by omega⟩
  have PL := Lib.hid (place_any I F st cv _ mv nn aa w hm h.rok h.cok h.fit (by omega) (by omega))
  clear h hm BAD
  go_enter Try.func14, Try.ntmps14
  go_wp2_with fail
  refine (within_arena_yes _ _ _ _ n1 n2).mono ?_
  rintro e w' ⟨rfl, rfl⟩
  go_wp2_with fail
  refine (within_arena_yes _ _ _ _ a1 a2).mono ?_
  rintro e w' ⟨rfl, rfl⟩
  go_wp2_with fail
  refine PL.out.mono ?_
  rintro e w1 ⟨ch, at', fits, rfl, hpo, hb1⟩
  have PO := Lib.hid hpo
  have B1 := Lib.hid hb1
  clear hpo hb1
  have hsz1 := B1.out.size
  have hBX : Below w.heap.size w (w1.alloc (.cells #[.int .i64 ch, .int .i64 at', .int .i64 ((at' + nn : Nat) : Int)] 92)) := B1.out.alloc B1.out.size _
  have hX0 : (w1.alloc (.cells #[.int .i64 ch, .int .i64 at', .int .i64 ((at' + nn : Nat) : Int)] 92)).heap[w1.heap.size]? = some (.cells #[.int .i64 ch, .int .i64 at', .int .i64 ((at' + nn : Nat) : Int)] 92 (0, 0)) := heap_alloc_new w1 _
  have AB9 : Hid (AB (w1.alloc (.cells #[.int .i64 ch, .int .i64 at', .int .i64 ((at' + nn : Nat) : Int)] 92)) I st bst F G) := Lib.hid (AB0.out.below hBX)
  have HBX := Lib.hid (Touch.of_below (F := fun k => F k ∨ G k) hBX)
  have HX0 := Lib.hid hX0
  have nXF : ¬ F w1.heap.size := fun hk => by have := AB0.out.fl _ hk; omega
  have nXG : ¬ G w1.heap.size := fun hk => by have := AB0.out.gl _ hk; omega
  clear hBX hX0 c6 c8
  go_upto_if 40 with fail
  simp only [← Int.natCast_add] at *
  have hXs : w1.heap.size < (w1.alloc (.cells #[.int .i64 ch, .int .i64 at', .int .i64 ((at' + nn : Nat) : Int)] 92)).heap.size := by simp
  generalize w1.alloc (.cells #[.int .i64 ch, .int .i64 at', .int .i64 ((at' + nn : Nat) : Int)] 92) = W9 at *
  generalize w1.heap.size = X at *
  go_cut [8] (fun s8 wx => s8 = .pointer (some ⟨X, 0, none⟩) ∧ ∃ (chunks' : List Chk) (bst1 : BookSt) (F1 G1 : Nat → Prop), AB wx I { st with chunks := chunks' } bst1 F1 G1 ∧ (∀ k, F1 k → F k ∨ w.heap.size ≤ k) ∧ (∀ k, G1 k → G k ∨ w.heap.size ≤ k) ∧ Touch (fun k => F k ∨ G k) w wx ∧
    wx.heap[X]? = some (.cells #[.int .i64 ch, .int .i64 at', .int .i64 ((at' + nn : Nat) : Int)] 92 (0, 0)) ∧ ¬ F1 X ∧ ¬ G1 X ∧ (chunks' = st.chunks ∨ ∃ g V, chunks' = st.chunks ++ [⟨g, zeros V⟩]) ∧ ch < chunks'.length ∧ at' + nn ≤ (chunks'.getD ch Chk.zero).os.length)
  case first =>
    cases fits with
    | true =>
      obtain ⟨p1, _, _⟩ := PO.out
      obtain ⟨p1a, p1b⟩ := p1 rfl
      go_wp2_with fail
      go_meet
      exact ⟨rfl, st.chunks, bst, F, G, AB9.out, fun k hk => Or.inl hk, fun k hk => Or.inl hk, HBX.out, HX0.out, nXF, nXG, Or.inl rfl, p1a, p1b⟩
    | false =>
      obtain ⟨_, p2, _⟩ := PO.out
      obtain ⟨p2a, p2b⟩ := p2 rfl
      go_wp2_with fail
      refine (arGrow_any I st bst F G nn W9 AB9.out (by omega)).mono ?_
      intro e w2 hp
      rcases hp with ⟨err, he, rfl, bst2, F2, G2, hab, hl1, hl2, ht⟩ | ⟨rfl, g, V, hV, hg, bst2, F2, G2, hab, hl1, hl2, ht⟩
      · have HE0 := Lib.hid he
        have he' : (err == 0) = false := by simpa using he
        have R := Lib.hid (show ABPost w w2 I st F G from ⟨bst2, F2, G2, hab, fun k hk => (hl1 k hk).imp id (fun x => Nat.le_trans HBX.out.size x), fun k hk => (hl2 k hk).imp id (fun x => Nat.le_trans HBX.out.size x), HBX.out.then ht⟩)
        clear hab hl1 hl2 ht he
        go_wp2_with fail
        go_ret2
        exact Or.inl ⟨err, HE0.out, rfl, R.out⟩
      · have HAB := Lib.hid hab
        have HL1 := Lib.hid hl1
        have HL2 := Lib.hid hl2
        have HT := Lib.hid ht
        clear hab hl1 hl2 ht
        go_wp2_with fail
        go_meet
        have hs9 := HBX.out.size
        have e3 : (st.chunks ++ [(⟨g, zeros V⟩ : Chk)]).getD ch Chk.zero = ⟨g, zeros V⟩ := by rw [p2a, List.getD_eq_getElem?_getD, List.getElem?_append_right (Nat.le_refl _)]; simp
        refine ⟨rfl, _, bst2, F2, G2, HAB.out, fun k hk => (HL1.out k hk).imp id (fun x => Nat.le_trans hs9 x), fun k hk => (HL2.out k hk).imp id (fun x => Nat.le_trans hs9 x), HBX.out.then HT.out, ?_, ?_, ?_, Or.inr ⟨g, V, rfl⟩, ?_, ?_⟩
        · exact (HT.out.block X hXs (fun h => h.elim nXF nXG)).trans HX0.out
        · exact fun h => (HL1.out X h).elim nXF (fun x => by omega)
        · exact fun h => (HL2.out X h).elim nXG (fun x => by omega)
        · rw [p2a]; simp
        · rw [e3, p2b]; simp [zeros]; exact hV
  case rest =>
    obtain ⟨rfl, chunks', bst1, F1, G1, AB1, hL1, hL2, hT1, hX, hXF, hXG, hch, p1a, p1b⟩ := hcut
    have HL1 := Lib.hid hL1
    have HL2 := Lib.hid hL2
    have HBW := Lib.hid hT1
    have HCH := Lib.hid hch
    clear hL1 hL2 hT1 hch AB9 HBX HX0 nXF nXG hXs
    generalize wc = W1 at *
    obtain ⟨cv1, rv1, mv1, hm1⟩ := AB1.ar
    obtain ⟨ra1, rc1, hrv1, gr1, gr2, _⟩ := hm1.regs
    subst hrv1
    have k10 : W1.cell? ⟨I.r, 10, none⟩ = some (.int .i64 st.lr) := by rw [cell_of hm1.self]; rfl
    have f10 : W1.frozen? ⟨I.r, 10, none⟩ = false := free_of hm1.self 10
    have hXr : X ≠ I.r := fun e => hXF (e ▸ hm1.fr)
    have hXv : (Value.slice ra1 st.regs.length rc1).ownBlock ≠ some X := fun e => hXF (hm1.frg _ e)
    have rlt1 := lt_of hm1.self
    have Xlt := lt_of hX
    obtain ⟨l1, l2⟩ := hlr
    have S2 : (W1.setCell ⟨I.r, 10, none⟩ (.int .i64 (st.lr + 1))).heap[I.r]? = some (.cells (arCells I.bp I.o I.k I.s I.m I.sz cv1 (.slice ra1 st.regs.length rc1) mv1 (st.lr + 1) st.lm st.pk) 85 (0, 0)) := by rw [block_setCell hm1.self]; rfl
    have X2 : (W1.setCell ⟨I.r, 10, none⟩ (.int .i64 (st.lr + 1))).heap[X]? = some (.cells #[.int .i64 ch, .int .i64 at', .int .i64 ((at' + nn : Nat) : Int)] 92 (0, 0)) := (Below.heap_setCell _ _ _ _ hXr).trans hX
    have T12 : Touch (fun k => k = I.r) W1 (W1.setCell ⟨I.r, 10, none⟩ (.int .i64 (st.lr + 1))) := (Touch.refl (fun k => k = I.r) W1).setCell (p := ⟨I.r, 10, none⟩) (Or.inl rfl) _
    go_upto_region 13 with fail
    have FF : ∀ w', (W1.setCell ⟨I.r, 10, none⟩ (.int .i64 (st.lr + 1))).drew.grownBy w' (Value.slice ra1 st.regs.length rc1).ownBlock → w'.cell? ⟨I.r, 8, none⟩ = some (.slice ra1 st.regs.length rc1) ∧ w'.frozen? ⟨I.r, 8, none⟩ = false ∧
        ∀ v, (w'.setCell ⟨I.r, 8, none⟩ v).heap[X]? = some (.cells #[.int .i64 ch, .int .i64 at', .int .i64 ((at' + nn : Nat) : Int)] 92 (0, 0)) := fun w' hg => by
      have h1 := (hg.block I.r (show I.r < (W1.setCell ⟨I.r, 10, none⟩ (.int .i64 (st.lr + 1))).heap.size from lt_of S2) (fun e => row_ne hm1.rrow hm1.self (by decide) e.symm)).trans S2
      have h2 := (hg.block X (show X < (W1.setCell ⟨I.r, 10, none⟩ (.int .i64 (st.lr + 1))).heap.size from lt_of X2) (fun e => hXv e.symm)).trans X2
      exact ⟨by rw [cell_of h1]; rfl, free_of h1 8, fun v => (Below.heap_setCell _ _ _ _ hXr).trans h2⟩
    have FIN := Lib.hid FF
    have OW : Hid ((W1.setCell ⟨I.r, 10, none⟩ (.int .i64 (st.lr + 1))).ownsRow 0 94 4 (.slice ra1 st.regs.length rc1) st.regs.length (st.regs.flatMap Reg.cells)) := Lib.hid (ownsRow_same hm1.rrow (fun k hk => T12.block k (hm1.rrow.lt k hk).2 (fun e => row_ne hm1.rrow hm1.self (by decide) (e ▸ hk))))
    have q8 : (W1.setCell ⟨I.r, 10, none⟩ (.int .i64 (st.lr + 1))).cell? ⟨I.r, 8, none⟩ = some (.slice ra1 st.regs.length rc1) := by rw [cell_of S2]; rfl
    have q10 : (W1.setCell ⟨I.r, 10, none⟩ (.int .i64 (st.lr + 1))).cell? ⟨I.r, 10, none⟩ = some (.int .i64 (st.lr + 1)) := by rw [cell_of S2]; rfl
    have qx0 : (W1.setCell ⟨I.r, 10, none⟩ (.int .i64 (st.lr + 1))).cell? ⟨X, 0, none⟩ = some (.int .i64 ch) := by rw [cell_of X2]; rfl
    have qx1 : (W1.setCell ⟨I.r, 10, none⟩ (.int .i64 (st.lr + 1))).cell? ⟨X, 1, none⟩ = some (.int .i64 at') := by rw [cell_of X2]; rfl
    have qx2 : (W1.setCell ⟨I.r, 10, none⟩ (.int .i64 (st.lr + 1))).cell? ⟨X, 2, none⟩ = some (.int .i64 ((at' + nn : Nat) : Int)) := by rw [cell_of X2]; rfl
    have r2lt := lt_of S2
    have x2lt := lt_of X2
    have HS2 := Lib.hid S2
    have HT12 := Lib.hid T12
    have HAB1 := Lib.hid AB1
    have HM1 := Lib.hid hm1
    have ONE : ∀ u ∈ [Value.int .i64 (st.lr + 1), .int .i64 ch, .int .i64 at', .int .i64 ((at' + nn : Nat) : Int)], u.oneCell' = true := by
      intro u hu
      simp only [List.mem_cons, List.not_mem_nil, or_false] at hu
      rcases hu with rfl | rfl | rfl | rfl <;> rfl
    have HONE := Lib.hid ONE
    clear S2 X2 T12 FF k10 f10 AB1 hm1 hX ONE
    generalize W1.setCell ⟨I.r, 10, none⟩ (.int .i64 (st.lr + 1)) = W2 at *
    generalize hto : ((at' + nn : Nat) : Int) = tt at *
    go_cut [8] (fun s8 wx => s8 = .pointer (some ⟨X, 0, none⟩) ∧ ∃ g, AB wx I { { st with chunks := chunks' } with regs := st.regs ++ [⟨st.lr + 1, ch, at', at' + nn⟩], lr := st.lr + 1 } bst1 (fun k => F1 k ∨ k = g) G1 ∧ Touch F1 W1 wx ∧ (F1 g ∨ W1.heap.size ≤ g) ∧ wx.heap[X]? = some (.cells #[.int .i64 ch, .int .i64 at', .int .i64 tt] 92 (0, 0)))
    case first =>
      go_region_law ((go_loud (refine step_append_new rfl (.tmp 58) (.tmp 65) 82 rfl 0 94 i0 z0 4 32 Try.underlying82 hi0 hz0 hz1 hz2 hz3 (by decide) (.slice ra1 st.regs.length rc1) st.regs.length (st.regs.flatMap Reg.cells) W2.drew _ [.int .i64 (st.lr + 1), .int .i64 ch, .int .i64 at', .int .i64 tt] rfl (by exact OW.out) (by simp [Act.eval]) rfl HONE.out (by unfold maxLen; omega) (by omega) (by omega) ?_); intro g cap w' hrow hgr hpl hsz; obtain ⟨d6, f6, dX⟩ := FIN.out w' hgr))
      all_goals
        obtain ⟨z1, z2, z3, z4⟩ := HAB1.out.region HM1.out ⟨st.lr + 1, ch, at', at' + nn⟩ g cap HT12.out.drew HS2.out (by unfold Reg.cells; rw [hto]; exact hrow) hgr hpl h2000 ⟨Nat.le_add_right _ _, p1a, p1b⟩
        go_wp2_with fail
        go_meet
        exact ⟨rfl, g, z1, z3, z4, dX _⟩
    case rest =>
      obtain ⟨rfl, g, hab3, ht3, hg3, hx3⟩ := hcut
      have hg3' : ¬ G1 g ∧ (F1 g ∨ W1.heap.size ≤ g) := ⟨hab3.dis g (Or.inr rfl), hg3⟩
      have AB3 := Lib.hid hab3
      have HT3 := Lib.hid ht3
      have HG3 := Lib.hid hg3
      obtain ⟨cv3, rv3, mv3, hm3⟩ := hab3.ar
      have HM3 := Lib.hid hm3
      have x0 : wc.cell? ⟨X, 0, none⟩ = some (.int .i64 ch) := by rw [cell_of hx3]; rfl
      have x1 : wc.cell? ⟨X, 1, none⟩ = some (.int .i64 at') := by rw [cell_of hx3]; rfl
      have x2 : wc.cell? ⟨X, 2, none⟩ = some (.int .i64 tt) := by rw [cell_of hx3]; rfl
      clear hab3 ht3 hg3 hx3 hm3
      subst hto
      go_wp2_with fail
      refine (memory_any I _ _ cv3 rv3 mv3 ch at' (at' + nn) wc HM3.out AB3.out.cok p1a (by omega) p1b).mono ?_
      rintro e wm ⟨f, rfl, hf, hbm⟩
      have ABm := AB3.out.below hbm
      obtain ⟨cvm, rvm, mvm, hmm⟩ := ABm.ar
      have hrow := (hmm.mem _ (getD_in Chk.zero p1a)).1
      have e5 : at' + nn - at' = nn := by omega
      obtain ⟨w5, CLR, hr5, ht5⟩ := clear_fact wm _ at' (at' + nn - at') (at' + nn - at') f _ hrow (by rw [e5]; exact p1b) (fun h => hf (by omega))
      rw [e5] at hr5
      simp only [e5] at CLR
      have ab5 := ABm.written ch _ p1a (fill_len 0 nn _ at') hr5 ht5
      have hcb := (hmm.mem _ (getD_in Chk.zero p1a)).2
      have hszW := HBW.out.size
      have hs3 := HT3.out.size
      have hFg : ∀ k, (F1 k ∨ k = g) → F k ∨ w.heap.size ≤ k := by
        rintro k (hk | rfl)
        · exact HL1.out k hk
        · rcases HG3.out with hk | hk
          · exact HL1.out _ hk
          · exact Or.inr (Nat.le_trans hszW hk)
      have HTT : Touch (fun k => F k ∨ G k) w w5 := ((HBW.out.trans HT3.out (fun k hk => (HL1.out k hk).imp Or.inl id)).then (Touch.of_below hbm)).trans ht5 (fun k hk => by rw [hk]; exact (hFg _ hcb).imp Or.inl id)
      have H5 := Lib.hid HTT
      have AB5 := Lib.hid ab5
      have HFG := Lib.hid hFg
      obtain ⟨cv5, rv5, mv5, hm5⟩ := ab5.ar
      have HM5 := Lib.hid hm5
      have p12 : w5.cell? ⟨I.r, 12, none⟩ = some (.int .i64 st.pk) := by rw [cell_of hm5.self]; rfl
      have r5lt := lt_of hm5.self
      have LEN := Lib.hid (fun (w' : World) (hb : Below w5.heap.size w5 w') => arLen_any I _ _ cv5 rv5 mv5 w' (hm5.below hb) AB5.out.rok)
      have Y12 : Hid (∀ w', Below w5.heap.size w5 w' → w'.cell? ⟨I.r, 12, none⟩ = some (.int .i64 st.pk) ∧ w'.frozen? ⟨I.r, 12, none⟩ = false ∧ ∀ v, (w'.setCell ⟨I.r, 12, none⟩ v).cell? ⟨I.r, 10, none⟩ = some (.int .i64 (st.lr + 1))) := Lib.hid (fun w' hb => by
        have hs := (hm5.below hb).self
        exact ⟨by rw [cell_of hs]; rfl, free_of hs 12, fun v => by rw [World.cell?_setCell_other _ _ _ _ (by simp), cell_of hs]; rfl⟩)
      have hL5 := (AB5.out.rok).sum (st.regs.length + 1)
      rw [List.take_of_length_le (by simp)] at hL5
      have FINI : Hid (∀ (w' : World) (pk : Int), Below w5.heap.size w5 w' → TakesPost I st F G nn w (.returned (.tuple #[.int .i64 (st.lr + 1), .int .i64 0])) (w'.setCell ⟨I.r, 12, none⟩ (.int .i64 pk))) := Lib.hid (fun w' pk hb => by
        obtain ⟨z1, z2⟩ := (AB5.out.below hb).peak pk
        refine Or.inr ⟨rfl, by omega, _, ⟨chunks', ch, at', pk, HCH.out, p1a, p1b, PO.out.2.2, rfl⟩, bst1, _, G1, z1, HFG.out, HL2.out, ?_⟩
        exact (H5.out.then (Touch.of_below hb)).trans z2 (fun k hk => (HFG.out k hk).imp Or.inl id))
      clear ABm hmm hrow hr5 ht5 hbm hcb hFg HTT hm5 ab5 hf x0 x1 x2
      go_upto_region 15 with fail
      generalize hS5 : sumN Reg.len (st.regs ++ [(⟨st.lr + 1, ch, at', at' + nn⟩ : Reg)]) = L5 at *
      rcases Int.lt_trichotomy st.pk L5 with hpl | hpl | hpl
      all_goals
        go_region_with ((go_at_call 11; refine (LEN.out _ (by first | exact Below.refl _ _ | exact (Below.refl _ _).drew)).mono ?_; rintro e w6 ⟨rfl, hb6⟩; have HB6 := Lib.hid (show Below w5.heap.size w5 w6 from (Below.refl w5.heap.size w5).drew.trans hb6); obtain ⟨y1, y2, y3⟩ := Y12.out w6 HB6.out; clear hb6))
        all_goals
          go_wp2_with fail
          go_ret2
          exact FINI.out _ _ HB6.out

end Go.Proofs.Ytfolidedcejafaa
