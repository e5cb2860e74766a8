/-
  Mark and Release of an arena: what they give where nothing is refused. Conditions: numbers in their bounds.
-/
import Derived.Test.YtfolidedcejafaaArenS
import Derived.Deep.Cut
import Derived.Deep.Upon
namespace Go.Proofs.Ytfolidedcejafaa
open Go.RowKit
set_option linter.unusedVariables false

theorem row_ne {w : World} {B e size n k t : Nat} {v : Value} {xs : List Value} {cs : Array Value} (h : w.ownsRow B e size v n xs) (hk : w.heap[k]? = some (.cells cs t (0, 0))) (hne : t ≠ e) : v.ownBlock ≠ some k := fun he => by
  obtain ⟨cur, hcur⟩ := row_block h he
  rw [hk] at hcur
  simp only [Option.some.injEq, Obj.cells.injEq] at hcur
  exact hne hcur.2.1
theorem rows_ne {w : World} {B B' e e' size size' n n' : Nat} {v v' : Value} {xs xs' : List Value} (h : w.ownsRow B e size v n xs) (h' : w.ownsRow B' e' size' v' n' xs') (hne : e ≠ e') (k : Nat) (hk : v.ownBlock = some k) : v'.ownBlock ≠ some k := by
  obtain ⟨cur, hcur⟩ := row_block h hk
  exact row_ne h' hcur hne

/-- 'append(s, e)' outside a region that draws, and where the row lies then. -/
theorem wpList_append_place {P : Program} {ops : Array Oper} {rest : List Oper} {o : Oper} {a : Act} {Q : Exit → Act → World → Prop} (hgd : o.guard = none) (s x : Operand) (t : TypeId)
    (ho : o.op = .call { callee := .builtin .append, args := #[s, x], argTypes := #[t, t] })
    (base : Nat) (e : TypeId) (i : TypeInfo) (z : Value) (size bytes : Nat) (ht : P.underlying t = some (.slice e)) (hi : P.info? e = some i) (hz : i.zero = some z)
    (hsize : i.size = size) (hby : i.bytes = bytes) (hzs : z.cells.size = size) (hsz : 0 < size)
    (v : Value) (n : Nat) (xs : List Value) (wr : World) (e' : TypeId) (us : List Value) (hs : a.eval s = v) (hown : wr.ownsRow base e size v n xs)
    (hx : a.eval x = .slice (some ⟨wr.heap.size, 0, none⟩) 1 1) (hl : us.length = size) (h1 : ∀ u ∈ us, u.oneCell' = true)
    (h63 : n + 1 ≤ maxLen) (hbytes : (n + 1) * bytes ≤ 140737488355328) (hbase : base ≤ wr.heap.size)
    (h : ∀ g cap w', w'.ownsRow base e size (.slice (some ⟨g, 0, none⟩) (n + 1) cap) (n + 1) (xs ++ us) → wr.grownBy w' v.ownBlock → (v.ownBlock = some g ∨ wr.heap.size ≤ g) → wr.heap.size < w'.heap.size → wpList P ops Q rest (a.put o.dst (.slice (some ⟨g, 0, none⟩) (n + 1) cap)) w') :
    wpList P ops Q (o :: rest) a (wr.alloc (.cells us.toArray e')) := by
  refine wpList_plain hgd fun K hK => ?_
  have hnews : ∀ j u, us[j]? = some u → (wr.alloc (.cells us.toArray e')).cell? ((⟨wr.heap.size, 0, none⟩ : Addr).add j) = some u := by
    intro j u hj
    have e1 : (⟨wr.heap.size, 0, none⟩ : Addr).add j = ⟨wr.heap.size, j, none⟩ := by unfold Addr.add; split <;> simp_all
    rw [e1, cell_of_row _ _ _ _ _ _ (heap_alloc_new wr _)]
    simpa using hj
  obtain ⟨g, cap, w', hr, ho', hg', hp⟩ := run_append_place (P := P) (wr.alloc (.cells us.toArray e')) base t o.type e i z size bytes ht hi hz hsize hby hzs hsz v n xs (hown.alloc _) ⟨wr.heap.size, 0, none⟩ 1 1 us (by omega) hnews h1 (by omega) h63 hbytes (by simp; omega)
  unfold Oper.wp execOp
  simp only [ho, resolve, invoke, builtin, Sem.run_bind, Sem.run_pure, Result.andThen_ok, List.map_toArray, List.map_cons, List.map_nil, hs, hx, hr]
  have hg2 : wr.grownBy w' v.ownBlock := ⟨hg'.os, hg'.tape, hg'.output, Nat.le_trans (by simp) hg'.size, fun k hk hne => (hg'.block k (by simp; omega) hne).trans (heap_alloc_old wr _ hk)⟩
  exact hK _ _ (h g cap w' ho' hg2 (hp.imp id (fun x => by simp at x; omega)) (by have := hg'.size; simp at this; omega))

theorem infoMark : (Try.prog.info? 88).map (fun i => (i.zero, i.size, i.bytes)) = some (some (.agg #[.int .i64 0, .int .i64 0, .int .i64 0]), 3, 24) := by kernel_rfl

/-- Where the last region ends. -/
def endOf (L : List Reg) : Nat := if L.length = 0 then 0 else (L.getD (L.length - 1) Reg.zero).to
def markSt (st : ArSt) : ArSt := { st with marks := st.marks ++ [⟨st.lm + 1, st.regs.length, endOf st.regs⟩], lm := st.lm + 1 }

/-- An arena's blocks, a call on: F: what it had; new blocks are its own, too. -/
def ArAt (w : World) (F : Nat → Prop) (I : ArId) (st : ArSt) : Prop := ∃ cv rv mv, ArMem w F I st cv rv mv
def MarkPost (F : Nat → Prop) (I : ArId) (st : ArSt) (w : World) : Ending → World → Prop := fun e w' =>
  e = .returned (.tuple #[.int .i64 (st.lm + 1), .int .i64 0]) ∧ ArAt w' (fun k => F k ∨ w.heap.size ≤ k) I (markSt st) ∧ Touch F w w'

theorem mark_mem {w W w' : World} {F : Nat → Prop} {I : ArId} {st : ArSt} {cv rv mv : Value} (h : ArMem w F I st cv rv mv) (m : Mk) (g cap : Nat) (hT : Touch (fun k => k = I.r) w W)
    (hself : W.heap[I.r]? = some (.cells (arCells I.bp I.o I.k I.s I.m I.sz cv rv mv st.lr (st.lm + 1) st.pk) 85 (0, 0)))
    (hrow : w'.ownsRow 0 88 3 (.slice (some ⟨g, 0, none⟩) (st.marks.length + 1) cap) (st.marks.length + 1) (st.marks.flatMap Mk.cells ++ m.cells))
    (hgr : W.grownBy w' mv.ownBlock) (hpl : mv.ownBlock = some g ∨ W.heap.size ≤ g) :
    ArMem (w'.setCell ⟨I.r, 9, none⟩ (.slice (some ⟨g, 0, none⟩) (st.marks.length + 1) cap)) (fun k => F k ∨ w.heap.size ≤ k) I { st with marks := st.marks ++ [m], lm := st.lm + 1 } cv rv (.slice (some ⟨g, 0, none⟩) (st.marks.length + 1) cap) ∧
      Touch F w (w'.setCell ⟨I.r, 9, none⟩ (.slice (some ⟨g, 0, none⟩) (st.marks.length + 1) cap)) := by
  have hsz := hT.size
  have hr := lt_of h.self
  have hmr : mv.ownBlock ≠ some I.r := row_ne h.mrow h.self (by decide)
  have hgr0 : g ≠ I.r := by
    rcases hpl with e | e
    · exact fun x => hmr (x ▸ e)
    · omega
  have keep : ∀ k, k < w.heap.size → k ≠ I.r → mv.ownBlock ≠ some k → (w'.setCell ⟨I.r, 9, none⟩ (.slice (some ⟨g, 0, none⟩) (st.marks.length + 1) cap)).heap[k]? = w.heap[k]? := fun k hk h1 h2 =>
    (Below.heap_setCell _ _ _ k h1).trans ((hgr.block k (by omega) (fun e => h2 e.symm)).trans (hT.block k hk h1))
  have hself' := (hgr.block I.r (by omega) (fun e => hmr e.symm)).trans hself
  refine ⟨⟨?_, Or.inl h.fr, ?_, fun k hk => Or.inl (h.fc k hk), ?_, fun k hk => Or.inl (h.frg k hk), ?_, ?_, ?_, h.inj⟩, ?_⟩
  · rw [block_setCell hself']; rfl
  · exact ownsRow_same h.crow (fun k hk => keep k (h.crow.lt k hk).2 (fun e => row_ne h.crow h.self (by decide) (e ▸ hk)) (rows_ne h.crow h.mrow (by decide) k hk))
  · exact ownsRow_same h.rrow (fun k hk => keep k (h.rrow.lt k hk).2 (fun e => row_ne h.rrow h.self (by decide) (e ▸ hk)) (rows_ne h.rrow h.mrow (by decide) k hk))
  · have := ownsRow_setCell_other hrow (a := ⟨I.r, 9, none⟩) (by simp [Value.ownBlock]; exact hgr0) (.slice (some ⟨g, 0, none⟩) (st.marks.length + 1) cap)
    simpa [List.flatMap_append] using this
  · intro k hk
    simp only [Value.ownBlock, Option.some.injEq] at hk
    subst hk
    rcases hpl with e | e
    · exact Or.inl (h.fm _ e)
    · exact Or.inr (by omega)
  · intro c hc
    obtain ⟨h1, h2⟩ := h.mem c hc
    refine ⟨(keep _ (lt_of h1) ?_ (row_ne h.mrow h1 (by decide))).trans h1, Or.inl h2⟩
    intro e
    have := h.self
    rw [← e, h1] at this
    simp at this
  · refine Touch.setCell ?_ (Or.inl h.fr) _
    exact (hT.mono (fun k e => e ▸ h.fr)).grown hgr (fun k hk => Or.inl (h.fm k hk))

set_option maxHeartbeats 4000000 in
set_option maxRecDepth 100000 in
theorem arMark_any (I : ArId) (F : Nat → Prop) (st : ArSt) (cv rv mv : Value) (w : World) (h : ArMem w F I st cv rv mv) (hok : RegsOk st.regs) (hl : st.marks.length < 100) (hlm : 0 ≤ st.lm ∧ st.lm ≤ 1000000000000000) :
    Calls Try.prog 10 #[.pointer (some ⟨I.r, 0, none⟩)] w (MarkPost F I st w) := by
  obtain ⟨i0, hi0, hz0, hz1, hz2⟩ := info_parts infoMark
  obtain ⟨ra, rc, hrv, hr1, hr2, hrc⟩ := h.regs
  obtain ⟨ma, mc, hmv, hm1, hm2, hmc⟩ := h.mks
  have c6 : w.cell? ⟨I.r, 6, none⟩ = some (.bool false) := by rw [cell_of h.self]; rfl
  have c9 : w.cell? ⟨I.r, 9, none⟩ = some (.slice ma st.marks.length mc) := by rw [cell_of h.self, ← hmv]; rfl
  have c8 : w.cell? ⟨I.r, 8, none⟩ = some (.slice ra st.regs.length rc) := by rw [cell_of h.self, ← hrv]; rfl
  have b63 := hok.1
  have rlt := lt_of h.self
  have hl' : (st.marks.length : Int) ≠ 100 := by omega
  obtain ⟨l1, l2⟩ := hlm
  have HM := Lib.hid h
  have ONE : ∀ en n : Int, ∀ u ∈ [Value.int .i64 (st.lm + 1), .int .i64 n, .int .i64 en], u.oneCell' = true := by
    intro en n u hu
    simp at hu
    rcases hu with rfl | rfl | rfl <;> rfl
  -- the world at the append, of whatever end
  have fin : ∀ (en : Nat) (W : World), W.heap[w.heap.size]? = some (.cells #[.int .i64 (st.lm + 1), .int .i64 st.regs.length, .int .i64 en] 88 (0, 0)) → Touch (fun k => k = I.r) w W →
      W.heap[I.r]? = some (.cells (arCells I.bp I.o I.k I.s I.m I.sz cv rv mv st.lr (st.lm + 1) st.pk) 85 (0, 0)) →
      W.ownsRow 0 88 3 mv st.marks.length (st.marks.flatMap Mk.cells) ∧ (∀ w', W.drew.grownBy w' mv.ownBlock → w'.cell? ⟨I.r, 9, none⟩ = some (.slice ma st.marks.length mc) ∧ w'.frozen? ⟨I.r, 9, none⟩ = false ∧ ∀ v, (w'.setCell ⟨I.r, 9, none⟩ v).cell? ⟨w.heap.size, 0, none⟩ = some (.int .i64 (st.lm + 1))) := fun en W hM hT hs => by
    have hmr : mv.ownBlock ≠ some I.r := row_ne h.mrow h.self (by decide)
    have hsz := hT.size
    have hMs := lt_of hM
    refine ⟨ownsRow_same h.mrow (fun k hk => hT.block k (h.mrow.lt k hk).2 (fun e => hmr (e ▸ hk))), fun w' hg => ?_⟩
    have h1 := (hg.block I.r (show I.r < W.heap.size by omega) (fun e => hmr e.symm)).trans hs
    have h2 := (hg.block w.heap.size (show w.heap.size < W.heap.size from hMs) (fun e => by have := (h.mrow.lt _ e.symm).2; omega)).trans hM
    refine ⟨by rw [cell_of h1, ← hmv]; rfl, free_of h1 9, fun v => ?_⟩
    rw [cell_of ((Below.heap_setCell _ _ _ _ (by simp; omega)).trans h2)]; rfl
  have FIN := Lib.hid fin
  clear fin
  have d11 : w.cell? ⟨I.r, 11, none⟩ = some (.int .i64 st.lm) := by rw [cell_of h.self]; rfl
  have f11 : w.frozen? ⟨I.r, 11, none⟩ = false := free_of h.self 11
  have x11 : ∀ (q : Nat) v o, (((w.drewN q).setCell ⟨I.r, 11, none⟩ v).alloc o).cell? ⟨I.r, 11, none⟩ = some v := fun q v o => by
    have hq : (w.drewN q).heap[I.r]? = _ := h.self
    rw [cell_of ((heap_alloc_old _ o (by simpa [World.setCell] using rlt)).trans (block_setCell hq 11 v))]; rfl
  have y11 : ∀ v o, ((w.setCell ⟨I.r, 11, none⟩ v).alloc o).cell? ⟨I.r, 11, none⟩ = some v := x11 0
  have SS : ∀ (q : Nat) o, (((w.drewN q).setCell ⟨I.r, 11, none⟩ (.int .i64 (st.lm + 1))).alloc o).heap[I.r]? = some (.cells (arCells I.bp I.o I.k I.s I.m I.sz cv rv mv st.lr (st.lm + 1) st.pk) 85 (0, 0)) := fun q o => by
    have hq : (w.drewN q).heap[I.r]? = _ := h.self
    refine (heap_alloc_old _ o (by simpa [World.setCell] using rlt)).trans ?_
    rw [block_setCell hq]; rfl
  have TT : ∀ (q : Nat) o, Touch (fun k => k = I.r) w (((w.drewN q).setCell ⟨I.r, 11, none⟩ (.int .i64 (st.lm + 1))).alloc o) := fun q o => ((((Touch.refl (fun k => k = I.r) w).drewN q).setCell (p := ⟨I.r, 11, none⟩) (Or.inl rfl) _).alloc o)
  have HSS := Lib.hid SS
  have HTT := Lib.hid TT
  clear SS TT
  by_cases h0 : st.regs.length = 0
  · have W0 : Below w.heap.size w (w.alloc (.cells #[.int .i64 0, .int .i64 0, .int .i64 0] 88)) := (Below.refl _ _).alloc (Nat.le_refl _) _
    have hs0 := (h.below W0).self
    rw [hrv, h0] at hs0
    have LA := Lib.hid (last_nil _ _ _ _ _ _ _ _ _ _ _ _ _ _ _ hs0)
    have EE := Lib.hid (show endOf st.regs = 0 from if_pos h0)
    have HN := Lib.hid h0
    rw [h0] at c8
    clear h hrv hrc hmc hs0 W0
    generalize hI : I.r = r at *
    generalize hlm : st.lm = lm at *
    go_enter Try.func10, Try.ntmps10
    go_wp2_with fail
    refine LA.out.mono ?_
    rintro e w1 ⟨rfl, rfl⟩
    go_upto_region 11 with fail
    have hM : ((w.setCell ⟨r, 11, none⟩ (.int .i64 (lm + 1))).alloc (.cells #[.int .i64 (lm + 1), .int .i64 0, .int .i64 0] 88)).heap[w.heap.size]? = some (.cells #[.int .i64 (lm + 1), .int .i64 0, .int .i64 0] 88 (0, 0)) := by
      have := heap_alloc_new (w.setCell ⟨r, 11, none⟩ (.int .i64 (lm + 1))) (.cells #[.int .i64 (lm + 1), .int .i64 0, .int .i64 0] 88)
      simpa [World.setCell] using this
    have hS := HSS.out 0 (.cells #[.int .i64 (lm + 1), .int .i64 0, .int .i64 0] 88)
    have hT := HTT.out 0 (.cells #[.int .i64 (lm + 1), .int .i64 0, .int .i64 0] 88)
    change ((w.setCell ⟨r, 11, none⟩ (.int .i64 (lm + 1))).alloc (.cells #[.int .i64 (lm + 1), .int .i64 0, .int .i64 0] 88)).heap[r]? = _ at hS
    change Touch _ w ((w.setCell ⟨r, 11, none⟩ (.int .i64 (lm + 1))).alloc (.cells #[.int .i64 (lm + 1), .int .i64 0, .int .i64 0] 88)) at hT
    generalize (w.setCell ⟨r, 11, none⟩ (.int .i64 (lm + 1))).alloc (.cells #[.int .i64 (lm + 1), .int .i64 0, .int .i64 0] 88) = W at *
    have FF := FIN.out 0 W (by rw [HN.out]; exact hM) hT hS
    have OW := Lib.hid FF.1
    have PW := Lib.hid FF.2
    have m0 : W.cell? ⟨w.heap.size, 0, none⟩ = some (.int .i64 (lm + 1)) := by rw [cell_of hM]; rfl
    have m1 : W.cell? ⟨w.heap.size, 1, none⟩ = some (.int .i64 0) := by rw [cell_of hM]; rfl
    have m2 : W.cell? ⟨w.heap.size, 2, none⟩ = some (.int .i64 0) := by rw [cell_of hM]; rfl
    have k9 : W.cell? ⟨r, 9, none⟩ = some (.slice ma st.marks.length mc) := by rw [cell_of hS, ← hmv]; rfl
    have HT := Lib.hid hT
    have HS := Lib.hid hS
    have rW := lt_of hS
    have MW := lt_of hM
    clear hM hS hT FF x11 y11 d11 f11 c6 c8 c9
    rw [hmv] at OW PW
    have O0 := Lib.hid (ONE 0 0)
    clear ONE
    generalize w.heap.size = M at *
    go_region_law ((go_loud (refine step_append_new rfl (.tmp 50) (.tmp 52) 83 rfl 0 88 i0 (.agg #[.int .i64 0, .int .i64 0, .int .i64 0]) 3 24 Try.underlying83 hi0 hz0 hz1 hz2 rfl (by decide) (.slice ma st.marks.length mc) st.marks.length (st.marks.flatMap Mk.cells) W.drew _ [.int .i64 (lm + 1), .int .i64 0, .int .i64 0] rfl (by exact OW.out) (by simp [Act.eval]) rfl O0.out (by unfold maxLen; omega) (by omega) (by omega) ?_); intro g cap w' hrow hgr hpl hsz; obtain ⟨d6, f6, dM⟩ := PW.out w' hgr))
    all_goals
      go_wp2_with fail
      go_ret2
      obtain ⟨h1, h2⟩ := mark_mem (W := W.drew) (w' := w') HM.out ⟨lm + 1, st.regs.length, endOf st.regs⟩ g cap (by rw [hI]; exact HT.out.drew) (by rw [hI, hlm]; exact HS.out) (by rw [EE.out, HN.out]; exact hrow) (by rw [hmv]; exact hgr) (by rw [hmv]; exact hpl)
      rw [hI] at h1 h2
      refine ⟨by rw [hlm]; rfl, ⟨cv, rv, .slice (some ⟨g, 0, none⟩) (st.marks.length + 1) cap, ?_⟩, h2⟩
      unfold markSt
      rw [hlm] at h1 ⊢
      exact h1
  · have hl0 : st.regs.length - 1 < st.regs.length := by omega
    obtain ⟨b, o, cap0, hrv2⟩ := shapeR h.regs hl0
    have W0 : Below w.heap.size w (w.alloc (.cells #[.int .i64 0, .int .i64 st.regs.length, .int .i64 0] 88)) := (Below.refl _ _).alloc (Nat.le_refl _) _
    have hs0 := (h.below W0).self
    rw [hrv2] at hs0
    obtain ⟨rfl, rfl⟩ : ra = some ⟨b, o, none⟩ ∧ rc = cap0 := by rw [hrv] at hrv2; simp at hrv2; exact hrv2
    have LA := Lib.hid (last_some _ _ _ _ _ _ _ _ b o st.regs.length rc _ _ _ _ _ hs0 (by omega) (by omega))
    have hreg := h.regs
    rw [hrv] at hreg
    obtain ⟨r0, r1, r2, r3⟩ := reg_cells hreg _ hl0
    have blt := World.block_lt_of_cell? w _ r0
    have EE := Lib.hid (show endOf st.regs = (st.regs.getD (st.regs.length - 1) Reg.zero).to from if_neg h0)
    generalize st.regs.getD (st.regs.length - 1) Reg.zero = x at *
    have WLD : Hid (∀ q, (((((w.alloc (.cells #[.int .i64 0, .int .i64 st.regs.length, .int .i64 0] 88)).drewN q).setCell ⟨w.heap.size, 2, none⟩ (.int .i64 x.to)).setCell ⟨I.r, 11, none⟩ (.int .i64 (st.lm + 1))).setCell ⟨w.heap.size, 0, none⟩ (.int .i64 (st.lm + 1))).heap[w.heap.size]? = some (.cells #[.int .i64 (st.lm + 1), .int .i64 st.regs.length, .int .i64 x.to] 88 (0, 0)) ∧
        (((((w.alloc (.cells #[.int .i64 0, .int .i64 st.regs.length, .int .i64 0] 88)).drewN q).setCell ⟨w.heap.size, 2, none⟩ (.int .i64 x.to)).setCell ⟨I.r, 11, none⟩ (.int .i64 (st.lm + 1))).setCell ⟨w.heap.size, 0, none⟩ (.int .i64 (st.lm + 1))).heap[I.r]? = some (.cells (arCells I.bp I.o I.k I.s I.m I.sz cv rv mv st.lr (st.lm + 1) st.pk) 85 (0, 0)) ∧
        Touch (fun k => k = I.r) w (((((w.alloc (.cells #[.int .i64 0, .int .i64 st.regs.length, .int .i64 0] 88)).drewN q).setCell ⟨w.heap.size, 2, none⟩ (.int .i64 x.to)).setCell ⟨I.r, 11, none⟩ (.int .i64 (st.lm + 1))).setCell ⟨w.heap.size, 0, none⟩ (.int .i64 (st.lm + 1)))) := Lib.hid (fun q => by
      have n0 : ((w.alloc (.cells #[.int .i64 0, .int .i64 st.regs.length, .int .i64 0] 88)).drewN q).heap[w.heap.size]? = some (.cells #[.int .i64 0, .int .i64 st.regs.length, .int .i64 0] 88 (0, 0)) := heap_alloc_new w _
      have n1 : ((w.alloc (.cells #[.int .i64 0, .int .i64 st.regs.length, .int .i64 0] 88)).drewN q).heap[I.r]? = some (.cells (arCells I.bp I.o I.k I.s I.m I.sz cv rv mv st.lr st.lm st.pk) 85 (0, 0)) := (heap_alloc_old w _ rlt).trans h.self
      have hne : w.heap.size ≠ I.r := by omega
      refine ⟨?_, ?_, ?_⟩
      · rw [block_setCell ((Below.heap_setCell _ _ _ _ hne).trans (block_setCell n0 2 _))]; rfl
      · refine (Below.heap_setCell _ _ _ _ hne.symm).trans ?_
        rw [block_setCell ((Below.heap_setCell _ _ _ _ hne.symm).trans n1)]; rfl
      · exact (((((Touch.refl (fun k => k = I.r) w).alloc _).drewN q).setCell (p := ⟨w.heap.size, 2, none⟩) (Or.inr (Nat.le_refl _)) _).setCell (p := ⟨I.r, 11, none⟩) (Or.inl rfl) _).setCell (p := ⟨w.heap.size, 0, none⟩) (Or.inr (Nat.le_refl _)) _)
    have HN := Lib.hid (rfl : st.regs.length = st.regs.length)
    replace r3 : w.cell? ⟨b, o + (st.regs.length - 1) * 4 + 1 + 2, none⟩ = some (.int .i64 x.to) := r3
    clear h hrc hmc hs0 W0 hreg hrv hrv2
    generalize hI : I.r = r at *
    generalize hlm : st.lm = lm at *
    generalize hnn : st.regs.length = n at *
    go_enter Try.func10, Try.ntmps10
    go_wp2_with fail
    refine LA.out.mono ?_
    rintro e w1 ⟨rfl, q, rfl⟩
    go_upto_region 11 with fail
    obtain ⟨hM, hS, hT⟩ := WLD.out q
    generalize ((((w.alloc (.cells #[.int .i64 0, .int .i64 n, .int .i64 0] 88)).drewN q).setCell ⟨w.heap.size, 2, none⟩ (.int .i64 x.to)).setCell ⟨r, 11, none⟩ (.int .i64 (lm + 1))).setCell ⟨w.heap.size, 0, none⟩ (.int .i64 (lm + 1)) = W at *
    have FF := FIN.out x.to W hM hT hS
    have OW := Lib.hid FF.1
    have PW := Lib.hid FF.2
    have m0 : W.cell? ⟨w.heap.size, 0, none⟩ = some (.int .i64 (lm + 1)) := by rw [cell_of hM]; rfl
    have m1 : W.cell? ⟨w.heap.size, 1, none⟩ = some (.int .i64 n) := by rw [cell_of hM]; rfl
    have m2 : W.cell? ⟨w.heap.size, 2, none⟩ = some (.int .i64 x.to) := by rw [cell_of hM]; rfl
    have k9 : W.cell? ⟨r, 9, none⟩ = some (.slice ma st.marks.length mc) := by rw [cell_of hS, ← hmv]; rfl
    have HT := Lib.hid hT
    have HS := Lib.hid hS
    have rW := lt_of hS
    have MW := lt_of hM
    clear hM hS hT FF x11 y11 d11 f11 c6 c8 c9 r0 r1 r2 r3
    rw [hmv] at OW PW
    have O0 := Lib.hid (ONE x.to n)
    clear ONE
    generalize w.heap.size = M at *
    go_region_law ((go_loud (refine step_append_new rfl (.tmp 50) (.tmp 52) 83 rfl 0 88 i0 (.agg #[.int .i64 0, .int .i64 0, .int .i64 0]) 3 24 Try.underlying83 hi0 hz0 hz1 hz2 rfl (by decide) (.slice ma st.marks.length mc) st.marks.length (st.marks.flatMap Mk.cells) W.drew _ [.int .i64 (lm + 1), .int .i64 n, .int .i64 x.to] rfl (by exact OW.out) (by simp [Act.eval]) rfl O0.out (by unfold maxLen; omega) (by omega) (by omega) ?_); intro g cap w' hrow hgr hpl hsz; obtain ⟨d6, f6, dM⟩ := PW.out w' hgr))
    all_goals
      go_wp2_with fail
      go_ret2
      obtain ⟨h1, h2⟩ := mark_mem (W := W.drew) (w' := w') HM.out ⟨lm + 1, n, endOf st.regs⟩ g cap (by rw [hI]; exact HT.out.drew) (by rw [hI, hlm]; exact HS.out) (by rw [EE.out]; exact hrow) (by rw [hmv]; exact hgr) (by rw [hmv]; exact hpl)
      rw [hI] at h1 h2
      refine ⟨by rw [hlm]; rfl, ⟨cv, rv, .slice (some ⟨g, 0, none⟩) (st.marks.length + 1) cap, ?_⟩, h2⟩
      unfold markSt
      rw [hlm] at h1
      rw [hlm, hnn]
      exact h1

end Go.Proofs.Ytfolidedcejafaa
