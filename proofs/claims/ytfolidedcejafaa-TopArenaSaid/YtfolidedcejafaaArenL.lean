/-
  Release of an arena: what it gives where nothing is refused. Conditions: numbers in their bounds.
-/
import Derived.Test.YtfolidedcejafaaArenM
import Derived.StillTailTactics
namespace Go.Proofs.Ytfolidedcejafaa
open Go.RowKit
set_option linter.unusedVariables false

theorem row_cut {w : World} {B e size n cap : Nat} {a : Option Addr} {xs : List Value} (h : w.ownsRow B e size (.slice a n cap) n xs) (k : Nat) (hk : k ≤ n) : w.ownsRow B e size (.slice a k cap) k (xs.take (k * size)) := by
  have hl := h.1
  refine ⟨by rw [List.length_take, hl]; exact Nat.min_eq_left (Nat.mul_le_mul_right _ hk), ?_⟩
  rcases h.2 with ⟨h1, h2⟩ | ⟨g, cap', cur, h1, hb, hg, hn, hm, hs, ht⟩
  · simp only [Value.slice.injEq] at h1
    obtain ⟨rfl, rfl, rfl⟩ := h1
    obtain rfl : k = 0 := by omega
    exact Or.inl ⟨rfl, by simp⟩
  · simp only [Value.slice.injEq] at h1
    obtain ⟨rfl, _, rfl⟩ := h1
    refine Or.inr ⟨g, cap, cur, rfl, hb, hg, by omega, hm, hs, ?_⟩
    rw [← ht, List.take_take, Nat.min_eq_left (Nat.mul_le_mul_right _ hk)]
theorem row_shape {w : World} {B e size n : Nat} {v : Value} {xs : List Value} (h : w.ownsRow B e size v n xs) (hn : 0 < n) : ∃ g cap, v = .slice (some ⟨g, 0, none⟩) n cap := by
  rcases h.2 with ⟨h1, h2⟩ | ⟨g, cap', cur, h1, _⟩
  · omega
  · exact ⟨g, cap', h1⟩
theorem row_set {w : World} {B e size n g cap : Nat} {xs : List Value} (h : w.ownsRow B e size (.slice (some ⟨g, 0, none⟩) n cap) n xs) (j : Nat) (hj : j < n * size) (u : Value) : (w.setCell ⟨g, j, none⟩ u).ownsRow B e size (.slice (some ⟨g, 0, none⟩) n cap) n (xs.set j u) := by
  refine ⟨by rw [List.length_set]; exact h.1, ?_⟩
  rcases h.2 with ⟨h1, h2⟩ | ⟨g', cap', cur, h1, hb, hg, hn, hm, hs, ht⟩
  · cases h1
  · simp only [Value.slice.injEq, Option.some.injEq, Addr.mk.injEq, and_true] at h1
    obtain ⟨rfl, _, rfl⟩ := h1
    refine Or.inr ⟨g, cap, cur.setIfInBounds j u, rfl, hb, block_setCell hg j u, hn, hm, by simpa using hs, ?_⟩
    rw [Array.toList_setIfInBounds, List.take_set, ht]
theorem row_free {w : World} {B e size n g cap : Nat} {xs : List Value} (h : w.ownsRow B e size (.slice (some ⟨g, 0, none⟩) n cap) n xs) (j : Nat) : w.frozen? ⟨g, j, none⟩ = false := by
  obtain ⟨cur, hc⟩ := row_block h rfl
  exact free_of hc j

theorem cells_set (L : List Reg) (k : Nat) (to : Nat) : (L.flatMap Reg.cells).set (k * 4 + 3) (.int .i64 to) = (L.set k { L.getD k Reg.zero with to := to }).flatMap Reg.cells := by
  induction L generalizing k with
  | nil => simp
  | cons x l ih =>
    cases k with
    | zero => simp [Reg.cells]
    | succ k =>
      rw [List.flatMap_cons, List.set_append_right _ _ (by simp [Reg.cells]; omega), List.set_cons_succ, List.flatMap_cons, List.getD_cons_succ, ← ih k]
      congr 2
      simp [Reg.cells]; omega

/-- The regions that a release leaves. -/
def relRegs (L : List Reg) (many en : Nat) : List Reg := (L.take many).set (many - 1) { L.getD (many - 1) Reg.zero with to := en }
def relSt (st : ArSt) (k : Nat) : ArSt := { st with regs := relRegs st.regs (st.marks.getD k Mk.zero).many (st.marks.getD k Mk.zero).en, marks := st.marks.take k }
def RelPost (F : Nat → Prop) (I : ArId) (st : ArSt) (k : Nat) (w : World) : Ending → World → Prop := fun e w' =>
  e = .returned (.tuple #[.int .i64 ((st.regs.length : Int) - (st.marks.getD k Mk.zero).many), .int .i64 0]) ∧ ArAt w' F I (relSt st k) ∧ Touch F w w'

theorem mk_cells {w : World} {b o cap : Nat} {L : List Mk} (h : MksIn w (.slice (some ⟨b, o, none⟩) L.length cap) L) (k : Nat) (hk : k < L.length) :
    w.cell? ⟨b, o + k * 3, none⟩ = some (.int .i64 (L.getD k Mk.zero).no) ∧ w.cell? ⟨b, o + k * 3 + 1, none⟩ = some (.int .i64 (L.getD k Mk.zero).many) ∧ w.cell? ⟨b, o + k * 3 + 2, none⟩ = some (.int .i64 (L.getD k Mk.zero).en) := by
  obtain ⟨a, cap', he, h1, h2, hc⟩ := h
  obtain ⟨b', o', hbo, d⟩ := hc k hk
  simp only [Value.slice.injEq] at he
  rw [← he.1] at hbo
  simp only [Option.some.injEq, Addr.mk.injEq, and_true] at hbo
  obtain ⟨rfl, rfl⟩ := hbo
  exact d

theorem relRegs_len (L : List Reg) (many en : Nat) (h : many ≤ L.length) : (relRegs L many en).length = many := by
  unfold relRegs
  rw [List.length_set, List.length_take]; omega

theorem rel_mem {w W : World} {F : Nat → Prop} {I : ArId} {st : ArSt} {cv rv rv' : Value} {mb mc k : Nat} (h : ArMem w F I st cv rv (.slice (some ⟨mb, 0, none⟩) st.marks.length mc)) (hk : k ≤ st.marks.length)
    (hself : W.heap[I.r]? = some (.cells (arCells I.bp I.o I.k I.s I.m I.sz cv rv' (.slice (some ⟨mb, 0, none⟩) k mc) st.lr st.lm st.pk) 85 (0, 0)))
    (hT : Touch (fun k => k = I.r ∨ rv.ownBlock = some k) w W) (hb : ∀ k, rv'.ownBlock = some k → rv.ownBlock = some k)
    (hrow : W.ownsRow 0 94 4 rv' (relRegs st.regs (st.marks.getD k Mk.zero).many (st.marks.getD k Mk.zero).en).length ((relRegs st.regs (st.marks.getD k Mk.zero).many (st.marks.getD k Mk.zero).en).flatMap Reg.cells)) :
    ArAt W F I (relSt st k) ∧ Touch F w W := by
  have keep : ∀ k, k < w.heap.size → k ≠ I.r → rv.ownBlock ≠ some k → W.heap[k]? = w.heap[k]? := fun k hk h1 h2 => hT.block k hk (fun x => x.elim h1 h2)
  refine ⟨⟨cv, rv', _, ⟨hself, h.fr, ?_, h.fc, hrow, fun k hk => h.frg k (hb k hk), ?_, fun k hk => h.fm k hk, ?_, h.inj⟩⟩, hT.mono (fun k x => x.elim (fun e => e ▸ h.fr) (h.frg k))⟩
  · exact ownsRow_same h.crow (fun k hk => keep k (h.crow.lt k hk).2 (fun e => row_ne h.crow h.self (by decide) (e ▸ hk)) (rows_ne h.crow h.rrow (by decide) k hk))
  · have hm := ownsRow_same h.mrow (fun k hk => keep k (h.mrow.lt k hk).2 (fun e => row_ne h.mrow h.self (by decide) (e ▸ hk)) (rows_ne h.mrow h.rrow (by decide) k hk))
    have hc := row_cut hm k hk
    have e1 : (relSt st k).marks = st.marks.take k := rfl
    rw [e1, List.length_take, Nat.min_eq_left hk, ← flat_take Mk.cells 3 (fun _ => rfl)]
    exact hc
  · intro c hc
    obtain ⟨h1, h2⟩ := h.mem c hc
    refine ⟨(keep _ (lt_of h1) ?_ (row_ne h.rrow h1 (by decide))).trans h1, h2⟩
    intro e
    have := h.self
    rw [← e, h1] at this
    simp at this

set_option maxHeartbeats 4000000 in
set_option maxRecDepth 100000 in
theorem arRelease_any (I : ArId) (F : Nat → Prop) (st : ArSt) (cv rv mv : Value) (no : Int) (k : Nat) (w : World) (h : ArMem w F I st cv rv mv) (hok : RegsOk st.regs) (hl : st.marks.length ≤ 100) (hf : FirstMk st.marks no k) (hmany : (st.marks.getD k Mk.zero).many ≤ st.regs.length) :
    Calls Try.prog 19 #[.pointer (some ⟨I.r, 0, none⟩), .int .i64 no] w (RelPost F I st k w) := by
  have MK := Lib.hid (marked_ok I F st cv rv mv no k w h (by omega) hf)
  have hk := hf.1
  obtain ⟨mb, mc, hmv⟩ := row_shape h.mrow (show 0 < st.marks.length by omega)
  subst hmv
  have hmc : st.marks.length ≤ mc := by
    obtain ⟨_, _, he, hle, _⟩ := h.mks
    simp at he; omega
  obtain ⟨ra, rc, hrv, hr1, hr2, hrc⟩ := h.regs
  subst hrv
  have HM := Lib.hid h
  have rlt := lt_of h.self
  have b63 := hok.1
  have c6 : w.cell? ⟨I.r, 6, none⟩ = some (.bool false) := by rw [cell_of h.self]; rfl
  generalize hx : st.marks.getD k Mk.zero = x at *
  have PRE : Hid (∀ W, Below w.heap.size w W → W.cell? ⟨I.r, 9, none⟩ = some (.slice (some ⟨mb, 0, none⟩) st.marks.length mc) ∧ W.cell? ⟨mb, k * 3, none⟩ = some (.int .i64 x.no) ∧ W.cell? ⟨mb, k * 3 + 1, none⟩ = some (.int .i64 x.many) ∧ W.cell? ⟨mb, k * 3 + 2, none⟩ = some (.int .i64 x.en) ∧ W.cell? ⟨I.r, 8, none⟩ = some (.slice ra st.regs.length rc) ∧ (∀ j, W.frozen? ⟨I.r, j, none⟩ = false) ∧ I.r < W.heap.size ∧ mb < W.heap.size) := Lib.hid (fun W hW => by
    have hh := h.below hW
    obtain ⟨g0, g1, g2⟩ := mk_cells hh.mks k hk
    rw [hx, Nat.zero_add] at g0 g1 g2
    have hsz := hW.size
    exact ⟨by rw [cell_of hh.self]; rfl, g0, g1, g2, by rw [cell_of hh.self]; rfl, fun j => free_of hh.self j, by omega, World.block_lt_of_cell? W _ g0⟩)
  generalize hI : I.r = r at *
  clear h hrc
  go_enter Try.func19, Try.ntmps19
  go_wp2_with fail
  refine MK.out.mono ?_
  rintro e w1 ⟨rfl, hb1⟩
  obtain ⟨p9, q0, q1, q2, p8, pf, pr, pm⟩ := PRE.out w1 hb1
  have B1 := Lib.hid hb1
  clear hb1
  have hk' : ¬ ((k : Int) < 0) := by omega
  go_upto_region 7 with fail
  have hM : (w1.alloc (.cells #[.int .i64 x.no, .int .i64 x.many, .int .i64 x.en] 88)).heap[w1.heap.size]? = some (.cells #[.int .i64 x.no, .int .i64 x.many, .int .i64 x.en] 88 (0, 0)) := heap_alloc_new w1 _
  have hB : Below w.heap.size w (w1.alloc (.cells #[.int .i64 x.no, .int .i64 x.many, .int .i64 x.en] 88)) := B1.out.alloc B1.out.size _
  have hMw : w.heap.size ≤ w1.heap.size := B1.out.size
  generalize w1.alloc (.cells #[.int .i64 x.no, .int .i64 x.many, .int .i64 x.en] 88) = W at *
  generalize w1.heap.size = M at *
  clear p9 q0 q1 q2 p8 pf pr pm
  obtain ⟨p9, q0, q1, q2, p8, pf, pr, pm⟩ := PRE.out W hB
  have m0 : W.cell? ⟨M, 0, none⟩ = some (.int .i64 x.no) := by rw [cell_of hM]; rfl
  have m1 : W.cell? ⟨M, 1, none⟩ = some (.int .i64 x.many) := by rw [cell_of hM]; rfl
  have m2 : W.cell? ⟨M, 2, none⟩ = some (.int .i64 x.en) := by rw [cell_of hM]; rfl
  have Mlt := lt_of hM
  have HB := Lib.hid hB
  have HMM := Lib.hid hM
  clear hB hM
  go_quiet (fail)
  go_wp2_with fail
  go_region
  go_upto_region 9 with fail
  have nr : ∀ q, (W.drewN q).heap[r]? = some (.cells (arCells I.bp I.o I.k I.s I.m I.sz cv (.slice ra st.regs.length rc) (.slice (some ⟨mb, 0, none⟩) st.marks.length mc) st.lr st.lm st.pk) 85 (0, 0)) := fun q => by
    have := (HM.out.below HB.out).self
    rw [hI] at this
    exact this
  have S3 : ∀ q, ((W.drewN q).setCell ⟨r, 8, none⟩ (.slice ra x.many rc)).heap[r]? = some (.cells (arCells I.bp I.o I.k I.s I.m I.sz cv (.slice ra x.many rc) (.slice (some ⟨mb, 0, none⟩) st.marks.length mc) st.lr st.lm st.pk) 85 (0, 0)) := fun q => by
    rw [block_setCell (nr q)]; rfl
  have T3 : ∀ q, Touch (fun k => k = I.r ∨ (Value.slice ra st.regs.length rc).ownBlock = some k) w ((W.drewN q).setCell ⟨r, 8, none⟩ (.slice ra x.many rc)) := fun q =>
    ((Touch.of_below HB.out).drewN q).setCell (p := ⟨r, 8, none⟩) (Or.inl (Or.inl hI.symm)) _
  have HS3 := Lib.hid S3
  have HT3 := Lib.hid T3
  have z9 : ∀ q, ((W.drewN q).setCell ⟨r, 8, none⟩ (.slice ra x.many rc)).cell? ⟨r, 9, none⟩ = some (.slice (some ⟨mb, 0, none⟩) st.marks.length mc) := fun q => by rw [cell_of (S3 q)]; rfl
  have zf : ∀ q j, ((W.drewN q).setCell ⟨r, 8, none⟩ (.slice ra x.many rc)).frozen? ⟨r, j, none⟩ = false := fun q j => free_of (S3 q) j
  have RW : Hid (∀ W', Touch (fun k => k = r) w W' → W'.ownsRow 0 94 4 (.slice ra x.many rc) x.many ((st.regs.take x.many).flatMap Reg.cells)) := Lib.hid (fun W' hT => by
    have h0 := ownsRow_same HM.out.rrow (fun k hk => hT.block k (HM.out.rrow.lt k hk).2 (fun e => row_ne HM.out.rrow HM.out.self (by decide) (by rw [hI, ← e]; exact hk)))
    rw [← flat_take Reg.cells 4 (fun _ => rfl)]
    exact row_cut h0 _ hmany)
  have TR : Hid (∀ q, Touch (fun k => k = r) w ((W.drewN q).setCell ⟨r, 8, none⟩ (.slice ra x.many rc))) := Lib.hid (fun q => ((Touch.of_below (F := fun k => k = r) HB.out).drewN q).setCell (p := ⟨r, 8, none⟩) (Or.inl rfl) _)
  clear S3 T3 nr p9 q0 q1 q2 p8 pf
  generalize hy : x.many = y at *
  by_cases h0 : y = 0
  · subst h0
    have LA := Lib.hid (fun q => last_nil r I.bp I.o I.k I.s I.m I.sz cv ra rc (.slice (some ⟨mb, 0, none⟩) st.marks.length mc) st.lr st.lm st.pk ((W.drewN q).setCell ⟨r, 8, none⟩ (.slice ra 0 rc)) (HS3.out q))
    go_wp2_with fail
    refine (LA.out _).mono ?_
    rintro e w2 ⟨rfl, rfl⟩
    go_wp2_with fail
    go_ret2
    refine ⟨by rw [hx, hy]; simp, ?_⟩
    refine rel_mem (rv' := .slice ra 0 rc) HM.out (by omega) ?_ ?_ (fun _ hk => by cases ra with | none => simp [Value.ownBlock] at hk | some _ => exact hk) ?_
    · rw [hI, block_setCell (HS3.out _)]; rfl
    · exact (HT3.out _).setCell (p := ⟨r, 9, none⟩) (Or.inl (Or.inl hI.symm)) _
    · have e1 : relRegs st.regs (st.marks.getD k Mk.zero).many (st.marks.getD k Mk.zero).en = [] := List.eq_nil_of_length_eq_zero (by rw [relRegs_len _ _ _ (by rw [hx, hy]; omega), hx, hy])
      rw [e1]
      exact RW.out _ ((TR.out _).setCell (p := ⟨r, 9, none⟩) (Or.inl rfl) _)
  · obtain ⟨rb, rc', hrv2⟩ := row_shape HM.out.rrow (show 0 < st.regs.length by omega)
    obtain ⟨rfl, rfl⟩ : ra = some ⟨rb, 0, none⟩ ∧ rc = rc' := by simp at hrv2; exact hrv2
    have LA := Lib.hid (fun q => last_some r I.bp I.o I.k I.s I.m I.sz cv rb 0 y rc (.slice (some ⟨mb, 0, none⟩) st.marks.length mc) st.lr st.lm st.pk ((W.drewN q).setCell ⟨r, 8, none⟩ (.slice (some ⟨rb, 0, none⟩) y rc)) (HS3.out q) (by omega) (by omega))
    have hrr : rb ≠ r := fun e => row_ne HM.out.rrow HM.out.self (by decide) (by rw [hI, ← e]; rfl)
    have hrM : M ≠ r := by omega
    have OWN := Lib.hid (fun q q' => RW.out (((W.drewN q).setCell ⟨r, 8, none⟩ (.slice (some ⟨rb, 0, none⟩) y rc)).drewN q') ((TR.out q).drewN q'))
    have y2 : ∀ q, ((W.drewN q).setCell ⟨r, 8, none⟩ (.slice (some ⟨rb, 0, none⟩) y rc)).cell? ⟨M, 2, none⟩ = some (.int .i64 x.en) := fun q => by
      exact (cell_of (w := (W.drewN q).setCell ⟨r, 8, none⟩ (.slice (some ⟨rb, 0, none⟩) y rc)) ((Below.heap_setCell _ _ _ _ hrM).trans HMM.out) 2).trans rfl
    have hR1 := (HM.out.below HB.out).regs
    obtain ⟨_, _, _, t3⟩ := reg_cells hR1 (y - 1) (by omega)
    rw [Nat.zero_add] at t3
    have xc : ∀ q, ((W.drewN q).setCell ⟨r, 8, none⟩ (.slice (some ⟨rb, 0, none⟩) y rc)).cell? ⟨rb, (y - 1) * 4 + 1 + 2, none⟩ = some (.int .i64 (st.regs.getD (y - 1) Reg.zero).to) := fun q => by
      rw [World.cell?_setCell_other _ _ _ _ (by simp)]
      exact t3
    have hrr2 : ¬ r = rb := fun e => hrr e.symm
    have xf : ∀ q, ((W.drewN q).setCell ⟨r, 8, none⟩ (.slice (some ⟨rb, 0, none⟩) y rc)).frozen? ⟨rb, (y - 1) * 4 + 1 + 2, none⟩ = false := fun q => row_free (OWN.out q 0) _
    go_wp2_with fail
    refine (LA.out _).mono ?_
    rintro e w2 ⟨rfl, q2, rfl⟩
    go_wp2_with fail
    go_ret2
    refine ⟨by rw [hx, hy]; rfl, ?_⟩
    refine rel_mem (rv' := .slice (some ⟨rb, 0, none⟩) y rc) HM.out (by omega) ?_ ?_ (fun _ hk => hk) ?_
    · have h8 : ∀ q, ((((W.drewN q).setCell ⟨r, 8, none⟩ (.slice (some ⟨rb, 0, none⟩) y rc)).drewN q2).setCell ⟨rb, (y - 1) * 4 + 1 + 2, none⟩ (.int .i64 x.en)).heap[r]? = some (.cells (arCells I.bp I.o I.k I.s I.m I.sz cv (.slice (some ⟨rb, 0, none⟩) y rc) (.slice (some ⟨mb, 0, none⟩) st.marks.length mc) st.lr st.lm st.pk) 85 (0, 0)) := fun q => (Below.heap_setCell _ _ _ _ hrr2).trans (HS3.out q)
      rw [hI, block_setCell (h8 _)]; rfl
    · exact (((HT3.out _).drewN q2).setCell (p := ⟨rb, (y - 1) * 4 + 1 + 2, none⟩) (Or.inl (Or.inr rfl)) _).setCell (p := ⟨r, 9, none⟩) (Or.inl (Or.inl hI.symm)) _
    · rw [hx, hy, relRegs_len _ _ _ (by omega)]
      have e2 : (relRegs st.regs y x.en).flatMap Reg.cells = ((st.regs.take y).flatMap Reg.cells).set ((y - 1) * 4 + 3) (.int .i64 x.en) := by
        rw [cells_set]
        unfold relRegs
        congr 3
        rw [List.getD_eq_getElem?_getD, List.getD_eq_getElem?_getD, List.getElem?_take, if_pos (by omega)]
      rw [e2]
      exact ownsRow_setCell_other (row_set (OWN.out _ q2) ((y - 1) * 4 + 3) (by omega) (.int .i64 x.en)) (a := ⟨r, 9, none⟩) (by simp [Value.ownBlock]; exact hrr) (.slice (some ⟨mb, 0, none⟩) k mc)

end Go.Proofs.Ytfolidedcejafaa
