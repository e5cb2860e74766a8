/-
  The book's Pass: what it gives. No conditions but those of the book's own state.
-/
import Derived.Test.YtljjndifmfhffaaGreatDoorLedgerChecksPbi
import Derived.Test.YtljjndifmfhffaaGreatDoorLedgerChecksPak
namespace Go.Proofs.YtljjndifmfhffaaGreatDoor
open Go.RowKit
set_option linter.unusedVariables false

theorem BookAt.narrow' {w : World} {F : Nat → Prop} {p : Nat} {st : BookSt} {N : Nat} (h : BookAt w F p st N) : BookAt w (fun k => F k ∧ k < w.heap.size) p st N := by
  obtain ⟨mb, blk, lv, ev, D, hm⟩ := h
  refine ⟨mb, blk, lv, ev, D, ⟨hm.self, ⟨hm.fp, lt_of hm.self⟩, hm.map, ⟨hm.fmap, hm.map.lt⟩, hm.look, hm.anone, ?_, hm.inj, hm.lrow, ?_, hm.erow, ?_⟩⟩
  · intro o b hb
    obtain ⟨l, h, s, h1, h2, h3⟩ := hm.asome o b hb
    exact ⟨l, h, s, h1, h2, h3, lt_of h2⟩
  · intro k hk
    obtain ⟨cur, hc⟩ := row_block hm.lrow hk
    exact ⟨hm.flea k hk, lt_of hc⟩
  · intro k hk
    obtain ⟨cur, hc⟩ := row_block hm.erow hk
    exact ⟨hm.fent k hk, lt_of hc⟩

/-- 'append(out, x)' of an element, and where the row lies then. -/
theorem wpList_append_at {P : Program} {ops : Array Oper} {rest : List Oper} {o : Oper} {a : Act} {Q : Exit → Act → World → Prop} (hgd : o.guard = none) (s x : Operand) (t : TypeId)
    (ho : o.op = .call { callee := .builtin .append, args := #[s, x], argTypes := #[t, t] })
    (base : Nat) (e : TypeId) (i : TypeInfo) (z : Value) (size bytes : Nat) (ht : P.underlying t = some (.slice e)) (hi : P.info? e = some i) (hz : i.zero = some z)
    (hsize : i.size = size) (hby : i.bytes = bytes) (hzs : z.cells.size = size) (hsz : 0 < size)
    (v : Value) (n : Nat) (xs : List Value) (wr : World) (e' : TypeId) (us : List Value) (hs : a.eval s = v) (hown : wr.ownsRow base e size v n xs)
    (hx : a.eval x = .slice (some ⟨wr.heap.size, 0, none⟩) 1 1) (hl : us.length = size) (h1 : ∀ u ∈ us, u.oneCell' = true)
    (h63 : n + 1 ≤ maxLen) (hbytes : (n + 1) * bytes ≤ 140737488355328) (hbase : base ≤ wr.heap.size)
    (h : ∀ g cap w', w'.ownsRow base e size (.slice (some ⟨g, 0, none⟩) (n + 1) cap) (n + 1) (xs ++ us) → wr.grownBy w' v.ownBlock → (v.ownBlock = some g ∨ wr.heap.size ≤ g) → wpList P ops Q rest (a.put o.dst (.slice (some ⟨g, 0, none⟩) (n + 1) cap)) w') :
    wpList P ops Q (o :: rest) a (wr.alloc (.cells us.toArray e')) := by
  refine wpList_plain hgd fun K hK => ?_
  have hnews : ∀ j u, us[j]? = some u → (wr.alloc (.cells us.toArray e')).cell? ((⟨wr.heap.size, 0, none⟩ : Addr).add j) = some u := by
    intro j u hj
    have e1 : (⟨wr.heap.size, 0, none⟩ : Addr).add j = ⟨wr.heap.size, j, none⟩ := by unfold Addr.add; split <;> simp_all
    rw [e1, cell_of_row _ _ _ _ _ _ (heap_alloc_new wr _)]
    simpa using hj
  obtain ⟨g, cap, w', hr, hown', hg', hp⟩ := run_append_place (P := P) (wr.alloc (.cells us.toArray e')) base t o.type e i z size bytes ht hi hz hsize hby hzs hsz v n xs (hown.alloc _) ⟨wr.heap.size, 0, none⟩ 1 1 us (by omega) hnews h1 (by omega) h63 hbytes (by simp; omega)
  unfold Oper.wp execOp
  simp only [ho, resolve, invoke, builtin, Sem.run_bind, Sem.run_pure, Result.andThen_ok, List.map_toArray, List.map_cons, List.map_nil, hs, hx, hr]
  have hg2 : wr.grownBy w' v.ownBlock := ⟨hg'.os, hg'.tape, hg'.output, Nat.le_trans (by simp) hg'.size, fun k hk hne => (hg'.block k (by simp; omega) hne).trans (heap_alloc_old wr _ hk)⟩
  exact hK _ _ (h g cap w' hown' hg2 (hp.imp id (fun x => by simp at x; omega)))

def noVals (ls : List Lea) : List Value := ls.map fun l => .int .i64 l.no

def PassPost (ns : List Int) (err : Int) (F : Nat → Prop) (p : Nat) (st : BookSt) (N : Nat) (w : World) : Ending → World → Prop := fun e w' =>
  ∃ v, e = .returned (.tuple #[v, .int .i64 err]) ∧ Reads w' .i64 v ns ∧ (∀ b, v.ownBlock = some b → w.heap.size ≤ b) ∧ BookAt w' (fun k => F k ∨ w.heap.size ≤ k) p st N ∧ Touch F w w'

/-- What holds between two rounds of Pass. -/
structure PassAt (F : Nat → Prop) (p N : Nat) (st1 : BookSt) (ov : List Lea) (sv : Value) (w : World) (k : Nat) (out : Value) (wr : World) (G : Nat → Prop) : Prop where
  book : BookAt wr G p (endAll st1 (ov.take k)) N
  lt : ∀ j, G j → j < wr.heap.size
  sub : ∀ j, G j → F j ∨ w.heap.size ≤ j
  svf : ∀ j, sv.ownBlock = some j → ¬ G j
  ovf : ∀ j, out.ownBlock = some j → ¬ G j
  srow : wr.ownsRow 0 88 4 sv ov.length (ov.flatMap Lea.cells)
  orow : wr.ownsRow w.heap.size 3 1 out k (noVals (ov.take k))
  touch : Touch F w wr

theorem endAll_snoc (st : BookSt) (ls : List Lea) (l : Lea) : endAll st (ls ++ [l]) = (endR (endAll st ls) l.no).2 := by
  unfold endAll; rw [List.foldl_append]; rfl

/-- A round: the box, End, the append. -/
theorem PassAt.step {F : Nat → Prop} {p N : Nat} {st1 : BookSt} {ov : List Lea} {sv : Value} {w : World} {k : Nat} {out : Value} {wr : World} {G : Nat → Prop} (h : PassAt F p N st1 ov sv w k out wr G) {l : Lea} (hl : ov[k]? = some l) (ob : Obj) {w3 : World}
    (hb3 : BookAt w3 (fun j => G j ∨ (wr.alloc ob).heap.size ≤ j) p (endR (endAll st1 (ov.take k)) l.no).2 N) (ht3 : Touch G (wr.alloc ob) w3) {gb cap : Nat} {w5 : World}
    (hown : w5.ownsRow w.heap.size 3 1 (.slice (some ⟨gb, 0, none⟩) (k + 1) cap) (k + 1) (noVals (ov.take k) ++ [.int .i64 l.no])) (hgr : w3.grownBy w5 out.ownBlock) (hpl : out.ownBlock = some gb ∨ w3.heap.size ≤ gb) :
    PassAt F p N st1 ov sv w (k + 1) (.slice (some ⟨gb, 0, none⟩) (k + 1) cap) w5 (fun j => (G j ∨ (wr.alloc ob).heap.size ≤ j) ∧ j < w3.heap.size) := by
  have hs1 : (wr.alloc ob).heap.size = wr.heap.size + 1 := by simp
  have hs3 := ht3.size
  have hout : ∀ j, out.ownBlock = some j → j < wr.heap.size := fun j hj => by obtain ⟨cur, hc⟩ := row_block h.orow hj; exact lt_of hc
  have hsv : ∀ j, sv.ownBlock = some j → j < wr.heap.size := fun j hj => by obtain ⟨cur, hc⟩ := row_block h.srow hj; exact lt_of hc
  have hdiff : ∀ j, sv.ownBlock = some j → out.ownBlock ≠ some j := by
    intro j hj hj2
    obtain ⟨c1, h1⟩ := row_block h.srow hj
    obtain ⟨c2, h2⟩ := row_block h.orow hj2
    rw [h1] at h2
    simp at h2
  have old : ∀ j, j < wr.heap.size → ¬ G j → out.ownBlock ≠ some j → w5.heap[j]? = wr.heap[j]? := fun j hj hG hne =>
    (hgr.block j (by omega) (fun e => hne e.symm)).trans ((ht3.block j (by omega) hG).trans (heap_alloc_old wr ob hj))
  have et : ov.take (k + 1) = ov.take k ++ [l] := by rw [List.take_add_one, hl]; rfl
  refine ⟨?_, ?_, ?_, ?_, ?_, ?_, ?_, ?_⟩
  · rw [et, endAll_snoc]
    refine hb3.narrow'.same ?_
    intro j hj hlt
    refine hgr.block j hlt ?_
    intro e
    have h1 := hout j e.symm
    rcases hj.1 with h2 | h2
    · exact h.ovf j e.symm h2
    · omega
  · intro j hj; have := hgr.size; omega
  · intro j hj
    rcases hj.1 with h2 | h2
    · exact h.sub j h2
    · right; have := h.touch.size; omega
  · intro j hj hG
    have h1 := hsv j hj
    rcases hG.1 with h2 | h2
    · exact h.svf j hj h2
    · omega
  · intro j hj hG
    simp only [Value.ownBlock, Option.some.injEq] at hj
    subst hj
    rcases hpl with e | e
    · have h1 := hout _ e
      rcases hG.1 with h2 | h2
      · exact h.ovf _ e h2
      · omega
    · omega
  · exact ownsRow_same h.srow (fun j hj => old j (hsv j hj) (h.svf j hj) (hdiff j hj))
  · rw [et]; unfold noVals at hown ⊢; rw [List.map_append]; exact hown
  · refine ((h.touch.alloc ob).trans ht3 ?_).grown hgr ?_
    · intro i hi; exact h.sub i hi
    · intro j hj
      have h1 := (h.orow.lt j hj).1
      exact Or.inr h1

set_option maxHeartbeats 1000000 in
set_option maxRecDepth 100000 in
theorem pass_bad (p : Nat) (now : Int) (w : World) (F : Nat → Prop) (st : BookSt) (N : Nat) (hb : BookAt w F p st N) (hz : passE st now ≠ 0) :
    Calls Tryz.prog 33 #[.pointer (some ⟨p, 0, none⟩), .int .i64 now] w (PassPost [] (passE st now) F p st N w) := by
  have B1 : Below w.heap.size w (w.alloc (.cells #[.int .i64 now] 3)) := (Below.refl _ _).alloc (Nat.le_refl _) _
  have FIN : Hid (∀ q, PassPost [] (passE st now) F p st N w (.returned (.tuple #[.slice none 0 0, .int .i64 (passE st now)])) ((w.alloc (.cells #[.int .i64 now] 3)).drewN q)) := Lib.hid (fun q => ⟨_, rfl, reads_nil _, fun b hb => by simp [Value.ownBlock] at hb, (bad_fin hb (bdrewN B1 q)).1, (bad_fin hb (bdrewN B1 q)).2⟩)
  obtain ⟨mb, blk, lv, ev, D, hm⟩ := hb.same (Below.same_on B1)
  have c2 : (w.alloc (.cells #[.int .i64 now] 3)).cell? ⟨p, 2, none⟩ = some (.int .i64 st.time) := by rw [cell_of hm.self]; rfl
  unfold passE at hz FIN
  by_cases hin : 0 ≤ now ∧ now ≤ 1000000
  · rw [if_pos hin] at hz
    simp only [if_pos hin] at FIN
    have hlt : now < st.time := by
      by_cases h : now < st.time
      · exact h
      · rw [if_neg h] at hz; exact absurd rfl hz
    have e5 : passE st now = 5 := by unfold passE; rw [if_pos hin, if_pos hlt]
    rw [e5]
    simp only [if_pos hlt] at FIN
    have HW1 := Lib.hid (within_ledger_yes now 0 1000000 (w.alloc (.cells #[.int .i64 now] 3)) hin.1 hin.2)
    generalize st.time = tm at *
    clear hm hz hin B1 e5
    go_enter Tryz.func33, Tryz.ntmps33
    go_wp2_with fail
    refine HW1.out.mono ?_
    rintro e w' ⟨rfl, rfl⟩
    go_wp2_with fail
    go_quiet (fail)
    go_wp2_with fail
    go_ret2
    exact FIN.out _
  · simp only [if_neg hin] at FIN
    have e2 : passE st now = 2 := by unfold passE; rw [if_neg hin]
    rw [e2]
    have HW1 := Lib.hid (within_ledger_no now 0 1000000 (w.alloc (.cells #[.int .i64 now] 3)) hin)
    clear hm hz hin B1 e2
    go_enter Tryz.func33, Tryz.ntmps33
    go_wp2_with fail
    refine HW1.out.mono ?_
    rintro e w' ⟨rfl, rfl⟩
    go_wp2_with fail
    go_ret2
    exact FIN.out 0

theorem over_filter (st : BookSt) (now : Int) : overL st now = (st.leases.filter fun y => !decide (now < y.untl)).mergeSort leLea := by
  unfold overL
  congr 1
  refine List.filter_congr (fun y _ => ?_)
  rw [← decide_not]
  exact decide_eq_decide.2 (by omega)

set_option maxHeartbeats 1000000 in
set_option maxRecDepth 100000 in
theorem deleteFunc_none (a : Option Addr) (cap : Nat) (f : FuncId) (fv : Array Value) (w : World) :
    Calls Tryz.prog 60 #[.slice a 0 cap, .func (.func f) #[] fv] w (fun e w' => e = .returned (.slice a 0 cap) ∧ Below w.heap.size w w') := by
  have HC := Lib.hid (index_none a cap f fv w)
  go_enter Tryz.func60, Tryz.ntmps60
  go_wp2_with fail
  refine HC.out.mono ?_
  rintro e w' ⟨rfl, hb⟩
  have HB := Lib.hid hb
  clear hb
  go_wp2_with fail
  go_ret
  exact ⟨rfl, HB.out⟩

/-- DeleteFunc and SortFunc over a row of the call's own, empty or not. -/
theorem deleteFunc_any (B : Nat) (v : Value) (ls : List Lea) (bx : Nat) (now : Int) (w : World) (hr : w.ownsRow B 88 4 v ls.length (ls.flatMap Lea.cells)) (hlen : ls.length ≤ 1000000) (hbx : bx < B) (hB : B ≤ w.heap.size) (hnow : w.cell? ⟨bx, 0, none⟩ = some (.int .i64 now)) :
    Calls Tryz.prog 60 #[v, .func (.func 62) #[] #[.pointer (some ⟨bx, 0, none⟩)]] w (DelFPost B (ls.filter fun y => !decide (now < y.untl)) w) := by
  have eg : ∀ args w, (callFunc 62 args).run Tryz.prog w = .ok (.enter 62 args) w := enters_of Tryz.func62 (by kernel_rfl) rfl
  rcases Nat.eq_zero_or_pos ls.length with h0 | h0
  · obtain ⟨a, c, rfl, _, _⟩ := ownsRow_sh hr
    have hz : ls = [] := by cases ls with | nil => rfl | cons x xs => simp at h0
    subst hz
    refine (deleteFunc_none a c _ _ w).mono ?_
    rintro e w' ⟨rfl, hb⟩
    exact ⟨_, rfl, ownsRow_same hr (fun k hk => hb.block k (hr.lt k hk).2), hb.mono hB⟩
  · obtain ⟨g, cap, cur, rfl, hgB, hg, _⟩ := lrow_open hr h0
    refine deleteFunc_row B g cap ls _ _ (fun y => decide (now < y.untl)) w hr h0 hlen eg (fun W x hb => ?_)
    exact passW bx now x W ((hb.cell (p := ⟨bx, 0, none⟩) (by show bx < g; omega)).trans hnow)
theorem sort_any (B : Nat) (v : Value) (ls : List Lea) (w : World) (hr : w.ownsRow B 88 4 v ls.length (ls.flatMap Lea.cells)) (hlen : ls.length ≤ 1000000) (hB : B ≤ w.heap.size) (hnos : (ls.map Lea.no).Pairwise (· < ·)) :
    Calls Tryz.prog 63 #[v, .func (.func 64) #[] #[]] w (fun e w' => e = .returned (.tuple #[]) ∧ w'.ownsRow 0 88 4 v (ls.mergeSort leLea).length ((ls.mergeSort leLea).flatMap Lea.cells) ∧ Below B w w') := by
  rw [List.length_mergeSort]
  rcases Nat.eq_zero_or_pos ls.length with h0 | h0
  · obtain ⟨a, c, rfl, _, _⟩ := ownsRow_sh hr
    have hz : ls = [] := by cases ls with | nil => rfl | cons x xs => simp at h0
    subst hz
    refine (Tryz.slices_SortFunc_none (α := Nat) a c _ w).mono ?_
    rintro e w' ⟨rfl, rfl⟩
    exact ⟨rfl, by simpa using row_zero hr, Below.refl _ _⟩
  · obtain ⟨g, cap, cur, rfl, hgB, hg, _⟩ := lrow_open hr h0
    refine (sort_lea g cap ls w (row_zero hr) hnos hlen).mono ?_
    rintro e w' ⟨rfl, h1, h2⟩
    exact ⟨rfl, h1, h2.below hB (fun k hk => by rw [hk]; exact hgB)⟩

set_option maxHeartbeats 8000000 in
set_option maxRecDepth 100000 in
theorem pass_in (p : Nat) (now : Int) (w : World) (F : Nat → Prop) (st : BookSt) (N : Nat) (hb : BookAt w F p st N) (hF : ∀ k, F k → k < w.heap.size) (g : Good st) (hz : passE st now = 0) :
    Calls Tryz.prog 33 #[.pointer (some ⟨p, 0, none⟩), .int .i64 now] w (PassPost ((overL st now).map Lea.no) 0 F p (passR st now).2 N w) := by
  obtain ⟨i0, hi0, hz0, hz1, hz2⟩ := info_parts infoInt
  have hlen := g.leaLen
  have B1 : Below w.heap.size w (w.alloc (.cells #[.int .i64 now] 3)) := (Below.refl _ _).alloc (Nat.le_refl _) _
  have hov := overL_len st now
  have hgood := passE1 g hz
  have hpass : (passR st now).2 = endAll (({ st with time := now } : BookSt).note ⟨11, 0, 0, 0, 0, now⟩) (overL st now) := by unfold passR; rw [if_pos hz]
  rw [hpass]
  obtain ⟨⟨n1, n2⟩, n3⟩ := passE_zero hz
  have HW1 := Lib.hid (within_ledger_yes now 0 1000000 (w.alloc (.cells #[.int .i64 now] 3)) n1 n2)
  obtain ⟨mb, blk, lv, ev, D, hm⟩ := hb.same (Below.same_on B1)
  have c2 : (w.alloc (.cells #[.int .i64 now] 3)).cell? ⟨p, 2, none⟩ = some (.int .i64 st.time) := by rw [cell_of hm.self]; rfl
  have f2 : (w.alloc (.cells #[.int .i64 now] 3)).frozen? ⟨p, 2, none⟩ = false := free_of hm.self 2
  have hpb : p ≠ w.heap.size := by have := hF p hm.fp; omega
  have hbox := heap_alloc_new w (.cells #[.int .i64 now] 3)
  have hbc : ∀ W : World, W.heap[w.heap.size]? = some (.cells #[.int .i64 now] 3 (0, 0)) → W.cell? ⟨w.heap.size, 0, none⟩ = some (.int .i64 now) := fun W h => (cell_of h 0).trans rfl
  have HBC := Lib.hid hbc
  have NT := Lib.hid (fun q => note_any p ⟨11, 0, 0, 0, 0, now⟩ (((w.alloc (.cells #[.int .i64 now] 3)).drewN q).setCell ⟨p, 2, none⟩ (.int .i64 now)) F { st with time := now } N ⟨mb, blk, lv, ev, D, (hm.same (w' := (w.alloc (.cells #[.int .i64 now] 3)).drewN q) (fun k _ _ => rfl)).turn _ (by
      rw [block_setCell (show ((w.alloc (.cells #[.int .i64 now] 3)).drewN q).heap[p]? = _ from hm.self)]; rfl) (fun o c hc => by
      obtain ⟨l, x, s, h1, h2, h3⟩ := hm.asome o c hc
      exact ⟨l, x, s, h1, (Below.heap_setCell _ _ _ c (by rintro rfl; rw [hm.self] at h2; simp [bookCells] at h2)).trans h2⟩) (fun o => Iff.rfl) rfl rfl (fun k h1 h2 h3 => Below.heap_setCell _ _ _ k h2)⟩ g.ents)
  have T1 := Lib.hid (fun q => ((Touch.of_below (F := F) B1).drewN q).setCell (p := ⟨p, 2, none⟩) (Or.inl hm.fp) (.int .i64 now))
  have HBOX := Lib.hid (fun q => (Below.heap_setCell ((w.alloc (.cells #[.int .i64 now] 3)).drewN q) ⟨p, 2, none⟩ (.int .i64 now) w.heap.size (Ne.symm hpb)).trans hbox)
  have HSZ := Lib.hid (fun q => show (((w.alloc (.cells #[.int .i64 now] 3)).drewN q).setCell ⟨p, 2, none⟩ (.int .i64 now)).heap.size = w.heap.size + 1 by simp [World.setCell])
  have HNOS : Hid (((st.leases.filter fun y => !decide (now < y.untl)).map Lea.no).Pairwise (· < ·)) := Lib.hid (g.nos.sublist ((List.filter_sublist).map _))
  have HOVF := Lib.hid (over_filter st now)
  have HGOOD := Lib.hid hgood
  have HF := Lib.hid hF
  generalize st.time = tm at c2 n3
  have hnlt : ¬ now < tm := by omega
  clear hm hgood hpass hz B1 hbox g hb hF hbc
  go_enter Tryz.func33, Tryz.ntmps33
  go_wp2_with fail
  refine HW1.out.mono ?_
  rintro e w' ⟨rfl, rfl⟩
  have b1 := HBC.out _ (heap_alloc_new w (.cells #[.int .i64 now] 3))
  go_wp2_with fail
  go_quiet (fail)
  go_wp2_with fail
  have b2 := HBC.out _ (HBOX.out nq)
  refine (NT.out _).mono ?_
  rintro e w2 ⟨rfl, hb2, ht2⟩
  have hsq := HSZ.out nq
  have hs2 := ht2.size
  have hbx2 := (ht2.block w.heap.size (by omega) (fun h => by have := HF.out _ h; omega)).trans (HBOX.out nq)
  have T2 := (T1.out nq).then ht2
  have BK2 := hb2.narrow'
  rw [hsq] at BK2
  obtain ⟨mb2, blk2, lv2, ev2, D2, hm2⟩ := BK2
  have HBK2 := Lib.hid (show BookAt w2 (fun k => (F k ∨ w.heap.size + 1 ≤ k) ∧ k < w2.heap.size) p (({ st with time := now } : BookSt).note ⟨11, 0, 0, 0, 0, now⟩) N from ⟨mb2, blk2, lv2, ev2, D2, hm2⟩)
  have c5 : w2.cell? ⟨p, 5, none⟩ = some lv2 := by rw [cell_of hm2.self]; rfl
  have hrow2 : w2.ownsRow 0 88 4 lv2 st.leases.length (st.leases.flatMap Lea.cells) := hm2.lrow
  have CL := Lib.hid (clone_lea lv2 0 st.leases w2 hrow2 (by omega))
  obtain ⟨la, lc, hlv, _, _⟩ := ownsRow_sh hrow2
  have HT2 := Lib.hid T2
  have HBX2 := Lib.hid hbx2
  rw [hsq] at hs2
  clear hb2 ht2 hm2 hrow2 T2 hbx2 NT T1 HBOX HSZ b1 b2 c2 f2 HW1 hsq
  subst hlv
  go_wp2_with fail
  refine CL.out.mono ?_
  rintro e w3 ⟨v3, rfl, hrow3, hb3⟩
  obtain ⟨la3, lc3, hv3, _, _⟩ := ownsRow_sh hrow3
  have DF := Lib.hid (deleteFunc_any w2.heap.size v3 st.leases w.heap.size now w3 hrow3 (by omega) (by omega) hb3.size (HBC.out _ ((hb3.block w.heap.size (by omega)).trans HBX2.out)))
  have HB3 := Lib.hid hb3
  subst hv3
  clear hrow3 hb3 c5 CL
  go_wp2_with fail
  refine DF.out.mono ?_
  rintro e w4 ⟨v4, rfl, hrow4, hb4⟩
  obtain ⟨la4, lc4, hv4, _, _⟩ := ownsRow_sh hrow4
  have hb24 := HB3.out.trans hb4
  have hflen : (st.leases.filter fun y => !decide (now < y.untl)).length ≤ st.leases.length := List.length_filter_le _ _
  have SF := Lib.hid (sort_any w2.heap.size v4 _ w4 hrow4 (by omega) hb24.size HNOS.out)
  rw [← HOVF.out] at SF
  have hv4b : ∀ j, v4.ownBlock = some j → w2.heap.size ≤ j := fun j hj => (hrow4.lt j hj).1
  have hlen4 : (st.leases.filter fun y => !decide (now < y.untl)).length = (overL st now).length := by rw [HOVF.out, List.length_mergeSort]
  rw [hlen4] at hv4
  have HV4 := Lib.hid hv4b
  have HB4 := Lib.hid hb24
  generalize overL st now = ov at *
  subst hv4
  clear hrow4 hb4 DF HB3 hv4b hb24 HNOS HOVF
  go_wp2_with fail
  refine SF.out.mono ?_
  rintro e w5 ⟨rfl, hrow5, hb5⟩
  have hb25 := HB4.out.trans hb5
  have P0 : Hid (PassAt F p N (({ st with time := now } : BookSt).note ⟨11, 0, 0, 0, 0, now⟩) ov (.slice la4 ov.length lc4) w 0 (.slice none 0 0) w5 (fun k => (F k ∨ w.heap.size + 1 ≤ k) ∧ k < w2.heap.size)) := Lib.hid
    ⟨HBK2.out.same (fun k hk hlt => hb25.block k hk.2), fun j hj => Nat.lt_of_lt_of_le hj.2 hb25.size, fun j hj => hj.1.imp id (fun x => by omega), fun j hj hG => by have := HV4.out j hj; omega, fun j hj => by simp [Value.ownBlock] at hj,
      hrow5, World.ownsRow_nil _ _ _ _, HT2.out.then (Touch.of_below hb25)⟩
  have HGE := Lib.hid (fun k => (HGOOD.out).endAll (l := ov.take k))
  clear hrow5 hb5 hb25 SF HBK2 HT2 HBX2 HBC HV4 HB4
  go_wp2_with fail
  go_loopw [7, 40] (fun out vi wr => ∃ (k : Nat) (G : Nat → Prop), k ≤ ov.length ∧ vi = .int .i64 k ∧ PassAt F p N (({ st with time := now } : BookSt).note ⟨11, 0, 0, 0, 0, now⟩) ov (.slice la4 ov.length lc4) w k out wr G) (fun _ vi _ => ov.length - (intOf vi).toNat)
  case atStart => exact ⟨0, _, Nat.zero_le _, rfl, P0.out⟩
  case round =>
    obtain ⟨k, G, hk, rfl, hP⟩ := hrel
    have HP := Lib.hid hP
    by_cases hlt : k < ov.length
    · obtain ⟨l, hl⟩ : ∃ l, ov[k]? = some l := ⟨_, List.getElem?_eq_getElem hlt⟩
      obtain ⟨g6, cap6, cur6, hv6, _, hg6, _, _, _, _, hc6⟩ := lrow_open hP.srow (by omega)
      simp only [Value.slice.injEq] at hv6
      obtain ⟨rfl, _, rfl⟩ := hv6
      have HL := Lib.hid hl
      obtain ⟨l1, l2, l3, l4⟩ := l
      have g0 : wr.cell? ⟨g6, k * 4, none⟩ = some (.int .i64 l1) := (hc6 k _ hl 0 (by omega)).trans rfl
      have g1 : wr.cell? ⟨g6, k * 4 + 1, none⟩ = some (.int .i64 l2) := (hc6 k _ hl 1 (by omega)).trans rfl
      have g2 : wr.cell? ⟨g6, k * 4 + 2, none⟩ = some (.int .i64 l3) := (hc6 k _ hl 2 (by omega)).trans rfl
      have g3 : wr.cell? ⟨g6, k * 4 + 3, none⟩ = some (.int .i64 l4) := (hc6 k _ hl 3 (by omega)).trans rfl
      have EA := Lib.hid (end_all p l1 (wr.alloc (.cells #[.int .i64 l1, .int .i64 l2, .int .i64 l3, .int .i64 l4] 88)) G _ N (hP.book.same (Below.same_on ((Below.refl _ _).alloc (Nat.le_refl _) _))) (HGE.out k))
      have hbx := heap_alloc_new wr (.cells #[.int .i64 l1, .int .i64 l2, .int .i64 l3, .int .i64 l4] 88)
      have HBX := Lib.hid hbx
      clear hP hl hg6 hc6 hbx
      go_wp2_with fail
      refine EA.out.mono ?_
      rintro e w3' ⟨rfl, hb3', ht3'⟩
      have hbx3 := (ht3'.block wr.heap.size (by simp) (fun h => by have := HP.out.lt _ h; omega)).trans HBX.out
      have v0 : w3'.cell? ⟨wr.heap.size, 0, none⟩ = some (.int .i64 l1) := (cell_of hbx3 0).trans rfl
      have hs3 := ht3'.size
      have hout : ∀ j, u7.ownBlock = some j → j < wr.heap.size := fun j hj => by obtain ⟨cur, hc⟩ := row_block HP.out.orow hj; exact lt_of hc
      have OR : Hid (w3'.ownsRow w.heap.size 3 1 u7 k (noVals (ov.take k))) := Lib.hid (ownsRow_same HP.out.orow (fun j hj => (ht3'.block j (by have := hout j hj; simp; omega) (HP.out.ovf j hj)).trans (heap_alloc_old _ _ (hout j hj))))
      have hws : w.heap.size ≤ w3'.heap.size := by have := HP.out.touch.size; simp at hs3; omega
      have HB3' := Lib.hid hb3'
      have HT3' := Lib.hid ht3'
      have hkb : k ≤ 1000000 := by omega
      clear hb3' ht3' hbx3 EA g0 g1 g2 g3 hout
      go_wp2_with (at_builtin; go_must (refine wpList_append_at rfl (.tmp 48) (.tmp 51) 60 rfl w.heap.size 3 i0 (.int .i64 0) 1 8 Tryz.underlying60 hi0 hz0 hz1 hz2 rfl (by decide) u7 k (noVals (ov.take k)) w3' _ [.int .i64 l1] rfl OR.out rfl rfl (by intro u hu; simp at hu; subst hu; rfl) (by unfold maxLen; omega) (by omega) hws ?_))
      intro gb cap w5' hown hgr hpl
      have PN := Lib.hid (HP.out.step HL.out _ HB3'.out HT3'.out hown hgr hpl)
      clear hown hgr hpl
      go_wp2_with fail
      go_roundw
      case rel => exact ⟨k + 1, _, by omega, by go_num, PN.out⟩
      case measure => simp [intOf]; omega
    · obtain rfl : k = ov.length := by omega
      have FIN : Hid (PassPost (ov.map Lea.no) 0 F p (endAll (({ st with time := now } : BookSt).note ⟨11, 0, 0, 0, 0, now⟩) ov) N w (.returned (.tuple #[u7, .int .i64 0])) wr) := Lib.hid (by
        have hor := hP.orow
        rw [List.take_length] at hor
        have hbk := hP.book
        rw [List.take_length] at hbk
        refine ⟨u7, rfl, Reads.own (B := w.heap.size) (t := 3) (by rw [List.length_map, List.map_map]; exact hor) (by rw [List.length_map]; omega), fun b hb => (hor.lt b hb).1, hbk.wider hP.sub, hP.touch⟩)
      clear hP hlt hk
      go_wp2_with fail
      go_ret2
      exact FIN.out

theorem PassPost.mono {ns : List Int} {err : Int} {F G : Nat → Prop} {p : Nat} {st : BookSt} {N : Nat} {w w' : World} {e : Ending} (h : PassPost ns err F p st N w e w') (hG : ∀ k, F k → G k) : PassPost ns err G p st N w e w' := by
  obtain ⟨v, h1, h2, h3, h4, h5⟩ := h
  exact ⟨v, h1, h2, h3, h4.wider (fun k hk => hk.imp (hG k) id), h5.mono hG⟩
def passV (st : BookSt) (now : Int) : List Int := if passE st now = 0 then (overL st now).map Lea.no else []
theorem pass_all (p : Nat) (now : Int) (w : World) (F : Nat → Prop) (st : BookSt) (N : Nat) (hb : BookAt w F p st N) (g : Good st) :
    Calls Tryz.prog 33 #[.pointer (some ⟨p, 0, none⟩), .int .i64 now] w (PassPost (passV st now) (passR st now).1 F p (passR st now).2 N w) := by
  by_cases hz : passE st now = 0
  · have := (pass_in p now w _ st N hb.narrow' (fun k hk => hk.2) g hz).mono fun e w' h => h.mono (G := F) (fun k hk => hk.1)
    unfold passV
    rw [if_pos hz]
    have e1 : (passR st now).1 = 0 := by unfold passR; rw [if_pos hz]
    rw [e1]
    exact this
  · have := pass_bad p now w F st N hb hz
    unfold passV passR
    rw [if_neg hz, if_neg hz]
    exact this

end Go.Proofs.YtljjndifmfhffaaGreatDoor
