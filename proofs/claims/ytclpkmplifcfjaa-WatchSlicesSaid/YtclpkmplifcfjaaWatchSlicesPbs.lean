/-
  The leads in memory while Groups lays them. No conditions but bounds.
-/
import Derived.Test.YtclpkmplifcfjaaWatchSlicesPbr
namespace Go.Proofs.Ytclpkmplifcfjaa
open Go.RowKit Go.Shelf
set_option linter.unusedVariables false

structure GI (w wr : World) (Bl mb N n : Nat) (S : Nat → Option (Nat × Nat × Nat)) (D : DataW Unit) (L : Nat → List Nat) (pv : Value) (P : List (Nat × Nat)) : Prop where
  l : wr.heap[Bl]? = some (.cells #[.map (some mb)] 64 (0, 0))
  m : Leads wr w.heap.size mb N n S D L
  pr : wr.ownsRow w.heap.size 57 2 pv P.length (spCells P)
  be : Below w.heap.size w wr
  bl : w.heap.size ≤ Bl
  bm : w.heap.size ≤ mb
def GX (b A C : Nat) (wr : World) : Prop := wr.heap[b]? = some (.cells #[.int .i64 (A : Int), .int .i64 (C : Int)] 57 (0, 0))

theorem step_append_known {P : Program} {ops : Array Oper} {o : Oper} {a : Act} {w w' : World} {K : Act → World → Prop} {Q : Exit → Act → World → Prop} {E : Prop} (hg : o.guard = none) (s x : Operand) (t : TypeId)
    (hop : o.op = Op.call { callee := Callee.builtin Builtin.append, args := #[s, x], argTypes := #[t, t] }) (v1 v2 v : Value) (hs : a.eval s = v1) (hx : a.eval x = v2) (hr : (Builtin.append_ #[t, t] o.type #[v1, v2]).run P w = .ok v w') (h : K (a.put o.dst v) w') :
    if Region.wanted o (yielded ops a.tmps) = true then Oper.wp P o a w K Q else E := by
  have hw : Region.wanted o (yielded ops a.tmps) = true := by simp [Region.wanted, hg]
  rw [if_pos hw]
  unfold Oper.wp execOp
  simp only [hop, resolve, invoke, builtin, Sem.run_bind, Sem.run_pure, Result.andThen_ok, List.map_toArray, List.map_cons, List.map_nil, hs, hx, hr]
  exact h
theorem step_update_known {P : Program} {ops : Array Oper} {o : Oper} {a : Act} {w w' : World} {K : Act → World → Prop} {Q : Exit → Act → World → Prop} {E : Prop} (hg : o.guard = none) (m x v : Operand) (t : TypeId)
    (hop : o.op = Op.mapUpdate t m x v) (v1 v2 v3 : Value) (hm : a.eval m = v1) (hx : a.eval x = v2) (hv : a.eval v = v3) (hr : (Instr.mapUpdate t v1 v2 v3).run P w = .ok () w') (h : K (a.put o.dst undef) w') :
    if Region.wanted o (yielded ops a.tmps) = true then Oper.wp P o a w K Q else E := by
  have hw : Region.wanted o (yielded ops a.tmps) = true := by simp [Region.wanted, hg]
  rw [if_pos hw]
  unfold Oper.wp
  simp [execOp, hop, hm, hx, hv, hr, Result.andThen]
  exact h

theorem lookS {w : World} {mb N a : Nat} {D : DataW Unit} {s : Option (Nat × Nat × Nat)} (hm : w.ownsMap Try.prog 3 rowElem mb N D) (hl : D.atKey (.int .i64 (a : Int)) .nil = rowD s) (ha : a ≤ 1000) :
    (Instr.lookup 64 (.map (some mb)) (.int .i64 (a : Int)) false).run Try.prog w = .ok (rowOf s) w := by
  have hz : (zeroValue 35).run Try.prog w = .ok (.slice none 0 0) w := by kernel_rfl
  have hkey := Maps.keyOf_int_mk (P := Try.prog) (k := 3) Try.underlying3 (a := (a : Int)) (WalkArith.wf_i64 (by omega))
  obtain ⟨v, ps, hrun, hv⟩ := hm.lookup (Maps.int_keyed Try.underlying3) Try.underlying64 hz (zd := .nil) (zp := []) rfl hkey
  rw [hl] at hv
  rw [hrun, rowElem_inv hv]

theorem gi_put {w W : World} {Bl mb N n : Nat} {S : Nat → Option (Nat × Nat × Nat)} {D : DataW Unit} {L : Nat → List Nat} {pv : Value} {P : List (Nat × Nat)} (h : GI w W Bl mb N n S D L pv P) {b A C : Nat} (hx : GX b A C W) {key x : Nat} (hk : key < n) (hn : n ≤ 1000)
    (hN : N < 100000) (hlen : (L key).length ≤ 100000) (nl : Nat) (hnl : (L key).length = nl) :
    ∃ ra rc, rowOf (S key) = .slice ra nl rc ∧ LeadS Bl b mb A C key (.slice ra nl rc) W.drew ∧ LeadS Bl b mb A C key (.slice ra nl rc) (W.drew.alloc (.cells #[.int .i64 (x : Int)] 3)) ∧
      ∃ g cap w', (Builtin.append_ #[35, 35] 35 #[.slice ra nl rc, .slice (some ⟨W.heap.size, 0, none⟩) 1 1]).run Try.prog (W.drew.alloc (.cells #[.int .i64 (x : Int)] 3)) = .ok (.slice (some ⟨g, 0, none⟩) (nl + 1) cap) w' ∧
        LeadS Bl b mb A C key (.slice ra nl rc) w' ∧ ∃ w3, (Instr.mapUpdate 64 (.map (some mb)) (.int .i64 (key : Int)) (.slice (some ⟨g, 0, none⟩) (nl + 1) cap)).run Try.prog w' = .ok () w3 ∧
          (∃ S' D', GI w w3 Bl mb (N + 1) n S' D' (fun j => if j = key then L key ++ [x] else L j) pv P) ∧ GX b A C w3 := by
  subst hnl
  obtain ⟨hl, hm, hpr, hbe, hbl, hbm⟩ := h
  have hrow := hm.row key hk
  obtain ⟨ra, rc, hrv⟩ := wrow_sh hrow
  have hrow' := hrow
  rw [hrv] at hrow'
  have hLl := lt_of hl
  have hxl := lt_of hx
  have hml := hm.map.lt
  have hws := hbe.size
  have LS : ∀ X : World, X.heap[Bl]? = W.heap[Bl]? → X.heap[b]? = W.heap[b]? → X.heap[mb]? = W.heap[mb]? → LeadS Bl b mb A C key (.slice ra (L key).length rc) X := fun X h1 h2 h3 =>
    ⟨by rw [cell_of (h1.trans hl)]; rfl, by rw [cell_of (h2.trans hx)]; rfl, by rw [cell_of (h2.trans hx)]; rfl, by
      rw [← hrv]; exact lookS (ownsMap_same hm.map h3) (hm.look key hk) (by omega)⟩
  have ho : ∀ k, k < W.heap.size → (W.drew.alloc (.cells #[.int .i64 (x : Int)] 3)).heap[k]? = W.heap[k]? := fun k hk => heap_alloc_old W.drew _ hk
  have hnew : (W.drew.alloc (.cells #[.int .i64 (x : Int)] 3)).heap[W.heap.size]? = some (.cells #[.int .i64 (x : Int)] 3 (0, 0)) := heap_alloc_new W.drew _
  have hsz : (W.drew.alloc (.cells #[.int .i64 (x : Int)] 3)).heap.size = W.heap.size + 1 := by simp
  obtain ⟨i0, hi0, hz0, hz1, hz2⟩ := info_parts (show (Try.prog.info? 3).map (fun i => (i.zero, i.size, i.bytes)) = some (some (.int .i64 0), 1, 8) by kernel_rfl)
  have hrow2 : (W.drew.alloc (.cells #[.int .i64 (x : Int)] 3)).ownsRow w.heap.size 3 1 (.slice ra (L key).length rc) (L key).length (natCells (L key)) := ownsRow_same hrow' (fun k hk => ho k (hrow'.lt k hk).2)
  obtain ⟨g, cap, w', hrun, hown, hgr, hpl⟩ := run_append_place (P := Try.prog) _ w.heap.size 35 35 3 i0 (.int .i64 0) 1 8 Try.underlying35 hi0 hz0 hz1 hz2 rfl (by omega) _ _ _ hrow2 ⟨W.heap.size, 0, none⟩ 1 1 [.int .i64 (x : Int)] rfl (fun j u hj => by
    match j, hj with
    | 0, hj =>
      simp only [List.getElem?_cons_zero, Option.some.injEq] at hj
      subst hj
      have e1 : (⟨W.heap.size, 0, none⟩ : Addr).add 0 = ⟨W.heap.size, 0, none⟩ := rfl
      rw [e1, cell_of hnew]; rfl
    | j + 1, hj => simp at hj) (by intro u hu; simp at hu; subst hu; rfl) (by omega) (by unfold maxLen; omega) (by omega) (by omega)
  have tyW : ∀ (k : Nat) cs t, W.heap[k]? = some (.cells cs t (0, 0)) → t ≠ 3 → (Value.slice ra (L key).length rc).ownBlock ≠ some k := fun k cs t h1 h2 h3 => by
    obtain ⟨cur, h4⟩ := row_block hrow' h3
    rw [h1] at h4
    simp only [Option.some.injEq, Obj.cells.injEq] at h4
    exact h2 h4.2.1
  have hmbn : (Value.slice ra (L key).length rc).ownBlock ≠ some mb := fun h3 => by
    obtain ⟨cur, h4⟩ := row_block hrow' h3
    obtain ⟨es, clock, h5, _⟩ := hm.map
    rw [h5] at h4; cases h4
  have hkeep : ∀ k, k < W.heap.size → (Value.slice ra (L key).length rc).ownBlock ≠ some k → w'.heap[k]? = W.heap[k]? := fun k h1 h2 => (hgr.block k (by omega) (fun e => h2 e.symm)).trans (ho k h1)
  have kl := hkeep Bl hLl (tyW Bl _ _ hl (by decide))
  have kx := hkeep b hxl (tyW b _ _ hx (by decide))
  have km := hkeep mb hml hmbn
  have hrd : rowElem (.slice (some ⟨g, 0, none⟩) ((L key).length + 1) cap) = some (rowD (some (g, (L key).length + 1, cap)), []) := rfl
  obtain ⟨w3, hrun3, hown3, hgr3⟩ := (ownsMap_same hm.map km).update (Maps.int_keyed Try.underlying3) Try.underlying64 (by unfold maxLen; omega) (Maps.keyOf_int_mk (P := Try.prog) (k := 3) Try.underlying3 (a := (key : Int)) (WalkArith.wf_i64 (by omega))) hrd
  have hs' := hgr.size
  have hnb : Bl ≠ mb := fun e => by
    obtain ⟨es, clock, h5, _⟩ := hm.map
    rw [← e, hl] at h5; cases h5
  have hxb : b ≠ mb := fun e => by
    obtain ⟨es, clock, h5, _⟩ := hm.map
    have hx' : W.heap[b]? = _ := hx
    rw [e, h5] at hx'; cases hx'
  have hB2 : Below w.heap.size w w' := by
    refine ((hbe.drew.alloc hws _).grown hgr (by omega) (fun k hk => ?_))
    exact (hrow'.lt k hk).1
  have hput := hm.put (x := x) hk hown (fun k h1 h2 => hkeep k h1 (by rw [← hrv]; exact h2)) (by rw [hrv]; exact hpl.imp id (fun e => by omega)) hown3 hgr3
  refine ⟨ra, rc, hrv, LS _ rfl rfl rfl, LS _ (ho Bl hLl) (ho b hxl) (ho mb hml), g, cap, w', hrun, LS _ kl kx km, w3, hrun3, ⟨_, _, ⟨?_, hput, ?_, ?_, hbl, hbm⟩⟩, ?_⟩
  · exact (hgr3.block Bl (by omega) (fun e => hnb (Option.some.inj e))).trans (kl.trans hl)
  · refine ownsRow_same hpr (fun k hk => ?_)
    obtain ⟨cur, hc⟩ := row_block hpr hk
    have h1 := hkeep k (hpr.lt k hk).2 (tyW k _ _ hc (by decide))
    refine (hgr3.block k (by have := (hpr.lt k hk).2; omega) (fun e => ?_)).trans h1
    obtain ⟨es, clock, h5, _⟩ := hm.map
    rw [← Option.some.inj e, hc] at h5; cases h5
  · exact hB2.grown hgr3 (by omega) (fun k hk => by cases hk; exact hbm)
  · exact (hgr3.block b (by omega) (fun e => hxb (Option.some.inj e))).trans (kx.trans hx)

end Go.Proofs.Ytclpkmplifcfjaa
