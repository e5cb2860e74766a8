/-
  Split of a rope within a leaf: what holds behind it. Conditions: numbers in their bounds.
-/
import Derived.Test.YtidfidknflcioaaTopRopePbu
namespace Go.Proofs.Ytidfidknflcioaa
open Go.RowKit
set_option linter.unusedVariables false

theorem RopeMem.keep {w w' : World} {F : Nat → Prop} {I : RopI} {L : List Lm} {lv : Value} (h : RopeMem w F I L lv) (hs : w'.heap[I.r]? = w.heap[I.r]?) (hr : ∀ k, lv.ownBlock = some k → w'.heap[k]? = w.heap[k]?) (hl : ∀ x ∈ L, w'.heap[x.g]? = w.heap[x.g]?) : RopeMem w' F I L lv :=
  ⟨hs.trans h.self, ownsRow_same h.row hr, fun x hx => by obtain ⟨h1, h2, h3⟩ := h.mem x hx; exact ⟨(hl x hx).trans h1, h2, h3⟩, h.inj, h.fr, h.frow⟩

theorem sum_set : ∀ (l : List Nat) (i : Nat) (x y : Nat), l[i]? = some x → (l.set i y).sum + x = l.sum + y
  | [], i, x, y, h => by simp at h
  | a :: l, 0, x, y, h => by simp at h; subst h; simp; omega
  | a :: l, i + 1, x, y, h => by
    have := sum_set l i x y (by simpa using h)
    simp only [List.set_cons_succ, List.sum_cons]
    omega

theorem mid_div {w0 w6 w7 w9 : World} {r : RS} {nq A B gk n c next : Nat} {x : Lm} {L' : List Lm} {lv' : Value} {ds : List Int} {G : Nat → Prop} {b : BookSt} (hm : RopeMem w6 r.F r.I r.L r.lv)
    (hq : w6.heap[nq]? = some (.cells #[.pointer (some ⟨r.I.bp, 0, none⟩), .int .i64 r.I.o, .int .i64 r.I.p.k, .int .i64 r.I.p.s, .int .i64 r.I.p.m, .int .i64 (r.I.p.leaf : Int), .bool false, .slice none 0 0, .slice none 0 0] 69 (0, 0)))
    (hnF : ¬ r.F nq) (hnr : nq ≠ r.I.r) (gr : Grant w6 r.I (fun k => r.F k ∨ k = nq) G b next) (hnext : next = roomS (r.sz ++ piecesS r.I.p (x.n - B)))
    (hma : MadeAt w6.heap.size w7 lv' L') (hmc : L'.map Lm.lc = madeC r.I.p ((x.cs.take x.n).drop B)) (heach : ∀ y ∈ L', 1 ≤ y.n ∧ y.n ≤ r.I.p.leaf) (hb7 : Below w6.heap.size w6 w7)
    (hx : r.L[A]? = some x) (hB : 0 < B ∧ B < x.n) (hlv : r.lv = .slice (some ⟨gk, 0, none⟩) n c) (ht9 : Touch (fun k => k = x.g) (w7.setCell ⟨nq, 7, none⟩ lv') w9) (hr9 : byteRow w9 x.g ds) (hl9 : ds.length = x.cs.length) (hby : bytes ds) (htk : ds.take B = x.cs.take B)
    (own : r.I.o = 1) (pok : POk r.I.p) (each : ∀ y ∈ r.L, 1 ≤ y.n ∧ y.n ≤ r.I.p.leaf) (oct : (totS r.sz).1 ≤ 50000) (h0q : w0.heap.size ≤ nq) (hfw : ∀ k, G k → r.T k ∨ w0.heap.size ≤ k) (htt : Touch r.T w0 w6) :
    ∃ F', Mid w0 (w9.setCell ⟨gk, A, none⟩ (.slice (some ⟨x.g, 0, none⟩) B x.cs.length)) r nq (r.lc.take A ++ [(x.lc.1.take B, x.lc.2)], madeC r.I.p (x.lc.1.drop B) ++ r.lc.drop (A + 1)) (A + 1) (r.L.set A ⟨x.g, ds, B⟩) L' lv' F' G b := by
  have off : ∀ (W : World) (p k j : Nat) (u : Value), k ≠ p → (W.setCell ⟨p, j, none⟩ u).heap[k]? = W.heap[k]? := fun W p k j u hk => Below.heap_setCell _ _ _ _ hk
  have hA := (List.getElem?_eq_some_iff.1 hx).1
  obtain ⟨xr, xok, xF⟩ := hm.mem x (List.mem_of_getElem? hx)
  have xok' := xok
  obtain ⟨ok1, ok2, ok3⟩ := xok'
  have q7 := (hb7.block _ (lt_of hq)).trans hq
  have q8 := block_setCell q7 7 lv'
  have sz8 : (w7.setCell ⟨nq, 7, none⟩ lv').heap.size = w7.heap.size := by simp [World.setCell]
  have m8 : RopeMem (w7.setCell ⟨nq, 7, none⟩ lv') r.F r.I r.L r.lv := (hm.below hb7).same (fun k hk _ => off _ _ _ _ _ (fun e => hnF (e ▸ hk)))
  rw [hlv] at m8
  have zok : (⟨x.g, ds, B⟩ : Lm).ok := ⟨by show B ≤ ds.length; omega, by show ds.length ≤ 100000; omega, hby⟩
  have zv : (⟨x.g, ds, B⟩ : Lm).val = .slice (some ⟨x.g, 0, none⟩) B x.cs.length := by unfold Lm.val; rw [hl9]
  obtain ⟨ma, tt9, _, _⟩ := m8.setLeaf (z := ⟨x.g, ds, B⟩) hx ht9 hr9 zok (Or.inl rfl)
  rw [zv] at ma tt9
  have s7 := hb7.size
  have s9 := tt9.size
  rw [sz8] at s9
  have gkr := hm.row
  rw [hlv] at gkr
  obtain ⟨cur, hgk⟩ := row_block gkr (k := gk) rfl
  have gk6 := lt_of hgk
  have xg6 := lt_of xr
  have mo8 : RopeMem (w7.setCell ⟨nq, 7, none⟩ lv') (fun k => (r.F k ∨ k = nq) ∨ (w6.heap.size ≤ k ∧ k < w7.heap.size)) ⟨nq, r.I.bp, r.I.o, r.I.p⟩ L' lv' := hma.rope (I := ⟨nq, r.I.bp, r.I.o, r.I.p⟩) (F := fun k => r.F k ∨ k = nq) (Or.inr rfl) (lt_of hq) q7
  have T9 : ∀ k, k < w7.heap.size → k ≠ x.g → k ≠ gk → (w9.setCell ⟨gk, A, none⟩ (.slice (some ⟨x.g, 0, none⟩) B x.cs.length)).heap[k]? = (w7.setCell ⟨nq, 7, none⟩ lv').heap[k]? := fun k hk h1 h2 => by
    rw [off _ _ _ _ _ h2]
    exact ht9.block k (by rw [sz8]; exact hk) h1
  have xr' : w6.heap[x.g]? = _ := xr
  have nqx : nq ≠ x.g := type_ne hq xr' (by decide)
  have nqg : nq ≠ gk := type_ne hq hgk (by decide)
  have mo : RopeMem (w9.setCell ⟨gk, A, none⟩ (.slice (some ⟨x.g, 0, none⟩) B x.cs.length)) (fun k => (r.F k ∨ k = nq) ∨ (w6.heap.size ≤ k ∧ k < w7.heap.size)) ⟨nq, r.I.bp, r.I.o, r.I.p⟩ L' lv' := by
    refine mo8.keep (T9 nq (Nat.lt_of_lt_of_le (lt_of hq) s7) nqx nqg) (fun k hk => ?_) (fun y hy => ?_)
    · have := hma.row.lt k hk
      exact T9 k this.2 (by omega) (by omega)
    · obtain ⟨h1, _, h3⟩ := hma.mem y hy
      exact T9 y.g (lt_of h1) (by omega) (by omega)
  have hszA : r.sz[A]? = some x.sz := by unfold RS.sz; rw [List.getElem?_map, hx]; rfl
  have ok' := fun y hy => (hma.mem y hy).2.1
  have hsp : ((x.cs.take x.n).drop B).length = x.n - B := by rw [List.length_drop, List.length_take]; omega
  have szL : L'.map Lm.sz = piecesS r.I.p (x.n - B) := by rw [← map_szC ok', hmc, madeC_sz r.I.p _ pok.leaf.1, hsp]
  have szS : (r.L.set A ⟨x.g, ds, B⟩).map Lm.sz = r.sz.set A (B, x.cs.length) := by
    rw [List.map_set]
    show r.sz.set A (B, ds.length) = _
    rw [hl9]
  have tot1 : (totS ((L' ++ r.L.set A ⟨x.g, ds, B⟩).map Lm.sz)).1 = (totS r.sz).1 := by
    rw [List.map_append, totS_app, szS]
    have h1 : (totS (L'.map Lm.sz)).1 = x.n - B := by rw [← map_szC ok', hmc, ← octC_len, octC_made r.I.p _ pok.leaf.1, hsp]
    have h2 := sum_set (r.sz.map (·.1)) A x.n B (by rw [List.getElem?_map, hszA]; rfl)
    rw [h1]
    show x.n - B + (((r.sz.set A (B, x.cs.length)).map (·.1)).sum) = (r.sz.map (·.1)).sum
    rw [List.map_set]
    show x.n - B + ((r.sz.map (·.1)).set A B).sum = _
    omega
  have tot2 : roomS ((L' ++ r.L.set A ⟨x.g, ds, B⟩).map Lm.sz) = next := by
    rw [hnext]
    unfold roomS
    rw [List.map_append, totS_app, totS_app, szS, szL]
    have h2 := sum_set (r.sz.map (·.2)) A x.cs.length x.cs.length (by rw [List.getElem?_map, hszA]; rfl)
    show (totS (piecesS r.I.p (x.n - B))).2 + (((r.sz.set A (B, x.cs.length)).map (·.2)).sum) = (r.sz.map (·.2)).sum + _
    rw [List.map_set]
    show _ + ((r.sz.map (·.2)).set A x.cs.length).sum = _
    omega
  have T69 : Touch (fun k => r.F k ∨ k = nq) w6 (w9.setCell ⟨gk, A, none⟩ (.slice (some ⟨x.g, 0, none⟩) B x.cs.length)) := ((Touch.of_below hb7).setCell (p := ⟨nq, 7, none⟩) (Or.inl (Or.inr rfl)) lv').then (tt9.mono (fun k hk => Or.inl hk))
  have szW : (w9.setCell ⟨gk, A, none⟩ (.slice (some ⟨x.g, 0, none⟩) B x.cs.length)).heap.size = w9.heap.size := by simp [World.setCell]
  have s9' := ht9.size
  rw [sz8] at s9'
  have T06 := htt.size
  refine ⟨fun k => (r.F k ∨ k = nq) ∨ (w6.heap.size ≤ k ∧ k < w7.heap.size), ⟨?_, mo, hnr, ?_, ?_, by rw [List.length_set]; omega, List.length_set, ?_, ?_, fun y hy => ?_, by rw [tot1]; exact oct, fun k hk => ?_, own, pok, fun k hk => ?_, ?_⟩⟩
  · rw [hlv]
    exact ma.wider (fun k hk => Or.inl (Or.inl (hk.elim id (fun e => e ▸ xF))))
  · have h1 : (r.L.set A ⟨x.g, ds, B⟩).map Lm.g = r.L.map Lm.g := by
      rw [List.map_set]
      show (r.L.map Lm.g).set A x.g = _
      have h2 : (r.L.map Lm.g)[A]? = some x.g := by rw [List.getElem?_map, hx]; rfl
      obtain ⟨h3, h4⟩ := List.getElem?_eq_some_iff.1 h2
      rw [← h4, List.set_getElem_self]
    rw [List.map_append, h1, List.nodup_append]
    refine ⟨hma.inj, hm.inj, fun a ha b hb => ?_⟩
    obtain ⟨y, hy, rfl⟩ := List.mem_map.1 ha
    obtain ⟨z, hz, rfl⟩ := List.mem_map.1 hb
    have h3 := (hma.mem y hy).2.2
    have h4 := lt_of (hm.mem z hz).1
    omega
  · rw [tot2]
    exact gr.wider T69 (fun k hk => hk.imp id (fun h => h.1)) (fun k hk => by
      rw [szW]
      rcases hk with hk | hk
      · have := gr.fl k hk; omega
      · omega)
  · have h1 := congrArg List.length szL
    have h2 := pieces_len r.I.p (x.n - B) pok.leaf.1
    rw [List.length_map] at h1
    omega
  · have hxl : x.lc = (x.cs.take x.n, x.cs.length) := rfl
    have e1 : (r.L.set A ⟨x.g, ds, B⟩).take (A + 1) = r.L.take A ++ [⟨x.g, ds, B⟩] := by
      rw [List.take_add_one, List.getElem?_set_self hA, List.take_set_of_le (Nat.le_refl _)]
      rfl
    have e2 : (r.L.set A ⟨x.g, ds, B⟩).drop (A + 1) = r.L.drop (A + 1) := by rw [List.drop_set_of_lt (Nat.lt_succ_self A)]
    have ez : (⟨x.g, ds, B⟩ : Lm).lc = (x.lc.1.take B, x.lc.2) := by
      rw [hxl]
      show (ds.take B, ds.length) = ((x.cs.take x.n).take B, x.cs.length)
      rw [htk, hl9, List.take_take, Nat.min_eq_left (by omega)]
    rw [e1, e2, List.map_append, List.map_append, hmc, hxl]
    unfold RS.lc
    rw [List.map_take, List.map_drop]
    show (_ ++ [(⟨x.g, ds, B⟩ : Lm).lc], _) = _
    rw [ez]
    rfl
  · rcases List.mem_append.1 hy with hy | hy
    · exact heach y hy
    · rcases List.mem_or_eq_of_mem_set hy with hy | rfl
      · exact each y hy
      · have := each x (List.mem_of_getElem? hx)
        show 1 ≤ B ∧ B ≤ r.I.p.leaf
        omega
  · rw [hlv] at hk
    intro e
    simp only [Value.ownBlock, Option.some.injEq] at hk
    have := (hma.row.lt k e).1
    omega
  · rcases hk with ((hk | hk) | hk) | hk
    · exact Or.inl (Or.inl hk)
    · exact Or.inr (by omega)
    · exact Or.inr (by omega)
    · exact hfw k hk
  · exact htt.trans T69 (fun k hk => hk.elim (fun h => Or.inl (Or.inl h)) (fun h => Or.inr (by omega)))

end Go.Proofs.Ytidfidknflcioaa
