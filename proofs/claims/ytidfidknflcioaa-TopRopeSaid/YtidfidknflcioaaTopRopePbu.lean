/-
  Split of a rope: what holds in its midst, and what its end makes of it. Conditions: numbers in their bounds.
-/
import Derived.Test.YtidfidknflcioaaTopRopePbt
namespace Go.Proofs.Ytidfidknflcioaa
open Go.RowKit
set_option linter.unusedVariables false

theorem step_append_here {P : Program} {ops : Array Oper} {o : Oper} {a : Act} {w w' : World} {K : Act → World → Prop} {Q : Exit → Act → World → Prop} {E : Prop} (hg : o.guard = none) (s x : Operand) (t : TypeId)
    (hop : o.op = Op.call { callee := Callee.builtin Builtin.append, args := #[s, x], argTypes := #[t, t] }) (v1 v2 v : Value) (hs : a.eval s = v1) (hx : a.eval x = v2) (hr : (Builtin.append_ #[t, t] o.type #[v1, v2]).run P w = .ok v w') (h : K (a.put o.dst v) w') :
    if Region.wanted o (yielded ops a.tmps) = true then Oper.wp P o a w K Q else E := by
  have hw : Region.wanted o (yielded ops a.tmps) = true := by simp [Region.wanted, hg]
  rw [if_pos hw]
  unfold Oper.wp execOp
  simp only [hop, resolve, invoke, builtin, Sem.run_bind, Sem.run_pure, Result.andThen_ok, List.map_toArray, List.map_cons, List.map_nil, hs, hx, hr]
  exact h

structure Mid (w0 wx : World) (r : RS) (nq : Nat) (C : List Lc × List Lc) (i : Nat) (La Lo : List Lm) (vo : Value) (F G : Nat → Prop) (b : BookSt) : Prop where
  ma : RopeMem wx F r.I La r.lv
  mo : RopeMem wx F ⟨nq, r.I.bp, r.I.o, r.I.p⟩ Lo vo
  nr : nq ≠ r.I.r
  nd : ((Lo ++ La).map Lm.g).Nodup
  gr : Grant wx r.I F G b (roomS ((Lo ++ La).map Lm.sz))
  le : i ≤ La.length
  ll : La.length = r.L.length
  lo : Lo.length ≤ 100000
  lists : ((La.take i).map Lm.lc, (Lo ++ La.drop i).map Lm.lc) = C
  each : ∀ x ∈ Lo ++ La, 1 ≤ x.n ∧ x.n ≤ r.I.p.leaf
  oct : (totS ((Lo ++ La).map Lm.sz)).1 ≤ 50000
  dif : ∀ k, r.lv.ownBlock = some k → ¬ vo.ownBlock = some k
  own : r.I.o = 1
  pok : POk r.I.p
  fw : ∀ k, F k ∨ G k → r.T k ∨ w0.heap.size ≤ k
  tt : Touch r.T w0 wx

theorem Seg.dropO {w : World} {la : Option Addr} {n c : Nat} {xs : List Value} (h : Seg w 1 (.slice la n c) n xs) (k : Nat) (hk : k ≤ n) {U : Option Addr} (hU : ∀ b o, la = some ⟨b, o, none⟩ → k < c → U = some ⟨b, o + k, none⟩) : Seg w 1 (.slice U (n - k) (c - k)) (n - k) (xs.drop k) := by
  obtain ⟨h1, h2, a', c', h3, h4, h5, h6⟩ := h
  simp only [Value.slice.injEq] at h3
  obtain ⟨rfl, _, rfl⟩ := h3
  refine ⟨by rw [List.length_drop]; omega, fun u hu => h2 u (List.mem_of_mem_drop hu), U, c - k, rfl, by omega, by omega, fun j u hu => ?_⟩
  rw [List.getElem?_drop] at hu
  obtain ⟨b, o, e, hc⟩ := h6 (k + j) u hu
  have hlt := (List.getElem?_eq_some_iff.1 hu).1
  refine ⟨b, o + k, hU b o e (by omega), ?_⟩
  rw [show o + k + j = o + (k + j) by omega]
  exact hc

theorem rows_apart {w : World} {F : Nat → Prop} {I : RopI} {L : List Lm} {lv : Value} (h : RopeMem w F I L lv) {k : Nat} {cs : Array Value} {t : TypeId} (hk : w.heap[k]? = some (.cells cs t (0, 0))) (ht : t ≠ 5) : ∀ x ∈ L, x.g ≠ k := fun x hx e => by
  have h1 := (h.mem x hx).1
  have h1' : w.heap[x.g]? = _ := h1
  rw [e, hk] at h1'
  simp only [Option.some.injEq, Obj.cells.injEq] at h1'
  exact ht h1'.2.1

theorem Mid.two {w0 wx W : World} {r : RS} {nq i : Nat} {C : List Lc × List Lc} {La Lo : List Lm} {vo v1 v2 : Value} {F G : Nat → Prop} {b : BookSt} (h : Mid w0 wx r nq C i La Lo vo F G b) (hq : w0.heap.size ≤ nq) (ht : Touch (fun k => k = r.I.r ∨ k = nq ∨ vo.ownBlock = some k) wx W)
    (hs : W.heap[r.I.r]? = some (.cells #[.pointer (some ⟨r.I.bp, 0, none⟩), .int .i64 r.I.o, .int .i64 r.I.p.k, .int .i64 r.I.p.s, .int .i64 r.I.p.m, .int .i64 (r.I.p.leaf : Int), .bool false, v1, .slice none 0 0] 69 (0, 0)))
    (hq' : W.heap[nq]? = some (.cells #[.pointer (some ⟨r.I.bp, 0, none⟩), .int .i64 r.I.o, .int .i64 r.I.p.k, .int .i64 r.I.p.s, .int .i64 r.I.p.m, .int .i64 (r.I.p.leaf : Int), .bool false, v2, .slice none 0 0] 69 (0, 0)))
    (r1 : W.ownsRow wx.heap.size 32 1 v1 i ((La.take i).map Lm.val)) (r2 : W.ownsRow 0 32 1 v2 (Lo.length + (La.length - i)) (Lo.map Lm.val ++ (La.drop i).map Lm.val)) (hv2 : ∀ k, v2.ownBlock = some k → vo.ownBlock = some k ∨ wx.heap.size ≤ k) :
    ∃ F', Two W r.I nq (La.take i) (Lo ++ La.drop i) v1 v2 F' G b ∧ ((La.take i).map Lm.lc, (Lo ++ La.drop i).map Lm.lc) = C ∧ (∀ k, F' k ∨ G k → r.T k ∨ w0.heap.size ≤ k) ∧ Touch r.T w0 W := by
  have s0 := h.tt.size
  have hsz := ht.size
  have keep : ∀ x ∈ Lo ++ La, byteRow W x.g x.cs ∧ x.ok ∧ (F x.g ∨ (wx.heap.size ≤ x.g ∧ x.g < W.heap.size)) := fun x hx => by
    have m : byteRow wx x.g x.cs ∧ x.ok ∧ F x.g := (List.mem_append.1 hx).elim (h.mo.mem x) (h.ma.mem x)
    have ap : ∀ (k : Nat) cs t, wx.heap[k]? = some (.cells cs t (0, 0)) → t ≠ 5 → x.g ≠ k := fun k cs t hk hne => (List.mem_append.1 hx).elim (rows_apart h.mo hk hne x) (rows_apart h.ma hk hne x)
    refine ⟨(ht.block _ (lt_of m.1) (fun e => ?_)).trans m.1, m.2.1, Or.inl m.2.2⟩
    rcases e with e | e | e
    · exact ap _ _ _ h.ma.self (by decide) e
    · exact ap _ _ _ h.mo.self (by decide) e
    · obtain ⟨cur, hc⟩ := row_block h.mo.row e
      exact ap _ _ _ hc (by decide) rfl
  have hT : Touch F wx W := ht.mono (fun k hk => by
    rcases hk with rfl | rfl | hk
    · exact h.ma.fr
    · exact h.mo.fr
    · exact h.mo.frow k hk)
  have sub1 : ∀ x ∈ La.take i, x ∈ Lo ++ La := fun x hx => List.mem_append.2 (Or.inr (List.mem_of_mem_take hx))
  have sub2 : ∀ x ∈ Lo ++ La.drop i, x ∈ Lo ++ La := fun x hx => (List.mem_append.1 hx).elim (fun h => List.mem_append.2 (Or.inl h)) (fun h => List.mem_append.2 (Or.inr (List.mem_of_mem_drop h)))
  have perm : (La.take i ++ (Lo ++ La.drop i)).Perm (Lo ++ La) := by
    have h1 : (La.take i ++ (Lo ++ La.drop i)).Perm (Lo ++ (La.take i ++ La.drop i)) := by
      rw [← List.append_assoc, ← List.append_assoc]
      exact List.Perm.append_right _ List.perm_append_comm
    rwa [List.take_append_drop] at h1
  have nd : ((La.take i ++ (Lo ++ La.drop i)).map Lm.g).Nodup := (perm.map Lm.g).nodup_iff.2 h.nd
  have nd' := nd
  rw [List.map_append, List.nodup_append] at nd'
  have tot : totS ((La.take i ++ (Lo ++ La.drop i)).map Lm.sz) = totS ((Lo ++ La).map Lm.sz) := by
    unfold totS
    rw [List.Perm.sum_nat ((perm.map Lm.sz).map (·.1)), List.Perm.sum_nat ((perm.map Lm.sz).map (·.2))]
  refine ⟨fun k => F k ∨ (wx.heap.size ≤ k ∧ k < W.heap.size), ⟨⟨hs, ?_, fun x hx => keep x (sub1 x hx), nd'.1, Or.inl h.ma.fr, fun k hk => Or.inr (r1.lt k hk)⟩, ⟨hq', ?_, fun x hx => keep x (sub2 x hx), nd'.2.1, Or.inl h.mo.fr, fun k hk => ?_⟩, h.nr, nd, ?_, h.own, h.pok, ?_, fun x hx => h.each x ?_⟩, h.lists, fun k hk => ?_, ?_⟩
  · rw [List.length_take, Nat.min_eq_left h.le]
    exact row_low r1 (Nat.zero_le _)
  · rw [List.length_append, List.length_drop, List.map_append]
    exact r2
  · have := (r2.lt k hk).2
    exact (hv2 k hk).imp (h.mo.frow k) (fun h => ⟨h, this⟩)
  · have e : roomS ((La.take i ++ (Lo ++ La.drop i)).map Lm.sz) = roomS ((Lo ++ La).map Lm.sz) := congrArg Prod.snd tot
    rw [e]
    exact h.gr.wider hT (fun k hk => hk.imp id (fun h => h.1)) (fun k hk => by
      rcases hk with hk | hk
      · exact Nat.lt_of_lt_of_le (h.gr.fl k hk) hsz
      · exact hk.2)
  · rw [tot]
    exact h.oct
  · exact perm.mem_iff.1 hx
  · rcases hk with hk | hk
    · rcases hk with hk | hk
      · exact h.fw k (Or.inl hk)
      · exact Or.inr (Nat.le_trans s0 hk.1)
    · exact h.fw k (Or.inr hk)
  · refine h.tt.trans hT (fun k hk => h.fw k (Or.inl hk))

theorem type_ne {w : World} {k k' : Nat} {cs cs' : Array Value} {t t' : TypeId} (h : w.heap[k]? = some (.cells cs t (0, 0))) (h' : w.heap[k']? = some (.cells cs' t' (0, 0))) (ht : t ≠ t') : k ≠ k' := fun e => by
  rw [e, h'] at h
  simp only [Option.some.injEq, Obj.cells.injEq] at h
  exact ht h.2.1.symm

/-- The rows that are left: the world behind the last store. -/
theorem Mid.fin {w0 wx w5 w7 : World} {r : RS} {nq i : Nat} {C : List Lc × List Lc} {La Lo : List Lm} {vo v1 v2 : Value} {F G : Nat → Prop} {b : BookSt} (h : Mid w0 wx r nq C i La Lo vo F G b) (hq : w0.heap.size ≤ nq)
    (h5 : w5.ownsRow 0 32 1 v2 (Lo.length + (La.length - i)) (Lo.map Lm.val ++ (La.drop i).map Lm.val)) (hg5 : wx.drew.grownBy w5 vo.ownBlock) (hn5 : ∀ k, v2.ownBlock = some k → vo.ownBlock = some k ∨ wx.heap.size ≤ k)
    (hb7 : Below (w5.setCell ⟨nq, 7, none⟩ v2).heap.size (w5.setCell ⟨nq, 7, none⟩ v2) w7) (h7 : w7.ownsRow (w5.setCell ⟨nq, 7, none⟩ v2).heap.size 32 1 v1 i ((La.take i).map Lm.val)) :
    ∃ F', Two ((w7.setCell ⟨r.I.r, 7, none⟩ v1).setCell ⟨r.I.r, 8, none⟩ (.slice none 0 0)) r.I nq (La.take i) (Lo ++ La.drop i) v1 v2 F' G b ∧ ((La.take i).map Lm.lc, (Lo ++ La.drop i).map Lm.lc) = C ∧ (∀ k, F' k ∨ G k → r.T k ∨ w0.heap.size ≤ k) ∧ Touch r.T w0 ((w7.setCell ⟨r.I.r, 7, none⟩ v1).setCell ⟨r.I.r, 8, none⟩ (.slice none 0 0)) := by
  have off : ∀ (W : World) (p k j : Nat) (u : Value), k ≠ p → (W.setCell ⟨p, j, none⟩ u).heap[k]? = W.heap[k]? := fun W p k j u hk => Below.heap_setCell _ _ _ _ hk
  have T5 : Touch (fun k => k = r.I.r ∨ k = nq ∨ vo.ownBlock = some k) wx w5 := ((Touch.refl _ wx).drew).grown hg5 (fun k hk => Or.inl (Or.inr (Or.inr hk)))
  have s5 := T5.size
  have sz6 : (w5.setCell ⟨nq, 7, none⟩ v2).heap.size = w5.heap.size := by simp [World.setCell]
  have keep5 : ∀ (k : Nat) cs t, wx.heap[k]? = some (.cells cs t (0, 0)) → t ≠ 32 → w5.heap[k]? = some (.cells cs t (0, 0)) := fun k cs t hk hne => by
    refine (hg5.block k (lt_of hk) (fun e => ?_)).trans hk
    obtain ⟨cur, hc⟩ := row_block h.mo.row e.symm
    exact type_ne hk hc hne rfl
  have r5 := keep5 _ _ _ h.ma.self (by decide)
  have q5 := keep5 _ _ _ h.mo.self (by decide)
  have r6 := (off w5 nq r.I.r 7 v2 h.nr.symm).trans r5
  have q6 := block_setCell q5 7 v2
  have r7 := (hb7.block _ (lt_of r6)).trans r6
  have q7 := (hb7.block _ (lt_of q6)).trans q6
  have r8 := block_setCell r7 7 v1
  have r9 := block_setCell r8 8 (.slice none 0 0)
  refine h.two hq ((((T5.setCell (p := ⟨nq, 7, none⟩) (Or.inl (Or.inr (Or.inl rfl))) v2).then (Touch.of_below hb7)).setCell (p := ⟨r.I.r, 7, none⟩) (Or.inl (Or.inl rfl)) v1).setCell (p := ⟨r.I.r, 8, none⟩) (Or.inl (Or.inl rfl)) _) r9 ?_ ?_ ?_ hn5
  · refine (off _ _ _ _ _ h.nr).trans ((off _ _ _ _ _ h.nr).trans (q7.trans ?_))
    rfl
  · refine row_low (ownsRow_same h7 (fun k hk => ?_)) (by rw [sz6]; exact s5)
    have h1 := (h7.lt k hk).1
    have h2 := lt_of r6
    rw [off _ _ _ _ _ (by omega), off _ _ _ _ _ (by omega)]
  · refine ownsRow_same (ownsRow_same h5 (w' := w7) (fun k hk => ?_)) (fun k hk => ?_)
    · obtain ⟨cur, hc⟩ := row_block h5 hk
      have ne : k ≠ nq := type_ne hc q5 (by decide)
      have e6 := off w5 nq k 7 v2 ne
      rw [← e6]
      exact hb7.block k (by rw [sz6]; exact lt_of hc)
    · obtain ⟨cur, hc⟩ := row_block h5 hk
      have ne : k ≠ r.I.r := type_ne hc r5 (by decide)
      rw [off _ _ _ _ _ ne, off _ _ _ _ _ ne]

theorem Mid.six {w0 wx w5 : World} {r : RS} {nq i : Nat} {C : List Lc × List Lc} {La Lo : List Lm} {vo v2 : Value} {F G : Nat → Prop} {b : BookSt} (h : Mid w0 wx r nq C i La Lo vo F G b) (hg5 : wx.drew.grownBy w5 vo.ownBlock) :
    w5.heap[r.I.r]? = wx.heap[r.I.r]? ∧ w5.heap[nq]? = wx.heap[nq]? ∧ (w5.setCell ⟨nq, 7, none⟩ v2).ownsRow 0 32 1 r.lv La.length (La.map Lm.val) ∧ (w5.setCell ⟨nq, 7, none⟩ v2).heap[r.I.r]? = some (.cells #[.pointer (some ⟨r.I.bp, 0, none⟩), .int .i64 r.I.o, .int .i64 r.I.p.k, .int .i64 r.I.p.s, .int .i64 r.I.p.m, .int .i64 (r.I.p.leaf : Int), .bool false, r.lv, .slice none 0 0] 69 (0, 0)) := by
  have off : ∀ (W : World) (p k j : Nat) (u : Value), k ≠ p → (W.setCell ⟨p, j, none⟩ u).heap[k]? = W.heap[k]? := fun W p k j u hk => Below.heap_setCell _ _ _ _ hk
  have keep5 : ∀ (k : Nat) cs t, wx.heap[k]? = some (.cells cs t (0, 0)) → t ≠ 32 → w5.heap[k]? = wx.heap[k]? := fun k cs t hk hne => by
    refine hg5.block k (lt_of hk) (fun e => ?_)
    obtain ⟨cur, hc⟩ := row_block h.mo.row e.symm
    exact type_ne hk hc hne rfl
  have e1 := keep5 _ _ _ h.ma.self (by decide)
  have e2 := keep5 _ _ _ h.mo.self (by decide)
  refine ⟨e1, e2, ?_, (off _ _ _ _ _ h.nr.symm).trans (e1.trans h.ma.self)⟩
  refine ownsRow_same h.ma.row (fun k hk => ?_)
  obtain ⟨cur, hc⟩ := row_block h.ma.row hk
  rw [off _ _ _ _ _ (type_ne hc h.mo.self (by decide))]
  exact hg5.block k (lt_of hc) (fun e => h.dif k hk e.symm)

end Go.Proofs.Ytidfidknflcioaa
