/-
  added: a string more. Conditions: numbers in their bounds.
  Two copies, one behind the other, in plain Lean; what a replacing leaves. No program.
  slices.Clone, slices.Grow (of nil) and slices.Concat at []byte: what they give. No conditions but lengths.
-/
import Derived.Test.YtbndknbjjdoanaaTopSharedPai
import Derived.Test.YtbndknbjjdoanaaTopSharedPak
import Derived.Test.YtbndknbjjdoanaaTopSharedPah
import Derived.Deep.Upon
import Derived.Lib.AppendZeros

namespace Go.Proofs.Ytbndknbjjdoanaa
section
open Go.RowKit
set_option linter.unusedVariables false

theorem lookN_snoc {α : Type} : ∀ (l : List (Nat × α)) (n : Nat) (x : α) (k : Int), (∀ p ∈ l, p.1 ≠ n) → lookN (l ++ [(n, x)]) k = if (n : Int) = k then some x else lookN l k
  | [], n, x, k, _ => by
    by_cases h : (n : Int) = k
    · simp [lookN, h]
    · simp [lookN, h]
  | p :: l, n, x, k, hp => by
    have ih := lookN_snoc l n x k (fun q hq => hp q (by simp [hq]))
    have hne := hp p (by simp)
    unfold lookN at *
    rw [List.cons_append, List.find?_cons, List.find?_cons]
    by_cases h : (p.1 : Int) = k
    · have h2 : ¬ (n : Int) = k := by omega
      simp [h, h2]
    · simp only [h, decide_false]
      exact ih
theorem lookN_none {α : Type} {l : List (Nat × α)} {n : Nat} (h : ∀ p ∈ l, p.1 ≠ n) : lookN l (n : Int) = none := by
  unfold lookN
  rw [Option.map_eq_none_iff, List.find?_eq_none]
  intro p hp
  have := h p hp
  simp
  omega

theorem step_update_here {P : Program} {ops : Array Oper} {o : Oper} {a : Act} {w w' : World} {K : Act → World → Prop} {Q : Exit → Act → World → Prop} {E : Prop} (hg : o.guard = none) (m x v : Operand) (t : TypeId)
    (hop : o.op = Op.mapUpdate t m x v) (v1 v2 v3 : Value) (hm : a.eval m = v1) (hx : a.eval x = v2) (hv : a.eval v = v3) (hr : (Instr.mapUpdate t v1 v2 v3).run P w = .ok () w') (h : K (a.put o.dst undef) w') :
    if Region.wanted o (yielded ops a.tmps) = true then Oper.wp P o a w K Q else E := by
  have hw : Region.wanted o (yielded ops a.tmps) = true := by simp [Region.wanted, hg]
  rw [if_pos hw]
  unfold Oper.wp
  simp [execOp, hop, hm, hx, hv, hr, Result.andThen]
  exact h

/-- What lies outside the pool's own cells and the two maps. -/
theorem PoolMem.rest {w w' : World} {F : Nat → Prop} {h bp : Nat} {P : PoolSt} {mb ms N1 N2 : Nat} {D1 D2 : DataW Unit} (m : PoolMem w F h bp P mb ms N1 N2 D1 D2) (hs : ∀ k, k < w.heap.size → k ≠ h → k ≠ mb → k ≠ ms → w'.heap[k]? = w.heap[k]?) :
    (∀ p ∈ P.bl, w'.heap[p.2.a]? = some (.cells #[.slice (some ⟨p.2.g, 0, none⟩) P.size P.size, .int .i64 (p.2.used : Int), .bool p.2.pin] 83 (0, 0)) ∧ byteRow w' p.2.g p.2.cs ∧ p.2.cs.length = P.size ∧ bytes p.2.cs ∧ F p.2.a ∧ F p.2.g ∧ p.2.used ≤ P.size) ∧
    (∀ p ∈ P.st, w'.ownsRow 0 75 3 (rowOf p.2.1) p.2.2.length (ptCells p.2.2) ∧ ∀ k, (rowOf p.2.1).ownBlock = some k → F k) := by
  have mapB : ∀ b N D (R : Value → Option (DataW Unit × List MemPlace)), w.ownsMap Try.prog 3 R b N D → ∀ (k : Nat) (cs : Array Value) (t : TypeId), w.heap[k]? = some (Obj.cells cs t (0, 0)) → k ≠ b := fun b N D R hm k cs t hk e => by
    obtain ⟨es, clock, hb, _⟩ := hm
    rw [e, hb] at hk
    simp at hk
  have cell : ∀ (k : Nat) (cs : Array Value) (t : TypeId), w.heap[k]? = some (Obj.cells cs t (0, 0)) → t ≠ 63 → w'.heap[k]? = some (Obj.cells cs t (0, 0)) := fun k cs t hk ht => by
    refine (hs k (lt_of hk) (fun e => ?_) (mapB _ _ _ _ m.m1 k cs t hk) (mapB _ _ _ _ m.m2 k cs t hk)).trans hk
    rw [e, m.self] at hk
    simp only [Option.some.injEq, Obj.cells.injEq] at hk
    exact ht hk.2.1.symm
  refine ⟨fun p hp => ?_, fun p hp => ?_⟩
  · obtain ⟨a1, a2, a3, a4, a5, a6, a7⟩ := m.bk p hp
    exact ⟨cell _ _ _ a1 (by decide), cell _ _ _ a2 (by decide), a3, a4, a5, a6, a7⟩
  · obtain ⟨a1, a2⟩ := m.st p hp
    refine ⟨ownsRow_same a1 (fun k hk => ?_), a2⟩
    obtain ⟨cur, hc⟩ := row_block a1 hk
    rw [cell _ _ _ hc (by decide), hc]

def PoolSt.add (P : PoolSt) (o : Option (Nat × Nat × Nat)) (l : List Pt) : PoolSt := { P with lastS := P.lastS + 1, st := P.st ++ [(P.lastS + 1, o, l)] }

theorem PoolMem.add {w w1 w3 : World} {F : Nat → Prop} {h bp : Nat} {P : PoolSt} {mb ms N1 N2 : Nat} {D1 D2 : DataW Unit} (m : PoolMem w F h bp P mb ms N1 N2 D1 D2) {o : Option (Nat × Nat × Nat)} {l : List Pt}
    (hw1 : w1 = w.setCell ⟨h, 5, none⟩ (.int .i64 ((P.lastS : Int) + 1))) (hm : w3.ownsMap Try.prog 3 rowElem ms (N2 + 1) (D2.put (.int .i64 ((P.lastS + 1 : Nat) : Int)) (rowD o))) (hg : w1.drew.grownBy w3 (some ms))
    (hr : w.ownsRow 0 75 3 (rowOf o) l.length (ptCells l)) (hpt : ∀ x ∈ l, ∃ y, lookN P.bl x.b = some y ∧ x.f ≤ x.t ∧ x.t ≤ y.used) (hl : l.length ≤ 500 ∧ lenP l ≤ 100000) (hfew : P.st.length < 200) (hS : P.lastS < 1000000000) :
    PoolMem w3 (fun k => F k ∨ (rowOf o).ownBlock = some k) h bp (P.add o l) mb ms N1 (N2 + 1) D1 (D2.put (.int .i64 ((P.lastS + 1 : Nat) : Int)) (rowD o)) ∧ Touch F w w3 := by
  have off : ∀ k, k ≠ h → w1.heap[k]? = w.heap[k]? := fun k hk => by rw [hw1]; exact Below.heap_setCell _ _ _ _ hk
  have sz1 : w1.heap.size = w.heap.size := by rw [hw1]; simp [World.setCell]
  have hmapne : ∀ b N D (R : Value → Option (DataW Unit × List MemPlace)), w.ownsMap Try.prog 3 R b N D → h ≠ b := fun b N D R hm e => by
    obtain ⟨es, clock, hb, _⟩ := hm
    have h1 := m.self
    rw [e, hb] at h1
    simp at h1
  have hms := hmapne _ _ _ _ m.m2
  have hmb := hmapne _ _ _ _ m.m1
  have s1 := block_setCell m.self 5 (.int .i64 ((P.lastS : Int) + 1))
  rw [← hw1] at s1
  have T : Touch F w w3 := by
    have T1 : Touch F w w1 := by rw [hw1]; exact (Touch.refl F w).setCell (p := ⟨h, 5, none⟩) (Or.inl m.fh) _
    exact T1.drew.grown hg (fun k hk => by cases hk; exact Or.inl m.f2)
  have hs : ∀ k, k < w.heap.size → k ≠ h → k ≠ mb → k ≠ ms → w3.heap[k]? = w.heap[k]? := fun k hk h1 h2 h3 => by
    refine (hg.block k (by show k < w1.heap.size; omega) (fun e => h3 (by cases e; rfl))).trans (off k h1)
  obtain ⟨r1, r2⟩ := m.rest hs
  have keys : ∀ p ∈ P.st, p.1 ≠ P.lastS + 1 := fun p hp => by have := (m.ns p hp).2; omega
  have tidy := m.m2.tidy (Maps.int_keyed Try.underlying3)
  have ismap := m.m2.isMap
  have hno : Maps.has D2 (.int .i64 ((P.lastS + 1 : Nat) : Int)) = false := Maps.has_false_of_atKey (fun z => by rw [m.l2, lookN_none keys]; rfl)
  refine ⟨⟨?_, Or.inl m.fh, ownsMap_same m.m1 ((hg.block mb (by show mb < w1.heap.size; have := m.m1.lt; omega) (fun e => m.mne (by cases e; rfl))).trans (off mb hmb.symm)), Or.inl m.f1, hm, Or.inl m.f2, m.l1, m.z1, fun k z => ?_, ?_, fun p hp => ?_, m.ia, m.ig, m.kb, m.nb, ?_, fun p hp => ?_, fun p hp => ?_, fun p hp => ?_, m.sz, m.mne, ?_⟩, T⟩
  · refine (hg.block h (by show h < w1.heap.size; have := lt_of m.self; omega) (fun e => hms (by cases e; rfl))).trans (s1.trans ?_)
    show some (Obj.cells _ _ _) = some (Obj.cells _ _ _)
    rfl
  · show _ = rowZ ((lookN (P.st ++ [(P.lastS + 1, o, l)]) k).map Prod.fst) z
    rw [lookN_snoc _ _ _ _ keys]
    by_cases hk : ((P.lastS + 1 : Nat) : Int) = k
    · subst hk
      rw [if_pos rfl, Maps.atKey_put_same ismap (by simp [WideAt.IsKeyLit])]
      rfl
    · rw [if_neg hk, Maps.atKey_put_other (by simp; omega), m.l2]
  · rw [Maps.size_put tidy, hno, m.z2]
    show _ = (P.st ++ [(P.lastS + 1, o, l)]).length
    simp
  · obtain ⟨a1, a2, a3, a4, a5, a6, a7⟩ := r1 p hp
    exact ⟨a1, a2, a3, a4, Or.inl a5, Or.inl a6, a7⟩
  · show ((P.st ++ [(P.lastS + 1, o, l)]).map Prod.fst).Nodup
    rw [List.map_append, List.nodup_append]
    refine ⟨m.ks, by simp, fun a ha b hb => ?_⟩
    obtain ⟨p, hp, rfl⟩ := List.mem_map.1 ha
    simp at hb
    rw [hb]
    exact keys p hp
  · rcases List.mem_append.1 hp with hp | hp
    · have := m.ns p hp
      exact ⟨this.1, Nat.le_succ_of_le this.2⟩
    · have e : p = (P.lastS + 1, o, l) := by simpa using hp
      rw [e]
      exact ⟨by simp, Nat.le_refl _⟩
  · rcases List.mem_append.1 hp with hp | hp
    · obtain ⟨a1, a2⟩ := r2 p hp
      exact ⟨a1, fun k hk => Or.inl (a2 k hk)⟩
    · have e : p = (P.lastS + 1, o, l) := by simpa using hp
      rw [e]
      refine ⟨ownsRow_same hr (fun k hk => ?_), fun k hk => Or.inr hk⟩
      obtain ⟨cur, hc⟩ := row_block hr hk
      refine hs k (lt_of hc) (fun e => ?_) (fun e => ?_) (fun e => ?_)
      · rw [e, m.self] at hc; simp at hc
      · obtain ⟨es, clock, hb, _⟩ := m.m1
        rw [e, hb] at hc; simp at hc
      · obtain ⟨es, clock, hb, _⟩ := m.m2
        rw [e, hb] at hc; simp at hc
  · rcases List.mem_append.1 hp with hp | hp
    · exact m.pt p hp
    · have e : p = (P.lastS + 1, o, l) := by simpa using hp
      rw [e]
      exact hpt
  · obtain ⟨a1, a2, a3, a4, a5⟩ := m.few
    refine ⟨?_, a2, fun p hp => ?_, a4, ?_⟩
    · show (P.st ++ [(P.lastS + 1, o, l)]).length ≤ 200
      simp; omega
    · rcases List.mem_append.1 hp with hp | hp
      · exact a3 p hp
      · have e : p = (P.lastS + 1, o, l) := by simpa using hp
        rw [e]
        exact hl
    · show P.lastS + 1 ≤ 1000000000
      omega

end
end Go.Proofs.Ytbndknbjjdoanaa

namespace Go.Proofs.Ytbndknbjjdoanaa
section

theorem splice_len {α : Type} (ds T : List α) (f : Nat) (h : f + T.length ≤ ds.length) : (splice ds f T).length = ds.length := by
  simp [splice]; omega

theorem splice2 (ds zs T : List Int) (f : Nat) (h : f + zs.length + T.length ≤ ds.length) :
    (splice (splice ds (f + zs.length) T) f zs).take (f + zs.length + T.length) = ds.take f ++ zs ++ T := by
  apply List.ext_getElem?
  intro i
  simp only [splice, List.getElem?_take, List.getElem?_append, List.getElem?_drop, List.length_take, List.length_append, List.length_drop]
  grind

end
end Go.Proofs.Ytbndknbjjdoanaa

namespace Go.Proofs.Ytbndknbjjdoanaa
section
open Go.RowKit

theorem infoB1 : (Try.prog.info? 5).map (fun i => (i.zero, i.size, i.bytes)) = some (some (.int .u8 0), 1, 1) := by kernel_rfl

theorem row_base2 {B : Nat} {v : Value} {n : Nat} {xs : List Value} {e : TypeId} {W : World} (h : W.ownsRow B e 1 v n xs) {k : Nat} (hk : v.ownBlock = some k) : B ≤ k := by
  rcases h.2 with ⟨rfl, _⟩ | ⟨g, cap, cur, rfl, hb, _⟩
  · simp [Value.ownBlock] at hk
  · simp [Value.ownBlock] at hk; omega

theorem ownsRow_lt2 {W : World} {B e : Nat} {v : Value} {n : Nat} {xs : List Value} (h : W.ownsRow B e 1 v n xs) : ∃ a c, v = .slice a n c ∧ n ≤ c ∧ c ≤ maxLen := by
  rcases h.2 with ⟨rfl, rfl⟩ | ⟨g, cap, cur, rfl, _, _, h1, h2, _⟩
  · exact ⟨_, _, rfl, Nat.le_refl _, Nat.zero_le _⟩
  · exact ⟨_, _, rfl, h1, h2⟩

/-- 'append(v, s...)' onto a row of the call's own, whatever s is. -/
theorem wpList_append_reads {ops : Array Oper} {rest : List Oper} {o : Oper} {a : Act} {Q : Exit → Act → World → Prop} (hgd : o.guard = none) (s x : Operand)
    (ho : o.op = .call { callee := .builtin .append, args := #[s, x], argTypes := #[22, 22] })
    (base : Nat) (w : World) (v : Value) (n : Nat) (xs : List Int) (hs : a.eval s = v) (hown : w.ownsRow base 5 1 v n (xs.map (Value.int .u8)))
    (sv : Value) (zs : List Int) (hx : a.eval x = sv) (hr : Reads w .u8 sv zs) (h63 : n + zs.length ≤ 140737488355328) (hbase : base ≤ w.heap.size)
    (h : ∀ v' w', w'.ownsRow base 5 1 v' (n + zs.length) ((xs ++ zs).map (Value.int .u8)) → w.grownBy w' v.ownBlock → wpList Try.prog ops Q rest (a.put o.dst v') w') :
    wpList Try.prog ops Q (o :: rest) a w := by
  obtain ⟨i0, hi, hz0, hz1, hz2⟩ := info_parts infoB1
  have hr' := hr
  obtain ⟨p, cap, rfl, hl, hc⟩ := hr
  cases p with
  | none =>
    have hz : zs = [] := by
      rcases List.eq_nil_or_concat zs with h' | ⟨l, y, h'⟩
      · exact h'
      · obtain ⟨b, o, h1, _⟩ := hc (by rw [h']; simp)
        cases h1
    subst hz
    obtain ⟨a1, c1, rfl, h1, h2⟩ := ownsRow_lt2 hown
    refine wpList_plain hgd fun K hK => ?_
    have hrun := run_append_nothing (P := Try.prog) w 22 22 o.type 5 i0 Try.underlying22 hi a1 n c1 h1 (.slice none 0 cap) (Src.ofNil w Try.underlying22 cap)
    unfold Oper.wp execOp
    simp only [List.length_nil] at hx
    simp only [ho, resolve, invoke, builtin, Sem.run_bind, Sem.run_pure, Result.andThen_ok, List.map_toArray, List.map_cons, List.map_nil, hs, hx, hrun]
    exact hK _ _ (h _ _ (by simpa using hown) (World.grownBy.refl _ _))
  | some ad =>
    have hcs := hr'.cells rfl
    refine wpList_append_own _ hgd s x 22 ho base 5 i0 (.int .u8 0) 1 1 Try.underlying22 hi hz0 hz1 hz2 rfl (by decide) v n _ hs hown ad zs.length cap (zs.map (Value.int .u8)) hx (by simp) (hcs _ rfl) ?_ ?_ (by omega) hbase ?_
    · intro u hu; obtain ⟨z, _, rfl⟩ := List.mem_map.1 hu; rfl
    · unfold maxLen; omega
    · intro v' w' h1 h2 _
      exact h v' w' (by simpa using h1) h2

def OwnBytes (zs : List Int) (w : World) : Ending → World → Prop := fun e w' =>
  ∃ v, e = .returned v ∧ w'.ownsRow w.heap.size 5 1 v zs.length (zs.map (Value.int .u8)) ∧ Below w.heap.size w w'

set_option maxHeartbeats 1000000 in
set_option maxRecDepth 100000 in
theorem clone_byte (v : Value) (zs : List Int) (w : World) (hr : Reads w .u8 v zs) (hreach : zs.length ≤ 140737488355328) :
    Calls Try.prog 46 #[v] w (OwnBytes zs w) := by
  have hr' := hr
  obtain ⟨a, cap, rfl, hl, hc⟩ := hr
  have hq := fun (w : World) (a : Option Addr) (n c : Nat) => Lib.run_eql_slice_nil (P := Try.prog) w 22 5 a n c 0 0 Try.underlying22
  cases a with
  | none =>
    have hz : zs = [] := by
      rcases List.eq_nil_or_concat zs with h | ⟨l, x, h⟩
      · exact h
      · obtain ⟨b, o, h1, _⟩ := hc (by rw [h]; simp)
        cases h1
    subst hz
    clear hc hr'
    go_enter Try.func46, Try.ntmps46
    go_wp2
    go_ret
    exact ⟨_, rfl, World.ownsRow_nil _ _ _ _, Below.refl _ _⟩
  | some ad =>
    have HR : Hid (Reads (w.alloc (.cells #[] 5)) .u8 (.slice (some ad) zs.length cap) zs) := Lib.hid (hr'.below ((Below.refl w.heap.size w).alloc (Nat.le_refl _) _) rfl)
    have HM : Hid (World.ownsRow (w.alloc (.cells #[] 5)) w.heap.size 5 1 (.slice (some ⟨w.heap.size, 0, none⟩) 0 0) 0 (([] : List Int).map (Value.int .u8))) := World.ownsRow_made w #[] 0 (Nat.le_refl _) (by unfold maxLen; omega) rfl
    clear hc hr'
    go_enter Try.func46, Try.ntmps46
    go_wp2_with (at_builtin; go_must (refine wpList_append_reads rfl (.tmp 5) (.tmp 6) rfl w.heap.size _ _ 0 [] rfl HM.out _ zs rfl HR.out (by omega) (by simp) ?_))
    intro v' w1 hown hg
    have hb : Below w.heap.size w w1 := ((Below.refl w.heap.size w).alloc (Nat.le_refl _) _).grown hg (by simp) (fun q hq => by simp [Value.ownBlock] at hq; omega)
    go_wp2_with fail
    go_ret
    exact ⟨_, rfl, by simpa using hown, hb⟩

/-- 'append(nil, make([]byte, n)...)'. -/
theorem wpList_append_zeros {ops : Array Oper} {rest : List Oper} {o : Oper} {a : Act} {Q : Exit → Act → World → Prop} (hgd : o.guard = none) (s x : Operand)
    (ho : o.op = .call { callee := .builtin .append, args := #[s, x], argTypes := #[22, 3] })
    (w : World) (n : Nat) (hs : a.eval s = .slice none 0 0) (hx : a.eval x = .int .i64 n) (h0 : 0 < n) (h63 : n ≤ 1000000000)
    (h : ∀ cap w', n ≤ cap → w'.ownsRow w.heap.size 5 1 (.slice (some ⟨w.heap.size, 0, none⟩) 0 cap) 0 [] → Below w.heap.size w w' → wpList Try.prog ops Q rest (a.put o.dst (.slice (some ⟨w.heap.size, 0, none⟩) n cap)) w') :
    wpList Try.prog ops Q (o :: rest) a w := by
  obtain ⟨i0, hi, hz0, hz1, hz2⟩ := info_parts infoB1
  have hrun := Lib.run_append_nil_zeros (P := Try.prog) w 22 3 o.type 5 i0 (.int .u8 0) .i64 .i64 Try.underlying22 Try.underlying3 hi hz0 n h0 (by omega) (by omega) (by rw [hz2]; omega)
  refine wpList_plain hgd fun K hK => ?_
  unfold Oper.wp execOp
  simp only [ho, resolve, invoke, builtin, Sem.run_bind, Sem.run_pure, Result.andThen_ok, List.map_toArray, List.map_cons, List.map_nil, hs, hx, hrun]
  refine hK _ _ (h _ _ ?_ ?_ ?_)
  · exact grownCap_ge _ _ _ _
  · refine ⟨by simp, Or.inr ⟨_, _, _, rfl, Nat.le_refl _, heap_alloc_new _ _, Nat.zero_le _, grownCap_le_maxLen _ _ _ _ (by unfold maxLen; omega), ?_, by simp⟩⟩
    have := grownCap_ge w n 0 5
    simp [size_zeroCells, Value.cells]
    omega
  · exact ((Below.refl _ w).drew).alloc (Nat.le_refl _) _


set_option maxHeartbeats 1000000 in
set_option maxRecDepth 100000 in
theorem grow_nil (n : Nat) (w : World) (h63 : n ≤ 1000000000) :
    Calls Try.prog 45 #[.slice none 0 0, .int .i64 n] w (OwnBytes [] w) := by
  by_cases h0 : n = 0
  · subst h0
    go_enter Try.func45, Try.ntmps45
    go_wp2_with fail
    go_ret
    exact ⟨_, rfl, World.ownsRow_nil _ _ _ _, Below.refl _ _⟩
  · have hn : (0 : Int) < n := by omega
    have HN := Lib.hid (Nat.pos_of_ne_zero h0)
    go_enter Try.func45, Try.ntmps45
    go_wp2_with (at_builtin; go_must (refine wpList_append_zeros rfl (.tmp 20) (.tmp 21) rfl w n rfl rfl HN.out h63 ?_))
    intro cap w1 hcap hown hb
    go_wp2_with fail
    go_ret
    exact ⟨_, rfl, hown, hb⟩

def catLen (els : List (Value × List Int)) (k : Nat) : Nat := ((els.take k).map Prod.snd).flatten.length
theorem catLen_succ (els : List (Value × List Int)) (k : Nat) (h : k < els.length) : catLen els (k + 1) = catLen els k + els[k].2.length := by
  unfold catLen
  rw [List.take_add_one, List.getElem?_eq_getElem h, List.map_append, List.flatten_append, List.length_append]
  congr 1
  simp
theorem catLen_le (els : List (Value × List Int)) (k : Nat) : catLen els k ≤ (els.map Prod.snd).flatten.length := by
  unfold catLen
  rw [List.map_take]
  conv => rhs; rw [← List.take_append_drop k (els.map Prod.snd)]
  rw [List.flatten_append, List.length_append]
  omega
theorem cat_succ (els : List (Value × List Int)) (k : Nat) (h : k < els.length) : ((els.take (k + 1)).map Prod.snd).flatten = ((els.take k).map Prod.snd).flatten ++ els[k].2 := by
  rw [List.take_add_one, List.getElem?_eq_getElem h, List.map_append, List.flatten_append]
  congr 1
  simp

set_option maxHeartbeats 2000000 in
set_option maxRecDepth 100000 in
theorem concat_any (bb : Nat) (els : List (Value × List Int)) (w : World) (hc : ∀ k (hk : k < els.length), w.cell? ⟨bb, k, none⟩ = some (els[k].1) ∧ Reads w .u8 els[k].1 els[k].2)
    (hl : (els.map Prod.snd).flatten.length ≤ 100000000) (hn : els.length ≤ 1000) :
    Calls Try.prog 16 #[.slice (some ⟨bb, 0, none⟩) els.length els.length] w (OwnBytes (els.map Prod.snd).flatten w) := by
  have HC := Lib.hid hc
  have HL := Lib.hid hl
  clear hc
  go_enter Try.func16, Try.ntmps16
  go_wp2_with fail
  go_loopw [11, 3] (fun i s wr => ∃ k : Nat, k ≤ els.length ∧ i = .int .i64 k ∧ s = .int .i64 (catLen els k) ∧ wr = w) (fun i _ _ => els.length - (intOf i).toNat)
  case atStart => exact ⟨0, Nat.zero_le _, rfl, rfl, rfl⟩
  case round =>
    obtain ⟨k, hk, rfl, rfl, hw⟩ := hrel
    obtain rfl := hw.symm
    have le := catLen_le els k
    by_cases hlt : k < els.length
    · obtain ⟨c0, r0⟩ := HC.out k hlt
      obtain ⟨a1, cap1, e1, l1, _⟩ := r0
      rw [e1] at c0
      have S := catLen_succ els k hlt
      have le2 := catLen_le els (k + 1)
      clear e1
      generalize els[k].2.length = m at *
      generalize catLen els k = s at *
      go_wp2_with fail
      go_roundw
      case rel => exact ⟨k + 1, by omega, by go_num, by rw [S]; go_num, trivial⟩
      case measure => simp [intOf]; omega
    · have hkn : k = els.length := by omega
      subst hkn
      have SZ := Lib.hid (show catLen els els.length = (els.map Prod.snd).flatten.length from by unfold catLen; rw [List.take_length])
      rw [SZ.out]
      generalize hN : (els.map Prod.snd).flatten.length = N at *
      go_wp2_with fail
      refine (grow_nil N w (by omega)).mono ?_
      rintro e w1 ⟨v1, rfl, ho1, hb1⟩
      have HO1 := Lib.hid ho1
      have HB1 := Lib.hid hb1
      clear ho1 hb1
      go_wp2_with fail
      go_loopw [27, 6] (fun i s wx => ∃ k : Nat, k ≤ els.length ∧ i = .int .i64 k ∧ wx.ownsRow w.heap.size 5 1 s (catLen els k) (((els.take k).map Prod.snd).flatten.map (Value.int .u8)) ∧ Below w.heap.size w wx) (fun i _ _ => els.length - (intOf i).toNat)
      case atStart => exact ⟨0, Nat.zero_le _, rfl, by simpa [catLen] using HO1.out, HB1.out⟩
      case round =>
        obtain ⟨k, hk, rfl, ho, hb⟩ := hrel
        have le := catLen_le els k
        by_cases hlt : k < els.length
        · obtain ⟨c0, r0⟩ := HC.out k hlt
          have c1 := old_cell hb c0
          have r1 := r0.below hb rfl
          have le2 := catLen_le els (k + 1)
          have S := catLen_succ els k hlt
          have S2 := Lib.hid (cat_succ els k hlt)
          have R1 := Lib.hid r1
          have HO := Lib.hid ho
          have hsz := hb.size
          have HBB := Lib.hid hb
          clear c0 r0 r1 ho hb
          go_wp2_with (at_builtin; go_must (refine wpList_append_reads rfl (.tmp 31) (.tmp 32) rfl w.heap.size wr _ _ _ rfl HO.out _ _ rfl R1.out (by omega) hsz ?_))
          intro v' w2 hown hg
          have hb2 := HBB.out.grown hg hsz (fun q hq => row_base2 HO.out hq)
          have hown2 : w2.ownsRow w.heap.size 5 1 v' (catLen els (k + 1)) (((els.take (k + 1)).map Prod.snd).flatten.map (Value.int .u8)) := by rw [S, S2.out]; simpa using hown
          clear hown
          clear hg
          go_wp2_with fail
          go_roundw
          case rel => exact ⟨k + 1, by omega, by go_num, hown2, hb2⟩
          case measure => simp [intOf]; omega
        · have hkn : k = els.length := by omega
          subst hkn
          rw [SZ.out, List.take_length] at ho
          go_wp2_with fail
          go_ret
          exact ⟨_, rfl, by rw [hN]; exact ho, hb⟩

end
end Go.Proofs.Ytbndknbjjdoanaa
