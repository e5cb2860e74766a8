/-
  Rows that a call owns: a cell of one, one written, an element of several cells put at the end. No conditions.
  Slices of elements of several cells, wherever they begin; what 'append' of one makes of a row of the call's own. No conditions.
  Clone, Grow, Concat, Delete of package slices at []cornref1.chunk: what they give. No conditions but lengths. (Printed by sg.py.)
-/
import Derived.Test.YtfnmjlnpfoclbaaGreatQueueRunsPab
import Derived.Test.YtfnmjlnpfoclbaaGreatQueueRunsPat
import Derived.Deep.Upon
import Derived.Lib.AppendZeros
import Derived.Test.YtfnmjlnpfoclbaaGreatQueueRunsPae
import Derived.Lib.SlicesDelete
import Derived.Shelf.RegionOpenPlain
import Derived.Shelf.Abstract
import Derived.Deep.RegionLaw

namespace Go.Proofs.YtfnmjlnpfoclbaaGreat
section
open Go.RowKit
set_option linter.unusedVariables false

theorem wrow_set {w : World} {B e size n g cap : Nat} {xs : List Value} (h : w.ownsRow B e size (.slice (some ⟨g, 0, none⟩) n cap) n xs) (j : Nat) (u : Value) : (w.setCell ⟨g, j, none⟩ u).ownsRow B e size (.slice (some ⟨g, 0, none⟩) n cap) n (xs.set j u) := by
  refine ⟨by rw [List.length_set]; exact h.1, ?_⟩
  rcases h.2 with ⟨h1, h2⟩ | ⟨g', cap', cur, h1, hb, hg, hn, hm, hs, ht⟩
  · cases h1
  · simp only [Value.slice.injEq, Option.some.injEq, Addr.mk.injEq, and_true] at h1
    obtain ⟨rfl, _, rfl⟩ := h1
    refine Or.inr ⟨g, cap, cur.setIfInBounds j u, rfl, hb, block_setCell hg j u, hn, hm, by simpa using hs, ?_⟩
    rw [Array.toList_setIfInBounds, List.take_set, ht]
theorem wrow_cell {w : World} {B e size n c : Nat} {a : Option Addr} {xs : List Value} (h : w.ownsRow B e size (.slice a n c) n xs) {j : Nat} {u : Value} (hu : xs[j]? = some u) : ∃ g, a = some ⟨g, 0, none⟩ ∧ w.cell? ⟨g, j, none⟩ = some u ∧ w.frozen? ⟨g, j, none⟩ = false := by
  rcases h.2 with ⟨hv, h0⟩ | ⟨g, cap, cur, hv, _, hg, _⟩
  · have := h.1
    have hj := (List.getElem?_eq_some_iff.1 hu).1
    rw [h0, Nat.zero_mul] at this
    omega
  · simp only [Value.slice.injEq] at hv
    obtain ⟨rfl, _, rfl⟩ := hv
    have := h.cells (g := g) rfl j _ hu
    have e1 : (⟨g, 0, none⟩ : Addr).add j = ⟨g, j, none⟩ := by unfold Addr.add; split <;> simp_all
    rw [e1] at this
    exact ⟨g, rfl, this, free_of hg j⟩

theorem wrow_sh {w : World} {B e size n : Nat} {v : Value} {xs : List Value} (h : w.ownsRow B e size v n xs) : ∃ a c, v = .slice a n c := by
  rcases h.2 with ⟨rfl, rfl⟩ | ⟨g, cap, cur, rfl, _⟩
  · exact ⟨_, _, rfl⟩
  · exact ⟨_, _, rfl⟩
/-- 'append(s, e)', where e's cells lie in the block just made. -/
theorem wpList_append_w {P : Program} {ops : Array Oper} {rest : List Oper} {o : Oper} {a : Act} {Q : Exit → Act → World → Prop} (hgd : o.guard = none) (s x : Operand) (t : TypeId)
    (ho : o.op = .call { callee := .builtin .append, args := #[s, x], argTypes := #[t, t] })
    (base : Nat) (e : TypeId) (i : TypeInfo) (z : Value) (size bytes : Nat) (ht : P.underlying t = some (.slice e)) (hi : P.info? e = some i) (hz : i.zero = some z)
    (hsize : i.size = size) (hby : i.bytes = bytes) (hzs : z.cells.size = size) (hsz : 0 < size)
    (v : Value) (n : Nat) (xs : List Value) (wr : World) (e' : TypeId) (us : List Value) (hs : a.eval s = v) (hown : wr.ownsRow base e size v n xs)
    (hx : a.eval x = .slice (some ⟨wr.heap.size, 0, none⟩) 1 1) (hl : us.length = size) (h1 : ∀ u ∈ us, u.oneCell' = true)
    (h63 : n + 1 ≤ maxLen) (hbytes : (n + 1) * bytes ≤ 140737488355328) (hbase : base ≤ wr.heap.size)
    (h : ∀ v' w', w'.ownsRow base e size v' (n + 1) (xs ++ us) → wr.grownBy w' v.ownBlock → Below base wr w' → wpList P ops Q rest (a.put o.dst v') w') :
    wpList P ops Q (o :: rest) a (wr.alloc (.cells us.toArray e')) := by
  refine wpList_append_own _ hgd s x t ho base e i z size bytes ht hi hz hsize hby hzs hsz v n xs hs (hown.alloc _) ⟨wr.heap.size, 0, none⟩ 1 1 us hx (by omega) ?_ h1 h63 hbytes (by simp; omega) ?_
  · intro j u hj
    have e1 : (⟨wr.heap.size, 0, none⟩ : Addr).add j = ⟨wr.heap.size, j, none⟩ := by unfold Addr.add; split <;> simp_all
    rw [e1, cell_of (heap_alloc_new wr _)]
    simpa using hj
  · intro v' w' hown' hg _
    refine h v' w' hown' ?_ ?_
    · exact ⟨hg.os, hg.tape, hg.output, Nat.le_trans (by simp) hg.size, fun k hk hne => (hg.block k (by simp; omega) hne).trans (heap_alloc_old wr _ hk)⟩
    · exact ((Below.refl base wr).alloc hbase _).grown hg (by simp; omega) (fun q hq => (hown.lt q hq).1)

theorem row_low {w : World} {B B' e size n : Nat} {v : Value} {xs : List Value} (h : w.ownsRow B e size v n xs) (hB : B' ≤ B) : w.ownsRow B' e size v n xs := by
  refine ⟨h.1, ?_⟩
  rcases h.2 with hn | ⟨g, cap, cur, rfl, hb, rest⟩
  · exact .inl hn
  · exact .inr ⟨g, cap, cur, rfl, Nat.le_trans hB hb, rest⟩
theorem row_kept {w w' : World} {B e size n : Nat} {v : Value} {zs : List Value} (h : w.ownsRow B e size v n zs) (hb : Below w.heap.size w w') : w'.ownsRow B e size v n zs := ownsRow_same h (fun k hk => hb.block k (h.lt k hk).2)

end
end Go.Proofs.YtfnmjlnpfoclbaaGreat

namespace Go.Proofs.YtfnmjlnpfoclbaaGreat
section
open Go.RowKit
set_option linter.unusedVariables false

def Seg (w : World) (size : Nat) (v : Value) (n : Nat) (xs : List Value) : Prop :=
  xs.length = n * size ∧ (∀ u ∈ xs, u.oneCell' = true) ∧ ∃ a cap, v = .slice a n cap ∧ n ≤ cap ∧ cap ≤ 9223372036854775807 ∧ ∀ j u, xs[j]? = some u → ∃ b o, a = some ⟨b, o, none⟩ ∧ w.cell? ⟨b, o + j, none⟩ = some u
theorem Seg.below {w w' : World} {size : Nat} {v : Value} {n : Nat} {xs : List Value} (h : Seg w size v n xs) (hb : Below w.heap.size w w') : Seg w' size v n xs := by
  obtain ⟨h1, h2, a, c, h3, h4, h5, h6⟩ := h
  refine ⟨h1, h2, a, c, h3, h4, h5, fun j u hu => ?_⟩
  obtain ⟨b, o, e, hc⟩ := h6 j u hu
  exact ⟨b, o, e, (hb.cell (p := ⟨b, o + j, none⟩) (World.block_lt_of_cell? w _ hc)).trans hc⟩
theorem Seg.of_row {w : World} {B e size : Nat} {v : Value} {n : Nat} {xs : List Value} (h : w.ownsRow B e size v n xs) (h1 : ∀ u ∈ xs, u.oneCell' = true) : Seg w size v n xs := by
  refine ⟨h.1, h1, ?_⟩
  obtain ⟨a, c, rfl⟩ := wrow_sh h
  have hle : n ≤ c ∧ c ≤ 9223372036854775807 := by
    rcases h.2 with ⟨hv, h0⟩ | ⟨g, cap, cur, hv, _, _, hn, hm, _⟩
    · simp only [Value.slice.injEq] at hv; omega
    · simp only [Value.slice.injEq] at hv
      have : cap ≤ 9223372036854775807 := hm
      omega
  refine ⟨a, c, rfl, hle.1, hle.2, fun j u hu => ?_⟩
  obtain ⟨g, rfl, hc, _⟩ := wrow_cell h hu
  exact ⟨g, 0, rfl, by rw [Nat.zero_add]; exact hc⟩

/-- 'append(v, s...)' onto a row of the call's own, whatever s is. -/
theorem wpList_append_seg {P : Program} {ops : Array Oper} {rest : List Oper} {o : Oper} {a : Act} {Q : Exit → Act → World → Prop} (hgd : o.guard = none) (s x : Operand) (t : TypeId)
    (ho : o.op = .call { callee := .builtin .append, args := #[s, x], argTypes := #[t, t] })
    (base : Nat) (e : TypeId) (i : TypeInfo) (z : Value) (size bytes : Nat) (ht : P.underlying t = some (.slice e)) (hi : P.info? e = some i) (hz : i.zero = some z)
    (hsize : i.size = size) (hby : i.bytes = bytes) (hzs : z.cells.size = size) (hsz : 0 < size)
    (w : World) (v : Value) (n : Nat) (xs : List Value) (hs : a.eval s = v) (hown : w.ownsRow base e size v n xs)
    (sv : Value) (m : Nat) (zs : List Value) (hx : a.eval x = sv) (hr : Seg w size sv m zs) (h63 : n + m ≤ maxLen) (hbytes : (n + m) * bytes ≤ 140737488355328) (hbase : base ≤ w.heap.size)
    (h : ∀ v' w', w'.ownsRow base e size v' (n + m) (xs ++ zs) → w.grownBy w' v.ownBlock → wpList P ops Q rest (a.put o.dst v') w') :
    wpList P ops Q (o :: rest) a w := by
  obtain ⟨hl, h1, sa, cap, rfl, hle, hcap, hc⟩ := hr
  cases sa with
  | none =>
    have hz : zs = [] := by
      rcases List.eq_nil_or_concat zs with h' | ⟨l, y, h'⟩
      · exact h'
      · obtain ⟨b, o, h1, _⟩ := hc l.length y (by rw [h']; simp)
        cases h1
    subst hz
    have hm : m = 0 := by
      rcases Nat.eq_zero_or_pos m with e | e
      · exact e
      · have := Nat.mul_pos e hsz
        simp at hl
        omega
    subst hm
    obtain ⟨a1, c1, rfl⟩ := wrow_sh hown
    have h1' : n ≤ c1 := by
      rcases hown.2 with ⟨hv, h0⟩ | ⟨g, cap', cur, hv, _, _, hn, _⟩
      · simp only [Value.slice.injEq] at hv; omega
      · simp only [Value.slice.injEq] at hv; omega
    refine wpList_plain hgd fun K hK => ?_
    have hrun := run_append_nothing (P := P) w t t o.type e i ht hi a1 n c1 h1' (.slice none 0 cap) (Src.ofNil w ht cap)
    unfold Oper.wp execOp
    simp only [ho, resolve, invoke, builtin, Sem.run_bind, Sem.run_pure, Result.andThen_ok, List.map_toArray, List.map_cons, List.map_nil, hs, hx, hrun]
    exact hK _ _ (h _ _ (by simpa using hown) (World.grownBy.refl _ _))
  | some ad =>
    refine wpList_append_own _ hgd s x t ho base e i z size bytes ht hi hz hsize hby hzs hsz v n _ hs hown ad m cap zs hx hl ?_ h1 h63 hbytes hbase ?_
    · intro j u hu
      obtain ⟨b, o, e', hcell⟩ := hc j u hu
      cases e'
      have e1 : (⟨b, o, none⟩ : Addr).add j = ⟨b, o + j, none⟩ := by unfold Addr.add; split <;> simp_all
      rw [e1]
      exact hcell
    · intro v' w' h2 h3 _
      exact h v' w' h2 h3

/-- 'append(nil, make([]T, n)...)'. -/
theorem wpList_append_zeros_of {P : Program} {ops : Array Oper} {rest : List Oper} {o : Oper} {a : Act} {Q : Exit → Act → World → Prop} (hgd : o.guard = none) (s x : Operand) (t tn : TypeId)
    (ho : o.op = .call { callee := .builtin .append, args := #[s, x], argTypes := #[t, tn] })
    (e : TypeId) (i : TypeInfo) (z : Value) (size bytes : Nat) (ht : P.underlying t = some (.slice e)) (htn : P.underlying tn = some (.int .i64)) (hi : P.info? e = some i) (hz : i.zero = some z)
    (hsize : i.size = size) (hby : i.bytes = bytes) (hzs : z.cells.size = size) (hsz : 0 < size)
    (w : World) (n : Nat) (hs : a.eval s = .slice none 0 0) (hx : a.eval x = .int .i64 n) (h0 : 0 < n) (h63 : n ≤ 1000000000) (hbs : n * bytes ≤ 140737488355328)
    (h : ∀ cap w', n ≤ cap → w'.ownsRow w.heap.size e size (.slice (some ⟨w.heap.size, 0, none⟩) 0 cap) 0 [] → Below w.heap.size w w' → wpList P ops Q rest (a.put o.dst (.slice (some ⟨w.heap.size, 0, none⟩) n cap)) w') :
    wpList P ops Q (o :: rest) a w := by
  subst hsize
  subst hby
  have hrun := Lib.run_append_nil_zeros (P := P) w t tn o.type e i z .i64 .i64 ht htn hi hz n h0 hsz (by omega) (by omega)
  refine wpList_plain hgd fun K hK => ?_
  unfold Oper.wp execOp
  simp only [ho, resolve, invoke, builtin, Sem.run_bind, Sem.run_pure, Result.andThen_ok, List.map_toArray, List.map_cons, List.map_nil, hs, hx, hrun]
  have hge := grownCap_ge w n 0 e
  refine hK _ _ (h _ _ hge ?_ ?_)
  · refine ⟨by simp, Or.inr ⟨_, _, _, rfl, Nat.le_refl _, heap_alloc_new _ _, Nat.zero_le _, grownCap_le_maxLen _ _ _ _ (by unfold maxLen; omega), ?_, by simp⟩⟩
    simp only [Array.size_append, size_zeroCells, hzs]
    rw [← Nat.add_mul]
    congr 1
    omega
  · exact ((Below.refl _ w).drew).alloc (Nat.le_refl _) _

end
end Go.Proofs.YtfnmjlnpfoclbaaGreat

namespace Go.Proofs.YtfnmjlnpfoclbaaGreat
section
open Go.RowKit
set_option linter.unusedVariables false

theorem info_rch : (Tryz.prog.info? 101).map (fun i => (i.zero, i.size, i.bytes)) = some (some (.agg #[.slice none 0 0, .int .i64 0, .int .i64 0]), 3, 40) := by kernel_rfl
def Own_rch (n : Nat) (xs : List Value) (w : World) : Ending → World → Prop := fun e w' =>
  ∃ v, e = .returned v ∧ w'.ownsRow w.heap.size 101 3 v n xs ∧ Below w.heap.size w w'

set_option maxHeartbeats 1000000 in
set_option maxRecDepth 100000 in
theorem clone_rch (v : Value) (n : Nat) (xs : List Value) (w : World) (hr : Seg w 3 v n xs) (hn : n ≤ 1000000000) :
    Calls Tryz.prog 69 #[v] w (Own_rch n xs w) := by
  obtain ⟨i0, hi0, hz0, hz1, hz2⟩ := info_parts info_rch
  have hr' := hr
  obtain ⟨hl, h1, a, cap, rfl, hle, hcap, hc⟩ := hr
  have hq := fun (w : World) (a : Option Addr) (n c : Nat) => Lib.run_eql_slice_nil (P := Tryz.prog) w 81 101 a n c 0 0 Tryz.underlying81
  cases a with
  | none =>
    have hz : xs = [] := by
      rcases List.eq_nil_or_concat xs with h | ⟨l, x, h⟩
      · exact h
      · obtain ⟨b, o, h1, _⟩ := hc l.length x (by rw [h]; simp)
        cases h1
    subst hz
    have hn0 : n = 0 := by simp at hl; omega
    subst hn0
    clear hc hr'
    go_enter Tryz.func69, Tryz.ntmps69
    go_wp2
    go_ret
    exact ⟨_, rfl, World.ownsRow_nil _ _ _ _, Below.refl _ _⟩
  | some ad =>
    have HR : Hid (Seg (w.alloc (.cells #[] 101)) 3 (.slice (some ad) n cap) n xs) := Lib.hid (hr'.below ((Below.refl w.heap.size w).alloc (Nat.le_refl _) _))
    have HM : Hid (World.ownsRow (w.alloc (.cells #[] 101)) w.heap.size 101 3 (.slice (some ⟨w.heap.size, 0, none⟩) 0 0) 0 []) := World.ownsRow_made w #[] 0 (Nat.le_refl _) (by unfold maxLen; omega) rfl
    clear hc hr' hl h1
    go_enter Tryz.func69, Tryz.ntmps69
    go_wp2_with (at_builtin; go_must (refine wpList_append_seg rfl (.tmp 5) (.tmp 6) 81 rfl w.heap.size 101 i0 (.agg #[.slice none 0 0, .int .i64 0, .int .i64 0]) 3 40 Tryz.underlying81 hi0 hz0 hz1 hz2 rfl (by decide) _ _ 0 [] rfl HM.out _ n xs rfl HR.out (by unfold maxLen; omega) (by omega) (by simp) ?_))
    intro v' w1 hown hg
    have hb : Below w.heap.size w w1 := ((Below.refl w.heap.size w).alloc (Nat.le_refl _) _).grown hg (by simp) (fun q hq => by simp [Value.ownBlock] at hq; omega)
    go_wp2_with fail
    go_ret
    exact ⟨_, rfl, by simpa using hown, hb⟩

/-- The cells, and the number, of the first k of some slices. -/
def cat_rch (els : List (Value × Nat × List Value)) (k : Nat) : List Value := ((els.take k).map (·.2.2)).flatten
def num_rch (els : List (Value × Nat × List Value)) (k : Nat) : Nat := ((els.take k).map (·.2.1)).sum
theorem cat_succ_rch (els : List (Value × Nat × List Value)) (k : Nat) (x : Value × Nat × List Value) (h : els[k]? = some x) : cat_rch els (k + 1) = cat_rch els k ++ x.2.2 ∧ num_rch els (k + 1) = num_rch els k + x.2.1 := by
  unfold cat_rch num_rch
  rw [List.take_add_one, h]
  simp
theorem num_le_rch (els : List (Value × Nat × List Value)) (k : Nat) : num_rch els k ≤ num_rch els els.length := by
  unfold num_rch
  rw [List.take_length, List.map_take]
  conv => rhs; rw [← List.take_append_drop k (els.map (·.2.1)), List.sum_append]
  omega

/-- 'clear' of one element. -/
theorem run_clear_rch (w : World) (ty : TypeId) (b o c : Nat) (hc : ∀ j, j < 3 → (w.cell? ⟨b, o + j, none⟩).isSome = true) (hf : ∀ j, j < 3 → w.frozen? ⟨b, o + j, none⟩ = false) :
    (Builtin.clear_ #[81] ty #[.slice (some ⟨b, o, none⟩) 1 c]).run Tryz.prog w = .ok (.tuple #[]) (w.setCells b o [.slice none 0 0, .int .i64 0, .int .i64 0]) := by
  have hst := run_storeCells_cells (P := Tryz.prog) b o [.slice none 0 0, .int .i64 0, .int .i64 0] 0 w (by simpa using hc) (by simpa using hf) (by intro v hv; simp at hv; first | (subst hv; rfl) | (rcases hv with rfl | rfl <;> rfl))
  simp only [Nat.add_zero] at hst
  have hz : (Builtin.zeroCells ((.agg #[.slice none 0 0, .int .i64 0, .int .i64 0]) : Value).cells 1).toList = [.slice none 0 0, .int .i64 0, .int .i64 0] := by kernel_rfl
  simp [Builtin.clear_, run_underlying Tryz.underlying81, Tryz.zeroValue101, hz, hst]

def Del_rch (g cap n i : Nat) (xs : List Value) (w : World) : Ending → World → Prop := fun e w' =>
  e = .returned (.slice (some ⟨g, 0, none⟩) (n - 1) cap) ∧ w'.ownsRow 0 101 3 (.slice (some ⟨g, 0, none⟩) (n - 1) cap) (n - 1) (xs.take (i * 3) ++ xs.drop ((i + 1) * 3)) ∧ Touch (fun k => k = g) w w' ∧ w'.heap.size = w.heap.size

set_option maxHeartbeats 4000000 in
set_option maxRecDepth 1000000 in
theorem delete_rch (g cap n : Nat) (i j : Nat) (xs : List Value) (w : World) (hr : w.ownsRow 0 101 3 (.slice (some ⟨g, 0, none⟩) n cap) n xs) (h1 : ∀ u ∈ xs, u.oneCell' = true)
    (hi : i < n) (hj : j = i + 1) (hlen : n ≤ 1000000) :
    Calls Tryz.prog 73 #[.slice (some ⟨g, 0, none⟩) n cap, .int .i64 i, .int .i64 j] w (Del_rch g cap n i xs w) := by
  obtain ⟨i0, hi0, hz0, hz1, hz2⟩ := info_parts info_rch
  obtain ⟨hxl, hr⟩ := hr
  rcases hr with ⟨hv, _⟩ | ⟨g', cap', cur, hv, _, hg, hn, hcm, hs, ht⟩
  · cases hv
  simp only [Value.slice.injEq, Option.some.injEq, Addr.mk.injEq, and_true, true_and] at hv
  obtain ⟨rfl, rfl⟩ := hv
  have hcm' : cap ≤ 9223372036854775807 := by unfold maxLen at hcm; omega
  have hcell : ∀ t u, xs[t]? = some u → w.drew.cell? ⟨g, t, none⟩ = some u := by
    intro t u hu
    have : w.drew.cell? ⟨g, t, none⟩ = cur[t]? := cell_of (w := w.drew) hg t
    rw [this, ← Array.getElem?_toList]
    rw [← ht] at hu
    have hlt := (List.getElem?_eq_some_iff.1 hu).1
    rw [List.length_take] at hlt
    rw [List.getElem?_take_of_lt (by omega)] at hu
    exact hu
  obtain ⟨news, hnews⟩ : ∃ news, news = xs.drop (j * 3) := ⟨_, rfl⟩
  have hlen2 : news.length = (n - j) * 3 := by rw [hnews, List.length_drop, hxl, Nat.sub_mul]
  obtain ⟨A, hA, hsrc⟩ : ∃ A : Addr, (if cap = j then some (⟨g, 0, none⟩ : Addr) else some ⟨g, j * 3, none⟩) = some A ∧ Hid (∀ t u, news[t]? = some u → w.drew.cell? (A.add t) = some u) := by
    by_cases h : cap = j
    · refine ⟨⟨g, 0, none⟩, by simp [h], Lib.hid fun t u hu => ?_⟩
      have h0 : news.length = 0 := by rw [hlen2]; have : n - j = 0 := by omega
                                      rw [this]
      rw [List.length_eq_zero_iff.1 h0] at hu
      simp at hu
    · refine ⟨⟨g, j * 3, none⟩, by simp [h], Lib.hid fun t u hu => ?_⟩
      rw [Addr.add_lit]
      refine hcell _ _ ?_
      rw [hnews, List.getElem?_drop] at hu
      simpa using hu
  have s1 : Hid (news.length = (n - j) * 3) := Lib.hid hlen2
  have s2 : Hid (∀ u ∈ news, u.oneCell' = true) := Lib.hid (by rw [hnews]; exact fun u hu => h1 u (List.mem_of_mem_drop hu))
  have s3 : Hid (∀ t, t < news.length → (w.drew.cell? ⟨g, 0 + i * 3 + t, none⟩).isSome = true ∧ w.drew.frozen? ⟨g, 0 + i * 3 + t, none⟩ = false) := Lib.hid (by
    intro t ht'
    have : w.drew.cell? ⟨g, 0 + i * 3 + t, none⟩ = cur[0 + i * 3 + t]? := cell_of (w := w.drew) hg _
    refine ⟨?_, free_of (w := w.drew) hg _⟩
    rw [this, Array.getElem?_eq_getElem (by rw [hlen2] at ht'; omega)]
    rfl)
  obtain ⟨W1, hW1⟩ : ∃ W1, W1 = w.drew.setCells g (0 + i * 3) news := ⟨_, rfl⟩
  obtain ⟨cur1, k1, k2, k3⟩ := block_setCells news (0 + i * 3) w.drew cur hg (by rw [hlen2]; omega)
  rw [← hW1] at k1
  have hcl : ∀ ty, (Builtin.clear_ #[81] ty #[.slice (some ⟨g, (n - 1) * 3, none⟩) 1 (cap - (n - 1))]).run Tryz.prog W1 = .ok (.tuple #[]) (W1.setCells g ((n - 1) * 3) [.slice none 0 0, .int .i64 0, .int .i64 0]) := fun ty => by
    have h := run_clear_rch W1 ty g ((n - 1) * 3) (cap - (n - 1)) (fun t ht' => by
      rw [cell_of k1, Array.getElem?_eq_getElem (by rw [k2]; omega)]; rfl) (fun t ht' => free_of k1 _)
    simpa using h
  obtain ⟨cur2, m1, m2, m3⟩ := block_setCells [.slice none 0 0, .int .i64 0, .int .i64 0] ((n - 1) * 3) W1 cur1 k1 (by rw [k2]; simp; omega)
  have FIN : Hid (Del_rch g cap n i xs w (.returned (.slice (some ⟨g, 0, none⟩) (n - 1) cap)) (W1.setCells g ((n - 1) * 3) [.slice none 0 0, .int .i64 0, .int .i64 0])) := Lib.hid (by
    have e2 : cur.toList.take (0 + i * 3) = xs.take (i * 3) := by
      rw [← ht, List.take_take]; congr 1; omega
    have e4 : (xs.take (i * 3) ++ news).length = (n - 1) * 3 := by
      rw [List.length_append, List.length_take, hlen2, hxl]; omega
    refine ⟨rfl, ⟨?_, Or.inr ⟨g, cap, cur2, rfl, Nat.zero_le _, m1, by omega, hcm, by rw [m2, k2, hs], ?_⟩⟩, ?_, ?_⟩
    · rw [← hj, ← hnews, e4]
    · rw [m3, k3, e2, List.take_left' e4, ← hj, ← hnews, ← e4]
      exact (List.append_assoc _ _ _ ▸ List.take_left)
    · refine ⟨?_, ?_, ?_, ?_, ?_⟩
      · rw [(setCells_rest g _ _ W1).1, hW1, (setCells_rest g _ _ _).1]; rfl
      · rw [(setCells_rest g _ _ W1).2.1, hW1, (setCells_rest g _ _ _).2.1]; rfl
      · rw [(setCells_rest g _ _ W1).2.2, hW1, (setCells_rest g _ _ _).2.2]; rfl
      · rw [size_setCells, hW1, size_setCells]; exact Nat.le_refl _
      · intro k hk hne
        rw [heap_setCells_other g _ _ _ k hne, hW1, heap_setCells_other g _ _ _ k hne]; rfl
    · rw [size_setCells, hW1, size_setCells]; rfl)
  have hW : Hid (W1 = w.drew.setCells g (0 + i * 3) news) := Lib.hid hW1
  have hic : i ≤ cap := by omega
  have hjc : j ≤ cap := by omega
  have e3 : Hid (i + (n - j) = n - 1) := Lib.hid (by omega)
  have hcl2 : ∀ ty, (Builtin.clear_ #[81] ty #[.slice (some ⟨g, (i + (n - j)) * 3, none⟩) (n - (i + (n - j))) (cap - (i + (n - j)))]).run Tryz.prog W1 = .ok (.tuple #[]) (W1.setCells g ((n - 1) * 3) [.slice none 0 0, .int .i64 0, .int .i64 0]) := fun ty => by
    rw [show i + (n - j) = n - 1 by omega, show n - (n - 1) = 1 by omega]; exact hcl ty
  have hne : ((i : Int) == (j : Int)) = false := by simp; omega
  have hjl : j ≤ n := by omega
  have hij : i ≤ j := by omega
  have hcne : ¬ (cap = i + (n - j)) := by omega
  have HJ := Lib.hid hj
  have H1 := Lib.hid h1
  clear hcl hW1 hcell hnews hlen2 k1 k2 k3 m1 m2 m3 hs ht hg hj hxl h1
  go_enter Tryz.func73, Tryz.ntmps73
  go_wp2_with fail
  have mixed : Tryz.prog.follows Departure.mixedOrders = true := by kernel_rfl
  go_region_law_o (refine step_append_room rfl (.tmp 22) (.tmp 25) 81 rfl 101 i0 3 Tryz.underlying81 hi0 hz1 g 0 i cap (by simp [Act.eval, Act.put]) A (n - j) (cap - j) news (by simp [Act.eval, Act.put]) s1.out hsrc.out s2.out (by omega) s3.out ?_; rw [← hW.out])
  go_wp2_with fail
  go_ret
  have h := FIN.out
  rw [← e3.out] at h
  rw [← e3.out]
  exact h

end
end Go.Proofs.YtfnmjlnpfoclbaaGreat
