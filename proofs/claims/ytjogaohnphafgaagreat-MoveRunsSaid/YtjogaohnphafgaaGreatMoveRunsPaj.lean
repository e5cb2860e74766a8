/-
  Rows that a call owns: a cell of one, one written, an element of several cells put at the end. No conditions.
  Several cells of a block stored to. No conditions.
  Slices of elements of several cells, wherever they begin; what 'append' of one makes of a row of the call's own. No conditions.
  A heap that is compacted, in memory; the search of a block. No conditions but bounds.
-/
import Derived.Test.YtjogaohnphafgaaGreatMoveRunsPab
import Derived.Test.YtjogaohnphafgaaGreatMoveRunsPaa
import Derived.Deep.Upon
import Derived.Lib.AppendZeros
import Derived.Test.YtjogaohnphafgaaGreatMoveRunsPaf
import Derived.Test.YtjogaohnphafgaaGreatMoveRunsPah
import Derived.Test.YtjogaohnphafgaaGreatMoveRunsPai
import Derived.Test.YtjogaohnphafgaaGreatMoveRunsPag

namespace Go.Proofs.YtjogaohnphafgaaGreat
section
open Go.RowKit
set_option linter.unusedVariables false

theorem wrow_set {w : World} {B e size n g cap : Nat} {xs : List Value} (h : w.ownsRow B e size (.slice (some ⟨g, 0, none⟩) n cap) n xs) (j : Nat) (u : Value) : (w.setCell ⟨g, j, none⟩ u).ownsRow B e size (.slice (some ⟨g, 0, none⟩) n cap) n (xs.set j u) := by
  refine ⟨by rw [List.length_set]; exact h.1, ?_⟩
  rcases h.2 with ⟨h1, h2⟩ | ⟨g', cap', cur, h1, hb, hg, hn, hm, hs, ht⟩
  · cases h1
  · simp only [Value.slice.injEq, Option.some.injEq, Addr.mk.injEq, and_true] at h1
    obtain ⟨rfl, _, rfl⟩ := h1
    refine Or.inr ⟨g, cap, cur.setIfInBounds j u, rfl, hb, block_setCell hg j u, hn, hm, by simpa using hs, ?_⟩
    rw [Array.toList_setIfInBounds, List.take_set, ht]
theorem wrow_cell {w : World} {B e size n c : Nat} {a : Option Addr} {xs : List Value} (h : w.ownsRow B e size (.slice a n c) n xs) {j : Nat} {u : Value} (hu : xs[j]? = some u) : ∃ g, a = some ⟨g, 0, none⟩ ∧ w.cell? ⟨g, j, none⟩ = some u ∧ w.frozen? ⟨g, j, none⟩ = false := by
  rcases h.2 with ⟨hv, h0⟩ | ⟨g, cap, cur, hv, _, hg, _⟩
  · have := h.1
    have hj := (List.getElem?_eq_some_iff.1 hu).1
    rw [h0, Nat.zero_mul] at this
    omega
  · simp only [Value.slice.injEq] at hv
    obtain ⟨rfl, _, rfl⟩ := hv
    have := h.cells (g := g) rfl j _ hu
    have e1 : (⟨g, 0, none⟩ : Addr).add j = ⟨g, j, none⟩ := by unfold Addr.add; split <;> simp_all
    rw [e1] at this
    exact ⟨g, rfl, this, free_of hg j⟩

theorem wrow_sh {w : World} {B e size n : Nat} {v : Value} {xs : List Value} (h : w.ownsRow B e size v n xs) : ∃ a c, v = .slice a n c := by
  rcases h.2 with ⟨rfl, rfl⟩ | ⟨g, cap, cur, rfl, _⟩
  · exact ⟨_, _, rfl⟩
  · exact ⟨_, _, rfl⟩
/-- 'append(s, e)', where e's cells lie in the block just made. -/
theorem wpList_append_w {P : Program} {ops : Array Oper} {rest : List Oper} {o : Oper} {a : Act} {Q : Exit → Act → World → Prop} (hgd : o.guard = none) (s x : Operand) (t : TypeId)
    (ho : o.op = .call { callee := .builtin .append, args := #[s, x], argTypes := #[t, t] })
    (base : Nat) (e : TypeId) (i : TypeInfo) (z : Value) (size bytes : Nat) (ht : P.underlying t = some (.slice e)) (hi : P.info? e = some i) (hz : i.zero = some z)
    (hsize : i.size = size) (hby : i.bytes = bytes) (hzs : z.cells.size = size) (hsz : 0 < size)
    (v : Value) (n : Nat) (xs : List Value) (wr : World) (e' : TypeId) (us : List Value) (hs : a.eval s = v) (hown : wr.ownsRow base e size v n xs)
    (hx : a.eval x = .slice (some ⟨wr.heap.size, 0, none⟩) 1 1) (hl : us.length = size) (h1 : ∀ u ∈ us, u.oneCell' = true)
    (h63 : n + 1 ≤ maxLen) (hbytes : (n + 1) * bytes ≤ 140737488355328) (hbase : base ≤ wr.heap.size)
    (h : ∀ v' w', w'.ownsRow base e size v' (n + 1) (xs ++ us) → wr.grownBy w' v.ownBlock → Below base wr w' → wpList P ops Q rest (a.put o.dst v') w') :
    wpList P ops Q (o :: rest) a (wr.alloc (.cells us.toArray e')) := by
  refine wpList_append_own _ hgd s x t ho base e i z size bytes ht hi hz hsize hby hzs hsz v n xs hs (hown.alloc _) ⟨wr.heap.size, 0, none⟩ 1 1 us hx (by omega) ?_ h1 h63 hbytes (by simp; omega) ?_
  · intro j u hj
    have e1 : (⟨wr.heap.size, 0, none⟩ : Addr).add j = ⟨wr.heap.size, j, none⟩ := by unfold Addr.add; split <;> simp_all
    rw [e1, cell_of (heap_alloc_new wr _)]
    simpa using hj
  · intro v' w' hown' hg _
    refine h v' w' hown' ?_ ?_
    · exact ⟨hg.os, hg.tape, hg.output, Nat.le_trans (by simp) hg.size, fun k hk hne => (hg.block k (by simp; omega) hne).trans (heap_alloc_old wr _ hk)⟩
    · exact ((Below.refl base wr).alloc hbase _).grown hg (by simp; omega) (fun q hq => (hown.lt q hq).1)

theorem row_low {w : World} {B B' e size n : Nat} {v : Value} {xs : List Value} (h : w.ownsRow B e size v n xs) (hB : B' ≤ B) : w.ownsRow B' e size v n xs := by
  refine ⟨h.1, ?_⟩
  rcases h.2 with hn | ⟨g, cap, cur, rfl, hb, rest⟩
  · exact .inl hn
  · exact .inr ⟨g, cap, cur, rfl, Nat.le_trans hB hb, rest⟩
theorem row_kept {w w' : World} {B e size n : Nat} {v : Value} {zs : List Value} (h : w.ownsRow B e size v n zs) (hb : Below w.heap.size w w') : w'.ownsRow B e size v n zs := ownsRow_same h (fun k hk => hb.block k (h.lt k hk).2)

end
end Go.Proofs.YtjogaohnphafgaaGreat

namespace Go.Proofs.YtjogaohnphafgaaGreat
section
open Go.RowKit
set_option linter.unusedVariables false

theorem heap_setCells_other (b : Nat) : ∀ (vs : List Value) (o : Nat) (w : World) (k : Nat), k ≠ b → (w.setCells b o vs).heap[k]? = w.heap[k]?
  | [], _, _, _, _ => rfl
  | v :: vs, o, w, k, h => (heap_setCells_other b vs (o + 1) _ k h).trans (Below.heap_setCell w ⟨b, o, none⟩ v k h)
theorem size_setCells (b : Nat) : ∀ (vs : List Value) (o : Nat) (w : World), (w.setCells b o vs).heap.size = w.heap.size
  | [], _, _ => rfl
  | v :: vs, o, w => (size_setCells b vs (o + 1) _).trans (by simp [World.setCell])
theorem setCells_rest (b : Nat) : ∀ (vs : List Value) (o : Nat) (w : World), (w.setCells b o vs).os = w.os ∧ (w.setCells b o vs).tape = w.tape ∧ (w.setCells b o vs).output = w.output
  | [], _, _ => ⟨rfl, rfl, rfl⟩
  | v :: vs, o, w => setCells_rest b vs (o + 1) _
theorem block_setCells {b : Nat} {t : TypeId} : ∀ (vs : List Value) (o : Nat) (w : World) (cur : Array Value), w.heap[b]? = some (.cells cur t (0, 0)) → o + vs.length ≤ cur.size →
    ∃ cur', (w.setCells b o vs).heap[b]? = some (.cells cur' t (0, 0)) ∧ cur'.size = cur.size ∧ cur'.toList = cur.toList.take o ++ vs ++ cur.toList.drop (o + vs.length)
  | [], o, w, cur, h, _ => ⟨cur, h, rfl, by simp⟩
  | v :: vs, o, w, cur, h, hl => by
    simp at hl
    obtain ⟨cur', h1, h2, h3⟩ := block_setCells vs (o + 1) (w.setCell ⟨b, o, none⟩ v) (cur.setIfInBounds o v) (block_setCell h o v) (by simp; omega)
    refine ⟨cur', h1, by simpa using h2, ?_⟩
    rw [h3, Array.toList_setIfInBounds]
    have ho : o < cur.toList.length := by simp; omega
    rw [List.drop_set_of_lt (by omega), List.take_add_one, List.take_set_of_le (by omega), List.getElem?_set_self ho]
    simp [Nat.add_comm, Nat.add_left_comm]

end
end Go.Proofs.YtjogaohnphafgaaGreat

namespace Go.Proofs.YtjogaohnphafgaaGreat
section
open Go.RowKit
set_option linter.unusedVariables false

def Seg (w : World) (size : Nat) (v : Value) (n : Nat) (xs : List Value) : Prop :=
  xs.length = n * size ∧ (∀ u ∈ xs, u.oneCell' = true) ∧ ∃ a cap, v = .slice a n cap ∧ n ≤ cap ∧ cap ≤ 9223372036854775807 ∧ ∀ j u, xs[j]? = some u → ∃ b o, a = some ⟨b, o, none⟩ ∧ w.cell? ⟨b, o + j, none⟩ = some u
theorem Seg.below {w w' : World} {size : Nat} {v : Value} {n : Nat} {xs : List Value} (h : Seg w size v n xs) (hb : Below w.heap.size w w') : Seg w' size v n xs := by
  obtain ⟨h1, h2, a, c, h3, h4, h5, h6⟩ := h
  refine ⟨h1, h2, a, c, h3, h4, h5, fun j u hu => ?_⟩
  obtain ⟨b, o, e, hc⟩ := h6 j u hu
  exact ⟨b, o, e, (hb.cell (p := ⟨b, o + j, none⟩) (World.block_lt_of_cell? w _ hc)).trans hc⟩
theorem Seg.of_row {w : World} {B e size : Nat} {v : Value} {n : Nat} {xs : List Value} (h : w.ownsRow B e size v n xs) (h1 : ∀ u ∈ xs, u.oneCell' = true) : Seg w size v n xs := by
  refine ⟨h.1, h1, ?_⟩
  obtain ⟨a, c, rfl⟩ := wrow_sh h
  have hle : n ≤ c ∧ c ≤ 9223372036854775807 := by
    rcases h.2 with ⟨hv, h0⟩ | ⟨g, cap, cur, hv, _, _, hn, hm, _⟩
    · simp only [Value.slice.injEq] at hv; omega
    · simp only [Value.slice.injEq] at hv
      have : cap ≤ 9223372036854775807 := hm
      omega
  refine ⟨a, c, rfl, hle.1, hle.2, fun j u hu => ?_⟩
  obtain ⟨g, rfl, hc, _⟩ := wrow_cell h hu
  exact ⟨g, 0, rfl, by rw [Nat.zero_add]; exact hc⟩

/-- 'append(v, s...)' onto a row of the call's own, whatever s is. -/
theorem wpList_append_seg {P : Program} {ops : Array Oper} {rest : List Oper} {o : Oper} {a : Act} {Q : Exit → Act → World → Prop} (hgd : o.guard = none) (s x : Operand) (t : TypeId)
    (ho : o.op = .call { callee := .builtin .append, args := #[s, x], argTypes := #[t, t] })
    (base : Nat) (e : TypeId) (i : TypeInfo) (z : Value) (size bytes : Nat) (ht : P.underlying t = some (.slice e)) (hi : P.info? e = some i) (hz : i.zero = some z)
    (hsize : i.size = size) (hby : i.bytes = bytes) (hzs : z.cells.size = size) (hsz : 0 < size)
    (w : World) (v : Value) (n : Nat) (xs : List Value) (hs : a.eval s = v) (hown : w.ownsRow base e size v n xs)
    (sv : Value) (m : Nat) (zs : List Value) (hx : a.eval x = sv) (hr : Seg w size sv m zs) (h63 : n + m ≤ maxLen) (hbytes : (n + m) * bytes ≤ 140737488355328) (hbase : base ≤ w.heap.size)
    (h : ∀ v' w', w'.ownsRow base e size v' (n + m) (xs ++ zs) → w.grownBy w' v.ownBlock → wpList P ops Q rest (a.put o.dst v') w') :
    wpList P ops Q (o :: rest) a w := by
  obtain ⟨hl, h1, sa, cap, rfl, hle, hcap, hc⟩ := hr
  cases sa with
  | none =>
    have hz : zs = [] := by
      rcases List.eq_nil_or_concat zs with h' | ⟨l, y, h'⟩
      · exact h'
      · obtain ⟨b, o, h1, _⟩ := hc l.length y (by rw [h']; simp)
        cases h1
    subst hz
    have hm : m = 0 := by
      rcases Nat.eq_zero_or_pos m with e | e
      · exact e
      · have := Nat.mul_pos e hsz
        simp at hl
        omega
    subst hm
    obtain ⟨a1, c1, rfl⟩ := wrow_sh hown
    have h1' : n ≤ c1 := by
      rcases hown.2 with ⟨hv, h0⟩ | ⟨g, cap', cur, hv, _, _, hn, _⟩
      · simp only [Value.slice.injEq] at hv; omega
      · simp only [Value.slice.injEq] at hv; omega
    refine wpList_plain hgd fun K hK => ?_
    have hrun := run_append_nothing (P := P) w t t o.type e i ht hi a1 n c1 h1' (.slice none 0 cap) (Src.ofNil w ht cap)
    unfold Oper.wp execOp
    simp only [ho, resolve, invoke, builtin, Sem.run_bind, Sem.run_pure, Result.andThen_ok, List.map_toArray, List.map_cons, List.map_nil, hs, hx, hrun]
    exact hK _ _ (h _ _ (by simpa using hown) (World.grownBy.refl _ _))
  | some ad =>
    refine wpList_append_own _ hgd s x t ho base e i z size bytes ht hi hz hsize hby hzs hsz v n _ hs hown ad m cap zs hx hl ?_ h1 h63 hbytes hbase ?_
    · intro j u hu
      obtain ⟨b, o, e', hcell⟩ := hc j u hu
      cases e'
      have e1 : (⟨b, o, none⟩ : Addr).add j = ⟨b, o + j, none⟩ := by unfold Addr.add; split <;> simp_all
      rw [e1]
      exact hcell
    · intro v' w' h2 h3 _
      exact h v' w' h2 h3

/-- 'append(nil, make([]T, n)...)'. -/
theorem wpList_append_zeros_of {P : Program} {ops : Array Oper} {rest : List Oper} {o : Oper} {a : Act} {Q : Exit → Act → World → Prop} (hgd : o.guard = none) (s x : Operand) (t tn : TypeId)
    (ho : o.op = .call { callee := .builtin .append, args := #[s, x], argTypes := #[t, tn] })
    (e : TypeId) (i : TypeInfo) (z : Value) (size bytes : Nat) (ht : P.underlying t = some (.slice e)) (htn : P.underlying tn = some (.int .i64)) (hi : P.info? e = some i) (hz : i.zero = some z)
    (hsize : i.size = size) (hby : i.bytes = bytes) (hzs : z.cells.size = size) (hsz : 0 < size)
    (w : World) (n : Nat) (hs : a.eval s = .slice none 0 0) (hx : a.eval x = .int .i64 n) (h0 : 0 < n) (h63 : n ≤ 1000000000) (hbs : n * bytes ≤ 140737488355328)
    (h : ∀ cap w', n ≤ cap → w'.ownsRow w.heap.size e size (.slice (some ⟨w.heap.size, 0, none⟩) 0 cap) 0 [] → Below w.heap.size w w' → wpList P ops Q rest (a.put o.dst (.slice (some ⟨w.heap.size, 0, none⟩) n cap)) w') :
    wpList P ops Q (o :: rest) a w := by
  subst hsize
  subst hby
  have hrun := Lib.run_append_nil_zeros (P := P) w t tn o.type e i z .i64 .i64 ht htn hi hz n h0 hsz (by omega) (by omega)
  refine wpList_plain hgd fun K hK => ?_
  unfold Oper.wp execOp
  simp only [ho, resolve, invoke, builtin, Sem.run_bind, Sem.run_pure, Result.andThen_ok, List.map_toArray, List.map_cons, List.map_nil, hs, hx, hrun]
  have hge := grownCap_ge w n 0 e
  refine hK _ _ (h _ _ hge ?_ ?_)
  · refine ⟨by simp, Or.inr ⟨_, _, _, rfl, Nat.le_refl _, heap_alloc_new _ _, Nat.zero_le _, grownCap_le_maxLen _ _ _ _ (by unfold maxLen; omega), ?_, by simp⟩⟩
    simp only [Array.size_append, size_zeroCells, hzs]
    rw [← Nat.add_mul]
    congr 1
    omega
  · exact ((Below.refl _ w).drew).alloc (Nat.le_refl _) _

end
end Go.Proofs.YtjogaohnphafgaaGreat

namespace Go.Proofs.YtjogaohnphafgaaGreat
section
open Go.RowKit
set_option linter.unusedVariables false

theorem within_move_yes (n lo hi : Int) (w : World) (h1 : lo ≤ n) (h2 : n ≤ hi) :
    Calls Tryz.prog 35 #[.int .i64 n, .int .i64 lo, .int .i64 hi] w fun e w' => e = .returned (.bool true) ∧ w = w' := by
  go_enter Tryz.func35, Tryz.ntmps35
  go_wp2
  go_ret
  exact ⟨rfl, rfl⟩
theorem within_move_no (n lo hi : Int) (w : World) (h : ¬ (lo ≤ n ∧ n ≤ hi)) :
    Calls Tryz.prog 35 #[.int .i64 n, .int .i64 lo, .int .i64 hi] w fun e w' => e = .returned (.bool false) ∧ w = w' := by
  by_cases h1 : lo ≤ n
  · have h2 : hi < n := by omega
    clear h
    go_enter Tryz.func35, Tryz.ntmps35
    go_wp2
    go_ret
    first | exact ⟨rfl, rfl⟩ | exact ⟨ret_bool (decide_eq_false (by omega)), rfl⟩
  · have h2 : n < lo := by omega
    clear h h1
    go_enter Tryz.func35, Tryz.ntmps35
    go_wp2
    go_ret
    first | exact ⟨rfl, rfl⟩ | exact ⟨ret_bool (decide_eq_false (by omega)), rfl⟩

/-- A block: its handle, where it lies, its length. -/
structure Blk where
  h : Nat
  at' : Nat
  len : Nat
instance : Inhabited Blk := ⟨⟨0, 0, 0⟩⟩
def Blk.cells (x : Blk) : List Value := [.int .i64 (x.h : Int), .int .i64 (x.at' : Int), .int .i64 (x.len : Int)]
theorem blk_get (qs : List Blk) (i r : Nat) (x : Blk) (h : qs[i]? = some x) (hr : r < 3) : (qs.flatMap Blk.cells)[i * 3 + r]? = x.cells[r]? := by
  induction qs generalizing i with
  | nil => simp at h
  | cons y qs ih =>
    rw [List.flatMap_cons]
    cases i with
    | zero =>
      simp at h
      subst h
      rw [Nat.zero_mul, Nat.zero_add, List.getElem?_append_left (by show r < 3; exact hr)]
    | succ i =>
      have e : (i + 1) * 3 + r = y.cells.length + (i * 3 + r) := by show _ = 3 + _; omega
      rw [e, List.getElem?_append_right (Nat.le_add_right _ _), Nat.add_sub_cancel_left]
      exact ih i (by simpa using h)
theorem blk_len (qs : List Blk) : (qs.flatMap Blk.cells).length = qs.length * 3 := by
  induction qs with
  | nil => rfl
  | cons y qs ih => rw [List.flatMap_cons, List.length_append, ih]; show 3 + _ = _; simp; omega
/-- The heap's state. -/
structure HpSt where
  k : Int
  s : Int
  m : Int
  closed : Bool
  mem : List Int
  bl : List Blk
  last : Nat
  count : Nat
  hist : List (List Blk)
/-- The memory's shape: none, or a block of that size. -/
def memSh (vm : Value) (n : Nat) : Prop := (vm = .slice none 0 0 ∧ n = 0) ∨ ∃ g, vm = .slice (some ⟨g, 0, none⟩) n n
structure HpMem (w : World) (F : Nat → Prop) (hp bp : Nat) (S : HpSt) (vm vb vh : Value) (vhs : List Value) : Prop where
  self : w.heap[hp]? = some (.cells #[.pointer (some ⟨bp, 0, none⟩), .int .i64 1, .int .i64 S.k, .int .i64 S.s, .int .i64 S.m, .bool S.closed, vm, vb, .int .i64 (S.last : Int), .int .i64 (S.count : Int), vh] 75 (0, 0))
  fh : F hp
  mem : w.ownsRow 0 5 1 vm S.mem.length (S.mem.map (Value.int .u8)) ∧ ∀ k, vm.ownBlock = some k → F k
  mb : bytes S.mem
  msh : memSh vm S.mem.length
  row : w.ownsRow 0 78 3 vb S.bl.length (S.bl.flatMap Blk.cells) ∧ ∀ k, vb.ownBlock = some k → F k
  hrow : w.ownsRow 0 39 1 vh S.hist.length vhs ∧ ∀ k, vh.ownBlock = some k → F k
  hs : vhs.length = S.hist.length ∧ ∀ (i : Nat) (v : Value) (l : List Blk), vhs[i]? = some v → S.hist[i]? = some l → w.ownsRow 0 78 3 v l.length (l.flatMap Blk.cells) ∧ ∀ k, v.ownBlock = some k → F k ∧ vb.ownBlock ≠ some k
  ord : (S.bl.map Blk.h).Pairwise (· < ·)
  hb : ∀ x ∈ S.bl, 1 ≤ x.h ∧ x.h ≤ S.last ∧ x.at' + x.len ≤ S.mem.length
  big : S.mem.length ≤ 100000 ∧ S.bl.length ≤ 500 ∧ S.last ≤ 1000000000 ∧ S.count ≤ 1000000000 ∧ S.hist.length ≤ 9
theorem HpMem.same {w w' : World} {F : Nat → Prop} {hp bp : Nat} {S : HpSt} {vm vb vh : Value} {vhs : List Value} (m : HpMem w F hp bp S vm vb vh vhs) (hs : ∀ k, F k → k < w.heap.size → w'.heap[k]? = w.heap[k]?) : HpMem w' F hp bp S vm vb vh vhs :=
  ⟨(hs _ m.fh (lt_of m.self)).trans m.self, m.fh, ⟨ownsRow_same m.mem.1 (fun k hk => hs k (m.mem.2 k hk) (m.mem.1.lt k hk).2), m.mem.2⟩, m.mb, m.msh, ⟨ownsRow_same m.row.1 (fun k hk => hs k (m.row.2 k hk) (m.row.1.lt k hk).2), m.row.2⟩, ⟨ownsRow_same m.hrow.1 (fun k hk => hs k (m.hrow.2 k hk) (m.hrow.1.lt k hk).2), m.hrow.2⟩,
    ⟨m.hs.1, fun i v l h1 h2 => ⟨ownsRow_same (m.hs.2 i v l h1 h2).1 (fun k hk => hs k ((m.hs.2 i v l h1 h2).2 k hk).1 ((m.hs.2 i v l h1 h2).1.lt k hk).2), (m.hs.2 i v l h1 h2).2⟩⟩, m.ord, m.hb, m.big⟩
theorem HpMem.below {w w' : World} {F : Nat → Prop} {hp bp : Nat} {S : HpSt} {vm vb vh : Value} {vhs : List Value} (m : HpMem w F hp bp S vm vb vh vhs) (hb : Below w.heap.size w w') : HpMem w' F hp bp S vm vb vh vhs := m.same (fun k _ hk => hb.block k hk)
theorem HpMem.cells {w : World} {F : Nat → Prop} {hp bp : Nat} {S : HpSt} {vm vb vh : Value} {vhs : List Value} (m : HpMem w F hp bp S vm vb vh vhs) :
    w.cell? ⟨hp, 0, none⟩ = some (.pointer (some ⟨bp, 0, none⟩)) ∧ w.cell? ⟨hp, 1, none⟩ = some (.int .i64 1) ∧ w.cell? ⟨hp, 2, none⟩ = some (.int .i64 S.k) ∧ w.cell? ⟨hp, 3, none⟩ = some (.int .i64 S.s) ∧ w.cell? ⟨hp, 4, none⟩ = some (.int .i64 S.m) ∧ w.cell? ⟨hp, 5, none⟩ = some (.bool S.closed) ∧
      w.cell? ⟨hp, 6, none⟩ = some vm ∧ w.cell? ⟨hp, 7, none⟩ = some vb ∧ w.cell? ⟨hp, 8, none⟩ = some (.int .i64 (S.last : Int)) ∧ w.cell? ⟨hp, 9, none⟩ = some (.int .i64 (S.count : Int)) ∧ w.cell? ⟨hp, 10, none⟩ = some vh := by
  refine ⟨?_, ?_, ?_, ?_, ?_, ?_, ?_, ?_, ?_, ?_, ?_⟩ <;> (rw [cell_of m.self]; rfl)
/-- The cells of a block of a row. -/
theorem blk_cells {w : World} {v : Value} {l : List Blk} {i : Nat} {x : Blk} (h : w.ownsRow 0 78 3 v l.length (l.flatMap Blk.cells)) (hs : l[i]? = some x) :
    ∃ g cap, v = .slice (some ⟨g, 0, none⟩) l.length cap ∧ w.cell? ⟨g, i * 3, none⟩ = some (.int .i64 (x.h : Int)) ∧ w.cell? ⟨g, i * 3 + 1, none⟩ = some (.int .i64 (x.at' : Int)) ∧ w.cell? ⟨g, i * 3 + 2, none⟩ = some (.int .i64 (x.len : Int)) ∧ ∀ j, w.frozen? ⟨g, j, none⟩ = false := by
  have hi : i < l.length := (List.getElem?_eq_some_iff.1 hs).1
  have hsh : ∃ g cap, v = .slice (some ⟨g, 0, none⟩) l.length cap := by
    rcases h.2 with ⟨h1, h2⟩ | ⟨g, cap', cur, h1, _⟩
    · omega
    · exact ⟨g, cap', h1⟩
  obtain ⟨g, cap, rfl⟩ := hsh
  have key : ∀ r (u : Value), r < 3 → x.cells[r]? = some u → w.cell? ⟨g, i * 3 + r, none⟩ = some u := fun r u hr hu => by
    obtain ⟨g', hg, hc, _⟩ := wrow_cell h (j := i * 3 + r) (u := u) (by rw [blk_get l i r x hs hr]; exact hu)
    cases hg
    exact hc
  obtain ⟨cur, hc⟩ := row_block h (k := g) (by simp [Value.ownBlock])
  exact ⟨g, cap, rfl, key 0 _ (by decide) rfl, key 1 _ (by decide) rfl, key 2 _ (by decide) rfl, fun j => free_of hc _⟩

/-- Where a handle stands. -/
def findB : List Blk → Int → Option (Nat × Blk)
  | [], _ => none
  | x :: l, h => if (x.h : Int) = h then some (0, x) else (findB l h).map fun p => (p.1 + 1, p.2)
theorem findB_at : ∀ {l : List Blk} {h : Int} {i : Nat} {x : Blk}, findB l h = some (i, x) → l[i]? = some x ∧ (x.h : Int) = h
  | [], h, i, x, e => by simp [findB] at e
  | y :: l, h, i, x, e => by
    unfold findB at e
    split at e
    · next hy =>
      cases e
      exact ⟨rfl, hy⟩
    · obtain ⟨⟨j, z⟩, h1, h2⟩ := Option.map_eq_some_iff.1 e
      simp only [Prod.mk.injEq] at h2
      obtain ⟨rfl, rfl⟩ := h2
      have := findB_at h1
      exact ⟨by simpa using this.1, this.2⟩
theorem findB_hit {l : List Blk} {h : Int} {k : Nat} {x : Blk} (hx : l[k]? = some x) (hh : (x.h : Int) = h) (hb : findB (l.take k) h = none) : findB l h = some (k, x) := by
  induction l generalizing k with
  | nil => simp at hx
  | cons y l ih =>
    cases k with
    | zero =>
      simp at hx
      subst hx
      unfold findB
      rw [if_pos hh]
    | succ k =>
      rw [List.take_succ_cons] at hb
      unfold findB at hb ⊢
      split at hb
      · cases hb
      · next hy =>
        rw [if_neg hy]
        have h1 : findB (l.take k) h = none := by
          cases hf : findB (l.take k) h with
          | none => rfl
          | some p => rw [hf] at hb; cases hb
        rw [ih (by simpa using hx) h1]
        rfl
theorem findB_next {l : List Blk} {h : Int} {k : Nat} {x : Blk} (hx : l[k]? = some x) (hh : ¬ (x.h : Int) = h) (hb : findB (l.take k) h = none) : findB (l.take (k + 1)) h = none := by
  induction l generalizing k with
  | nil => simp at hx
  | cons y l ih =>
    cases k with
    | zero =>
      simp at hx
      subst hx
      rw [List.take_succ_cons, List.take_zero]
      unfold findB
      rw [if_neg hh]
      rfl
    | succ k =>
      rw [List.take_succ_cons] at hb ⊢
      unfold findB at hb ⊢
      split at hb
      · cases hb
      · next hy =>
        rw [if_neg hy]
        have h1 : findB (l.take k) h = none := by
          cases hf : findB (l.take k) h with
          | none => rfl
          | some p => rw [hf] at hb; cases hb
        rw [ih (by simpa using hx) h1]
        rfl
def fndE (S : HpSt) (h : Int) : Int := if S.closed then 11 else if ¬ (1 ≤ h ∧ h ≤ (S.last : Int)) then 7 else match findB S.bl h with | none => 13 | some _ => 0
/-- What find gives. -/
def FdPost (S : HpSt) (vb : Value) (h : Int) (w : World) : Ending → World → Prop := fun e w' => w' = w ∧
  ((fndE S h ≠ 0 ∧ e = .returned (.tuple #[.pointer none, .int .i64 (fndE S h)])) ∨ (fndE S h = 0 ∧ ∃ i x g cap, findB S.bl h = some (i, x) ∧ vb = .slice (some ⟨g, 0, none⟩) S.bl.length cap ∧ e = .returned (.tuple #[.pointer (some ⟨g, i * 3, none⟩), .int .i64 0])))

set_option maxHeartbeats 4000000 in
set_option maxRecDepth 100000 in
theorem findM_any {w : World} {F : Nat → Prop} {hp bp : Nat} {S : HpSt} {vm vb vh : Value} {vhs : List Value} (m : HpMem w F hp bp S vm vb vh vhs) (h : Int) :
    Calls Tryz.prog 39 #[.pointer (some ⟨hp, 0, none⟩), .int .i64 h] w (FdPost S vb h w) := by
  obtain ⟨c0, c1, c2, c3, c4, c5, c6, c7, c8, c9, c10⟩ := m.cells
  have hl1 := m.big.2.2.1
  cases hc : S.closed with
  | true =>
    rw [hc] at c5
    have FIN : Hid (FdPost S vb h w (.returned (.tuple #[.pointer none, .int .i64 11])) w) := Lib.hid ⟨rfl, Or.inl ⟨by unfold fndE; rw [hc]; simp, by unfold fndE; rw [hc]; rfl⟩⟩
    clear m hc
    go_enter Tryz.func39, Tryz.ntmps39
    go_wp2_with fail
    go_ret2
    exact FIN.out
  | false =>
    rw [hc] at c5
    by_cases hin : 1 ≤ h ∧ h ≤ (S.last : Int)
    · have W1 := Lib.hid (within_move_yes h 1 (S.last : Int) w hin.1 hin.2)
      have HM := Lib.hid m
      have E0 := Lib.hid (show fndE S h = (match findB S.bl h with | none => 13 | some _ => 0) by unfold fndE; rw [hc]; simp [hin])
      obtain ⟨L, hL⟩ : ∃ L, S.bl.length = L := ⟨_, rfl⟩
      have HL := Lib.hid hL
      have hfew := m.big.2.1
      obtain ⟨a, cap, hvb⟩ := wrow_sh m.row.1
      have HVB := Lib.hid hvb
      rw [hvb, hL] at c7
      rw [hL] at hfew
      clear m hc hin hL hvb
      go_enter Tryz.func39, Tryz.ntmps39
      go_wp2_with fail
      refine W1.out.mono ?_
      rintro e w2 ⟨rfl, hw2⟩
      obtain rfl := hw2
      clear W1
      go_wp2_with fail
      go_loopw [23] (fun i wr => ∃ k : Nat, k ≤ L ∧ i = .int .i64 (k : Int) ∧ wr = w ∧ findB (S.bl.take k) h = none) (fun i _ => L - (intOf i).toNat)
      case atStart => exact ⟨0, Nat.zero_le _, rfl, rfl, rfl⟩
      case round =>
        obtain ⟨k, hk, rfl, hwr, hnone⟩ := hrel
        obtain rfl := hwr.symm
        clear hwr
        by_cases hlt : k < L
        · obtain ⟨x, hx⟩ : ∃ x, S.bl[k]? = some x := ⟨_, List.getElem?_eq_getElem (by have := HL.out; omega)⟩
          obtain ⟨g, cap2, hv2, d0, _, _, _⟩ := blk_cells HM.out.row.1 hx
          have hv3 := HVB.out
          rw [hv2] at hv3
          simp only [Value.slice.injEq] at hv3
          obtain ⟨rfl, k6, rfl⟩ := hv3
          clear k6
          by_cases hh : (x.h : Int) = h
          · have hf := findB_hit hx hh hnone
            have FIN : Hid (FdPost S vb h w (.returned (.tuple #[.pointer (some ⟨g, k * 3, none⟩), .int .i64 0])) w) := Lib.hid ⟨rfl, Or.inr ⟨by rw [E0.out, hf], k, x, g, cap2, hf, hv2, rfl⟩⟩
            clear hf hx hnone hv2
            go_wp2_with fail
            go_ret2
            exact FIN.out
          · have hf := Lib.hid (findB_next hx hh hnone)
            clear hx hnone hv2
            go_wp2_with fail
            go_roundw
            case measure => simp only [intOf]; omega
            case rel => exact ⟨k + 1, by omega, by go_num, by trivial, hf.out⟩
        · obtain rfl : k = L := by omega
          have ek : S.bl.take k = S.bl := List.take_of_length_le (by have := HL.out; omega)
          rw [ek] at hnone
          have FIN : Hid (FdPost S vb h w (.returned (.tuple #[.pointer none, .int .i64 13])) w) := Lib.hid ⟨rfl, Or.inl ⟨by rw [E0.out, hnone]; decide, by rw [E0.out, hnone]⟩⟩
          clear hnone ek
          go_wp2_with fail
          go_ret2
          exact FIN.out
    · have W1 := Lib.hid (within_move_no h 1 (S.last : Int) w hin)
      have FIN : Hid (FdPost S vb h w (.returned (.tuple #[.pointer none, .int .i64 7])) w) := Lib.hid ⟨rfl, Or.inl ⟨by unfold fndE; rw [hc]; simp [hin], by unfold fndE; rw [hc]; simp [hin]⟩⟩
      clear m hc hin
      go_enter Tryz.func39, Tryz.ntmps39
      go_wp2_with fail
      refine W1.out.mono ?_
      rintro e w2 ⟨rfl, hw2⟩
      obtain rfl := hw2
      clear W1
      go_wp2_with fail
      go_ret2
      exact FIN.out

end
end Go.Proofs.YtjogaohnphafgaaGreat
