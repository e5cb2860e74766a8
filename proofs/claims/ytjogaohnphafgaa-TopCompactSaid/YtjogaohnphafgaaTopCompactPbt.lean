/-
  A map of rows of octets, and a map of ints to whether. No conditions but bounds. (Printed by plmap.py.)
-/
import Derived.Test.YtjogaohnphafgaaTopCompactPbs
import Derived.Test.YtjogaohnphafgaaTopCompactPab
import Derived.Test.YtjogaohnphafgaaTopCompactPak
import Derived.Test.YtjogaohnphafgaaTopCompactPae
import Derived.Maps.OwnSet
import Derived.Maps.RangeWalk
import Derived.Test.YtjogaohnphafgaaTopCompactPaj
namespace Go.Proofs.Ytjogaohnphafgaa
open Go.RowKit Go.ChangeMaps Go.MapKept Go.Maps
set_option linter.unusedVariables false

theorem map_empty {P : Program} {k : TypeId} {R : Value → Option (DataW Unit × List MemPlace)} {w : World} {b c : Nat} (h : w.heap[b]? = some (.map #[] c)) : w.ownsMap P k R b 0 (.map []) := ⟨#[], c, h, ⟨by simp, stamped_empty c, by simp⟩, Nat.le_refl _, rfl⟩
def lookN {α : Type} (l : List (Nat × α)) (k : Int) : Option α := (l.find? (fun p => decide ((p.1 : Int) = k))).map Prod.snd
theorem lookN_mem {α : Type} {l : List (Nat × α)} {k : Int} {x : α} (h : lookN l k = some x) : ∃ n : Nat, (n : Int) = k ∧ (n, x) ∈ l := by
  unfold lookN at h
  obtain ⟨p, hp, rfl⟩ := Option.map_eq_some_iff.1 h
  have h1 := List.mem_of_find?_eq_some hp
  have h2 := List.find?_some hp
  exact ⟨p.1, by simpa using h2, h1⟩

theorem lookN_snoc {α : Type} : ∀ (l : List (Nat × α)) (n : Nat) (x : α) (k : Int), (∀ p ∈ l, p.1 ≠ n) → lookN (l ++ [(n, x)]) k = if (n : Int) = k then some x else lookN l k
  | [], n, x, k, _ => by
    by_cases h : (n : Int) = k
    · simp [lookN, h]
    · simp [lookN, h]
  | p :: l, n, x, k, hp => by
    have ih := lookN_snoc l n x k (fun q hq => hp q (by simp [hq]))
    have hne := hp p (by simp)
    unfold lookN at *
    rw [List.cons_append, List.find?_cons, List.find?_cons]
    by_cases h : (p.1 : Int) = k
    · have h2 : ¬ (n : Int) = k := by omega
      simp [h, h2]
    · simp only [h, decide_false]
      exact ih
theorem lookN_none {α : Type} {l : List (Nat × α)} {n : Nat} (h : ∀ p ∈ l, p.1 ≠ n) : lookN l (n : Int) = none := by
  unfold lookN
  rw [Option.map_eq_none_iff, List.find?_eq_none]
  intro p hp
  have := h p hp
  simp
  omega

theorem step_update_here {P : Program} {ops : Array Oper} {o : Oper} {a : Act} {w w' : World} {K : Act → World → Prop} {Q : Exit → Act → World → Prop} {E : Prop} (hg : o.guard = none) (m x v : Operand) (t : TypeId)
    (hop : o.op = Op.mapUpdate t m x v) (v1 v2 v3 : Value) (hm : a.eval m = v1) (hx : a.eval x = v2) (hv : a.eval v = v3) (hr : (Instr.mapUpdate t v1 v2 v3).run P w = .ok () w') (h : K (a.put o.dst undef) w') :
    if Region.wanted o (yielded ops a.tmps) = true then Oper.wp P o a w K Q else E := by
  have hw : Region.wanted o (yielded ops a.tmps) = true := by simp [Region.wanted, hg]
  rw [if_pos hw]
  unfold Oper.wp
  simp [execOp, hop, hm, hx, hv, hr, Result.andThen]
  exact h


theorem ownsMap_tight {w : World} {k : TypeId} {R : Value → Option (DataW Unit × List MemPlace)} {b n : Nat} {D : DataW Unit} (h : w.ownsMap Try.prog k R b n D) : w.ownsMap Try.prog k R b (Maps.size D) D := by
  obtain ⟨es, clock, hb, F, hs, hD⟩ := h
  refine ⟨es, clock, hb, F, ?_, hD⟩
  subst hD
  have e1 : Maps.size (DataW.map (List.foldr DataW.insert [] (List.map (WideElems.rg Try.prog k R) es.toList))) = es.size := by simp [Maps.size, length_sorted]
  rw [e1]
  exact Nat.le_refl _


/-- A map of ints to whether. -/
def KpM (w : World) (b n : Nat) (K : Int → Bool) : Prop := ∃ D : DataW Unit, w.ownsMap Try.prog 3 (plainElem Try.prog 4) b n D ∧ ∀ k : Int, D.atKey (.int .i64 k) (.lit (.bool false)) = .lit (.bool (K k))
theorem KpM.same {w w' : World} {b n : Nat} {K : Int → Bool} (h : KpM w b n K) (hs : w'.heap[b]? = w.heap[b]?) : KpM w' b n K := by
  obtain ⟨D, ⟨es, clock, h1, h2⟩, h3⟩ := h
  exact ⟨D, ⟨es, clock, hs.trans h1, h2⟩, h3⟩
theorem KpM.lt {w : World} {b n : Nat} {K : Int → Bool} (h : KpM w b n K) : b < w.heap.size := by
  obtain ⟨D, h1, _⟩ := h
  exact h1.lt
theorem KpM.notCells {w : World} {b n : Nat} {K : Int → Bool} (h : KpM w b n K) : ∃ es c, w.heap[b]? = some (.map es c) := by
  obtain ⟨D, ⟨es, clock, h1, h2⟩, h3⟩ := h
  exact ⟨es, clock, h1⟩
theorem KpM.new (w : World) : KpM (w.alloc (.map #[] 0)) w.heap.size 0 (fun _ => false) := by
  refine ⟨.map [], World.ownsMap_made (H := Unit) w Try.prog 3 (plainElem Try.prog 4), fun k => rfl⟩
theorem KpM.put {w : World} {b n : Nat} {K : Int → Bool} (h : KpM w b n K) (x : Int) (hx : -9223372036854775808 ≤ x ∧ x ≤ 9223372036854775807) (hn : n < 1000000000) :
    ∃ w', (Instr.mapUpdate 33 (.map (some b)) (.int .i64 x) (.bool true)).run Try.prog w = .ok () w' ∧ KpM w' b (n + 1) (fun k => K k || decide (k = x)) ∧ w.grownBy w' (some b) := by
  obtain ⟨D, h1, h3⟩ := h
  have hkey := Maps.keyOf_int_mk (P := Try.prog) (k := 3) Try.underlying3 (a := x) (WalkArith.wf_i64 hx)
  have ismap := h1.isMap
  obtain ⟨w', hrun, hm, hg⟩ := h1.update (Maps.int_keyed Try.underlying3) Try.underlying33 (by unfold maxLen; omega) hkey (val := .bool true) (plainElem_bool Try.underlying4 true)
  refine ⟨w', hrun, ⟨_, hm, fun k => ?_⟩, hg⟩
  by_cases e : x = k
  · subst e
    rw [Maps.atKey_put_same ismap (by simp [WideAt.IsKeyLit])]
    simp
  · rw [Maps.atKey_put_other (by simp; omega), h3 k]
    have e' : ¬ k = x := fun h => e h.symm
    simp [e']
set_option maxRecDepth 100000 in
theorem KpM.look {w : World} {b n : Nat} {K : Int → Bool} (h : KpM w b n K) (x : Int) (hx : -9223372036854775808 ≤ x ∧ x ≤ 9223372036854775807) :
    (Instr.lookup 33 (.map (some b)) (.int .i64 x) false).run Try.prog w = .ok (.bool (K x)) w := by
  obtain ⟨D, h1, h3⟩ := h
  have hz : (zeroValue 4).run Try.prog w = .ok (.bool false) w := by kernel_rfl
  obtain ⟨v, ps, hrun, hv⟩ := h1.lookup (Maps.int_keyed Try.underlying3) Try.underlying33 hz (zd := .lit (.bool false)) (zp := []) (plainElem_bool Try.underlying4 false) (Maps.keyOf_int_mk Try.underlying3 (WalkArith.wf_i64 hx))
  rw [h3 x] at hv
  have hb : v = .bool (K x) := by
    unfold plainElem at hv
    rw [Try.underlying4] at hv
    cases v <;> simp at hv
    rw [hv.1]
  rw [hrun, hb]

theorem rowElem_shape {v : Value} {y : DataW Unit × List MemPlace} (e : rowElem v = some y) : ∃ c : Option (Nat × Nat × Nat), v = rowOf c := by
  unfold rowElem at e
  split at e
  · exact ⟨none, rfl⟩
  · next g n c => exact ⟨some (g, n, c), rfl⟩
  · cases e

theorem lookN_of_mem {α : Type} : ∀ {l : List (Nat × α)} {n : Nat} {x : α}, (l.map Prod.fst).Nodup → (n, x) ∈ l → lookN l (n : Int) = some x
  | [], _, _, _, h => by simp at h
  | p :: l, n, x, hn, h => by
    rw [List.map_cons, List.nodup_cons] at hn
    unfold lookN
    rw [List.find?_cons]
    rcases List.mem_cons.1 h with rfl | h
    · simp
    · have hne : ¬ ((p.1 : Int) = (n : Int)) := fun e => hn.1 (by
        have e' : p.1 = n := by omega
        rw [e']
        exact List.mem_map.2 ⟨_, h, rfl⟩)
      simp only [hne, decide_false]
      exact lookN_of_mem hn.2 h
theorem lookN_filter {α : Type} (q : Int → Bool) : ∀ (l : List (Nat × α)) (k : Int), lookN (l.filter fun p => q (p.1 : Int)) k = if q k then lookN l k else none
  | [], k => by simp [lookN]
  | p :: l, k => by
    have ih := lookN_filter q l k
    rw [List.filter_cons]
    by_cases hp : q (p.1 : Int) = true
    · rw [if_pos hp]
      unfold lookN at *
      rw [List.find?_cons, List.find?_cons]
      by_cases e : (p.1 : Int) = k
      · simp only [e, decide_true, Option.map_some]
        rw [← e, hp, if_pos rfl]
      · simp only [e, decide_false]
        exact ih
    · rw [if_neg hp, ih]
      by_cases e : (p.1 : Int) = k
      · rw [← e, if_neg hp, if_neg hp]
      · have e2 : lookN (p :: l) k = lookN l k := by
          unfold lookN
          rw [List.find?_cons]
          simp only [e, decide_false]
        rw [e2]
/-- One less. -/
theorem filter_less {α : Type} {q q' : Int → Bool} {n : Nat} (hq : q (n : Int) = true) (hq' : q' (n : Int) = false) (ho : ∀ k : Int, k ≠ n → q' k = q k) : ∀ {l : List (Nat × α)}, (l.map Prod.fst).Nodup → (∃ x, (n, x) ∈ l) → (l.filter fun p => q' (p.1 : Int)).length + 1 = (l.filter fun p => q (p.1 : Int)).length
  | [], _, h => by obtain ⟨x, h⟩ := h; simp at h
  | p :: l, hn, h => by
    rw [List.map_cons, List.nodup_cons] at hn
    rw [List.filter_cons, List.filter_cons]
    by_cases e : p.1 = n
    · have e1 : (l.filter fun p => q' (p.1 : Int)) = l.filter fun p => q (p.1 : Int) := List.filter_congr (fun r hr => ho _ (fun e2 => hn.1 (List.mem_map.2 ⟨r, hr, by omega⟩)))
      rw [e, hq, hq', if_pos rfl, e1]
      simp
    · obtain ⟨x, hx⟩ := h
      have hx' : (n, x) ∈ l := by
        rcases List.mem_cons.1 hx with e2 | e2
        · exact absurd (by rw [← e2]) e
        · exact e2
      have ih := filter_less hq hq' ho hn.2 ⟨x, hx'⟩
      rw [ho (p.1 : Int) (by omega)]
      split
      · simp only [List.length_cons]; omega
      · exact ih


abbrev RowsL := List (Nat × Option (Nat × Nat × Nat) × List Int)
def cellsB (xs : List Int) : List Value := xs.map (Value.int .u8)
/-- A map of rows of octets: L: number, where the row lies, its octets. Y: where the map and the rows lie. -/
structure PlM (w : World) (Y : Nat → Prop) (mp : Nat) (L : RowsL) (D : DataW Unit) : Prop where
  m : w.ownsMap Try.prog 3 rowElem mp L.length D
  l : ∀ k z, D.atKey (.int .i64 k) z = rowZ ((lookN L k).map Prod.fst) z
  z : Maps.size D = L.length
  f : Y mp
  ks : (L.map Prod.fst).Nodup
  st : ∀ p ∈ L, w.ownsRow 0 5 1 (rowOf p.2.1) p.2.2.length (cellsB p.2.2) ∧ ∀ k, (rowOf p.2.1).ownBlock = some k → Y k
  ap : ∀ p ∈ L, ∀ q ∈ L, ∀ k, (rowOf p.2.1).ownBlock = some k → (rowOf q.2.1).ownBlock = some k → p.1 = q.1
  oct : ∀ p ∈ L, bytes p.2.2
  yl : ∀ k, Y k → k < w.heap.size
theorem PlM.same {w w' : World} {Y : Nat → Prop} {mp : Nat} {L : RowsL} {D : DataW Unit} (m : PlM w Y mp L D) (hs : ∀ k, Y k → w'.heap[k]? = w.heap[k]?) (hz : w.heap.size ≤ w'.heap.size) : PlM w' Y mp L D :=
  ⟨ownsMap_same m.m (hs _ m.f), m.l, m.z, m.f, m.ks, fun p hp => by
    obtain ⟨a1, a2⟩ := m.st p hp
    exact ⟨ownsRow_same a1 (fun k hk => hs k (a2 k hk)), a2⟩, m.ap, m.oct, fun k hk => Nat.lt_of_lt_of_le (m.yl k hk) hz⟩
theorem PlM.below {w w' : World} {Y : Nat → Prop} {mp : Nat} {L : RowsL} {D : DataW Unit} (m : PlM w Y mp L D) (hb : Below w.heap.size w w') : PlM w' Y mp L D := m.same (fun k hk => hb.block k (m.yl k hk)) hb.size
theorem PlM.touch {w w' : World} {Y Z : Nat → Prop} {mp : Nat} {L : RowsL} {D : DataW Unit} (m : PlM w Y mp L D) (ht : Touch Z w w') (hd : ∀ k, Z k → ¬ Y k) : PlM w' Y mp L D := m.same (fun k hk => ht.block k (m.yl k hk) (fun e => hd k e hk)) ht.size
theorem PlM.new {w : World} : PlM (w.alloc (.map #[] 0)) (fun k => k = w.heap.size) w.heap.size [] (.map []) :=
  ⟨map_empty (heap_alloc_new w _), fun k z => rfl, rfl, rfl, by simp, fun p hp => by simp at hp, fun p hp => by simp at hp, fun p hp => by simp at hp, fun k hk => by rw [hk]; simp⟩
theorem lookN_val {L : RowsL} {n : Nat} {x : Option (Nat × Nat × Nat) × List Int} (h : lookN L (n : Int) = some x) : (n, x) ∈ L := by
  obtain ⟨m, hm, h1⟩ := lookN_mem h
  have : m = n := by omega
  subst this
  exact h1
/-- What a key shows. -/
def rowAt (L : RowsL) (s : Int) : Option (Nat × Nat × Nat) := ((lookN L s).map Prod.fst).getD none
def octAt (L : RowsL) (s : Int) : List Int := ((lookN L s).map Prod.snd).getD []
theorem PlM.look {w : World} {Y : Nat → Prop} {mp : Nat} {L : RowsL} {D : DataW Unit} (m : PlM w Y mp L D) (s : Int) (hs : -9223372036854775808 ≤ s ∧ s ≤ 9223372036854775807) :
    (Instr.lookup 32 (.map (some mp)) (.int .i64 s) false).run Try.prog w = .ok (rowOf (rowAt L s)) w := by
  have hz : (zeroValue 34).run Try.prog w = .ok (.slice none 0 0) w := by kernel_rfl
  have hkey := Maps.keyOf_int_mk (P := Try.prog) (k := 3) Try.underlying3 (a := s) (WalkArith.wf_i64 hs)
  obtain ⟨v, ps, hrun, hv⟩ := m.m.lookup intKey Try.underlying32 hz (zd := .nil) (zp := []) rfl hkey
  rw [m.l s .nil] at hv
  rw [hrun]
  unfold rowAt
  cases hl : lookN L s with
  | none =>
    rw [hl] at hv
    rw [rowElem_inv (o := none) hv]
    rfl
  | some x =>
    rw [hl] at hv
    rw [rowElem_inv (o := x.1) hv]
    rfl
theorem PlM.row {w : World} {Y : Nat → Prop} {mp : Nat} {L : RowsL} {D : DataW Unit} (m : PlM w Y mp L D) (s : Int) : w.ownsRow 0 5 1 (rowOf (rowAt L s)) (octAt L s).length (cellsB (octAt L s)) ∧ bytes (octAt L s) ∧ ∀ k, (rowOf (rowAt L s)).ownBlock = some k → Y k := by
  unfold rowAt octAt
  cases hl : lookN L s with
  | none => exact ⟨World.ownsRow_nil _ _ _ _, fun z hz => by simp at hz, fun k hk => by simp [rowOf, Value.ownBlock] at hk⟩
  | some x =>
    obtain ⟨n, _, hm⟩ := lookN_mem hl
    exact ⟨(m.st _ hm).1, m.oct _ hm, (m.st _ hm).2⟩

theorem PlM.upd {w w3 : World} {Y : Nat → Prop} {mp : Nat} {L L' : RowsL} {D : DataW Unit} (m : PlM w Y mp L D) {n : Nat} {o : Option (Nat × Nat × Nat)} {xs : List Int}
    (hL : ∀ k : Int, lookN L' k = if (n : Int) = k then some (o, xs) else lookN L k) (hks : (L'.map Prod.fst).Nodup) (hlen : L'.length = if (lookN L n).isSome then L.length else L.length + 1) (hmem : ∀ p ∈ L', p = (n, o, xs) ∨ (p ∈ L ∧ p.1 ≠ n))
    (hm : w3.ownsMap Try.prog 3 rowElem mp (L.length + 1) (D.put (.int .i64 (n : Int)) (rowD o))) (keep : ∀ k, k < w.heap.size → k ≠ mp → w3.heap[k]? = w.heap[k]?) (hsz : w.heap.size ≤ w3.heap.size)
    (hr : w.ownsRow 0 5 1 (rowOf o) xs.length (cellsB xs)) (hb : bytes xs) (hap : ∀ k, (rowOf o).ownBlock = some k → ¬ Y k) :
    PlM w3 (fun k => Y k ∨ (rowOf o).ownBlock = some k) mp L' (D.put (.int .i64 (n : Int)) (rowD o)) := by
  have mapne : ∀ (k : Nat) (cs : Array Value) (t : TypeId), w.heap[k]? = some (Obj.cells cs t (0, 0)) → k ≠ mp := fun k cs t hk e => by
    obtain ⟨es, clock, hb, _⟩ := m.m
    rw [e, hb] at hk
    simp at hk
  have tidy := m.m.tidy intKey
  have ismap := m.m.isMap
  have hhas : Maps.has D (.int .i64 (n : Int)) = (lookN L n).isSome := by
    cases hl : lookN L n with
    | none => exact Maps.has_false_of_atKey (fun z => by rw [m.l, hl]; rfl)
    | some q => exact Maps.has_true_of_atKey (y := rowD q.1) (fun z => by rw [m.l, hl]; rfl)
  have hsize : Maps.size (D.put (.int .i64 (n : Int)) (rowD o)) = L'.length := by
    rw [Maps.size_put tidy, hhas, m.z, hlen]
  have kept : ∀ p ∈ L, w3.ownsRow 0 5 1 (rowOf p.2.1) p.2.2.length (cellsB p.2.2) := fun p hp => ownsRow_same (m.st p hp).1 (fun k hk => by
    obtain ⟨cur, hc⟩ := row_block (m.st p hp).1 hk
    exact keep k (lt_of hc) (mapne _ _ _ hc))
  refine ⟨?_, fun k z => ?_, hsize, Or.inl m.f, hks, fun p hp => ?_, fun p hp q hq k h1 h2 => ?_, fun p hp => ?_, fun k hk => ?_⟩
  · have := ownsMap_tight hm
    rw [hsize] at this
    exact this
  · rw [hL]
    by_cases e : (n : Int) = k
    · subst e
      rw [if_pos rfl, Maps.atKey_put_same ismap (by simp [WideAt.IsKeyLit])]
      rfl
    · rw [if_neg e, Maps.atKey_put_other (by simp; omega), m.l]
  · rcases hmem p hp with rfl | ⟨hp, _⟩
    · refine ⟨ownsRow_same hr (fun k hk => ?_), fun k hk => Or.inr hk⟩
      obtain ⟨cur, hc⟩ := row_block hr hk
      exact keep k (lt_of hc) (mapne _ _ _ hc)
    · exact ⟨kept p hp, fun k hk => Or.inl ((m.st p hp).2 k hk)⟩
  · rcases hmem p hp with rfl | ⟨hp, _⟩ <;> rcases hmem q hq with rfl | ⟨hq, _⟩
    · rfl
    · exact absurd ((m.st q hq).2 k h2) (hap k h1)
    · exact absurd ((m.st p hp).2 k h1) (hap k h2)
    · exact m.ap p hp q hq k h1 h2
  · rcases hmem p hp with rfl | ⟨hp, _⟩
    · exact hb
    · exact m.oct p hp
  · rcases hk with hk | hk
    · exact Nat.lt_of_lt_of_le (m.yl k hk) hsz
    · obtain ⟨cur, hc⟩ := row_block hr hk
      exact Nat.lt_of_lt_of_le (lt_of hc) hsz

/-- A key's octets replaced, the row where it is or elsewhere. -/
def putR (L : RowsL) (n : Nat) (o : Option (Nat × Nat × Nat)) (xs : List Int) : RowsL := L.map fun p => if p.1 = n then (n, o, xs) else p
theorem putR_keys (L : RowsL) (n : Nat) (o : Option (Nat × Nat × Nat)) (xs : List Int) : (putR L n o xs).map Prod.fst = L.map Prod.fst := by
  unfold putR
  rw [List.map_map]
  refine List.map_congr_left (fun p _ => ?_)
  simp only [Function.comp]
  split
  · next h => exact h.symm
  · rfl
theorem putR_len (L : RowsL) (n : Nat) (o : Option (Nat × Nat × Nat)) (xs : List Int) : (putR L n o xs).length = L.length := by unfold putR; rw [List.length_map]
theorem putR_look {L : RowsL} {s : Nat} {o : Option (Nat × Nat × Nat)} {l : List Int} : ∀ {k : Int}, lookN (putR L s o l) k = if (s : Int) = k then (lookN L k).map (fun _ => (o, l)) else lookN L k := by
  induction L with
  | nil => intro k; simp [putR, lookN]
  | cons p L ih =>
    intro k
    have e : putR (p :: L) s o l = (if p.1 = s then (s, o, l) else p) :: putR L s o l := rfl
    rw [e]
    have ih := @ih k
    unfold lookN at ih ⊢
    rw [List.find?_cons, List.find?_cons]
    by_cases hp : p.1 = s
    · rw [if_pos hp]
      by_cases hk : (s : Int) = k
      · have h1 : (p.1 : Int) = k := by omega
        simp [hk, h1]
      · have h1 : ¬ (p.1 : Int) = k := by omega
        simp only [hk, h1, decide_false, if_false]
        rw [ih, if_neg hk]
    · rw [if_neg hp]
      by_cases hk : (p.1 : Int) = k
      · have h1 : ¬ (s : Int) = k := by omega
        simp [hk, h1]
      · simp only [hk, decide_false]
        exact ih
theorem putR_mem {L : RowsL} {n : Nat} {o : Option (Nat × Nat × Nat)} {xs : List Int} {p : Nat × Option (Nat × Nat × Nat) × List Int} (h : p ∈ putR L n o xs) : p = (n, o, xs) ∨ (p ∈ L ∧ p.1 ≠ n) := by
  obtain ⟨q, hq, rfl⟩ := List.mem_map.1 h
  split
  · exact Or.inl rfl
  · next h => exact Or.inr ⟨hq, h⟩
theorem PlM.put {w w3 : World} {Y : Nat → Prop} {mp : Nat} {L : RowsL} {D : DataW Unit} (m : PlM w Y mp L D) {n : Nat} {q : Option (Nat × Nat × Nat) × List Int} (hl : lookN L n = some q) {o : Option (Nat × Nat × Nat)} {xs : List Int}
    (hm : w3.ownsMap Try.prog 3 rowElem mp (L.length + 1) (D.put (.int .i64 (n : Int)) (rowD o))) (keep : ∀ k, k < w.heap.size → k ≠ mp → w3.heap[k]? = w.heap[k]?) (hsz : w.heap.size ≤ w3.heap.size)
    (hr : w.ownsRow 0 5 1 (rowOf o) xs.length (cellsB xs)) (hb : bytes xs) (hap : ∀ k, (rowOf o).ownBlock = some k → ¬ Y k) :
    PlM w3 (fun k => Y k ∨ (rowOf o).ownBlock = some k) mp (putR L n o xs) (D.put (.int .i64 (n : Int)) (rowD o)) :=
  m.upd (fun k => by
    rw [putR_look]
    split
    · next e => rw [← e, hl]; rfl
    · rfl) (by rw [putR_keys]; exact m.ks) (by rw [putR_len, hl]; rfl) (fun p hp => putR_mem hp) hm keep hsz hr hb hap
theorem PlM.add {w w3 : World} {Y : Nat → Prop} {mp : Nat} {L : RowsL} {D : DataW Unit} (m : PlM w Y mp L D) {n : Nat} (hl : ∀ p ∈ L, p.1 ≠ n) {o : Option (Nat × Nat × Nat)} {xs : List Int}
    (hm : w3.ownsMap Try.prog 3 rowElem mp (L.length + 1) (D.put (.int .i64 (n : Int)) (rowD o))) (keep : ∀ k, k < w.heap.size → k ≠ mp → w3.heap[k]? = w.heap[k]?) (hsz : w.heap.size ≤ w3.heap.size)
    (hr : w.ownsRow 0 5 1 (rowOf o) xs.length (cellsB xs)) (hb : bytes xs) (hap : ∀ k, (rowOf o).ownBlock = some k → ¬ Y k) :
    PlM w3 (fun k => Y k ∨ (rowOf o).ownBlock = some k) mp (L ++ [(n, o, xs)]) (D.put (.int .i64 (n : Int)) (rowD o)) :=
  m.upd (fun k => lookN_snoc L n (o, xs) k hl) (by
    rw [List.map_append, List.nodup_append]
    refine ⟨m.ks, by simp, fun a ha b hb => ?_⟩
    obtain ⟨p, hp, rfl⟩ := List.mem_map.1 ha
    simp at hb
    rw [hb]
    exact hl p hp) (by rw [lookN_none hl]; simp) (fun p hp => by
    rcases List.mem_append.1 hp with hp | hp
    · exact Or.inr ⟨hp, hl p hp⟩
    · exact Or.inl (by simpa using hp)) hm keep hsz hr hb hap
/-- A key less. -/
def delL (L : RowsL) (s : Int) : RowsL := L.filter fun p => decide (¬ (p.1 : Int) = s)
theorem PlM.del {w w3 : World} {Y : Nat → Prop} {mp : Nat} {L : RowsL} {D : DataW Unit} (m : PlM w Y mp L D) {s : Int} {q : Option (Nat × Nat × Nat) × List Int} (hl : lookN L s = some q)
    (hm : w3.ownsMap Try.prog 3 rowElem mp L.length (D.del (.int .i64 s))) (keep : ∀ k, k < w.heap.size → k ≠ mp → w3.heap[k]? = w.heap[k]?) (hsz : w.heap.size ≤ w3.heap.size) : PlM w3 Y mp (delL L s) (D.del (.int .i64 s)) := by
  have sub : (delL L s).Sublist L := List.filter_sublist
  have mapne : ∀ (k : Nat) (cs : Array Value) (t : TypeId), w.heap[k]? = some (Obj.cells cs t (0, 0)) → k ≠ mp := fun k cs t hk e => by
    obtain ⟨es, clock, hb, _⟩ := m.m
    rw [e, hb] at hk
    simp at hk
  have hhas : Maps.has D (.int .i64 s) = true := Maps.has_true_of_atKey (y := rowD q.1) (fun z => by rw [m.l, hl]; rfl)
  obtain ⟨n, hn, hmem⟩ := lookN_mem hl
  have hsize : Maps.size (D.del (.int .i64 s)) = (delL L s).length := by
    have h1 := Maps.size_del (m.m.tidy intKey) (k := .int .i64 s)
    rw [hhas, if_pos rfl, m.z] at h1
    have h2 := filter_less (n := n) (q := fun _ => true) (q' := fun k => decide (¬ k = s)) rfl (by simp; exact hn) (fun k hk => by simp; omega) m.ks ⟨q, hmem⟩
    rw [List.filter_eq_self.2 (fun _ _ => rfl)] at h2
    show _ = (L.filter fun p => decide (¬ (p.1 : Int) = s)).length
    omega
  refine ⟨?_, fun k z => ?_, hsize, m.f, m.ks.sublist (sub.map _), fun p hp => ?_, fun p hp q hq => m.ap p (sub.subset hp) q (sub.subset hq), fun p hp => m.oct p (sub.subset hp), fun k hk => Nat.lt_of_lt_of_le (m.yl k hk) hsz⟩
  · have := ownsMap_tight hm
    rw [hsize] at this
    exact this
  · show _ = rowZ ((lookN (L.filter fun p => decide (¬ (p.1 : Int) = s)) k).map Prod.fst) z
    rw [lookN_filter (fun k => decide (¬ k = s))]
    by_cases e : k = s
    · subst e
      rw [Maps.atKey_del_same, if_neg (by simp)]
      rfl
    · rw [Maps.atKey_del_other (by simp; exact e), m.l, if_pos (by simp; exact e)]
  · obtain ⟨a1, a2⟩ := m.st p (sub.subset hp)
    refine ⟨ownsRow_same a1 (fun k hk => ?_), a2⟩
    obtain ⟨cur, hc⟩ := row_block a1 hk
    exact keep k (lt_of hc) (mapne _ _ _ hc)
/-- A key's row is written where it lies. -/
theorem PlM.write {w w3 : World} {Y : Nat → Prop} {mp : Nat} {L : RowsL} {D : DataW Unit} (m : PlM w Y mp L D) {n : Nat} {o : Option (Nat × Nat × Nat)} {xs ys : List Int} (hl : lookN L n = some (o, xs))
    (hr : w3.ownsRow 0 5 1 (rowOf o) ys.length (cellsB ys)) (hb : bytes ys) (keep : ∀ k, k < w.heap.size → (rowOf o).ownBlock ≠ some k → w3.heap[k]? = w.heap[k]?) (hsz : w.heap.size ≤ w3.heap.size) : PlM w3 Y mp (putR L n o ys) D := by
  have hmem := lookN_val hl
  obtain ⟨a1, a2⟩ := m.st _ hmem
  have hmpn : (rowOf o).ownBlock ≠ some mp := fun e => by
    obtain ⟨cur, hc⟩ := row_block a1 e
    obtain ⟨es, clock, hb, _⟩ := m.m
    rw [hb] at hc
    simp at hc
  refine ⟨by rw [putR_len]; exact ownsMap_same m.m (keep mp m.m.lt hmpn), fun k z => ?_, by rw [putR_len]; exact m.z, m.f, by rw [putR_keys]; exact m.ks, fun p hp => ?_, fun p hp q hq k h1 h2 => ?_, fun p hp => ?_, fun k hk => Nat.lt_of_lt_of_le (m.yl k hk) hsz⟩
  · rw [m.l, putR_look]
    split
    · next e => rw [← e, hl]; rfl
    · rfl
  · rcases putR_mem hp with rfl | ⟨hp, hne⟩
    · exact ⟨hr, a2⟩
    · obtain ⟨c1, c2⟩ := m.st p hp
      refine ⟨ownsRow_same c1 (fun k hk => keep k (c1.lt k hk).2 (fun e => hne (m.ap p hp _ hmem k hk e))), c2⟩
  · rcases putR_mem hp with rfl | ⟨hp, hne⟩ <;> rcases putR_mem hq with rfl | ⟨hq, hne2⟩
    · rfl
    · exact (m.ap (n, o, xs) hmem q hq k h1 h2 : n = q.1)
    · exact (m.ap p hp (n, o, xs) hmem k h1 h2 : p.1 = n)
    · exact m.ap p hp q hq k h1 h2
  · rcases putR_mem hp with rfl | ⟨hp, hne⟩
    · exact hb
    · exact m.oct p hp


end Go.Proofs.Ytjogaohnphafgaa
