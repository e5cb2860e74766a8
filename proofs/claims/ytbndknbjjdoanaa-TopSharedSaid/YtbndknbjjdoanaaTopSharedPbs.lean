/-
  A map of rows of octets in memory, and how it turns. No conditions but bounds.
-/
import Derived.Test.YtbndknbjjdoanaaTopSharedPbr
import Derived.Test.YtbndknbjjdoanaaTopSharedPab
namespace Go.Proofs.Ytbndknbjjdoanaa
open Go.RowKit
set_option linter.unusedVariables false

abbrev RowsL := List (Nat × Option (Nat × Nat × Nat) × List Int)
def cellsB (xs : List Int) : List Value := xs.map (Value.int .u8)
/-- A map of rows of octets: L: number, where the row lies, its octets. Y: where the map and the rows lie. -/
structure PlM (w : World) (Y : Nat → Prop) (mp : Nat) (L : RowsL) (D : DataW Unit) : Prop where
  m : w.ownsMap Try.prog 3 rowElem mp L.length D
  l : ∀ k z, D.atKey (.int .i64 k) z = rowZ ((lookN L k).map Prod.fst) z
  z : Maps.size D = L.length
  f : Y mp
  ks : (L.map Prod.fst).Nodup
  st : ∀ p ∈ L, w.ownsRow 0 5 1 (rowOf p.2.1) p.2.2.length (cellsB p.2.2) ∧ ∀ k, (rowOf p.2.1).ownBlock = some k → Y k
  ap : ∀ p ∈ L, ∀ q ∈ L, ∀ k, (rowOf p.2.1).ownBlock = some k → (rowOf q.2.1).ownBlock = some k → p.1 = q.1
  oct : ∀ p ∈ L, bytes p.2.2
  yl : ∀ k, Y k → k < w.heap.size
theorem PlM.same {w w' : World} {Y : Nat → Prop} {mp : Nat} {L : RowsL} {D : DataW Unit} (m : PlM w Y mp L D) (hs : ∀ k, Y k → w'.heap[k]? = w.heap[k]?) (hz : w.heap.size ≤ w'.heap.size) : PlM w' Y mp L D :=
  ⟨ownsMap_same m.m (hs _ m.f), m.l, m.z, m.f, m.ks, fun p hp => by
    obtain ⟨a1, a2⟩ := m.st p hp
    exact ⟨ownsRow_same a1 (fun k hk => hs k (a2 k hk)), a2⟩, m.ap, m.oct, fun k hk => Nat.lt_of_lt_of_le (m.yl k hk) hz⟩
theorem PlM.below {w w' : World} {Y : Nat → Prop} {mp : Nat} {L : RowsL} {D : DataW Unit} (m : PlM w Y mp L D) (hb : Below w.heap.size w w') : PlM w' Y mp L D := m.same (fun k hk => hb.block k (m.yl k hk)) hb.size
theorem PlM.touch {w w' : World} {Y Z : Nat → Prop} {mp : Nat} {L : RowsL} {D : DataW Unit} (m : PlM w Y mp L D) (ht : Touch Z w w') (hd : ∀ k, Z k → ¬ Y k) : PlM w' Y mp L D := m.same (fun k hk => ht.block k (m.yl k hk) (fun e => hd k e hk)) ht.size
theorem PlM.new {w : World} : PlM (w.alloc (.map #[] 0)) (fun k => k = w.heap.size) w.heap.size [] (.map []) :=
  ⟨map_empty (heap_alloc_new w _), fun k z => rfl, rfl, rfl, by simp, fun p hp => by simp at hp, fun p hp => by simp at hp, fun p hp => by simp at hp, fun k hk => by rw [hk]; simp⟩
theorem lookN_val {L : RowsL} {n : Nat} {x : Option (Nat × Nat × Nat) × List Int} (h : lookN L (n : Int) = some x) : (n, x) ∈ L := by
  obtain ⟨m, hm, h1⟩ := lookN_mem h
  have : m = n := by omega
  subst this
  exact h1
/-- What a key shows. -/
def rowAt (L : RowsL) (s : Int) : Option (Nat × Nat × Nat) := ((lookN L s).map Prod.fst).getD none
def octAt (L : RowsL) (s : Int) : List Int := ((lookN L s).map Prod.snd).getD []
theorem PlM.look {w : World} {Y : Nat → Prop} {mp : Nat} {L : RowsL} {D : DataW Unit} (m : PlM w Y mp L D) (s : Int) (hs : -9223372036854775808 ≤ s ∧ s ≤ 9223372036854775807) :
    (Instr.lookup 45 (.map (some mp)) (.int .i64 s) false).run Try.prog w = .ok (rowOf (rowAt L s)) w := by
  have hz : (zeroValue 22).run Try.prog w = .ok (.slice none 0 0) w := by kernel_rfl
  have hkey := Maps.keyOf_int_mk (P := Try.prog) (k := 3) Try.underlying3 (a := s) (WalkArith.wf_i64 hs)
  obtain ⟨v, ps, hrun, hv⟩ := m.m.lookup intKey Try.underlying45 hz (zd := .nil) (zp := []) rfl hkey
  rw [m.l s .nil] at hv
  rw [hrun]
  unfold rowAt
  cases hl : lookN L s with
  | none =>
    rw [hl] at hv
    rw [rowElem_inv (o := none) hv]
    rfl
  | some x =>
    rw [hl] at hv
    rw [rowElem_inv (o := x.1) hv]
    rfl
theorem PlM.row {w : World} {Y : Nat → Prop} {mp : Nat} {L : RowsL} {D : DataW Unit} (m : PlM w Y mp L D) (s : Int) : w.ownsRow 0 5 1 (rowOf (rowAt L s)) (octAt L s).length (cellsB (octAt L s)) ∧ bytes (octAt L s) ∧ ∀ k, (rowOf (rowAt L s)).ownBlock = some k → Y k := by
  unfold rowAt octAt
  cases hl : lookN L s with
  | none => exact ⟨World.ownsRow_nil _ _ _ _, fun z hz => by simp at hz, fun k hk => by simp [rowOf, Value.ownBlock] at hk⟩
  | some x =>
    obtain ⟨n, _, hm⟩ := lookN_mem hl
    exact ⟨(m.st _ hm).1, m.oct _ hm, (m.st _ hm).2⟩

theorem PlM.upd {w w3 : World} {Y : Nat → Prop} {mp : Nat} {L L' : RowsL} {D : DataW Unit} (m : PlM w Y mp L D) {n : Nat} {o : Option (Nat × Nat × Nat)} {xs : List Int}
    (hL : ∀ k : Int, lookN L' k = if (n : Int) = k then some (o, xs) else lookN L k) (hks : (L'.map Prod.fst).Nodup) (hlen : L'.length = if (lookN L n).isSome then L.length else L.length + 1) (hmem : ∀ p ∈ L', p = (n, o, xs) ∨ (p ∈ L ∧ p.1 ≠ n))
    (hm : w3.ownsMap Try.prog 3 rowElem mp (L.length + 1) (D.put (.int .i64 (n : Int)) (rowD o))) (keep : ∀ k, k < w.heap.size → k ≠ mp → w3.heap[k]? = w.heap[k]?) (hsz : w.heap.size ≤ w3.heap.size)
    (hr : w.ownsRow 0 5 1 (rowOf o) xs.length (cellsB xs)) (hb : bytes xs) (hap : ∀ k, (rowOf o).ownBlock = some k → ¬ Y k) :
    PlM w3 (fun k => Y k ∨ (rowOf o).ownBlock = some k) mp L' (D.put (.int .i64 (n : Int)) (rowD o)) := by
  have mapne : ∀ (k : Nat) (cs : Array Value) (t : TypeId), w.heap[k]? = some (Obj.cells cs t (0, 0)) → k ≠ mp := fun k cs t hk e => by
    obtain ⟨es, clock, hb, _⟩ := m.m
    rw [e, hb] at hk
    simp at hk
  have tidy := m.m.tidy intKey
  have ismap := m.m.isMap
  have hhas : Maps.has D (.int .i64 (n : Int)) = (lookN L n).isSome := by
    cases hl : lookN L n with
    | none => exact Maps.has_false_of_atKey (fun z => by rw [m.l, hl]; rfl)
    | some q => exact Maps.has_true_of_atKey (y := rowD q.1) (fun z => by rw [m.l, hl]; rfl)
  have hsize : Maps.size (D.put (.int .i64 (n : Int)) (rowD o)) = L'.length := by
    rw [Maps.size_put tidy, hhas, m.z, hlen]
  have kept : ∀ p ∈ L, w3.ownsRow 0 5 1 (rowOf p.2.1) p.2.2.length (cellsB p.2.2) := fun p hp => ownsRow_same (m.st p hp).1 (fun k hk => by
    obtain ⟨cur, hc⟩ := row_block (m.st p hp).1 hk
    exact keep k (lt_of hc) (mapne _ _ _ hc))
  refine ⟨?_, fun k z => ?_, hsize, Or.inl m.f, hks, fun p hp => ?_, fun p hp q hq k h1 h2 => ?_, fun p hp => ?_, fun k hk => ?_⟩
  · have := ownsMap_tight hm
    rw [hsize] at this
    exact this
  · rw [hL]
    by_cases e : (n : Int) = k
    · subst e
      rw [if_pos rfl, Maps.atKey_put_same ismap (by simp [WideAt.IsKeyLit])]
      rfl
    · rw [if_neg e, Maps.atKey_put_other (by simp; omega), m.l]
  · rcases hmem p hp with rfl | ⟨hp, _⟩
    · refine ⟨ownsRow_same hr (fun k hk => ?_), fun k hk => Or.inr hk⟩
      obtain ⟨cur, hc⟩ := row_block hr hk
      exact keep k (lt_of hc) (mapne _ _ _ hc)
    · exact ⟨kept p hp, fun k hk => Or.inl ((m.st p hp).2 k hk)⟩
  · rcases hmem p hp with rfl | ⟨hp, _⟩ <;> rcases hmem q hq with rfl | ⟨hq, _⟩
    · rfl
    · exact absurd ((m.st q hq).2 k h2) (hap k h1)
    · exact absurd ((m.st p hp).2 k h1) (hap k h2)
    · exact m.ap p hp q hq k h1 h2
  · rcases hmem p hp with rfl | ⟨hp, _⟩
    · exact hb
    · exact m.oct p hp
  · rcases hk with hk | hk
    · exact Nat.lt_of_lt_of_le (m.yl k hk) hsz
    · obtain ⟨cur, hc⟩ := row_block hr hk
      exact Nat.lt_of_lt_of_le (lt_of hc) hsz

/-- A key's octets replaced, the row where it is or elsewhere. -/
def putR (L : RowsL) (n : Nat) (o : Option (Nat × Nat × Nat)) (xs : List Int) : RowsL := L.map fun p => if p.1 = n then (n, o, xs) else p
theorem putR_keys (L : RowsL) (n : Nat) (o : Option (Nat × Nat × Nat)) (xs : List Int) : (putR L n o xs).map Prod.fst = L.map Prod.fst := by
  unfold putR
  rw [List.map_map]
  refine List.map_congr_left (fun p _ => ?_)
  simp only [Function.comp]
  split
  · next h => exact h.symm
  · rfl
theorem putR_len (L : RowsL) (n : Nat) (o : Option (Nat × Nat × Nat)) (xs : List Int) : (putR L n o xs).length = L.length := by unfold putR; rw [List.length_map]
theorem putR_look {L : RowsL} {s : Nat} {o : Option (Nat × Nat × Nat)} {l : List Int} : ∀ {k : Int}, lookN (putR L s o l) k = if (s : Int) = k then (lookN L k).map (fun _ => (o, l)) else lookN L k := by
  induction L with
  | nil => intro k; simp [putR, lookN]
  | cons p L ih =>
    intro k
    have e : putR (p :: L) s o l = (if p.1 = s then (s, o, l) else p) :: putR L s o l := rfl
    rw [e]
    have ih := @ih k
    unfold lookN at ih ⊢
    rw [List.find?_cons, List.find?_cons]
    by_cases hp : p.1 = s
    · rw [if_pos hp]
      by_cases hk : (s : Int) = k
      · have h1 : (p.1 : Int) = k := by omega
        simp [hk, h1]
      · have h1 : ¬ (p.1 : Int) = k := by omega
        simp only [hk, h1, decide_false, if_false]
        rw [ih, if_neg hk]
    · rw [if_neg hp]
      by_cases hk : (p.1 : Int) = k
      · have h1 : ¬ (s : Int) = k := by omega
        simp [hk, h1]
      · simp only [hk, decide_false]
        exact ih
theorem putR_mem {L : RowsL} {n : Nat} {o : Option (Nat × Nat × Nat)} {xs : List Int} {p : Nat × Option (Nat × Nat × Nat) × List Int} (h : p ∈ putR L n o xs) : p = (n, o, xs) ∨ (p ∈ L ∧ p.1 ≠ n) := by
  obtain ⟨q, hq, rfl⟩ := List.mem_map.1 h
  split
  · exact Or.inl rfl
  · next h => exact Or.inr ⟨hq, h⟩
theorem PlM.put {w w3 : World} {Y : Nat → Prop} {mp : Nat} {L : RowsL} {D : DataW Unit} (m : PlM w Y mp L D) {n : Nat} {q : Option (Nat × Nat × Nat) × List Int} (hl : lookN L n = some q) {o : Option (Nat × Nat × Nat)} {xs : List Int}
    (hm : w3.ownsMap Try.prog 3 rowElem mp (L.length + 1) (D.put (.int .i64 (n : Int)) (rowD o))) (keep : ∀ k, k < w.heap.size → k ≠ mp → w3.heap[k]? = w.heap[k]?) (hsz : w.heap.size ≤ w3.heap.size)
    (hr : w.ownsRow 0 5 1 (rowOf o) xs.length (cellsB xs)) (hb : bytes xs) (hap : ∀ k, (rowOf o).ownBlock = some k → ¬ Y k) :
    PlM w3 (fun k => Y k ∨ (rowOf o).ownBlock = some k) mp (putR L n o xs) (D.put (.int .i64 (n : Int)) (rowD o)) :=
  m.upd (fun k => by
    rw [putR_look]
    split
    · next e => rw [← e, hl]; rfl
    · rfl) (by rw [putR_keys]; exact m.ks) (by rw [putR_len, hl]; rfl) (fun p hp => putR_mem hp) hm keep hsz hr hb hap
theorem PlM.add {w w3 : World} {Y : Nat → Prop} {mp : Nat} {L : RowsL} {D : DataW Unit} (m : PlM w Y mp L D) {n : Nat} (hl : ∀ p ∈ L, p.1 ≠ n) {o : Option (Nat × Nat × Nat)} {xs : List Int}
    (hm : w3.ownsMap Try.prog 3 rowElem mp (L.length + 1) (D.put (.int .i64 (n : Int)) (rowD o))) (keep : ∀ k, k < w.heap.size → k ≠ mp → w3.heap[k]? = w.heap[k]?) (hsz : w.heap.size ≤ w3.heap.size)
    (hr : w.ownsRow 0 5 1 (rowOf o) xs.length (cellsB xs)) (hb : bytes xs) (hap : ∀ k, (rowOf o).ownBlock = some k → ¬ Y k) :
    PlM w3 (fun k => Y k ∨ (rowOf o).ownBlock = some k) mp (L ++ [(n, o, xs)]) (D.put (.int .i64 (n : Int)) (rowD o)) :=
  m.upd (fun k => lookN_snoc L n (o, xs) k hl) (by
    rw [List.map_append, List.nodup_append]
    refine ⟨m.ks, by simp, fun a ha b hb => ?_⟩
    obtain ⟨p, hp, rfl⟩ := List.mem_map.1 ha
    simp at hb
    rw [hb]
    exact hl p hp) (by rw [lookN_none hl]; simp) (fun p hp => by
    rcases List.mem_append.1 hp with hp | hp
    · exact Or.inr ⟨hp, hl p hp⟩
    · exact Or.inl (by simpa using hp)) hm keep hsz hr hb hap
/-- A key less. -/
def delL (L : RowsL) (s : Int) : RowsL := L.filter fun p => decide (¬ (p.1 : Int) = s)
theorem PlM.del {w w3 : World} {Y : Nat → Prop} {mp : Nat} {L : RowsL} {D : DataW Unit} (m : PlM w Y mp L D) {s : Int} {q : Option (Nat × Nat × Nat) × List Int} (hl : lookN L s = some q)
    (hm : w3.ownsMap Try.prog 3 rowElem mp L.length (D.del (.int .i64 s))) (keep : ∀ k, k < w.heap.size → k ≠ mp → w3.heap[k]? = w.heap[k]?) (hsz : w.heap.size ≤ w3.heap.size) : PlM w3 Y mp (delL L s) (D.del (.int .i64 s)) := by
  have sub : (delL L s).Sublist L := List.filter_sublist
  have mapne : ∀ (k : Nat) (cs : Array Value) (t : TypeId), w.heap[k]? = some (Obj.cells cs t (0, 0)) → k ≠ mp := fun k cs t hk e => by
    obtain ⟨es, clock, hb, _⟩ := m.m
    rw [e, hb] at hk
    simp at hk
  have hhas : Maps.has D (.int .i64 s) = true := Maps.has_true_of_atKey (y := rowD q.1) (fun z => by rw [m.l, hl]; rfl)
  obtain ⟨n, hn, hmem⟩ := lookN_mem hl
  have hsize : Maps.size (D.del (.int .i64 s)) = (delL L s).length := by
    have h1 := Maps.size_del (m.m.tidy intKey) (k := .int .i64 s)
    rw [hhas, if_pos rfl, m.z] at h1
    have h2 := filter_less (n := n) (q := fun _ => true) (q' := fun k => decide (¬ k = s)) rfl (by simp; exact hn) (fun k hk => by simp; omega) m.ks ⟨q, hmem⟩
    rw [List.filter_eq_self.2 (fun _ _ => rfl)] at h2
    show _ = (L.filter fun p => decide (¬ (p.1 : Int) = s)).length
    omega
  refine ⟨?_, fun k z => ?_, hsize, m.f, m.ks.sublist (sub.map _), fun p hp => ?_, fun p hp q hq => m.ap p (sub.subset hp) q (sub.subset hq), fun p hp => m.oct p (sub.subset hp), fun k hk => Nat.lt_of_lt_of_le (m.yl k hk) hsz⟩
  · have := ownsMap_tight hm
    rw [hsize] at this
    exact this
  · show _ = rowZ ((lookN (L.filter fun p => decide (¬ (p.1 : Int) = s)) k).map Prod.fst) z
    rw [lookN_filter (fun k => decide (¬ k = s))]
    by_cases e : k = s
    · subst e
      rw [Maps.atKey_del_same, if_neg (by simp)]
      rfl
    · rw [Maps.atKey_del_other (by simp; exact e), m.l, if_pos (by simp; exact e)]
  · obtain ⟨a1, a2⟩ := m.st p (sub.subset hp)
    refine ⟨ownsRow_same a1 (fun k hk => ?_), a2⟩
    obtain ⟨cur, hc⟩ := row_block a1 hk
    exact keep k (lt_of hc) (mapne _ _ _ hc)
/-- A key's row is written where it lies. -/
theorem PlM.write {w w3 : World} {Y : Nat → Prop} {mp : Nat} {L : RowsL} {D : DataW Unit} (m : PlM w Y mp L D) {n : Nat} {o : Option (Nat × Nat × Nat)} {xs ys : List Int} (hl : lookN L n = some (o, xs))
    (hr : w3.ownsRow 0 5 1 (rowOf o) ys.length (cellsB ys)) (hb : bytes ys) (keep : ∀ k, k < w.heap.size → (rowOf o).ownBlock ≠ some k → w3.heap[k]? = w.heap[k]?) (hsz : w.heap.size ≤ w3.heap.size) : PlM w3 Y mp (putR L n o ys) D := by
  have hmem := lookN_val hl
  obtain ⟨a1, a2⟩ := m.st _ hmem
  have hmpn : (rowOf o).ownBlock ≠ some mp := fun e => by
    obtain ⟨cur, hc⟩ := row_block a1 e
    obtain ⟨es, clock, hb, _⟩ := m.m
    rw [hb] at hc
    simp at hc
  refine ⟨by rw [putR_len]; exact ownsMap_same m.m (keep mp m.m.lt hmpn), fun k z => ?_, by rw [putR_len]; exact m.z, m.f, by rw [putR_keys]; exact m.ks, fun p hp => ?_, fun p hp q hq k h1 h2 => ?_, fun p hp => ?_, fun k hk => Nat.lt_of_lt_of_le (m.yl k hk) hsz⟩
  · rw [m.l, putR_look]
    split
    · next e => rw [← e, hl]; rfl
    · rfl
  · rcases putR_mem hp with rfl | ⟨hp, hne⟩
    · exact ⟨hr, a2⟩
    · obtain ⟨c1, c2⟩ := m.st p hp
      refine ⟨ownsRow_same c1 (fun k hk => keep k (c1.lt k hk).2 (fun e => hne (m.ap p hp _ hmem k hk e))), c2⟩
  · rcases putR_mem hp with rfl | ⟨hp, hne⟩ <;> rcases putR_mem hq with rfl | ⟨hq, hne2⟩
    · rfl
    · exact (m.ap (n, o, xs) hmem q hq k h1 h2 : n = q.1)
    · exact (m.ap p hp (n, o, xs) hmem k h1 h2 : p.1 = n)
    · exact m.ap p hp q hq k h1 h2
  · rcases putR_mem hp with rfl | ⟨hp, hne⟩
    · exact hb
    · exact m.oct p hp

end Go.Proofs.Ytbndknbjjdoanaa
