/-
  Pull of a queue: the plain part, and what a round writes. Conditions: numbers in their bounds.
  What a queue holds, behind Pull: plain laws. No conditions.
  The spare part of Push: the last chunk's octets and its end. Conditions: numbers in their bounds.
  A chunk more: what Push's rounds write. Conditions: numbers in their bounds.
-/
import Derived.Test.YtfnmjlnpfoclbaaGreatQueueRunsPan

namespace Go.Proofs.YtfnmjlnpfoclbaaGreat
section
open Go.RowKit
set_option linter.unusedVariables false

def QCh.cont (c : QCh) : List Int := (c.os.drop c.fr).take c.len
def qCont (L : List QCh) : List Int := L.flatMap QCh.cont
def QCh.adv (c : QCh) (t : Nat) : QCh := { c with fr := c.fr + t }
def pullL : Nat → List QCh → List QCh
  | _, [] => []
  | m, c :: l => c.adv (min m c.len) :: pullL (m - min m c.len) l
def pullO : Nat → List QCh → List Int
  | _, [] => []
  | m, c :: l => (c.os.drop c.fr).take (min m c.len) ++ pullO (m - min m c.len) l
def ChOk (c : QCh) : Prop := c.fr ≤ c.to ∧ c.to ≤ c.os.length ∧ c.os.length ≤ 100000

theorem pull_part {c : QCh} (h : ChOk c) {t : Nat} (ht : t ≤ c.len) : ((c.os.drop c.fr).take t).length = t := by
  unfold QCh.len at ht
  rw [List.length_take, List.length_drop]
  have := h.1; have := h.2.1
  omega
theorem cont_len {c : QCh} (h : ChOk c) : c.cont.length = c.len := pull_part h (Nat.le_refl _)
theorem qCont_len : ∀ {L : List QCh}, (∀ c ∈ L, ChOk c) → (qCont L).length = qsum QCh.len L
  | [], _ => rfl
  | c :: l, h => by
    have h1 := cont_len (h c (by simp))
    have h2 := qCont_len (L := l) (fun x hx => h x (by simp [hx]))
    simp only [qCont, List.flatMap_cons, List.length_append, qsum, List.map_cons, List.sum_cons] at *
    omega
theorem pullO_eq : ∀ (L : List QCh) (m : Nat), (∀ c ∈ L, ChOk c) → pullO m L = (qCont L).take m
  | [], m, _ => by simp [pullO, qCont]
  | c :: l, m, h => by
    have h1 := cont_len (h c (by simp))
    have h2 := pullO_eq l (m - min m c.len) (fun x hx => h x (by simp [hx]))
    have e : qCont (c :: l) = c.cont ++ qCont l := by simp [qCont]
    rw [pullO, h2, e, List.take_append, h1]
    have e1 : (c.os.drop c.fr).take (min m c.len) = c.cont.take m := by unfold QCh.cont; rw [List.take_take]
    rw [e1]
    congr 2
    omega
theorem adv_cont {c : QCh} (h : ChOk c) {t : Nat} (ht : t ≤ c.len) : (c.adv t).cont = c.cont.drop t := by
  unfold QCh.cont QCh.adv QCh.len
  simp only
  rw [List.drop_take, List.drop_drop]
  congr 1
  omega
theorem pullL_cont : ∀ (L : List QCh) (m : Nat), (∀ c ∈ L, ChOk c) → qCont (pullL m L) = (qCont L).drop m
  | [], m, _ => by simp [pullL, qCont]
  | c :: l, m, h => by
    have h1 := cont_len (h c (by simp))
    have h2 := pullL_cont l (m - min m c.len) (fun x hx => h x (by simp [hx]))
    have e : ∀ (x : QCh) y, qCont (x :: y) = x.cont ++ qCont y := fun x y => by simp [qCont]
    rw [pullL, e, e, h2, adv_cont (h c (by simp)) (Nat.min_le_right _ _), List.drop_append, h1]
    by_cases hm : m ≤ c.len
    · rw [Nat.min_eq_left hm]; congr 2; omega
    · rw [Nat.min_eq_right (by omega)]
      congr 1
      rw [List.drop_of_length_le (by omega), List.drop_of_length_le (by omega)]
theorem pullL_room : ∀ (L : List QCh) (m : Nat), qsum QCh.room (pullL m L) = qsum QCh.room L
  | [], m => rfl
  | c :: l, m => by
    have := pullL_room l (m - min m c.len)
    simp only [pullL, qsum, List.map_cons, List.sum_cons, QCh.room, QCh.adv] at *
    omega
theorem pullL_length : ∀ (L : List QCh) (m : Nat), (pullL m L).length = L.length
  | [], m => rfl
  | c :: l, m => by simp [pullL, pullL_length l]
theorem pullL_ok : ∀ (L : List QCh) (m : Nat), (∀ c ∈ L, ChOk c) → ∀ c ∈ pullL m L, ChOk c
  | [], m, _ => by simp [pullL]
  | x :: l, m, h => by
    have h1 := h x (by simp)
    intro c hc
    rw [pullL] at hc
    rcases List.mem_cons.1 hc with rfl | hc
    · obtain ⟨a1, a2, a3⟩ := h1
      refine ⟨?_, a2, a3⟩
      show x.fr + min m x.len ≤ x.to
      unfold QCh.len; omega
    · exact pullL_ok l _ (fun y hy => h y (by simp [hy])) c hc
theorem pullO_step : ∀ (L : List QCh) (m k : Nat), (∀ c ∈ L, ChOk c) → k < L.length →
    pullO m (L.take (k + 1)) = pullO m (L.take k) ++ ((L.getD k QCh.zero).os.drop (L.getD k QCh.zero).fr).take (min (m - (pullO m (L.take k)).length) (L.getD k QCh.zero).len)
  | [], m, k, _, h => by simp at h
  | c :: l, m, 0, _, _ => by simp [pullO]
  | c :: l, m, k + 1, hc, h => by
    have := pullO_step l (m - min m c.len) k (fun x hx => hc x (by simp [hx])) (by simpa using h)
    simp only [List.take_succ_cons, pullO, List.getD_cons_succ, this, List.append_assoc, List.length_append]
    rw [pull_part (hc c (by simp)) (Nat.min_le_right _ _), Nat.sub_sub]
theorem pullL_step : ∀ (L : List QCh) (m k : Nat), (∀ c ∈ L, ChOk c) → k < L.length →
    pullL m (L.take (k + 1)) = pullL m (L.take k) ++ [(L.getD k QCh.zero).adv (min (m - (pullO m (L.take k)).length) (L.getD k QCh.zero).len)]
  | [], m, k, _, h => by simp at h
  | c :: l, m, 0, _, _ => by simp [pullL, pullO]
  | c :: l, m, k + 1, hc, h => by
    have := pullL_step l (m - min m c.len) k (fun x hx => hc x (by simp [hx])) (by simpa using h)
    simp only [List.take_succ_cons, pullL, pullO, List.getD_cons_succ, this, List.cons_append, List.length_append]
    rw [pull_part (hc c (by simp)) (Nat.min_le_right _ _), Nat.sub_sub]

/-- The chunks when k of them have been read. -/
def pullAt (m k : Nat) (L : List QCh) : List QCh := pullL m (L.take k) ++ L.drop k
theorem pullAt_zero (m : Nat) (L : List QCh) : pullAt m 0 L = L := by simp [pullAt, pullL]
theorem pullAt_all (m : Nat) (L : List QCh) : pullAt m L.length L = pullL m L := by simp [pullAt]
theorem pullAt_len (m k : Nat) (L : List QCh) : (pullAt m k L).length = L.length := by
  unfold pullAt
  rw [List.length_append, pullL_length, List.length_take, List.length_drop]; omega
theorem pullAt_get (m k : Nat) (L : List QCh) (hk : k < L.length) : (pullAt m k L).getD k QCh.zero = L.getD k QCh.zero := by
  unfold pullAt
  have hl : (pullL m (L.take k)).length = k := by rw [pullL_length, List.length_take]; omega
  rw [List.getD_eq_getElem?_getD, List.getElem?_append_right (by omega), hl, Nat.sub_self, List.getElem?_drop, List.getD_eq_getElem?_getD]; simp
theorem pullAt_step (m k : Nat) (L : List QCh) (hc : ∀ c ∈ L, ChOk c) (hk : k < L.length) :
    pullAt m (k + 1) L = (pullAt m k L).set k ((L.getD k QCh.zero).adv (min (m - (pullO m (L.take k)).length) (L.getD k QCh.zero).len)) := by
  unfold pullAt
  have hl : (pullL m (L.take k)).length = k := by rw [pullL_length, List.length_take]; omega
  rw [pullL_step L m k hc hk, List.set_append_right _ _ (by omega), hl, Nat.sub_self]
  have e : L.drop k = L.getD k QCh.zero :: L.drop (k + 1) := by
    rw [List.drop_eq_getElem_cons hk, List.getD_eq_getElem?_getD, List.getElem?_eq_getElem hk]; rfl
  rw [e, List.set_cons_zero, List.append_assoc]; rfl

theorem qcells_set (L : List QCh) (k : Nat) (c : QCh) (hb : c.b = (L.getD k QCh.zero).b) (ho : c.os = (L.getD k QCh.zero).os) (ht : c.to = (L.getD k QCh.zero).to) (hk : k < L.length) :
    (L.flatMap QCh.cells).set (k * 3 + 1) (.int .i64 c.fr) = (L.set k c).flatMap QCh.cells := by
  induction L generalizing k with
  | nil => simp at hk
  | cons x l ih =>
    cases k with
    | zero =>
      simp only [List.getD_cons_zero] at hb ho ht
      simp [QCh.cells, hb, ho, ht]
    | succ k =>
      simp only [List.getD_cons_succ] at hb ho ht
      rw [List.flatMap_cons, List.set_append_right _ _ (by show 3 ≤ (k + 1) * 3 + 1; omega), List.set_cons_succ, List.flatMap_cons, ← ih k hb ho ht (by simpa using hk)]
      congr 2
      show (k + 1) * 3 + 1 - 3 = k * 3 + 1
      omega
theorem qrow_set {w : World} {B e size n g cap : Nat} {xs : List Value} (h : w.ownsRow B e size (.slice (some ⟨g, 0, none⟩) n cap) n xs) (j : Nat) (u : Value) : (w.setCell ⟨g, j, none⟩ u).ownsRow B e size (.slice (some ⟨g, 0, none⟩) n cap) n (xs.set j u) := by
  refine ⟨by rw [List.length_set]; exact h.1, ?_⟩
  rcases h.2 with ⟨h1, h2⟩ | ⟨g', cap', cur, h1, hb, hg, hn, hm, hs, ht⟩
  · cases h1
  · simp only [Value.slice.injEq, Option.some.injEq, Addr.mk.injEq, and_true] at h1
    obtain ⟨rfl, _, rfl⟩ := h1
    refine Or.inr ⟨g, cap, cur.setIfInBounds j u, rfl, hb, block_setCell hg j u, hn, hm, by simpa using hs, ?_⟩
    rw [Array.toList_setIfInBounds, List.take_set, ht]

/-- A chunk's From is written. -/
theorem QuMem.setFr {w : World} {F : Nat → Prop} {I : QuId} {L : List QCh} {g cap : Nat} (h : QuMem w F I L (.slice (some ⟨g, 0, none⟩) L.length cap)) (k t : Nat) (hk : k < L.length) :
    QuMem (w.setCell ⟨g, k * 3 + 1, none⟩ (.int .i64 ((L.getD k QCh.zero).fr + t : Nat))) F I (L.set k ((L.getD k QCh.zero).adv t)) (.slice (some ⟨g, 0, none⟩) L.length cap) := by
  have hne : ∀ (k' : Nat) (cs : Array Value) (ty : Nat), w.heap[k']? = some (Obj.cells cs ty (0, 0)) → ty ≠ 103 → (w.setCell ⟨g, k * 3 + 1, none⟩ (.int .i64 ((L.getD k QCh.zero).fr + t : Nat))).heap[k']? = w.heap[k']? := fun k' cs ty h1 h2 =>
    Below.heap_setCell _ _ _ k' (fun e => qrow_ne h.crow h1 h2 (by rw [show k' = g from e]; rfl))
  refine ⟨(hne _ _ _ h.self (by decide)).trans h.self, h.fr, ?_, h.fc, ?_, ?_⟩
  · have := qrow_set h.crow (k * 3 + 1) (.int .i64 ((L.getD k QCh.zero).fr + t : Nat))
    have e := qcells_set L k ((L.getD k QCh.zero).adv t) rfl rfl rfl hk
    rw [List.length_set]
    rw [show ((L.getD k QCh.zero).adv t).fr = (L.getD k QCh.zero).fr + t from rfl] at e
    rwa [e] at this
  · intro c hc
    rcases List.mem_or_eq_of_mem_set hc with hc | rfl
    · exact ⟨(hne _ _ _ (h.mem c hc).1 (by decide)).trans (h.mem c hc).1, (h.mem c hc).2⟩
    · have := h.mem _ (qgetD_in hk)
      exact ⟨(hne _ _ _ this.1 (by decide)).trans this.1, this.2⟩
  · have e : (L.set k ((L.getD k QCh.zero).adv t)).map QCh.b = L.map QCh.b := by
      rw [List.map_set]
      apply List.ext_getElem?
      intro j
      rw [List.getElem?_set]
      split
      · rename_i hj
        subst hj
        simp [hk, QCh.adv, List.getD_eq_getElem?_getD]
      · rfl
    rw [e]
    exact h.inj

/-- 'append(s, x...)' of octets: what it gives. -/
theorem run_append_octets (w : World) (base : Nat) (ty : TypeId) (v : Value) (n : Nat) (xs : List Int) (hown : w.ownsRow base 5 1 v n (xs.map (Value.int .u8)))
    (sv : Value) (zs : List Int) (hr : Reads w .u8 sv zs) (h63 : n + zs.length ≤ 140737488355328) (hbase : base ≤ w.heap.size) :
    ∃ v' w', (Builtin.append_ #[42, 42] ty #[v, sv]).run Tryz.prog w = .ok v' w' ∧ w'.ownsRow base 5 1 v' (n + zs.length) ((xs ++ zs).map (Value.int .u8)) ∧ w.grownBy w' v.ownBlock := by
  obtain ⟨i0, hi, hz0, hz1, hz2⟩ := info_parts infoB1
  have hr' := hr
  obtain ⟨p, cap, rfl, hl, hc⟩ := hr
  cases p with
  | none =>
    have hz : zs = [] := by
      rcases List.eq_nil_or_concat zs with h' | ⟨l, y, h'⟩
      · exact h'
      · obtain ⟨b, o, h1, _⟩ := hc (by rw [h']; simp)
        cases h1
    subst hz
    obtain ⟨a1, c1, rfl, h1, h2⟩ := ownsRow_lt2 hown
    exact ⟨_, w, run_append_nothing (P := Tryz.prog) w 42 42 ty 5 i0 Tryz.underlying42 hi a1 n c1 h1 (.slice none 0 cap) (Src.ofNil w Tryz.underlying42 cap), by simpa using hown, World.grownBy.refl _ _⟩
  | some ad =>
    have hcs := hr'.cells rfl
    obtain ⟨v', w', h1, h2, h3, _⟩ := run_append_own (P := Tryz.prog) w base 42 ty 5 i0 (.int .u8 0) 1 1 Tryz.underlying42 hi hz0 hz1 hz2 rfl (by decide) v n _ hown ad zs.length cap (zs.map (Value.int .u8)) (by simp) (hcs _ rfl) (by intro u hu; obtain ⟨z, _, rfl⟩ := List.mem_map.1 hu; rfl) (by unfold maxLen; omega) (by omega) hbase
    exact ⟨v', w', h1, by simpa using h2, h3⟩

end
end Go.Proofs.YtfnmjlnpfoclbaaGreat

namespace Go.Proofs.YtfnmjlnpfoclbaaGreat
section
set_option linter.unusedVariables false

theorem qCont_cons (c : QCh) (l : List QCh) : qCont (c :: l) = c.cont ++ qCont l := by simp [qCont]
theorem qCont_app (L M : List QCh) : qCont (L ++ M) = qCont L ++ qCont M := by simp [qCont]
theorem qCont_dropQ (n : Nat) : ∀ (L : List QCh) (j : Nat), qCont (dropQ n j L) = qCont L
  | [], j => rfl
  | c :: l, j => by
    have h := qCont_dropQ n l (j + 1)
    rw [dropQ]
    split
    · rename_i hg
      have h0 : c.cont = [] := by unfold QCh.cont QCh.len; have := hg.1; rw [show c.to - c.fr = 0 by omega, List.take_zero]
      rw [qCont_cons, h0, h]; rfl
    · rw [qCont_cons, qCont_cons, h]
theorem pull_law (L : List QCh) (n m : Nat) (h : ∀ c ∈ L, ChOk c) : qCont (dropQ m 0 (pullL n L)) = (qCont L).drop n := by
  rw [qCont_dropQ, pullL_cont L n h]
/-- A chunk whose end moves on by octets that are written there. -/
theorem cont_more {c : QCh} (h : ChOk c) (zs : List Int) (hz : c.to + zs.length ≤ c.os.length) :
    ({ c with os := splice c.os c.to zs, to := c.to + zs.length } : QCh).cont = c.cont ++ zs := by
  obtain ⟨h1, h2, h3⟩ := h
  unfold QCh.cont QCh.len splice
  dsimp only
  have e1 : (c.os.take c.to).length = c.to := by rw [List.length_take]; omega
  rw [List.drop_append_of_le_length (by omega), List.drop_take]
  have e2 : ((c.os.drop c.fr).take (c.to - c.fr)).length = c.to - c.fr := by rw [List.length_take, List.length_drop]; omega
  rw [List.take_append, e2, List.take_of_length_le (by omega), show c.to + zs.length - c.fr - (c.to - c.fr) = zs.length by omega, List.take_append_of_le_length (Nat.le_refl _), List.take_length]

end
end Go.Proofs.YtfnmjlnpfoclbaaGreat

namespace Go.Proofs.YtfnmjlnpfoclbaaGreat
section
open Go.RowKit
set_option linter.unusedVariables false

def QCh.more (c : QCh) (zs : List Int) : QCh := ⟨c.b, splice c.os c.to zs, c.fr, c.to + zs.length⟩
theorem qcells_set2 (L : List QCh) (k : Nat) (c : QCh) (hb : c.b = (L.getD k QCh.zero).b) (ho : c.os.length = (L.getD k QCh.zero).os.length) (hf : c.fr = (L.getD k QCh.zero).fr) (hk : k < L.length) :
    (L.flatMap QCh.cells).set (k * 3 + 2) (.int .i64 c.to) = (L.set k c).flatMap QCh.cells := by
  induction L generalizing k with
  | nil => simp at hk
  | cons x l ih =>
    cases k with
    | zero =>
      simp only [List.getD_cons_zero] at hb ho hf
      simp [QCh.cells, hb, ho, hf]
    | succ k =>
      simp only [List.getD_cons_succ] at hb ho hf
      rw [List.flatMap_cons, List.set_append_right _ _ (by show 3 ≤ (k + 1) * 3 + 2; omega), List.set_cons_succ, List.flatMap_cons, ← ih k hb ho hf (by simpa using hk)]
      congr 2
      show (k + 1) * 3 + 2 - 3 = k * 3 + 2
      omega
theorem qmap_set (L : List QCh) (k : Nat) (c : QCh) (hk : k < L.length) (hb : c.b = (L.getD k QCh.zero).b) : (L.set k c).map QCh.b = L.map QCh.b := by
  rw [List.map_set]
  apply List.ext_getElem?
  intro j
  rw [List.getElem?_set]
  split
  · rename_i hj
    subst hj
    simp [hk, hb, List.getD_eq_getElem?_getD]
  · rfl

theorem QuMem.more {w w2 : World} {F : Nat → Prop} {I : QuId} {L : List QCh} {g cap : Nat} (h : QuMem w F I L (.slice (some ⟨g, 0, none⟩) L.length cap)) (k : Nat) (zs : List Int) (hk : k < L.length) (hz : (L.getD k QCh.zero).to + zs.length ≤ (L.getD k QCh.zero).os.length)
    (hrow : byteRow w2 (L.getD k QCh.zero).b (splice (L.getD k QCh.zero).os (L.getD k QCh.zero).to zs)) (hT : Touch (fun j => j = (L.getD k QCh.zero).b) w w2) :
    QuMem (w2.setCell ⟨g, k * 3 + 2, none⟩ (.int .i64 ((L.getD k QCh.zero).to + zs.length : Nat))) F I (L.set k ((L.getD k QCh.zero).more zs)) (.slice (some ⟨g, 0, none⟩) L.length cap) := by
  have hc0 := h.mem _ (qgetD_in hk)
  have neB : ∀ (j : Nat) (cs : Array Value) (ty : Nat), w.heap[j]? = some (Obj.cells cs ty (0, 0)) → ty ≠ 5 → j ≠ (L.getD k QCh.zero).b := fun j cs ty h1 h2 e => by
    rw [e] at h1
    have := hc0.1
    unfold byteRow at this
    rw [this] at h1
    simp only [Option.some.injEq, Obj.cells.injEq] at h1
    exact h2 h1.2.1.symm
  have hne : ∀ (k' : Nat) (cs : Array Value) (ty : Nat), w2.heap[k']? = some (Obj.cells cs ty (0, 0)) → ty ≠ 103 → (w2.setCell ⟨g, k * 3 + 2, none⟩ (.int .i64 ((L.getD k QCh.zero).to + zs.length : Nat))).heap[k']? = w2.heap[k']? := fun k' cs ty h1 h2 => by
    refine Below.heap_setCell _ _ _ k' (fun e => ?_)
    obtain ⟨cur, hcur⟩ := row_block h.crow rfl
    have hg : w2.heap[g]? = w.heap[g]? := hT.block g (lt_of hcur) (neB g _ _ hcur (by decide))
    rw [show k' = g from e, hg, hcur] at h1
    simp only [Option.some.injEq, Obj.cells.injEq] at h1
    exact h2 h1.2.1.symm
  obtain ⟨cur, hcur⟩ := row_block h.crow rfl
  have hg : w2.heap[g]? = w.heap[g]? := hT.block g (lt_of hcur) (neB g _ _ hcur (by decide))
  have hs2 := (hT.block I.r (lt_of h.self) (neB _ _ _ h.self (by decide))).trans h.self
  have hsl : (splice (L.getD k QCh.zero).os (L.getD k QCh.zero).to zs).length = (L.getD k QCh.zero).os.length := splice_len _ _ _ hz
  refine ⟨(hne _ _ _ hs2 (by decide)).trans hs2, h.fr, ?_, h.fc, ?_, ?_⟩
  · have c2 := ownsRow_same h.crow (w' := w2) (fun j hj => by
      have : j = g := by simpa [Value.ownBlock] using hj.symm
      subst this
      exact hg)
    have := qrow_set c2 (k * 3 + 2) (.int .i64 ((L.getD k QCh.zero).to + zs.length : Nat))
    have e := qcells_set2 L k ((L.getD k QCh.zero).more zs) rfl hsl rfl hk
    rw [List.length_set]
    rw [show ((L.getD k QCh.zero).more zs).to = (L.getD k QCh.zero).to + zs.length from rfl] at e
    rwa [e] at this
  · intro c hc
    obtain ⟨j, hj, rfl⟩ := List.mem_iff_getElem.1 hc
    rw [List.length_set] at hj
    by_cases hkj : k = j
    · subst hkj
      rw [List.getElem_set_self]
      exact ⟨(hne _ _ _ hrow (by decide)).trans hrow, hc0.2⟩
    · rw [List.getElem_set_ne hkj]
      have hm := h.mem _ (List.getElem_mem hj)
      have hnb : (L[j]).b ≠ (L.getD k QCh.zero).b := fun e => by
        have e2 : (L.map QCh.b)[j]'(by simpa using hj) = (L.map QCh.b)[k]'(by simpa using hk) := by
          rw [List.getElem_map, List.getElem_map, e, List.getD_eq_getElem?_getD, List.getElem?_eq_getElem hk]; rfl
        exact (List.pairwise_iff_getElem.1 h.inj |> fun P => (Nat.lt_or_gt_of_ne hkj).elim (fun x => P k j (by simpa using hk) (by simpa using hj) x e2.symm) (fun x => P j k (by simpa using hj) (by simpa using hk) x e2))
      have h2 := (hT.block _ (lt_of hm.1) hnb).trans hm.1
      exact ⟨(hne _ _ _ h2 (by decide)).trans h2, hm.2⟩
  · rw [qmap_set L k ((L.getD k QCh.zero).more zs) hk rfl]; exact h.inj

end
end Go.Proofs.YtfnmjlnpfoclbaaGreat

namespace Go.Proofs.YtfnmjlnpfoclbaaGreat
section
open Go.RowKit
set_option linter.unusedVariables false

theorem QuMem.add {w w2 w' : World} {F : Nat → Prop} {I : QuId} {L : List QCh} {cv kv : Value} (h : QuMem w F I L cv) (c : QCh) (hT : Touch (fun k => ¬ F k) w w2) (hnew : w.heap.size ≤ c.b) (hbr : byteRow w2 c.b c.os)
    (hrow : w'.ownsRow 0 103 3 kv (L.length + 1) (L.flatMap QCh.cells ++ c.cells)) (hgr : w2.grownBy w' cv.ownBlock) (hpl : ∀ g, kv.ownBlock = some g → cv.ownBlock = some g ∨ w2.heap.size ≤ g) :
    QuMem (w'.setCell ⟨I.r, 7, none⟩ kv) (fun k => F k ∨ kv.ownBlock = some k ∨ k = c.b) I (L ++ [c]) kv ∧ Touch (fun k => k = I.r ∨ cv.ownBlock = some k) w2 (w'.setCell ⟨I.r, 7, none⟩ kv) := by
  have h2 : QuMem w2 F I L cv := h.same (hT.same (fun k hk _ x => x hk))
  have hg0l := lt_of hbr
  have hcr : cv.ownBlock ≠ some I.r := qrow_ne h2.crow h2.self (by decide)
  have hr2 := lt_of h2.self
  have hkr : kv.ownBlock ≠ some I.r := fun e => (hpl _ e).elim hcr (fun x => by omega)
  have hr0 := lt_of h.self
  have keep : ∀ k, k < w2.heap.size → k ≠ I.r → cv.ownBlock ≠ some k → (w'.setCell ⟨I.r, 7, none⟩ kv).heap[k]? = w2.heap[k]? := fun k hk h1 h2 =>
    (Below.heap_setCell _ _ _ k h1).trans (hgr.block k hk (fun e => h2 e.symm))
  have hself' := (hgr.block I.r hr2 (fun e => hcr e.symm)).trans h2.self
  have hg0c : cv.ownBlock ≠ some c.b := fun e => by have := (h.crow.lt _ e).2; omega
  refine ⟨⟨?_, Or.inl h.fr, ?_, fun k hk => Or.inr (Or.inl hk), ?_, ?_⟩, ?_⟩
  · rw [block_setCell hself']; rfl
  · have := ownsRow_setCell_other hrow (a := ⟨I.r, 7, none⟩) hkr kv
    rw [List.length_append, List.flatMap_append]
    simpa using this
  · intro x hx
    rcases List.mem_append.1 hx with hx | hx
    · obtain ⟨h1, h3⟩ := h2.mem x hx
      refine ⟨(keep _ (lt_of h1) ?_ (qrow_ne h2.crow h1 (by decide))).trans h1, Or.inl h3⟩
      intro e
      have := h2.self
      rw [← e, h1] at this
      simp at this
    · obtain rfl : x = c := by simpa using hx
      exact ⟨(keep _ hg0l (by omega) hg0c).trans hbr, Or.inr (Or.inr rfl)⟩
  · rw [List.map_append, List.nodup_append]
    refine ⟨h.inj, by simp, fun a ha b hb => ?_⟩
    obtain ⟨x, hx, rfl⟩ := List.mem_map.1 ha
    have := lt_of (h.mem x hx).1
    simp at hb
    omega
  · refine Touch.setCell (F := fun k => k = I.r ∨ cv.ownBlock = some k) ?_ (Or.inl (Or.inl rfl)) _
    exact (Touch.refl _ w2).grown hgr (fun k hk => Or.inl (Or.inr hk))

end
end Go.Proofs.YtfnmjlnpfoclbaaGreat
