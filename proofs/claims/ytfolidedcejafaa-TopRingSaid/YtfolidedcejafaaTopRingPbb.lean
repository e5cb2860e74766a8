/-
  Pull of a queue: the plain part, and what a round writes. Conditions: numbers in their bounds.
-/
import Derived.Test.YtfolidedcejafaaTopRingPba
namespace Go.Proofs.Ytfolidedcejafaa
open Go.RowKit
set_option linter.unusedVariables false

def QCh.cont (c : QCh) : List Int := (c.os.drop c.fr).take c.len
def qCont (L : List QCh) : List Int := L.flatMap QCh.cont
def QCh.adv (c : QCh) (t : Nat) : QCh := { c with fr := c.fr + t }
def pullL : Nat → List QCh → List QCh
  | _, [] => []
  | m, c :: l => c.adv (min m c.len) :: pullL (m - min m c.len) l
def pullO : Nat → List QCh → List Int
  | _, [] => []
  | m, c :: l => (c.os.drop c.fr).take (min m c.len) ++ pullO (m - min m c.len) l
def ChOk (c : QCh) : Prop := c.fr ≤ c.to ∧ c.to ≤ c.os.length ∧ c.os.length ≤ 100000

theorem pull_part {c : QCh} (h : ChOk c) {t : Nat} (ht : t ≤ c.len) : ((c.os.drop c.fr).take t).length = t := by
  unfold QCh.len at ht
  rw [List.length_take, List.length_drop]
  have := h.1; have := h.2.1
  omega
theorem cont_len {c : QCh} (h : ChOk c) : c.cont.length = c.len := pull_part h (Nat.le_refl _)
theorem qCont_len : ∀ {L : List QCh}, (∀ c ∈ L, ChOk c) → (qCont L).length = qsum QCh.len L
  | [], _ => rfl
  | c :: l, h => by
    have h1 := cont_len (h c (by simp))
    have h2 := qCont_len (L := l) (fun x hx => h x (by simp [hx]))
    simp only [qCont, List.flatMap_cons, List.length_append, qsum, List.map_cons, List.sum_cons] at *
    omega
theorem pullO_eq : ∀ (L : List QCh) (m : Nat), (∀ c ∈ L, ChOk c) → pullO m L = (qCont L).take m
  | [], m, _ => by simp [pullO, qCont]
  | c :: l, m, h => by
    have h1 := cont_len (h c (by simp))
    have h2 := pullO_eq l (m - min m c.len) (fun x hx => h x (by simp [hx]))
    have e : qCont (c :: l) = c.cont ++ qCont l := by simp [qCont]
    rw [pullO, h2, e, List.take_append, h1]
    have e1 : (c.os.drop c.fr).take (min m c.len) = c.cont.take m := by unfold QCh.cont; rw [List.take_take]
    rw [e1]
    congr 2
    omega
theorem adv_cont {c : QCh} (h : ChOk c) {t : Nat} (ht : t ≤ c.len) : (c.adv t).cont = c.cont.drop t := by
  unfold QCh.cont QCh.adv QCh.len
  simp only
  rw [List.drop_take, List.drop_drop]
  congr 1
  omega
theorem pullL_cont : ∀ (L : List QCh) (m : Nat), (∀ c ∈ L, ChOk c) → qCont (pullL m L) = (qCont L).drop m
  | [], m, _ => by simp [pullL, qCont]
  | c :: l, m, h => by
    have h1 := cont_len (h c (by simp))
    have h2 := pullL_cont l (m - min m c.len) (fun x hx => h x (by simp [hx]))
    have e : ∀ (x : QCh) y, qCont (x :: y) = x.cont ++ qCont y := fun x y => by simp [qCont]
    rw [pullL, e, e, h2, adv_cont (h c (by simp)) (Nat.min_le_right _ _), List.drop_append, h1]
    by_cases hm : m ≤ c.len
    · rw [Nat.min_eq_left hm]; congr 2; omega
    · rw [Nat.min_eq_right (by omega)]
      congr 1
      rw [List.drop_of_length_le (by omega), List.drop_of_length_le (by omega)]
theorem pullL_room : ∀ (L : List QCh) (m : Nat), qsum QCh.room (pullL m L) = qsum QCh.room L
  | [], m => rfl
  | c :: l, m => by
    have := pullL_room l (m - min m c.len)
    simp only [pullL, qsum, List.map_cons, List.sum_cons, QCh.room, QCh.adv] at *
    omega
theorem pullL_length : ∀ (L : List QCh) (m : Nat), (pullL m L).length = L.length
  | [], m => rfl
  | c :: l, m => by simp [pullL, pullL_length l]
theorem pullL_ok : ∀ (L : List QCh) (m : Nat), (∀ c ∈ L, ChOk c) → ∀ c ∈ pullL m L, ChOk c
  | [], m, _ => by simp [pullL]
  | x :: l, m, h => by
    have h1 := h x (by simp)
    intro c hc
    rw [pullL] at hc
    rcases List.mem_cons.1 hc with rfl | hc
    · obtain ⟨a1, a2, a3⟩ := h1
      refine ⟨?_, a2, a3⟩
      show x.fr + min m x.len ≤ x.to
      unfold QCh.len; omega
    · exact pullL_ok l _ (fun y hy => h y (by simp [hy])) c hc
theorem pullO_step : ∀ (L : List QCh) (m k : Nat), (∀ c ∈ L, ChOk c) → k < L.length →
    pullO m (L.take (k + 1)) = pullO m (L.take k) ++ ((L.getD k QCh.zero).os.drop (L.getD k QCh.zero).fr).take (min (m - (pullO m (L.take k)).length) (L.getD k QCh.zero).len)
  | [], m, k, _, h => by simp at h
  | c :: l, m, 0, _, _ => by simp [pullO]
  | c :: l, m, k + 1, hc, h => by
    have := pullO_step l (m - min m c.len) k (fun x hx => hc x (by simp [hx])) (by simpa using h)
    simp only [List.take_succ_cons, pullO, List.getD_cons_succ, this, List.append_assoc, List.length_append]
    rw [pull_part (hc c (by simp)) (Nat.min_le_right _ _), Nat.sub_sub]
theorem pullL_step : ∀ (L : List QCh) (m k : Nat), (∀ c ∈ L, ChOk c) → k < L.length →
    pullL m (L.take (k + 1)) = pullL m (L.take k) ++ [(L.getD k QCh.zero).adv (min (m - (pullO m (L.take k)).length) (L.getD k QCh.zero).len)]
  | [], m, k, _, h => by simp at h
  | c :: l, m, 0, _, _ => by simp [pullL, pullO]
  | c :: l, m, k + 1, hc, h => by
    have := pullL_step l (m - min m c.len) k (fun x hx => hc x (by simp [hx])) (by simpa using h)
    simp only [List.take_succ_cons, pullL, pullO, List.getD_cons_succ, this, List.cons_append, List.length_append]
    rw [pull_part (hc c (by simp)) (Nat.min_le_right _ _), Nat.sub_sub]

/-- The chunks when k of them have been read. -/
def pullAt (m k : Nat) (L : List QCh) : List QCh := pullL m (L.take k) ++ L.drop k
theorem pullAt_zero (m : Nat) (L : List QCh) : pullAt m 0 L = L := by simp [pullAt, pullL]
theorem pullAt_all (m : Nat) (L : List QCh) : pullAt m L.length L = pullL m L := by simp [pullAt]
theorem pullAt_len (m k : Nat) (L : List QCh) : (pullAt m k L).length = L.length := by
  unfold pullAt
  rw [List.length_append, pullL_length, List.length_take, List.length_drop]; omega
theorem pullAt_get (m k : Nat) (L : List QCh) (hk : k < L.length) : (pullAt m k L).getD k QCh.zero = L.getD k QCh.zero := by
  unfold pullAt
  have hl : (pullL m (L.take k)).length = k := by rw [pullL_length, List.length_take]; omega
  rw [List.getD_eq_getElem?_getD, List.getElem?_append_right (by omega), hl, Nat.sub_self, List.getElem?_drop, List.getD_eq_getElem?_getD]; simp
theorem pullAt_step (m k : Nat) (L : List QCh) (hc : ∀ c ∈ L, ChOk c) (hk : k < L.length) :
    pullAt m (k + 1) L = (pullAt m k L).set k ((L.getD k QCh.zero).adv (min (m - (pullO m (L.take k)).length) (L.getD k QCh.zero).len)) := by
  unfold pullAt
  have hl : (pullL m (L.take k)).length = k := by rw [pullL_length, List.length_take]; omega
  rw [pullL_step L m k hc hk, List.set_append_right _ _ (by omega), hl, Nat.sub_self]
  have e : L.drop k = L.getD k QCh.zero :: L.drop (k + 1) := by
    rw [List.drop_eq_getElem_cons hk, List.getD_eq_getElem?_getD, List.getElem?_eq_getElem hk]; rfl
  rw [e, List.set_cons_zero, List.append_assoc]; rfl

theorem qcells_set (L : List QCh) (k : Nat) (c : QCh) (hb : c.b = (L.getD k QCh.zero).b) (ho : c.os = (L.getD k QCh.zero).os) (ht : c.to = (L.getD k QCh.zero).to) (hk : k < L.length) :
    (L.flatMap QCh.cells).set (k * 3 + 1) (.int .i64 c.fr) = (L.set k c).flatMap QCh.cells := by
  induction L generalizing k with
  | nil => simp at hk
  | cons x l ih =>
    cases k with
    | zero =>
      simp only [List.getD_cons_zero] at hb ho ht
      simp [QCh.cells, hb, ho, ht]
    | succ k =>
      simp only [List.getD_cons_succ] at hb ho ht
      rw [List.flatMap_cons, List.set_append_right _ _ (by show 3 ≤ (k + 1) * 3 + 1; omega), List.set_cons_succ, List.flatMap_cons, ← ih k hb ho ht (by simpa using hk)]
      congr 2
      show (k + 1) * 3 + 1 - 3 = k * 3 + 1
      omega
theorem qrow_set {w : World} {B e size n g cap : Nat} {xs : List Value} (h : w.ownsRow B e size (.slice (some ⟨g, 0, none⟩) n cap) n xs) (j : Nat) (u : Value) : (w.setCell ⟨g, j, none⟩ u).ownsRow B e size (.slice (some ⟨g, 0, none⟩) n cap) n (xs.set j u) := by
  refine ⟨by rw [List.length_set]; exact h.1, ?_⟩
  rcases h.2 with ⟨h1, h2⟩ | ⟨g', cap', cur, h1, hb, hg, hn, hm, hs, ht⟩
  · cases h1
  · simp only [Value.slice.injEq, Option.some.injEq, Addr.mk.injEq, and_true] at h1
    obtain ⟨rfl, _, rfl⟩ := h1
    refine Or.inr ⟨g, cap, cur.setIfInBounds j u, rfl, hb, block_setCell hg j u, hn, hm, by simpa using hs, ?_⟩
    rw [Array.toList_setIfInBounds, List.take_set, ht]

/-- A chunk's From is written. -/
theorem QuMem.setFr {w : World} {F : Nat → Prop} {I : QuId} {L : List QCh} {g cap : Nat} (h : QuMem w F I L (.slice (some ⟨g, 0, none⟩) L.length cap)) (k t : Nat) (hk : k < L.length) :
    QuMem (w.setCell ⟨g, k * 3 + 1, none⟩ (.int .i64 ((L.getD k QCh.zero).fr + t : Nat))) F I (L.set k ((L.getD k QCh.zero).adv t)) (.slice (some ⟨g, 0, none⟩) L.length cap) := by
  have hne : ∀ (k' : Nat) (cs : Array Value) (ty : Nat), w.heap[k']? = some (Obj.cells cs ty (0, 0)) → ty ≠ 117 → (w.setCell ⟨g, k * 3 + 1, none⟩ (.int .i64 ((L.getD k QCh.zero).fr + t : Nat))).heap[k']? = w.heap[k']? := fun k' cs ty h1 h2 =>
    Below.heap_setCell _ _ _ k' (fun e => qrow_ne h.crow h1 h2 (by rw [show k' = g from e]; rfl))
  refine ⟨(hne _ _ _ h.self (by decide)).trans h.self, h.fr, ?_, h.fc, ?_, ?_⟩
  · have := qrow_set h.crow (k * 3 + 1) (.int .i64 ((L.getD k QCh.zero).fr + t : Nat))
    have e := qcells_set L k ((L.getD k QCh.zero).adv t) rfl rfl rfl hk
    rw [List.length_set]
    rw [show ((L.getD k QCh.zero).adv t).fr = (L.getD k QCh.zero).fr + t from rfl] at e
    rwa [e] at this
  · intro c hc
    rcases List.mem_or_eq_of_mem_set hc with hc | rfl
    · exact ⟨(hne _ _ _ (h.mem c hc).1 (by decide)).trans (h.mem c hc).1, (h.mem c hc).2⟩
    · have := h.mem _ (qgetD_in hk)
      exact ⟨(hne _ _ _ this.1 (by decide)).trans this.1, this.2⟩
  · have e : (L.set k ((L.getD k QCh.zero).adv t)).map QCh.b = L.map QCh.b := by
      rw [List.map_set]
      apply List.ext_getElem?
      intro j
      rw [List.getElem?_set]
      split
      · rename_i hj
        subst hj
        simp [hk, QCh.adv, List.getD_eq_getElem?_getD]
      · rfl
    rw [e]
    exact h.inj

/-- 'append(s, x...)' of octets: what it gives. -/
theorem run_append_octets (w : World) (base : Nat) (ty : TypeId) (v : Value) (n : Nat) (xs : List Int) (hown : w.ownsRow base 5 1 v n (xs.map (Value.int .u8)))
    (sv : Value) (zs : List Int) (hr : Reads w .u8 sv zs) (h63 : n + zs.length ≤ 140737488355328) (hbase : base ≤ w.heap.size) :
    ∃ v' w', (Builtin.append_ #[46, 46] ty #[v, sv]).run Try.prog w = .ok v' w' ∧ w'.ownsRow base 5 1 v' (n + zs.length) ((xs ++ zs).map (Value.int .u8)) ∧ w.grownBy w' v.ownBlock := by
  obtain ⟨i0, hi, hz0, hz1, hz2⟩ := info_parts infoB1
  have hr' := hr
  obtain ⟨p, cap, rfl, hl, hc⟩ := hr
  cases p with
  | none =>
    have hz : zs = [] := by
      rcases List.eq_nil_or_concat zs with h' | ⟨l, y, h'⟩
      · exact h'
      · obtain ⟨b, o, h1, _⟩ := hc (by rw [h']; simp)
        cases h1
    subst hz
    obtain ⟨a1, c1, rfl, h1, h2⟩ := ownsRow_lt2 hown
    exact ⟨_, w, run_append_nothing (P := Try.prog) w 46 46 ty 5 i0 Try.underlying46 hi a1 n c1 h1 (.slice none 0 cap) (Src.ofNil w Try.underlying46 cap), by simpa using hown, World.grownBy.refl _ _⟩
  | some ad =>
    have hcs := hr'.cells rfl
    obtain ⟨v', w', h1, h2, h3, _⟩ := run_append_own (P := Try.prog) w base 46 ty 5 i0 (.int .u8 0) 1 1 Try.underlying46 hi hz0 hz1 hz2 rfl (by decide) v n _ hown ad zs.length cap (zs.map (Value.int .u8)) (by simp) (hcs _ rfl) (by intro u hu; obtain ⟨z, _, rfl⟩ := List.mem_map.1 hu; rfl) (by unfold maxLen; omega) (by omega) hbase
    exact ⟨v', w', h1, by simpa using h2, h3⟩

end Go.Proofs.Ytfolidedcejafaa
