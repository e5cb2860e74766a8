/-
  Set of a pool: a round, in plain words. No conditions.
-/
import Derived.Test.YtbndknbjjdoanaaTopSharedPbi
namespace Go.Proofs.Ytbndknbjjdoanaa
open Go.RowKit
set_option linter.unusedVariables false

theorem splice_out {α : Type} (cs xs : List α) (c f t : Nat) (hc : c + xs.length ≤ cs.length) (h : t ≤ c ∨ c + xs.length ≤ f) : ((splice cs c xs).take t).drop f = (cs.take t).drop f := by
  apply List.ext_getElem?
  intro j
  rw [List.getElem?_drop, List.getElem?_drop, List.getElem?_take, List.getElem?_take]
  split
  · next hj =>
    rw [splice_at _ _ _ _ hc]
    split
    · rfl
    · rw [if_neg (by omega)]
  · rfl
theorem splice_in {α : Type} (cs xs : List α) (c f t : Nat) (ht : t ≤ cs.length) (h : f + c + xs.length ≤ t) : ((splice cs (f + c) xs).take t).drop f = splice ((cs.take t).drop f) c xs := by
  have hl : ((cs.take t).drop f).length = t - f := by rw [List.length_drop, List.length_take]; omega
  apply List.ext_getElem?
  intro j
  by_cases h0 : f + j < t
  · rw [List.getElem?_drop, List.getElem?_take, if_pos h0, splice_at cs xs (f + c) (f + j) (by omega), splice_at ((cs.take t).drop f) xs c j (by rw [hl]; omega), List.getElem?_drop, List.getElem?_take, if_pos h0]
    by_cases h1 : j < c
    · rw [if_pos (by omega), if_pos h1]
    · rw [if_neg (by omega), if_neg h1]
      by_cases h2 : j < c + xs.length
      · rw [if_pos (by omega), if_pos h2]
        congr 1
        omega
      · rw [if_neg (by omega), if_neg h2]
  · rw [List.getElem?_eq_none (by rw [List.length_drop, List.length_take]; omega), List.getElem?_eq_none (by rw [splice_len _ _ _ (by rw [hl]; omega), hl]; omega)]
theorem filter_lt_step {S : List Nat} {k : Nat} (h : k ∉ S) : (S.filter fun i => decide (i < k + 1)) = S.filter fun i => decide (i < k) := List.filter_congr (fun i hi => by
  have : i ≠ k := fun e => h (e ▸ hi)
  simp
  omega)
theorem filter_lt_one {S : List Nat} {k : Nat} (hn : S.Nodup) (h : k ∈ S) : (S.filter fun i => decide (i < k + 1)).length = (S.filter fun i => decide (i < k)).length + 1 := by
  induction S with
  | nil => simp at h
  | cons x S ih =>
    rw [List.nodup_cons] at hn
    rw [List.filter_cons, List.filter_cons]
    rcases List.mem_cons.1 h with rfl | h
    · rw [if_pos (by simp), if_neg (by simp), List.length_cons, filter_lt_step hn.1]
    · have hx : x ≠ k := fun e => hn.1 (e ▸ h)
      have := ih hn.2 h
      by_cases h1 : x < k
      · rw [if_pos (by simp; omega), if_pos (by simp; omega), List.length_cons, List.length_cons, this]
      · rw [if_neg (by simp; omega), if_neg (by simp; omega), this]
theorem octPt_of {P : PoolSt} {x : Pt} {y : Bk} (h : lookN P.bl (x.b : Int) = some y) : octPt P.oct x = (y.cs.take x.t).drop x.f := by
  unfold octPt
  rw [oct_of h]
theorem octPt_look {P Q : PoolSt} {z : Pt} (h : lookN Q.bl (z.b : Int) = lookN P.bl (z.b : Int)) : octPt Q.oct z = octPt P.oct z := by
  unfold octPt PoolSt.oct
  rw [h]
theorem SetI.start {P : PoolSt} {s : Nat} {l : List Pt} {S : List Nat} {T : List Int} (hn : ∀ p ∈ P.bl, p.1 ≤ P.lastB) (hp : PtsOf P l) : SetI P s l S T 0 P l :=
  ⟨rfl, rfl, rfl, ⟨by omega, by omega⟩, by rw [List.filter_eq_nil_iff.2 (fun i _ => by simp)]; rfl, hn, fun b y h => ⟨y, h, rfl, rfl, rfl, rfl⟩, rfl, fun _ _ => rfl, hp, fun i x x' h h' => by rw [h] at h'; cases h'; rfl, fun i x' h => by omega, fun i x x' h => by omega, fun _ _ _ _ => rfl, fun _ _ _ _ _ => rfl⟩
theorem SetI.skip {P : PoolSt} {s : Nat} {l : List Pt} {S : List Nat} {T : List Int} {k : Nat} {Q : PoolSt} {m : List Pt} (h : SetI P s l S T k Q m) {x : Pt} (hx : l[k]? = some x) (hS : k ∉ S) (ht : octPt P.oct x = tgt T l k x) : SetI P s l S T (k + 1) Q m :=
  ⟨h.st, h.ls, h.sz, ⟨by have := h.lb.1; omega, h.lb.2⟩, by rw [filter_lt_step hS]; exact h.bl, h.nb, h.old, h.len, fun i hi => h.later i (by omega), h.pts, h.num, fun i x' hi hx' => by
    by_cases e : i = k
    · subst e
      refine ⟨fun hS' => (hS hS').elim, fun _ => ?_⟩
      rw [← h.later i (Nat.le_refl _)]
      exact hx'
    · exact h.own i x' (by omega) hx', fun i y y' hi hy hy' => by
    by_cases e : i = k
    · subst e
      rw [h.later i (Nat.le_refl _), hy] at hy'
      cases hy'
      rw [h.left i y (Nat.le_refl _) hy]
      rw [hx] at hy
      cases hy
      exact ht
    · exact h.did i y y' (by omega) hy hy', fun i y hi hy => h.left i y (by omega) hy, h.rest⟩

/-- What is not hit lies apart. -/
theorem apart_of {P : PoolSt} {b F T' : Nat} {s k : Nat} {O : Nat → Nat → Bool} (hno : ¬ HitS P ⟨b, F, T'⟩ (s : Int) (k : Int) O) {q : Nat × Option (Nat × Nat × Nat) × List Pt} (hq : q ∈ P.st) {i : Nat} {y : Pt} (hy : q.2.2[i]? = some y) (hne : ¬ (q.1 = s ∧ i = k)) (hO : O q.1 i = false) (hb : y.b = b) : y.t ≤ F ∨ T' ≤ y.f := by
  by_cases h1 : y.f < T'
  · by_cases h2 : F < y.t
    · exact (hno ⟨q, hq, i, y, hy, fun e => hne ⟨by omega, by omega⟩, hO, hb, h1, h2⟩).elim
    · omega
  · omega
theorem setB_lookQ {Q : PoolSt} {b : Nat} {y' : Bk} {c : Int} {z : Bk} (h : lookN Q.bl c = some z) : lookN (Q.setB b y').bl c = some (if (b : Int) = c then y' else z) := by
  show lookN (putB Q.bl b y') c = _
  rw [putB_look]
  split
  · rw [h]; rfl
  · exact h

theorem SetI.direct {P : PoolSt} {s : Nat} {o : Option (Nat × Nat × Nat)} {l : List Pt} {S : List Nat} {T : List Int} {k : Nat} {Q : PoolSt} {m : List Pt} (h : SetI P s l S T k Q m) (hks : (P.st.map Prod.fst).Nodup) (hm : (s, o, l) ∈ P.st) {x : Pt} (hx : l[k]? = some x) (hS : k ∉ S) {y : Bk} (hy : lookN Q.bl (x.b : Int) = some y) (hxt : x.f ≤ x.t ∧ x.t ≤ y.cs.length) {f : Nat} {xs : List Int} (hf : f + xs.length ≤ x.n) (hpb : x.b ≤ P.lastB)
    (hno : ¬ HitS P ⟨x.b, x.f + f, x.f + f + xs.length⟩ (s : Int) (k : Int) (fun s' j => decide (s' = s ∧ j ∈ S ∧ j < k))) (ht : splice (octPt P.oct x) f xs = tgt T l k x) :
    SetI P s l S T (k + 1) (Q.setB x.b ⟨y.a, y.g, splice y.cs (x.f + f) xs, y.used, y.pin⟩) m := by
  have hn : x.n = x.t - x.f := rfl
  have out : ∀ z : Pt, (z.b = x.b → z.t ≤ x.f + f ∨ x.f + f + xs.length ≤ z.f) → octPt (Q.setB x.b ⟨y.a, y.g, splice y.cs (x.f + f) xs, y.used, y.pin⟩).oct z = octPt Q.oct z := fun z hz => setB_octPt hy (fun e => by
    exact splice_out _ _ _ _ _ (by omega) (hz e))
  have lookq := fun (c : Int) (z : Bk) (hz : lookN Q.bl c = some z) => setB_lookQ (Q := Q) (b := x.b) (y' := ⟨y.a, y.g, splice y.cs (x.f + f) xs, y.used, y.pin⟩) hz
  refine ⟨h.st, h.ls, h.sz, ⟨by have := h.lb.1; show Q.lastB ≤ _; omega, h.lb.2⟩, ?_, ?_, fun b z hz => ?_, h.len, fun i hi => h.later i (by omega), fun z hz => ?_, h.num, fun i x' hi hx' => ?_, fun i z z' hi hz hz' => ?_, fun i z hi hz => ?_, fun q hq hne z hz => ?_⟩
  · show (putB Q.bl _ _).length = _
    rw [putB_len, filter_lt_step hS]
    exact h.bl
  · intro p hp
    obtain ⟨n, hn', hmem⟩ := lookN_mem hy
    rcases putB_mem hp with rfl | ⟨hp, _⟩
    · have := h.nb _ hmem
      show x.b ≤ Q.lastB
      simp only at this
      omega
    · exact h.nb p hp
  · obtain ⟨z', hz', e1, e2, e3, e4⟩ := h.old b z hz
    refine ⟨_, lookq b z' hz', ?_⟩
    by_cases e : (x.b : Int) = b
    · rw [if_pos e]
      rw [← e, hy] at hz'
      cases hz'
      exact ⟨e1, e2, e3, e4⟩
    · rw [if_neg e]
      exact ⟨e1, e2, e3, e4⟩
  · obtain ⟨z', hz', z1, z2⟩ := h.pts z hz
    refine ⟨_, lookq _ z' hz', z1, ?_⟩
    by_cases e : (x.b : Int) = (z.b : Int)
    · rw [if_pos e]
      rw [← e, hy] at hz'
      cases hz'
      exact z2
    · rw [if_neg e]
      exact z2
  · by_cases e : i = k
    · subst e
      refine ⟨fun hS' => (hS hS').elim, fun _ => ?_⟩
      rw [← h.later i (Nat.le_refl _)]
      exact hx'
    · exact h.own i x' (by omega) hx'
  · by_cases e : i = k
    · subst e
      rw [h.later i (Nat.le_refl _), hz] at hz'
      cases hz'
      rw [hx] at hz
      cases hz
      have h1 := h.left i x (Nat.le_refl _) hx
      rw [← ht, ← h1]
      unfold octPt
      rw [oct_of (lookq _ y hy), if_pos rfl, oct_of hy]
      exact splice_in _ _ _ _ _ hxt.2 (by omega)
    · rw [out z' (fun eb => ?_)]
      · exact h.did i z z' (by omega) hz hz'
      · obtain ⟨o1, o2⟩ := h.own i z' (by omega) hz'
        by_cases hi' : i ∈ S
        · have := o1 hi'; omega
        · exact apart_of hno hm (o2 hi') (fun e2 => e e2.2) (by simp [hi']) eb
  · rw [out z (fun eb => apart_of hno hm hz (fun e2 => by have := e2.2; omega) (by simp; omega) eb)]
    exact h.left i z (by omega) hz
  · obtain ⟨i, hi⟩ := List.getElem?_of_mem hz
    rw [out z (fun eb => apart_of hno hq hi (fun e2 => hne e2.1) (by simp [hne]) eb)]
    exact h.rest q hq hne z hz

theorem SetI.anew {P : PoolSt} {s : Nat} {l : List Pt} {S : List Nat} {T : List Int} {k : Nat} {Q : PoolSt} {m : List Pt} (h : SetI P s l S T k Q m) (hSn : S.Nodup) (hpo : ∀ q ∈ P.st, PtsOf P q.2.2) (hpl : PtsOf P l) {x : Pt} (hx : l[k]? = some x) (hS : k ∈ S) {a g : Nat} {f : Nat} {xs : List Int} (hf : f + xs.length ≤ x.n) (hlen : (octPt Q.oct x).length = x.n) (hsz : x.n ≤ Q.size) (hlb : ∀ (c : Int) (y : Bk), lookN P.bl c = some y → c ≤ P.lastB) (ht : splice (octPt P.oct x) f xs = tgt T l k x) :
    SetI P s l S T (k + 1) ((Q.grow (newBk Q.size a g (octPt Q.oct x))).setB (Q.lastB + 1) ⟨a, g, splice (octPt Q.oct x ++ zeros (Q.size - x.n)) f xs, x.n, false⟩) (m.set k ⟨Q.lastB + 1, 0, x.n⟩) := by
  have hkl : k < l.length := (List.getElem?_eq_some_iff.1 hx).1
  have hnew := grow_new (x := newBk Q.size a g (octPt Q.oct x)) h.nb
  have old : ∀ z : Pt, (z.b : Int) ≤ Q.lastB → octPt ((Q.grow (newBk Q.size a g (octPt Q.oct x))).setB (Q.lastB + 1) ⟨a, g, splice (octPt Q.oct x ++ zeros (Q.size - x.n)) f xs, x.n, false⟩).oct z = octPt Q.oct z := fun z hz => by
    rw [setB_octPt hnew (fun e => by omega)]
    exact octPt_look (by
      show lookN (Q.bl ++ [(Q.lastB + 1, _)]) _ = _
      rw [lookN_snoc _ _ _ _ (fun p hp => by have := h.nb p hp; omega), if_neg (by omega)])
  have lookOld : ∀ (c : Int) (y : Bk), lookN Q.bl c = some y → lookN ((Q.grow (newBk Q.size a g (octPt Q.oct x))).setB (Q.lastB + 1) ⟨a, g, splice (octPt Q.oct x ++ zeros (Q.size - x.n)) f xs, x.n, false⟩).bl c = some y := fun c y hy => by
    obtain ⟨n, hn, hm⟩ := lookN_mem hy
    have h1 := h.nb _ hm
    rw [setB_lookQ (grow_old (x := newBk Q.size a g (octPt Q.oct x)) h.nb hy), if_neg (by simp only at h1; omega)]
  have lookNew : lookN ((Q.grow (newBk Q.size a g (octPt Q.oct x))).setB (Q.lastB + 1) ⟨a, g, splice (octPt Q.oct x ++ zeros (Q.size - x.n)) f xs, x.n, false⟩).bl ((Q.lastB + 1 : Nat) : Int) = some ⟨a, g, splice (octPt Q.oct x ++ zeros (Q.size - x.n)) f xs, x.n, false⟩ := by
    rw [setB_lookQ hnew, if_pos rfl]
  have ptB : ∀ z : Pt, z ∈ m → (z.b : Int) ≤ Q.lastB := fun z hz => by
    obtain ⟨y, hy, _⟩ := h.pts z hz
    obtain ⟨n, hn, hm⟩ := lookN_mem hy
    have := h.nb _ hm
    simp only at this
    omega
  have pB : ∀ z : Pt, (∃ y, lookN P.bl (z.b : Int) = some y) → (z.b : Int) ≤ Q.lastB := fun z ⟨y, hy⟩ => by
    have := hlb _ _ hy
    have := h.lb.2
    omega
  have setk : ∀ i, (m.set k ⟨Q.lastB + 1, 0, x.n⟩)[i]? = if i = k then some (⟨Q.lastB + 1, 0, x.n⟩ : Pt) else m[i]? := fun i => by
    rw [List.getElem?_set]
    by_cases e : i = k
    · rw [if_pos e.symm, if_pos e, if_pos (by rw [h.len]; omega)]
    · rw [if_neg (fun e2 => e e2.symm), if_neg e]
  refine ⟨h.st, h.ls, h.sz, ⟨by have := h.lb.1; show Q.lastB + 1 ≤ _; omega, by have := h.lb.2; show P.lastB ≤ Q.lastB + 1; omega⟩, ?_, ?_, fun b z hz => ?_, by rw [List.length_set]; exact h.len, fun i hi => ?_, fun z hz => ?_, fun i z z' hz hz' => ?_, fun i x' hi hx' => ?_, fun i z z' hi hz hz' => ?_, fun i z hi hz => ?_, fun q hq hne z hz => ?_⟩
  · show (putB _ _ _).length = _
    rw [putB_len]
    show (Q.bl ++ [(Q.lastB + 1, _)]).length = _
    rw [List.length_append, h.bl]
    have e1 : (S.filter fun i => decide (i < k + 1)).length = (S.filter fun i => decide (i < k)).length + 1 := filter_lt_one hSn hS
    rw [e1]
    rfl
  · intro p hp
    rcases putB_mem hp with rfl | ⟨hp, _⟩
    · exact Nat.le_refl _
    · exact grow_nb _ h.nb p hp
  · obtain ⟨z', hz', e1⟩ := h.old b z hz
    exact ⟨z', lookOld b z' hz', e1⟩
  · rw [setk, if_neg (by omega)]
    exact h.later i (by omega)
  · rcases List.mem_or_eq_of_mem_set hz with hz | rfl
    · obtain ⟨y, hy, h1⟩ := h.pts z hz
      exact ⟨y, lookOld _ y hy, h1⟩
    · exact ⟨_, lookNew, Nat.zero_le _, Nat.le_refl _⟩
  · rw [setk] at hz'
    split at hz'
    · next e =>
      subst e
      rw [hx] at hz
      cases hz
      cases hz'
      rfl
    · exact h.num i z z' hz hz'
  · rw [setk] at hx'
    split at hx'
    · next e =>
      subst e
      cases hx'
      exact ⟨fun _ => by have := h.lb.2; show P.lastB < Q.lastB + 1; omega, fun hn => (hn hS).elim⟩
    · next e => exact h.own i x' (by omega) hx'
  · rw [setk] at hz'
    split at hz'
    · next e =>
      subst e
      cases hz'
      rw [hx] at hz
      cases hz
      rw [← ht, ← h.left i x (Nat.le_refl _) hx]
      rw [octPt_of (x := ⟨Q.lastB + 1, 0, x.n⟩) lookNew]
      simp only [List.drop_zero]
      have h1 := splice_in (octPt Q.oct x ++ zeros (Q.size - x.n)) xs f 0 x.n (by rw [List.length_append, hlen]; omega) (by omega)
      simp only [Nat.zero_add, List.drop_zero] at h1
      rw [h1, List.take_append_of_le_length (by omega), List.take_of_length_le (by omega)]
    · next e =>
      rw [old z' (ptB z' (List.mem_of_getElem? hz'))]
      exact h.did i z z' (by omega) hz hz'
  · rw [old z (pB z (by obtain ⟨y, hy, _⟩ := hpl z (List.mem_of_getElem? hz); exact ⟨y, hy⟩))]
    exact h.left i z (by omega) hz
  · rw [old z (pB z (by obtain ⟨y, hy, _⟩ := hpo q hq z hz; exact ⟨y, hy⟩))]
    exact h.rest q hq hne z hz

end Go.Proofs.Ytbndknbjjdoanaa
