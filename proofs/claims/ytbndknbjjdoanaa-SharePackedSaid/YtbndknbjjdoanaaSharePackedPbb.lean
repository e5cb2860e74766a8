/-
  fresh: a block more: the memory law. Conditions: numbers in their bounds.
  RoomTurns: its plain law and its walk. No conditions.
-/
import Derived.Test.YtbndknbjjdoanaaSharePackedPba
import Derived.Test.YtbndknbjjdoanaaSharePackedPai

namespace Go.Proofs.Ytbndknbjjdoanaa
section
open Go.RowKit
set_option linter.unusedVariables false

def PoolSt.grow (P : PoolSt) (x : Bk) : PoolSt := { P with lastB := P.lastB + 1, bl := P.bl ++ [(P.lastB + 1, x)] }
theorem grow_old {P : PoolSt} {x y : Bk} {k : Int} (hn : ∀ p ∈ P.bl, p.1 ≤ P.lastB) (h : lookN P.bl k = some y) : lookN (P.grow x).bl k = some y := by
  have keys : ∀ p ∈ P.bl, p.1 ≠ P.lastB + 1 := fun p hp => by have := hn p hp; omega
  show lookN (P.bl ++ [(P.lastB + 1, x)]) k = some y
  rw [lookN_snoc _ _ _ _ keys]
  by_cases hk : ((P.lastB + 1 : Nat) : Int) = k
  · rw [← hk, lookN_none keys] at h
    cases h
  · rw [if_neg hk]
    exact h
theorem grow_new {P : PoolSt} {x : Bk} (hn : ∀ p ∈ P.bl, p.1 ≤ P.lastB) : lookN (P.grow x).bl ((P.lastB + 1 : Nat) : Int) = some x := by
  have keys : ∀ p ∈ P.bl, p.1 ≠ P.lastB + 1 := fun p hp => by have := hn p hp; omega
  show lookN (P.bl ++ [(P.lastB + 1, x)]) _ = some x
  rw [lookN_snoc _ _ _ _ keys, if_pos rfl]

theorem PoolMem.more {w w3 : World} {F : Nat → Prop} {h bp : Nat} {P : PoolSt} {mb ms N1 N2 : Nat} {D1 D2 : DataW Unit} (m : PoolMem w F h bp P mb ms N1 N2 D1 D2) (x : Bk)
    (hs3 : w3.heap[h]? = some (.cells #[.pointer (some ⟨bp, 0, none⟩), .int .i64 1, .int .i64 (P.size : Int), .bool false, .int .i64 ((P.lastB + 1 : Nat) : Int), .int .i64 (P.lastS : Int), .map (some mb), .map (some ms)] 63 (0, 0)))
    (hm : w3.ownsMap Try.prog 3 ptrElem mb (N1 + 1) (D1.put (.int .i64 ((P.lastB + 1 : Nat) : Int)) (.lit (.int .i64 (x.a : Int)))))
    (keep : ∀ k, k < w.heap.size → k ≠ h → k ≠ mb → w3.heap[k]? = w.heap[k]?)
    (hxa : w3.heap[x.a]? = some (.cells #[.slice (some ⟨x.g, 0, none⟩) P.size P.size, .int .i64 (x.used : Int), .bool x.pin] 83 (0, 0))) (hxg : byteRow w3 x.g x.cs) (hxl : x.cs.length = P.size) (hxb : bytes x.cs) (hxu : x.used ≤ P.size)
    (na : w.heap.size ≤ x.a) (ng : w.heap.size ≤ x.g) (hfl : ∀ k, F k → k < w.heap.size) (hfew : P.bl.length < 2000) (hB : P.lastB < 1000000000) :
    PoolMem w3 (fun k => F k ∨ k = x.a ∨ k = x.g) h bp (P.grow x) mb ms (N1 + 1) N2 (D1.put (.int .i64 ((P.lastB + 1 : Nat) : Int)) (.lit (.int .i64 (x.a : Int)))) D2 := by
  have hms : ms ≠ h := fun e => by
    obtain ⟨es, clock, hb, _⟩ := m.m2
    have h1 := m.self
    rw [← e, hb] at h1
    simp at h1
  obtain ⟨r1, r2⟩ := m.rest (w' := w3) (fun k hk h1 h2 _ => keep k hk h1 h2)
  have keys : ∀ p ∈ P.bl, p.1 ≠ P.lastB + 1 := fun p hp => by have := (m.nb p hp).2; omega
  have tidy := m.m1.tidy (Maps.int_keyed Try.underlying3)
  have ismap := m.m1.isMap
  have hno : Maps.has D1 (.int .i64 ((P.lastB + 1 : Nat) : Int)) = false := Maps.has_false_of_atKey (fun z => by rw [m.l1, lookN_none keys]; rfl)
  have memb : ∀ p ∈ (P.grow x).bl, p ∈ P.bl ∨ p = (P.lastB + 1, x) := fun p hp => by
    rcases List.mem_append.1 hp with hp | hp
    · exact Or.inl hp
    · exact Or.inr (by simpa using hp)
  refine ⟨hs3, Or.inl m.fh, hm, Or.inl m.f1, ownsMap_same m.m2 (keep ms m.m2.lt hms (fun e => m.mne e.symm)), Or.inl m.f2, fun k z => ?_, ?_, m.l2, m.z2, fun p hp => ?_, ?_, ?_, ?_, fun p hp => ?_, m.ks, m.ns, fun p hp => ?_, fun p hp y hy => ?_, m.sz, m.mne, ?_⟩
  · show _ = ptrZ ((lookN (P.bl ++ [(P.lastB + 1, x)]) k).map Bk.a) z
    rw [lookN_snoc _ _ _ _ keys]
    by_cases hk : ((P.lastB + 1 : Nat) : Int) = k
    · subst hk
      rw [if_pos rfl, Maps.atKey_put_same ismap (by simp [WideAt.IsKeyLit])]
      rfl
    · rw [if_neg hk, Maps.atKey_put_other (by simp; omega), m.l1]
  · rw [Maps.size_put tidy, hno, m.z1]
    show _ = (P.bl ++ [(P.lastB + 1, x)]).length
    simp
  · rcases memb p hp with hp | rfl
    · obtain ⟨a1, a2, a3, a4, a5, a6, a7⟩ := r1 p hp
      exact ⟨a1, a2, a3, a4, Or.inl a5, Or.inl a6, a7⟩
    · exact ⟨hxa, hxg, hxl, hxb, Or.inr (Or.inl rfl), Or.inr (Or.inr rfl), hxu⟩
  · show ((P.bl ++ [(P.lastB + 1, x)]).map fun p => p.2.a).Nodup
    rw [List.map_append, List.nodup_append]
    refine ⟨m.ia, by simp, fun a ha b hb => ?_⟩
    obtain ⟨p, hp, rfl⟩ := List.mem_map.1 ha
    have h1 := hfl _ (m.bk p hp).2.2.2.2.1
    simp at hb
    rw [hb]
    show p.2.a ≠ x.a
    omega
  · show ((P.bl ++ [(P.lastB + 1, x)]).map fun p => p.2.g).Nodup
    rw [List.map_append, List.nodup_append]
    refine ⟨m.ig, by simp, fun a ha b hb => ?_⟩
    obtain ⟨p, hp, rfl⟩ := List.mem_map.1 ha
    have h1 := hfl _ (m.bk p hp).2.2.2.2.2.1
    simp at hb
    rw [hb]
    show p.2.g ≠ x.g
    omega
  · show ((P.bl ++ [(P.lastB + 1, x)]).map Prod.fst).Nodup
    rw [List.map_append, List.nodup_append]
    refine ⟨m.kb, by simp, fun a ha b hb => ?_⟩
    obtain ⟨p, hp, rfl⟩ := List.mem_map.1 ha
    simp at hb
    rw [hb]
    exact keys p hp
  · rcases memb p hp with hp | rfl
    · have := m.nb p hp
      exact ⟨this.1, Nat.le_succ_of_le this.2⟩
    · exact ⟨by simp, Nat.le_refl _⟩
  · obtain ⟨a1, a2⟩ := r2 p hp
    exact ⟨a1, fun k hk => Or.inl (a2 k hk)⟩
  · obtain ⟨b, hb, h1⟩ := m.pt p hp y hy
    exact ⟨b, grow_old (fun p hp => (m.nb p hp).2) hb, h1⟩
  · obtain ⟨a1, a2, a3, a4, a5⟩ := m.few
    refine ⟨a1, ?_, a3, ?_, a5⟩
    · show (P.bl ++ [(P.lastB + 1, x)]).length ≤ 2000
      simp; omega
    · show P.lastB + 1 ≤ 1000000000
      omega

end
end Go.Proofs.Ytbndknbjjdoanaa

namespace Go.Proofs.Ytbndknbjjdoanaa
section
open Go.RowKit

theorem cfor_bd (n : Int) (h1 : 0 ≤ n) (h2 : n ≤ 100000) : n ≤ cfor n ∧ cfor n ≤ 100000 := by
  unfold cfor
  cases h : classes.find? (fun c => decide (n ≤ c)) with
  | none =>
    have := List.find?_eq_none.1 h 100000 (by unfold classes; simp)
    simp at this; omega
  | some c =>
    have h3 := List.find?_some h
    have h4 := List.mem_of_find?_eq_some h
    obtain ⟨i, hi, rfl⟩ := List.getElem_of_mem h4
    have h5 := classes_le i (by rw [classes_len] at hi; exact hi)
    rw [List.getD_eq_getElem?_getD, List.getElem?_eq_getElem hi] at h5
    simp at h3 h5 ⊢
    omega

theorem wish_ge (k s m room need : Int) (h : polErr k s m = 0) (_h1 : 0 ≤ room ∧ room ≤ 100000) (h2 : 0 ≤ need ∧ need ≤ 100000) : need ≤ wishI k s room need := by
  obtain ⟨p1, p2, p3⟩ := polOk_of h
  have hkk : k = 1 ∨ k = 2 ∨ k = 3 ∨ k = 4 ∨ k = 5 := by omega
  rcases hkk with rfl | rfl | rfl | rfl | rfl
  · simp [wishI]
  · have := mul_bd need s h2.1 h2.2 (p2 rfl).1 (p2 rfl).2
    simp [wishI]; omega
  · simp [wishI]; omega
  · simp [wishI]; omega
  · have := cfor_bd need h2.1 h2.2
    simp [wishI]; omega

theorem gV_facts (k s m room need : Int) (h : polErr k s m = 0) (h1 : 0 ≤ room ∧ room ≤ 100000) (h2 : 0 ≤ need ∧ need ≤ 100000) (he : gE m room need = 0) :
    need ≤ gV k s m room need ∧ room ≤ gV k s m room need ∧ gV k s m room need ≤ 100000 := by
  have hw := wish_ge k s m room need h h1 h2
  obtain ⟨p1, p2, p3⟩ := polOk_of h
  unfold gE at he
  unfold gV
  by_cases h3 : need ≤ room
  · rw [if_pos h3]; omega
  · rw [if_neg h3] at he ⊢
    by_cases h4 : m < need
    · rw [if_pos h4] at he; omega
    · rw [if_neg h4]; omega

theorem grow_facts (k s m room need : Int) : (growE k s m room need = 0 → need ≤ growV k s m room need ∧ room ≤ growV k s m room need) ∧ (growE k s m room need ≠ 0 → growV k s m room need = 0) := by
  unfold growE growV
  by_cases h : polErr k s m = 0
  · rw [if_pos h]
    by_cases hr : (0 ≤ room ∧ room ≤ 100000) ∧ (0 ≤ need ∧ need ≤ 100000)
    · rw [if_pos hr, if_pos ⟨h, hr⟩]
      refine ⟨fun he => ?_, fun he => ?_⟩
      · have := gV_facts k s m room need h hr.1 hr.2 he; exact ⟨this.1, this.2.1⟩
      · rcases gE_cases k s m room need with x | x
        · exact absurd x he
        · exact x.2
    · rw [if_neg hr, if_neg (fun x => hr x.2)]
      exact ⟨fun h => absurd h (by decide), fun _ => rfl⟩
  · rw [if_neg h, if_neg (fun x => h x.1)]
    exact ⟨fun x => absurd x h, fun _ => rfl⟩

theorem shrV_bd (k s m room used : Int) (h : polErr k s m = 0) (h1 : shrinkIn room used) : used ≤ shrV k room used (gV k s m 0 used) (gE m 0 used) ∧ shrV k room used (gV k s m 0 used) (gE m 0 used) ≤ room := by
  obtain ⟨a1, a2⟩ := h1
  unfold shrV
  split
  · next h3 =>
    have := gV_facts k s m 0 used h (by omega) (by omega) h3.1
    omega
  · omega

theorem shrink_facts (k s m room used : Int) : shrinkE k s m room used = 0 → used ≤ shrinkV k s m room used ∧ shrinkV k s m room used ≤ room := by
  unfold shrinkE shrinkV
  by_cases h : polErr k s m = 0
  · rw [if_pos h]
    by_cases hr : shrinkIn room used
    · rw [if_pos hr, if_pos ⟨h, hr⟩]
      exact fun _ => shrV_bd k s m room used h hr
    · rw [if_neg hr]; intro h; omega
  · rw [if_neg h]; intro x; exact absurd x h

theorem turns_facts (k s m need : Int) : growE k s m 0 need = 0 → shrinkE k s m (growV k s m 0 need) need = 0 ∧ shrinkV k s m (growV k s m 0 need) need = growV k s m 0 need := by
  intro he
  unfold growE at he
  by_cases h : polErr k s m = 0
  · rw [if_pos h] at he
    by_cases hr : (0 ≤ (0 : Int) ∧ (0 : Int) ≤ 100000) ∧ (0 ≤ need ∧ need ≤ 100000)
    · rw [if_pos hr] at he
      have hv : growV k s m 0 need = gV k s m 0 need := by unfold growV; rw [if_pos ⟨h, hr⟩]
      rw [hv]
      have hb := gV_facts k s m 0 need h hr.1 hr.2 he
      have hin : shrinkIn (gV k s m 0 need) need := ⟨by omega, by omega⟩
      unfold shrinkE shrinkV
      rw [if_pos h, if_pos hin, if_pos ⟨h, hin⟩, he]
      refine ⟨rfl, ?_⟩
      exact shrV_more (Int.le_refl _)
    · rw [if_neg hr] at he; omega
  · rw [if_neg h] at he; exact absurd he h

end
end Go.Proofs.Ytbndknbjjdoanaa
