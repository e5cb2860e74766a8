/-
  Replace of a rope: the book behind it. Conditions: numbers in their bounds.
-/
import Derived.Test.YtidfidknflcioaaTopRopePbk
namespace Go.Proofs.Ytidfidknflcioaa
open Go.RowKit
set_option linter.unusedVariables false

theorem askSt_no {st : BookSt} {cur next : Nat} (h : askE cur next ≠ 0) : askSt st cur next = st := by
  unfold askE at h
  unfold askSt
  by_cases h1 : next = cur
  · rw [if_pos h1]
  · rw [if_neg h1] at h ⊢
    by_cases h2 : next ≤ 10000000
    · rw [if_pos h2] at h; exact absurd rfl h
    · rw [if_neg h2]
/-- The book behind what was granted. -/
theorem askSt_ok {st : BookSt} {cur next : Nat} (hacc : st.acc 1 = some (10000000, (cur : Int), 0)) (hbud : st.budget = 10000000) (htot : st.total = (cur : Int)) (hent : st.entries.length ≤ 10000) (hc : cur ≤ 10000000) (h : askE cur next = 0) :
    (askSt st cur next).acc 1 = some (10000000, (next : Int), 0) ∧ (askSt st cur next).budget = 10000000 ∧ (askSt st cur next).total = (next : Int) ∧ (askSt st cur next).entries.length ≤ 10000 ∧ next ≤ 10000000 := by
  unfold askE at h
  unfold askSt
  by_cases h1 : next = cur
  · rw [if_pos h1, h1]
    exact ⟨hacc, hbud, htot, hent, hc⟩
  · rw [if_neg h1] at h ⊢
    by_cases h2 : next ≤ 10000000
    · rw [if_pos h2]
      have hE : changeE st 10000000 cur 0 cur next = 0 := by
        unfold changeE
        rw [if_neg (by omega), if_neg (by rw [hbud, htot]; omega)]
      unfold changeSt
      rw [if_pos ⟨hE, by omega⟩]
      refine ⟨?_, hbud, ?_, ?_, h2⟩
      · have e : (cur : Int) + ((next : Int) - cur) = next := by omega
        show (if (1 : Int) = 1 then some ((10000000 : Int), (cur : Int) + ((next : Int) - cur), (0 : Int)) else st.acc 1) = _
        rw [if_pos rfl, e]
      · show st.total + ((next : Int) - cur) = next
        omega
      · refine trimE_len _ ?_
        rw [List.length_append]
        simp
        omega
    · rw [if_neg h2] at h
      exact absurd h (by decide)

/-- What is left of the sizes. -/
theorem rmA_mem {f t : Nat} (l : List Sz) : ∀ q ∈ (rmA f t l).1, ∃ y ∈ l, q.1 ≤ y.1 ∧ q.2 = y.2 := by
  unfold rmA
  suffices ∀ (l : List Sz) (st : List Sz × Nat × Int) (M : List Sz), (∀ q ∈ st.1, ∃ y ∈ M, q.1 ≤ y.1 ∧ q.2 = y.2) → ∀ q ∈ (l.foldl (rmF f t) st).1, ∃ y ∈ M ++ l, q.1 ≤ y.1 ∧ q.2 = y.2 by
    intro q hq
    exact this l ([], 0, -1) [] (fun q hq => by simp at hq) q hq
  intro l
  induction l with
  | nil => intro st M h q hq; rw [List.append_nil]; exact h q hq
  | cons x l ih =>
    intro st M h q hq
    rw [List.foldl_cons] at hq
    have h2 := ih (rmF f t st x) (M ++ [x]) (fun q hq => by
      unfold rmF at hq
      simp only at hq
      split at hq
      · rcases List.mem_append.1 hq with hq | hq
        · obtain ⟨y, hy, h3⟩ := h q hq
          exact ⟨y, List.mem_append_left _ hy, h3⟩
        · obtain rfl := List.mem_singleton.1 hq
          exact ⟨x, by simp, Nat.sub_le _ _, rfl⟩
      · obtain ⟨y, hy, h3⟩ := h q hq
        exact ⟨y, List.mem_append_left _ hy, h3⟩) q hq
    simpa using h2
theorem rmA_le {f t : Nat} (l : List Sz) : (rmA f t l).1.length ≤ l.length := by
  unfold rmA
  suffices ∀ (l : List Sz) (st : List Sz × Nat × Int), (l.foldl (rmF f t) st).1.length ≤ st.1.length + l.length by
    have := this l ([], 0, -1)
    simpa using this
  intro l
  induction l with
  | nil => intro st; simp
  | cons x l ih =>
    intro st
    rw [List.foldl_cons]
    have h1 := ih (rmF f t st x)
    have h2 : (rmF f t st x).1.length ≤ st.1.length + 1 := by
      unfold rmF
      simp only
      split
      · simp
      · omega
    rw [List.length_cons]
    omega
theorem rmS_ok {p : RPar} {l : List Sz} {f t : Nat} (hp : POk p) (h : SzOk l) : SzOk (rmS p l f t) := by
  unfold rmS
  split
  · exact h
  · have hA : SzOk (rmA f t l).1 := ⟨Nat.le_trans (rmA_le l) h.1, fun q hq => by
      obtain ⟨y, hy, h1, h2⟩ := rmA_mem l q hq
      have h3 := h.2 y hy
      exact ⟨Nat.le_trans h1 h3.1, by rw [h2]; exact h3.2⟩⟩
    unfold joinS
    split
    · rename_i hj
      unfold joinsS at hj
      simp only [Bool.and_eq_true, decide_eq_true_eq] at hj
      obtain ⟨⟨h1, h2⟩, h3, h4⟩ := hj
      obtain ⟨K, hK⟩ : ∃ K, (rmA f t l).1 = K := ⟨_, rfl⟩
      obtain ⟨a, ha⟩ : ∃ a, (rmA f t l).2.2.toNat = a := ⟨_, rfl⟩
      rw [hK] at hA h2 h3 h4 ⊢
      rw [ha] at h3 h4 ⊢
      have hal : a < K.length := by omega
      have hl := hp.leaf
      have hx := hA.2 (K.getD a (0, 0)) (by rw [List.getD_eq_getElem?_getD, List.getElem?_eq_getElem hal]; exact List.getElem_mem hal)
      have gr := hp.gr (room := (K.getD a (0, 0)).2) (need := (K.getD a (0, 0)).1 + (K.getD (a + 1) (0, 0)).1) hx.2 (by omega)
      refine ⟨?_, fun q hq => ?_⟩
      · have := List.length_eraseIdx_le (K.set a ((K.getD a (0, 0)).1 + (K.getD (a + 1) (0, 0)).1, p.gr (K.getD a (0, 0)).2 ((K.getD a (0, 0)).1 + (K.getD (a + 1) (0, 0)).1))) (a + 1)
        rw [List.length_set] at this
        exact Nat.le_trans this hA.1
      · rcases List.mem_or_eq_of_mem_set (List.mem_of_mem_eraseIdx hq) with hq | rfl
        · exact hA.2 q hq
        · exact ⟨by show (K.getD a (0, 0)).1 + (K.getD (a + 1) (0, 0)).1 ≤ 100000; omega, gr.2.2.2.2⟩
    · exact hA

theorem rmS_le {p : RPar} {l : List Sz} {f t : Nat} (h : ∀ q ∈ l, q.1 ≤ p.leaf) : ∀ q ∈ rmS p l f t, q.1 ≤ p.leaf := by
  unfold rmS
  split
  · exact h
  · have hA : ∀ q ∈ (rmA f t l).1, q.1 ≤ p.leaf := fun q hq => by
      obtain ⟨y, hy, h1, _⟩ := rmA_mem l q hq
      exact Nat.le_trans h1 (h y hy)
    unfold joinS
    split
    · rename_i hj
      unfold joinsS at hj
      simp only [Bool.and_eq_true, decide_eq_true_eq] at hj
      obtain ⟨_, _, h4⟩ := hj
      intro q hq
      rcases List.mem_or_eq_of_mem_set (List.mem_of_mem_eraseIdx hq) with hq | rfl
      · exact hA q hq
      · exact Nat.le_trans h4 (Nat.div_le_self _ _)
    · exact hA
theorem rmS_len {p : RPar} {l : List Sz} {f t : Nat} : (rmS p l f t).length ≤ l.length := by
  unfold rmS
  split
  · exact Nat.le_refl _
  · unfold joinS
    split
    · have := List.length_eraseIdx_le ((rmA f t l).1.set (rmA f t l).2.2.toNat (((rmA f t l).1.getD (rmA f t l).2.2.toNat (0, 0)).1 + ((rmA f t l).1.getD ((rmA f t l).2.2.toNat + 1) (0, 0)).1, p.gr ((rmA f t l).1.getD (rmA f t l).2.2.toNat (0, 0)).2 (((rmA f t l).1.getD (rmA f t l).2.2.toNat (0, 0)).1 + ((rmA f t l).1.getD ((rmA f t l).2.2.toNat + 1) (0, 0)).1))) ((rmA f t l).2.2.toNat + 1)
      rw [List.length_set] at this
      exact Nat.le_trans this (rmA_le l)
    · exact rmA_le l
theorem piecesS_bd {p : RPar} {n : Nat} (hp : POk p) : ∀ q ∈ piecesS p n, q.1 ≤ 100000 ∧ q.2 ≤ 100000 := by
  intro q hq
  unfold piecesS at hq
  obtain ⟨j, hj, rfl⟩ := List.mem_map.1 hq
  have h1 := pcsN_le hp.leaf.1 hj
  have h2 := hp.leaf
  have h3 := hp.gr (room := 0) (need := j) (by omega) h1.2
  exact ⟨by show j ≤ 100000; omega, h3.2.2.2.2⟩
theorem insS_ok {p : RPar} {l : List Sz} {a n : Nat} (hp : POk p) (h : SzOk l) (hl : l.length ≤ 60000) (hq : ∀ q ∈ l, q.1 ≤ p.leaf) (hn : n ≤ 50000) : SzOk (insS p l a n) := by
  have hleaf := hp.leaf
  unfold insS
  split
  · exact h
  · split
    · exact ⟨Nat.le_trans (pieces_len p n hleaf.1) (by omega), piecesS_bd hp⟩
    · have hx : (l.getD (endsS l a).1 (0, 0)).1 ≤ p.leaf ∧ (l.getD (endsS l a).1 (0, 0)).2 ≤ 100000 := by
        rw [List.getD_eq_getElem?_getD]
        rcases Nat.lt_or_ge (endsS l a).1 l.length with h1 | h1
        · rw [List.getElem?_eq_getElem h1]
          exact ⟨hq _ (List.getElem_mem h1), (h.2 _ (List.getElem_mem h1)).2⟩
        · rw [List.getElem?_eq_none h1]
          exact ⟨Nat.zero_le _, Nat.zero_le _⟩
      split
      · rename_i hle
        have gr := hp.gr (room := (l.getD (endsS l a).1 (0, 0)).2) (need := (l.getD (endsS l a).1 (0, 0)).1 + n) hx.2 hle
        refine ⟨by rw [List.length_set]; exact h.1, fun q hq' => ?_⟩
        rcases List.mem_or_eq_of_mem_set hq' with hq' | rfl
        · exact h.2 q hq'
        · exact ⟨by show (l.getD (endsS l a).1 (0, 0)).1 + n ≤ 100000; omega, gr.2.2.2.2⟩
      · refine ⟨?_, fun q hq' => ?_⟩
        · rw [List.length_append, List.length_append, List.length_take, List.length_drop]
          have := pieces_len p ((l.getD (endsS l a).1 (0, 0)).1 + n) hleaf.1
          omega
        · rcases List.mem_append.1 hq' with hq' | hq'
          · rcases List.mem_append.1 hq' with hq' | hq'
            · exact h.2 q (List.mem_of_mem_take hq')
            · exact piecesS_bd hp q hq'
          · exact h.2 q (List.mem_of_mem_drop hq')

end Go.Proofs.Ytidfidknflcioaa
