/-
  The reference's Push, octet by octet, makes the chunks that the program's makes. (Plain.)
-/
import Derived.Test.YtfnmjlnpfoclbaaGreatQueueRunsPaz
namespace Go.Proofs.YtfnmjlnpfoclbaaGreat
open Go.RowKit
set_option linter.unusedVariables false

def QCh.upto (c : QCh) (n : Nat) : QCh := ⟨c.b, c.os, c.fr, c.to + n⟩
def cntCh (g n b x : Nat) : QCh := ⟨b, zeros g, 0, min g (n - x * g)⟩
def cntChs (g n : Nat) (bs xs : List Nat) : List QCh := List.zipWith (cntCh g n) bs xs
def advL (g : Nat) (L : List QCh) (j : Nat) (bs : List Nat) : List QCh :=
  L.set (L.length - 1) ((lastQ L).upto (spareN L j)) ++ cntChs g (j - spareN L j) bs (List.range bs.length)
/-- What the reference has laid out after j octets. -/
structure Adv (g : Nat) (L : List QCh) (j : Nat) (NL : List QCh) (bs : List Nat) : Prop where
  eq : NL = advL g L j bs
  lo : j - spareN L j ≤ bs.length * g
  hi : bs.length * g < j - spareN L j + g

theorem spare_le (L : List QCh) (j : Nat) : spareN L j ≤ j := by unfold spareN; split <;> omega
theorem spare_stop {L : List QCh} {j : Nat} (h : spareN L j < j) : spareN L (j + 1) = spareN L j := by
  unfold spareN at *
  split
  · rfl
  · rename_i h0
    rw [if_neg h0] at h
    omega
theorem lastQ_snoc (A : List QCh) (c : QCh) : lastQ (A ++ [c]) = c := by simp [lastQ, List.getD_eq_getElem?_getD]
theorem set_snoc (A : List QCh) (c d : QCh) : (A ++ [c]).set ((A ++ [c]).length - 1) d = A ++ [d] := by
  rw [List.length_append, List.length_singleton, Nat.add_sub_cancel, List.set_append_right _ _ (Nat.le_refl _), Nat.sub_self]; rfl
theorem last_split {L : List QCh} (h : L ≠ []) : ∃ A, L = A ++ [lastQ L] := by
  rcases List.eq_nil_or_concat L with e | ⟨A, c, e⟩
  · exact absurd e h
  · rw [List.concat_eq_append] at e
    subst e
    exact ⟨A, by rw [lastQ_snoc]⟩
theorem cntChs_len (g n : Nat) (bs : List Nat) : (cntChs g n bs (List.range bs.length)).length = bs.length := by simp [cntChs]
theorem cntChs_snoc (g n : Nat) (bs : List Nat) (b : Nat) : cntChs g n (bs ++ [b]) (List.range (bs ++ [b]).length) = cntChs g n bs (List.range bs.length) ++ [cntCh g n b bs.length] := by
  unfold cntChs
  rw [List.length_append, List.length_singleton, List.range_succ, List.zipWith_append (by simp)]
  rfl
theorem cntChs_full (g n : Nat) (bs : List Nat) (h : bs.length * g ≤ n) : cntChs g n bs (List.range bs.length) = bs.map (fun b => ⟨b, zeros g, 0, g⟩) := by
  apply List.ext_getElem
  · simp [cntChs]
  · intro i h1 h2
    have hi : i < bs.length := by simpa using h2
    have := Nat.mul_le_mul_right g (show i + 1 ≤ bs.length from hi)
    rw [Nat.succ_mul] at this
    simp only [cntChs, List.getElem_zipWith, List.getElem_range, List.getElem_map, cntCh]
    rw [Nat.min_eq_left (by omega)]
theorem advL_len (g : Nat) (L : List QCh) (j : Nat) (bs : List Nat) : (advL g L j bs).length = L.length + bs.length := by
  unfold advL
  rw [List.length_append, cntChs_len, List.length_set]
theorem Adv.start (g : Nat) (hg : 1 ≤ g) (L : List QCh) : Adv g L 0 L [] := by
  have e : spareN L 0 = 0 := by have := spare_le L 0; omega
  refine ⟨?_, by simp, by rw [e]; simp; omega⟩
  unfold advL
  rw [e]
  have := moreL_nil L
  unfold moreL at this
  rw [more_nil] at this
  rw [show (lastQ L).upto 0 = lastQ L from rfl, this]
  simp [cntChs]

/-- Is the last chunk full, or is there none? -/
def fullQ (NL : List QCh) : Prop := NL.length = 0 ∨ (lastQ NL).to = (lastQ NL).os.length

theorem Adv.grow {g : Nat} {L : List QCh} {j : Nat} {NL : List QCh} {bs : List Nat} (h : Adv g L j NL bs) (hg : 1 ≤ g) (hL : ∀ c ∈ L, ChOk c) (hc : fullQ NL) (b : Nat) :
    Adv g L (j + 1) (NL ++ [⟨b, zeros g, 0, 1⟩]) (bs ++ [b]) := by
  obtain ⟨heq, hlo, hhi⟩ := h
  have hsp := spare_le L j
  rcases List.eq_nil_or_concat bs with rfl | ⟨A, b0, hA⟩
  · have hj : spareN L j = j := by simp at hlo; omega
    have hc1 : cntCh g 1 b 0 = ⟨b, zeros g, 0, 1⟩ := by unfold cntCh; rw [Nat.min_eq_right (by omega)]; simp
    by_cases hL0 : L = []
    · subst hL0
      have hj0 : j = 0 := by have : spareN [] j = 0 := rfl; omega
      subst hj0
      have hN : NL = [] := by rw [heq]; rfl
      subst hN
      refine ⟨?_, ?_, ?_⟩
      · show [_] = advL g [] 1 [b]
        unfold advL
        show [_] = [] ++ cntChs g 1 [b] [0]
        unfold cntChs
        simp [hc1]
      · show 1 - 0 ≤ 1 * g; omega
      · show 1 * g < 1 - 0 + g; omega
    · obtain ⟨A, hA⟩ := last_split hL0
      have hle : L.length ≠ 0 := by intro e; exact hL0 (List.eq_nil_of_length_eq_zero e)
      have hlast := hL (lastQ L) (by rw [hA]; simp [lastQ_snoc])
      have hNL : NL = A ++ [(lastQ L).upto j] := by
        rw [heq]
        unfold advL
        rw [hj]
        rw [show cntChs g (j - j) [] (List.range ([] : List Nat).length) = [] from rfl, List.append_nil]
        conv => lhs; rw [hA]
        rw [lastQ_snoc, set_snoc]
      have hfull : (lastQ L).to + j = (lastQ L).os.length := by
        rcases hc with hc | hc
        · rw [hNL] at hc; simp at hc
        · rw [hNL, lastQ_snoc] at hc; exact hc
      have hs1 : spareN L (j + 1) = j := by
        unfold spareN
        rw [if_neg hle]
        omega
      refine ⟨?_, ?_, ?_⟩
      · unfold advL
        rw [hs1, hNL, Nat.add_sub_cancel_left]
        conv => rhs; rw [hA]
        rw [lastQ_snoc, set_snoc]
        show _ = _ ++ cntChs g 1 [b] [0]
        unfold cntChs
        simp [hc1]
      · rw [hs1]; simp; omega
      · rw [hs1]; simp
  · rw [List.concat_eq_append] at hA
    have hM : bs.length = A.length + 1 := by rw [hA]; simp
    have hMg : bs.length * g = A.length * g + g := by rw [hM, Nat.succ_mul]
    have hs1 : spareN L (j + 1) = spareN L j := spare_stop (by omega)
    have hNL : NL = L.set (L.length - 1) ((lastQ L).upto (spareN L j)) ++ cntChs g (j - spareN L j) A (List.range A.length) ++ [cntCh g (j - spareN L j) b0 A.length] := by
      rw [heq]
      unfold advL
      rw [hA, cntChs_snoc, List.append_assoc]
    have hfull : j - spareN L j = bs.length * g := by
      rcases hc with hc | hc
      · rw [hNL] at hc; simp at hc
      · rw [hNL, lastQ_snoc] at hc
        simp only [cntCh, zeros, List.length_replicate] at hc
        omega
    have hn1 : j + 1 - spareN L j = bs.length * g + 1 := by omega
    refine ⟨?_, ?_, ?_⟩
    · rw [heq]
      unfold advL
      rw [hs1, hn1, cntChs_snoc, hfull, cntChs_full g _ bs (Nat.le_refl _), cntChs_full g _ bs (by omega), List.append_assoc]
      congr 2
      unfold cntCh
      rw [Nat.min_eq_right (by omega)]
      simp
    · rw [hs1, List.length_append, List.length_singleton, Nat.succ_mul]; omega
    · rw [hs1, List.length_append, List.length_singleton, Nat.succ_mul]; omega

theorem Adv.bump {g : Nat} {L : List QCh} {j : Nat} {NL : List QCh} {bs : List Nat} (h : Adv g L j NL bs) (hg : 1 ≤ g) (hL : ∀ c ∈ L, ChOk c) (hc : ¬ fullQ NL) :
    Adv g L (j + 1) (NL.set (NL.length - 1) ((lastQ NL).upto 1)) bs := by
  obtain ⟨heq, hlo, hhi⟩ := h
  have hsp := spare_le L j
  have hn0 : NL.length ≠ 0 := fun e => hc (Or.inl e)
  have hnf : (lastQ NL).to ≠ (lastQ NL).os.length := fun e => hc (Or.inr e)
  rcases List.eq_nil_or_concat bs with rfl | ⟨A, b0, hA⟩
  · have hj : spareN L j = j := by simp at hlo; omega
    have hL0 : L ≠ [] := by
      rintro rfl
      rw [heq, advL_len] at hn0
      simp at hn0
    obtain ⟨A, hA⟩ := last_split hL0
    have hle : L.length ≠ 0 := by intro e; exact hL0 (List.eq_nil_of_length_eq_zero e)
    have hlast := hL (lastQ L) (by rw [hA]; simp [lastQ_snoc])
    have hNL : NL = A ++ [(lastQ L).upto j] := by
      rw [heq]
      unfold advL
      rw [hj]
      rw [show cntChs g (j - j) [] (List.range ([] : List Nat).length) = [] from rfl, List.append_nil]
      conv => lhs; rw [hA]
      rw [lastQ_snoc, set_snoc]
    have hnf' : (lastQ L).to + j ≠ (lastQ L).os.length := by rw [hNL, lastQ_snoc] at hnf; exact hnf
    have hjl : j ≤ (lastQ L).os.length - (lastQ L).to := by
      have := hj
      unfold spareN at this
      rw [if_neg hle] at this
      omega
    have hs1 : spareN L (j + 1) = j + 1 := by
      unfold spareN
      rw [if_neg hle]
      have := hlast.2.1
      omega
    refine ⟨?_, by rw [hs1]; simp, by rw [hs1]; simp; omega⟩
    unfold advL
    rw [hs1, hNL, set_snoc, lastQ_snoc]
    conv => rhs; rw [hA]
    rw [lastQ_snoc, set_snoc]
    show _ = _ ++ cntChs g (j + 1 - (j + 1)) [] []
    unfold cntChs
    rw [List.zipWith_nil_left, List.append_nil]
    rfl
  · rw [List.concat_eq_append] at hA
    have hM : bs.length = A.length + 1 := by rw [hA]; simp
    have hMg : bs.length * g = A.length * g + g := by rw [hM, Nat.succ_mul]
    have hs1 : spareN L (j + 1) = spareN L j := spare_stop (by omega)
    have hNL : NL = L.set (L.length - 1) ((lastQ L).upto (spareN L j)) ++ cntChs g (j - spareN L j) A (List.range A.length) ++ [cntCh g (j - spareN L j) b0 A.length] := by
      rw [heq]
      unfold advL
      rw [hA, cntChs_snoc, List.append_assoc]
    have hlt : j - spareN L j < bs.length * g := by
      rw [hNL, lastQ_snoc] at hnf
      simp only [cntCh, zeros, List.length_replicate] at hnf
      omega
    refine ⟨?_, by rw [hs1]; omega, by rw [hs1]; omega⟩
    rw [hNL, set_snoc, lastQ_snoc]
    unfold advL
    rw [hs1, hA, cntChs_snoc, ← List.append_assoc, cntChs_full g _ A (by omega), cntChs_full g _ A (by omega)]
    congr 2
    simp only [cntCh, QCh.upto, QCh.mk.injEq, true_and]
    omega

theorem Adv.to_le {g : Nat} {L : List QCh} {j : Nat} {NL : List QCh} {bs : List Nat} (h : Adv g L j NL bs) (hg2 : g ≤ 100000) (hL : ∀ c ∈ L, ChOk c) : ∀ c ∈ NL, QCh.to c ≤ 100000 := by
  intro c hc
  rw [h.eq] at hc
  unfold advL at hc
  rcases List.mem_append.1 hc with hc | hc
  · rcases List.mem_or_eq_of_mem_set hc with hc | rfl
    · obtain ⟨h1, h2, h3⟩ := hL c hc
      omega
    · by_cases h0 : L = []
      · subst h0; simp at hc
      · obtain ⟨A, hA⟩ := last_split h0
        obtain ⟨h1, h2, h3⟩ := hL (lastQ L) (by rw [hA]; simp [lastQ_snoc])
        have h4 : spareN L j ≤ (lastQ L).os.length - (lastQ L).to := by unfold spareN; split <;> omega
        show (lastQ L).to + spareN L j ≤ 100000
        omega
  · obtain ⟨i, hi, rfl⟩ := List.mem_iff_getElem.1 hc
    simp only [cntChs, List.getElem_zipWith, cntCh]
    omega

theorem Adv.chok {g : Nat} {L : List QCh} {j : Nat} {NL : List QCh} {bs : List Nat} (h : Adv g L j NL bs) (hg2 : g ≤ 100000) (hL : ∀ c ∈ L, ChOk c) : ∀ c ∈ NL, ChOk c := by
  intro c hc
  rw [h.eq] at hc
  unfold advL at hc
  rcases List.mem_append.1 hc with hc | hc
  · rcases List.mem_or_eq_of_mem_set hc with hc | rfl
    · exact hL c hc
    · by_cases h0 : L = []
      · subst h0; simp at hc
      · obtain ⟨A, hA⟩ := last_split h0
        obtain ⟨h1, h2, h3⟩ := hL (lastQ L) (by rw [hA]; simp [lastQ_snoc])
        have h4 : spareN L j ≤ (lastQ L).os.length - (lastQ L).to := by unfold spareN; split <;> omega
        refine ⟨?_, ?_, h3⟩
        · show (lastQ L).fr ≤ (lastQ L).to + spareN L j
          omega
        · show (lastQ L).to + spareN L j ≤ (lastQ L).os.length
          omega
  · obtain ⟨i, hi, rfl⟩ := List.mem_iff_getElem.1 hc
    simp only [cntChs, List.getElem_zipWith, cntCh]
    refine ⟨Nat.zero_le _, ?_, ?_⟩
    · show min g _ ≤ (zeros g).length
      simp only [zeros, List.length_replicate]
      omega
    · show (zeros g).length ≤ 100000
      simp only [zeros, List.length_replicate]
      omega
/-- The chunks behind the second loop have the cells of those that are laid out. -/
theorem same_cells {A B : List QCh} (hl : A.length = B.length) (h : ∀ i, i < B.length → (A.getD i QCh.zero).b = (B.getD i QCh.zero).b ∧ (A.getD i QCh.zero).fr = (B.getD i QCh.zero).fr ∧ (A.getD i QCh.zero).to = (B.getD i QCh.zero).to ∧ (A.getD i QCh.zero).os.length = (B.getD i QCh.zero).os.length) :
    A.flatMap QCh.cells = B.flatMap QCh.cells ∧ A.map QCh.b = B.map QCh.b := by
  induction A generalizing B with
  | nil => cases B with
    | nil => exact ⟨rfl, rfl⟩
    | cons y m => simp at hl
  | cons x l ih =>
    cases B with
    | nil => simp at hl
    | cons y m =>
      obtain ⟨h1, h2, h3, h4⟩ := h 0 (by simp)
      simp only [List.getD_cons_zero] at h1 h2 h3 h4
      obtain ⟨i1, i2⟩ := ih (B := m) (by simpa using hl) (fun i hi => by
        have := h (i + 1) (by simpa using hi)
        simpa only [List.getD_cons_succ] using this)
      refine ⟨?_, ?_⟩
      · rw [List.flatMap_cons, List.flatMap_cons, i1]
        congr 1
        simp only [QCh.cells, h1, h2, h3, h4]
      · rw [List.map_cons, List.map_cons, i2, h1]

theorem Adv.mapb {g : Nat} {L : List QCh} {j : Nat} {NL : List QCh} {bs : List Nat} (h : Adv g L j NL bs) : NL.map QCh.b = L.map QCh.b ++ bs := by
  rw [h.eq]
  unfold advL
  rw [List.map_append]
  congr 1
  · by_cases h0 : L = []
    · subst h0; rfl
    · exact qmap_set L (L.length - 1) _ (by have := List.length_pos_iff.2 h0; omega) rfl
  · apply List.ext_getElem
    · simp [cntChs]
    · intro i h1 h2
      simp [cntChs, cntCh]
theorem Adv.blk {g : Nat} {L : List QCh} {j : Nat} {NL : List QCh} {bs : List Nat} (h : Adv g L j NL bs) : ∀ c ∈ NL, (∃ d ∈ L, c.b = d.b ∧ c.os = d.os) ∨ (c.b ∈ bs ∧ c.os = zeros g) := by
  intro c hc
  rw [h.eq] at hc
  unfold advL at hc
  rcases List.mem_append.1 hc with hc | hc
  · rcases List.mem_or_eq_of_mem_set hc with hc | rfl
    · exact Or.inl ⟨c, hc, rfl, rfl⟩
    · by_cases h0 : L = []
      · subst h0; simp at hc
      · obtain ⟨A, hA⟩ := last_split h0
        exact Or.inl ⟨lastQ L, by rw [hA]; simp [lastQ_snoc], rfl, rfl⟩
  · obtain ⟨i, hi, rfl⟩ := List.mem_iff_getElem.1 hc
    simp only [cntChs, List.getElem_zipWith, cntCh]
    exact Or.inr ⟨List.getElem_mem _, by first | rfl | trivial⟩

theorem Adv.many {g : Nat} {L : List QCh} {N : Nat} {NL : List QCh} {bs : List Nat} (h : Adv g L N NL bs) (hg : 1 ≤ g) : bs.length = (N - spareN L N + g - 1) / g := by
  obtain ⟨_, h1, h2⟩ := h
  symm
  refine Nat.div_eq_of_lt_le (by omega) ?_
  rw [Nat.succ_mul]
  omega

/-- How many octets are written ahead of chunk i. -/
def consN (g : Nat) (L : List QCh) (N i : Nat) : Nat := if i < L.length then 0 else min N (spareN L N + (i - L.length) * g)
def wasN (L : List QCh) (i : Nat) : Nat := if i < L.length then (L.getD i QCh.zero).to else 0

theorem consN_zero (g : Nat) (L : List QCh) (N : Nat) : consN g L N 0 = 0 := by
  unfold consN
  split
  · rfl
  · have : L.length = 0 := by omega
    have e : spareN L N = 0 := by unfold spareN; rw [if_pos this]
    rw [e]; simp
theorem consN_le (g : Nat) (L : List QCh) (N i : Nat) : consN g L N i ≤ N := by unfold consN; split <;> omega

theorem getD_left {A B : List QCh} {i : Nat} (h : i < A.length) : (A ++ B).getD i QCh.zero = A.getD i QCh.zero := by
  simp only [List.getD_eq_getElem?_getD]
  rw [List.getElem?_append_left h]
theorem getD_right {A B : List QCh} {i : Nat} : (A ++ B).getD (A.length + i) QCh.zero = B.getD i QCh.zero := by
  simp only [List.getD_eq_getElem?_getD]
  rw [List.getElem?_append_right (by omega), Nat.add_sub_cancel_left]

/-- The chunks behind the reference's second loop are those that the program's Push leaves. -/
theorem Adv.write {I : QuId} {L : List QCh} {zs : List Int} {NL : List QCh} {bs : List Nat} (h : Adv (roomQ I) L zs.length NL bs) (hg : 1 ≤ roomQ I) (hL : ∀ c ∈ L, ChOk c) :
    (pushL I L zs bs).length = NL.length ∧ bs.length = manyQ I L zs.length ∧ ∀ i, i < NL.length →
      ((pushL I L zs bs).getD i QCh.zero).b = (NL.getD i QCh.zero).b ∧ ((pushL I L zs bs).getD i QCh.zero).fr = (NL.getD i QCh.zero).fr ∧ ((pushL I L zs bs).getD i QCh.zero).to = (NL.getD i QCh.zero).to ∧
      consN (roomQ I) L zs.length i ≤ consN (roomQ I) L zs.length (i + 1) ∧ wasN L i + (consN (roomQ I) L zs.length (i + 1) - consN (roomQ I) L zs.length i) = (NL.getD i QCh.zero).to ∧
      ((pushL I L zs bs).getD i QCh.zero).os = splice (NL.getD i QCh.zero).os (wasN L i) ((zs.drop (consN (roomQ I) L zs.length i)).take (consN (roomQ I) L zs.length (i + 1) - consN (roomQ I) L zs.length i)) := by
  have hm : bs.length = manyQ I L zs.length := h.many hg
  obtain ⟨heq, hlo, hhi⟩ := h
  generalize hN : zs.length = N at *
  have hsp := spare_le L N
  have hlen1 : (moreL L (zs.take (spareN L N))).length = L.length := moreL_len _ _
  have hpl : pushL I L zs bs = moreL L (zs.take (spareN L N)) ++ newChs (roomQ I) (zs.drop (spareN L N)) bs (List.range bs.length) := by unfold pushL; rw [hN, hm]
  have hnl : NL.length = L.length + bs.length := by rw [heq, advL_len]
  refine ⟨by rw [hpl, List.length_append, hlen1, newChs_len _ _ _ _ (by simp), List.length_range, hnl], hm, fun i hi => ?_⟩
  generalize roomQ I = g at *
  by_cases hiL : i < L.length
  · have e1 : (pushL I L zs bs).getD i QCh.zero = (moreL L (zs.take (spareN L N))).getD i QCh.zero := by rw [hpl, getD_left (by omega)]
    have e2 : NL.getD i QCh.zero = (L.set (L.length - 1) ((lastQ L).upto (spareN L N))).getD i QCh.zero := by rw [heq]; unfold advL; rw [getD_left (by simpa using hiL)]
    have hw : wasN L i = (L.getD i QCh.zero).to := if_pos hiL
    have hc0 : consN g L N i = 0 := if_pos hiL
    rw [e1, e2, hw, hc0]
    by_cases hlast : i + 1 < L.length
    · have hc1 : consN g L N (i + 1) = 0 := if_pos hlast
      have f1 : (moreL L (zs.take (spareN L N))).getD i QCh.zero = L.getD i QCh.zero := by unfold moreL; simp only [List.getD_eq_getElem?_getD]; rw [List.getElem?_set_ne (by omega)]
      have f2 : (L.set (L.length - 1) ((lastQ L).upto (spareN L N))).getD i QCh.zero = L.getD i QCh.zero := by simp only [List.getD_eq_getElem?_getD]; rw [List.getElem?_set_ne (by omega)]
      rw [f1, f2, hc1]
      refine ⟨rfl, rfl, rfl, Nat.le_refl _, rfl, ?_⟩
      simp [splice]
    · have hil : i = L.length - 1 := by omega
      have hc1 : consN g L N (i + 1) = spareN L N := by
        unfold consN
        rw [if_neg hlast, show i + 1 - L.length = 0 by omega]
        omega
      have f1 : (moreL L (zs.take (spareN L N))).getD i QCh.zero = (lastQ L).more (zs.take (spareN L N)) := by unfold moreL; rw [← hil]; simp [List.getD_eq_getElem?_getD, hiL]
      have f2 : (L.set (L.length - 1) ((lastQ L).upto (spareN L N))).getD i QCh.zero = (lastQ L).upto (spareN L N) := by rw [← hil]; simp [List.getD_eq_getElem?_getD, hiL]
      have hll : lastQ L = L.getD i QCh.zero := by unfold lastQ; rw [hil]
      have htl : (zs.take (spareN L N)).length = spareN L N := by rw [List.length_take, hN]; omega
      rw [f1, f2, hc1, hll]
      refine ⟨rfl, rfl, ?_, Nat.zero_le _, ?_, ?_⟩
      · show _ + (zs.take (spareN L N)).length = _ + _
        rw [htl]
      · show _ + (_ - 0) = _ + _
        omega
      · show splice _ _ _ = _
        rw [List.drop_zero, Nat.sub_zero]
        rfl
  · obtain ⟨x, rfl⟩ : ∃ x, i = L.length + x := ⟨i - L.length, by omega⟩
    have hx : x < bs.length := by omega
    have hxg := Nat.mul_le_mul_right g (show x + 1 ≤ bs.length from hx)
    rw [Nat.succ_mul] at hxg
    have e1 : (pushL I L zs bs).getD (L.length + x) QCh.zero = newCh g (zs.drop (spareN L N)) (bs.getD x 0) x := by
      rw [hpl]
      have := getD_right (A := moreL L (zs.take (spareN L N))) (B := newChs g (zs.drop (spareN L N)) bs (List.range bs.length)) (i := x)
      rw [hlen1] at this
      rw [this]
      simp [newChs, List.getD_eq_getElem?_getD, hx]
    have e2 : NL.getD (L.length + x) QCh.zero = cntCh g (N - spareN L N) (bs.getD x 0) x := by
      rw [heq]
      unfold advL
      have := getD_right (A := L.set (L.length - 1) ((lastQ L).upto (spareN L N))) (B := cntChs g (N - spareN L N) bs (List.range bs.length)) (i := x)
      rw [List.length_set] at this
      rw [this]
      simp [cntChs, List.getD_eq_getElem?_getD, hx]
    have hw : wasN L (L.length + x) = 0 := if_neg hiL
    have hc0 : consN g L N (L.length + x) = spareN L N + x * g := by
      unfold consN
      rw [if_neg hiL, Nat.add_sub_cancel_left]
      omega
    have hc1 : consN g L N (L.length + x + 1) = min N (spareN L N + (x * g + g)) := by
      unfold consN
      rw [if_neg (by omega), show L.length + x + 1 - L.length = x + 1 by omega, Nat.succ_mul]
    have hpart : partZ (zs.drop (spareN L N)) g x = (zs.drop (spareN L N + x * g)).take (min N (spareN L N + (x * g + g)) - (spareN L N + x * g)) := by
      unfold partZ
      rw [List.drop_drop]
      apply List.ext_getElem?
      intro k
      rw [List.getElem?_take, List.getElem?_take]
      by_cases hk : spareN L N + x * g + k < N
      · by_cases hkg : k < g
        · rw [if_pos hkg, if_pos (by omega)]
        · rw [if_neg hkg, if_neg (by omega)]
      · have : (zs.drop (spareN L N + x * g))[k]? = none := by rw [List.getElem?_drop]; exact List.getElem?_eq_none (by omega)
        rw [this]
        split <;> split <;> rfl
    have hplen : (partZ (zs.drop (spareN L N)) g x).length = min g (N - spareN L N - x * g) := by rw [partZ_len, List.length_drop, hN]
    rw [e1, e2, hw, hc0, hc1]
    refine ⟨rfl, rfl, hplen, by omega, ?_, ?_⟩
    · show 0 + _ = min g _
      omega
    · show splice (zeros g) 0 _ = splice (zeros g) 0 _
      rw [hpart]

end Go.Proofs.YtfnmjlnpfoclbaaGreat
