/-
  A call that has no error tells an entry more. No conditions but what always holds of a book.
-/
import Derived.Test.YtljjndifmfhffaaGreatDoorLedgerChecksPak
namespace Go.Proofs.YtljjndifmfhffaaGreatDoor
set_option linter.unusedVariables false

theorem note_more {st st' : BookSt} (e : Ent) (h : st'.entries = st.entries) (hn : st.entries.length ≤ 5000) : st.entries.length < (st'.note e).entries.length := by
  show _ < (trimE (st'.entries ++ [e])).length
  rw [h, trimE_id (by simp; omega)]
  simp
theorem openR_more {st : BookSt} (o l : Int) (hn : st.entries.length ≤ 5000) : (openR st o l).1 = 0 → st.entries.length < (openR st o l).2.entries.length := by
  unfold openR; split
  · split
    · intro _; exact note_more _ rfl hn
    · intro h; simp at h
  · intro h; simp at h
theorem shutR_more {st : BookSt} (o : Int) (hn : st.entries.length ≤ 5000) : (shutR st o).1 = 0 → st.entries.length < (shutR st o).2.entries.length := by
  unfold shutR; split
  · split
    · intro h; simp at h
    · split
      · intro h; simp at h
      · intro _; exact note_more _ rfl hn
  · intro h; simp at h
theorem takeR_more {st : BookSt} (o n : Int) (hn : st.entries.length ≤ 5000) : (takeR st o n).1 = 0 → st.entries.length < (takeR st o n).2.entries.length := by
  unfold takeR; split
  · split
    · intro h; simp at h
    · next l h s _ =>
      intro h0
      have h0 : takeE st l h s n = 0 := h0
      show _ < (takeSt st o l h s n).entries.length
      unfold takeSt
      rw [if_pos h0]
      show _ < (trimE (st.entries ++ [holdEnt o n])).length
      rw [trimE_id (by simp; omega)]
      simp
  · intro h; simp at h
theorem giveR_more {st : BookSt} (o n : Int) (hn : st.entries.length ≤ 5000) : (giveR st o n).1 = 0 → st.entries.length < (giveR st o n).2.entries.length := by
  unfold giveR; split
  · split
    · intro h; simp at h
    · next l h s _ =>
      intro h0
      have h0 : giveE h n = 0 := h0
      show _ < (giveSt st o l h s n).entries.length
      unfold giveSt
      rw [if_pos h0]
      show _ < (trimE (st.entries ++ [_])).length
      rw [trimE_id (by simp; omega)]
      simp
  · intro h; simp at h
theorem payR_more {st : BookSt} (f t n : Int) (hn : st.entries.length ≤ 5000) : (payR st f t n).1 = 0 → st.entries.length < (payR st f t n).2.entries.length := by
  unfold payR; split
  · split
    · split
      · intro h; simp at h
      · split
        · intro h; simp at h
        · intro _; exact note_more _ (by unfold paid; split <;> rfl) hn
    · intro h; simp at h
  · intro h; simp at h
theorem limR_more {st : BookSt} (o n : Int) (hn : st.entries.length ≤ 5000) : (limR st o n).1 = 0 → st.entries.length < (limR st o n).2.entries.length := by
  unfold limR; split
  · split
    · intro h; simp at h
    · split
      · intro h; simp at h
      · intro _; exact note_more _ rfl hn
  · intro h; simp at h
theorem budR_more {st : BookSt} (b : Int) (hn : st.entries.length ≤ 5000) : (budR st b).1 = 0 → st.entries.length < (budR st b).2.entries.length := by
  unfold budR; split
  · split
    · intro h; simp at h
    · intro _; exact note_more _ rfl hn
  · intro h; simp at h
theorem leaseR_more {st : BookSt} (o n u : Int) (hn : st.entries.length ≤ 5000) : (leaseR st o n u).1 = 0 → st.entries.length < (leaseR st o n u).2.entries.length := by
  unfold leaseR; split
  · next hz =>
    obtain ⟨l, h, s, ha, _⟩ := leaseE_zero hz
    rw [ha]
    intro _
    exact note_more _ rfl hn
  · next hz => intro h; exact absurd h hz
theorem renewR_more {st : BookSt} (no u : Int) (hn : st.entries.length ≤ 5000) : (renewR st no u).1 = 0 → st.entries.length < (renewR st no u).2.entries.length := by
  unfold renewR; split
  · intro h; simp at h
  · split
    · intro _; exact note_more _ rfl hn
    · next hz => intro h; exact absurd h hz
theorem endR_more {st : BookSt} (no : Int) (hn : st.entries.length ≤ 5000) : (endR st no).1 = 0 → st.entries.length < (endR st no).2.entries.length := by
  unfold endR; split
  · intro h; simp at h
  · split
    · intro h; simp at h
    · intro _; exact note_more _ rfl hn
theorem passR_more {st : BookSt} (g : Good st) (now : Int) (hn : st.entries.length ≤ 5000) : (passR st now).1 = 0 → st.entries.length < (passR st now).2.entries.length := by
  unfold passR; split
  · intro _
    have hs := overL_len st now
    have := g.leaLen
    have e2 : (({ st with time := now } : BookSt).note ⟨11, 0, 0, 0, 0, now⟩).entries = st.entries ++ [⟨11, 0, 0, 0, 0, now⟩] := trimE_id (by simp; omega)
    obtain ⟨more, h1, h2⟩ := endAll_ents (overL st now) (({ st with time := now } : BookSt).note ⟨11, 0, 0, 0, 0, now⟩) (by rw [e2]; simp; omega)
    rw [h1, e2]
    simp
  · next hz => intro h; exact absurd h hz
theorem againR_more {st : BookSt} (g : Good st) (e : Ent) (hk : 1 ≤ e.kind ∧ e.kind ≤ 11) (hn : st.entries.length ≤ 5000) : (againR st e).1 = 0 → st.entries.length < (againR st e).2.entries.length := by
  unfold againR
  split
  · exact openR_more _ _ hn
  split
  · exact shutR_more _ hn
  split
  · exact takeR_more _ _ hn
  split
  · exact giveR_more _ _ hn
  split
  · exact payR_more _ _ _ hn
  split
  · exact limR_more _ _ hn
  split
  · exact budR_more _ hn
  split
  · exact leaseR_more _ _ _ hn
  split
  · exact renewR_more _ _ hn
  split
  · exact endR_more _ hn
  split
  · exact passR_more g _ hn
  · omega

end Go.Proofs.YtljjndifmfhffaaGreatDoor
