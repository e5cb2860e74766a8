/-
  TopArena's plain laws: what a mark, a region more, a release leave of order, contents and the law's own stack. No program in sight.
-/
import Derived.Test.YtfolidedcejafaaArenA
namespace Go.Proofs.Ytfolidedcejafaa
open Go.RowKit
set_option linter.unusedVariables false

structure Sk where
  mark : Int
  len : Int
  lost : Int
  rv : Value
  nos : List Int
def Sk.zero : Sk := ⟨0, 0, 0, .slice none 0 0, []⟩
def Sk.cells (e : Sk) : List Value := [.int .i64 e.mark, .int .i64 e.len, .int .i64 e.lost, e.rv]

/-- The law's stack mirrors the arena's marks. -/
structure MkRel (st : ArSt) (stk : List Sk) : Prop where
  len : st.marks.length = stk.length
  ent : ∀ j, j < stk.length → (stk.getD j Sk.zero).mark = (st.marks.getD j Mk.zero).no ∧ (st.marks.getD j Mk.zero).many ≤ st.regs.length ∧ (st.marks.getD j Mk.zero).en = endOf (st.regs.take (st.marks.getD j Mk.zero).many) ∧
    (stk.getD j Sk.zero).len = ((sumN Reg.len (st.regs.take (st.marks.getD j Mk.zero).many) : Nat) : Int) ∧ (stk.getD j Sk.zero).lost = lostOf { st with regs := st.regs.take (st.marks.getD j Mk.zero).many } ∧ (stk.getD j Sk.zero).nos = (st.regs.take (st.marks.getD j Mk.zero).many).map Reg.no
  inc : ∀ j k, j < k → k < stk.length → (st.marks.getD j Mk.zero).no < (st.marks.getD k Mk.zero).no
  top : ∀ j, j < stk.length → (st.marks.getD j Mk.zero).no ≤ st.lm
  mono : ∀ j k, j < k → k < stk.length → (st.marks.getD j Mk.zero).many ≤ (st.marks.getD k Mk.zero).many

theorem getD_app {α : Type} (z : α) (L M : List α) (j : Nat) (h : j < L.length) : (L ++ M).getD j z = L.getD j z := by
  rw [List.getD_eq_getElem?_getD, List.getElem?_append_left h, ← List.getD_eq_getElem?_getD]
theorem getD_last {α : Type} (z : α) (L : List α) (x : α) : (L ++ [x]).getD L.length z = x := by
  rw [List.getD_eq_getElem?_getD, List.getElem?_append_right (Nat.le_refl _)]; simp
theorem getD_take {α : Type} (z : α) (L : List α) (j k : Nat) (h : j < k) : (L.take k).getD j z = L.getD j z := by
  rw [List.getD_eq_getElem?_getD, List.getD_eq_getElem?_getD, List.getElem?_take, if_pos h]

theorem MkRel.marked {st : ArSt} {stk : List Sk} (h : MkRel st stk) (rv : Value) : MkRel (markSt st) (stk ++ [⟨st.lm + 1, ((sumN Reg.len st.regs : Nat) : Int), lostOf st, rv, st.regs.map Reg.no⟩]) := by
  have hl := h.len
  have old : ∀ j, j < stk.length → ((markSt st).marks.getD j Mk.zero) = st.marks.getD j Mk.zero := fun j hj => getD_app _ _ _ _ (by omega)
  have new : (markSt st).marks.getD stk.length Mk.zero = ⟨st.lm + 1, st.regs.length, endOf st.regs⟩ := by rw [← hl]; exact getD_last _ _ _
  refine ⟨by unfold markSt; simp [hl], fun j hj => ?_, fun j k hjk hk => ?_, fun j hj => ?_, fun j k hjk hk => ?_⟩
  · rw [List.length_append] at hj
    simp at hj
    by_cases hj2 : j < stk.length
    · rw [old j hj2, getD_app _ _ _ _ hj2]
      exact h.ent j hj2
    · obtain rfl : j = stk.length := by omega
      rw [new, getD_last]
      exact ⟨rfl, Nat.le_refl _, by rw [show (markSt st).regs = st.regs from rfl, List.take_length], by rw [show (markSt st).regs = st.regs from rfl, List.take_length], by rw [show (markSt st).regs = st.regs from rfl, List.take_length]; rfl, by rw [show (markSt st).regs = st.regs from rfl, List.take_length]⟩
  · rw [List.length_append] at hk
    simp at hk
    rw [old j (by omega)]
    by_cases hk2 : k < stk.length
    · rw [old k hk2]; exact h.inc j k hjk hk2
    · obtain rfl : k = stk.length := by omega
      rw [new]
      have := h.top j (by omega)
      show _ < st.lm + 1
      omega
  · rw [List.length_append] at hj
    simp at hj
    show _ ≤ st.lm + 1
    by_cases hj2 : j < stk.length
    · rw [old j hj2]; have := h.top j hj2; omega
    · obtain rfl : j = stk.length := by omega
      rw [new]
      exact Int.le_refl _
  · rw [List.length_append] at hk
    simp at hk
    rw [old j (by omega)]
    by_cases hk2 : k < stk.length
    · rw [old k hk2]; exact h.mono j k hjk hk2
    · obtain rfl : k = stk.length := by omega
      rw [new]
      exact (h.ent j (by omega)).2.1

theorem fill_part (z : Int) (os : List Int) (o n a b : Nat) (h : o + n ≤ os.length) (hab : a + b ≤ o) : ((fill z os o n).drop a).take b = (os.drop a).take b := by
  apply List.ext_getElem?
  intro i
  rw [List.getElem?_take, List.getElem?_take]
  by_cases hi : i < b
  · rw [if_pos hi, if_pos hi, List.getElem?_drop, List.getElem?_drop, fill_at z n os o (a + i) h, if_neg (by omega)]
  · rw [if_neg hi, if_neg hi]
theorem fill_self (z : Int) (os : List Int) (o n : Nat) (h : o + n ≤ os.length) : ((fill z os o n).drop o).take n = List.replicate n z := by
  apply List.ext_getElem?
  intro i
  rw [List.getElem?_take, List.getElem?_replicate]
  by_cases hi : i < n
  · rw [if_pos hi, if_pos hi, List.getElem?_drop, fill_at z n os o (o + i) h, if_pos (by omega)]
  · rw [if_neg hi, if_neg hi]

/-- The loss of regions that fit the chunks, when chunks are added or written over. -/
theorem lost_chunks (st : ArSt) (C : List Chk) (L : List Reg) (hL : ∀ x ∈ L, x.ch < st.chunks.length) (hC : ∀ c, c < st.chunks.length → sumN Chk.len (C.take c) = sumN Chk.len (st.chunks.take c)) (st' : ArSt) (h1 : st'.chunks = C) (h2 : st'.regs = L) :
    lostOf st' = lostOf { st with regs := L } := by
  unfold lostOf
  rw [h1, h2]
  by_cases h0 : L.length = 0
  · rw [if_pos h0, if_pos h0]
  · rw [if_neg h0, if_neg h0, hC _ (hL _ (getD_in Reg.zero (by omega)))]

/-- All regions lie ahead of a place behind the last one. -/
theorem Pl.ahead {st : ArSt} (h : Pl st) (hok : RegsOk st.regs) (ch at' : Nat) (hl : 0 < st.regs.length → (st.regs.getD (st.regs.length - 1) Reg.zero).ch < ch ∨ ((st.regs.getD (st.regs.length - 1) Reg.zero).ch = ch ∧ (st.regs.getD (st.regs.length - 1) Reg.zero).to ≤ at')) (j : Nat) (hj : j < st.regs.length) :
    (st.regs.getD j Reg.zero).ch < ch ∨ ((st.regs.getD j Reg.zero).ch = ch ∧ (st.regs.getD j Reg.zero).to ≤ at') := by
  have h1 := hl (by omega)
  by_cases hj2 : j = st.regs.length - 1
  · rw [hj2]; exact h1
  · have h2 := h.ord j (st.regs.length - 1) (by omega) (by omega)
    have h3 := (hok.2 _ (getD_in Reg.zero (show st.regs.length - 1 < st.regs.length by omega))).1
    omega

/-- A region more, and its octets written: what it shows, and that all holds on. -/
theorem take_plain {st st' : ArSt} {stk : List Sk} {n : Nat} (h : Pl st) (hok : RegsOk st.regs) (hfi : Fits st) (hm : MkRel st stk) (hlr : 0 ≤ st.lr) (ht : TakeOk st n st') :
    ∃ x : Reg, st'.regs = st.regs ++ [x] ∧ x.no = st.lr + 1 ∧ st'.lr = st.lr + 1 ∧ x.len = n ∧ st'.lm = st.lm ∧ st'.marks = st.marks ∧ x.fr ≤ x.to ∧ x.ch < st'.chunks.length ∧ x.to ≤ (st'.chunks.getD x.ch Chk.zero).os.length ∧ st'.shows x = zeros n ∧
      Pl { st' with chunks := setChunk st'.chunks x.ch (fill ((st.lr + 1) % 256) (st'.chunks.getD x.ch Chk.zero).os x.fr n) } ∧ MkRel { st' with chunks := setChunk st'.chunks x.ch (fill ((st.lr + 1) % 256) (st'.chunks.getD x.ch Chk.zero).os x.fr n) } stk := by
  obtain ⟨C, ch, at', pk, hC, hch, hle, hl, rfl⟩ := ht
  have hold : ∀ c, c < st.chunks.length → C.getD c Chk.zero = st.chunks.getD c Chk.zero := by
    intro c hc
    rcases hC with rfl | ⟨g, V, rfl⟩
    · rfl
    · exact getD_app _ _ _ _ hc
  have hsum : ∀ c, c < st.chunks.length → sumN Chk.len (C.take c) = sumN Chk.len (st.chunks.take c) := by
    intro c hc
    rcases hC with rfl | ⟨g, V, rfl⟩
    · rfl
    · rw [List.take_append_of_le_length (by omega)]
  have hlen0 : (fill 0 (C.getD ch Chk.zero).os at' n).length = (C.getD ch Chk.zero).os.length := fill_len _ _ _ _
  -- the chunks behind Take
  have c1 : (newSt2 { st with chunks := C } ch at' n pk).chunks = setChunk C ch (fill 0 (C.getD ch Chk.zero).os at' n) := rfl
  have o1 : ((newSt2 { st with chunks := C } ch at' n pk).chunks.getD ch Chk.zero).os = fill 0 (C.getD ch Chk.zero).os at' n := by rw [c1, setChunk_at _ _ _ _ hch, if_pos rfl]
  have l1 : (newSt2 { st with chunks := C } ch at' n pk).chunks.length = C.length := by rw [c1, setChunk_len]
  have hahead := h.ahead hok ch at' hl
  have xin : Reg := ⟨st.lr + 1, ch, at', at' + n⟩
  refine ⟨⟨st.lr + 1, ch, at', at' + n⟩, rfl, rfl, rfl, by unfold Reg.len; simp, rfl, rfl, by simp, by rw [l1]; exact hch, by rw [o1, hlen0]; exact hle, ?_, ?_, ?_⟩
  · unfold ArSt.shows Reg.len
    simp only
    rw [o1, show at' + n - at' = n by omega, fill_self 0 _ _ _ hle]
    rfl
  · have hw : ∀ y : Reg, y.fr ≤ y.to → (({ newSt2 { st with chunks := C } ch at' n pk with chunks := setChunk (newSt2 { st with chunks := C } ch at' n pk).chunks ch (fill ((st.lr + 1) % 256) ((newSt2 { st with chunks := C } ch at' n pk).chunks.getD ch Chk.zero).os at' n) } : ArSt).chunks.getD y.ch Chk.zero).os =
        if y.ch = ch then fill ((st.lr + 1) % 256) (fill 0 (C.getD ch Chk.zero).os at' n) at' n else (C.getD y.ch Chk.zero).os := by
      intro y _
      show ((setChunk _ ch _).getD y.ch Chk.zero).os = _
      rw [setChunk_at _ _ _ _ (by rw [l1]; exact hch), o1]
      by_cases hy : y.ch = ch
      · rw [if_pos hy, if_pos hy]
      · rw [if_neg hy, if_neg hy, c1, setChunk_at _ _ _ _ hch, if_neg hy]
    have e0 : ∀ j, j < st.regs.length → (st.regs ++ [(⟨st.lr + 1, ch, at', at' + n⟩ : Reg)]).getD j Reg.zero = st.regs.getD j Reg.zero := fun j hj => getD_app _ _ _ _ hj
    have e1 : (st.regs ++ [(⟨st.lr + 1, ch, at', at' + n⟩ : Reg)]).getD st.regs.length Reg.zero = ⟨st.lr + 1, ch, at', at' + n⟩ := getD_last _ _ _
    refine ⟨fun j k hjk hk => ?_, fun j k hjk hk => ?_, fun y hy => ?_, fun y hy => ?_⟩
    · change k < (st.regs ++ [(⟨st.lr + 1, ch, at', at' + n⟩ : Reg)]).length at hk
      show ((st.regs ++ [(⟨st.lr + 1, ch, at', at' + n⟩ : Reg)]).getD j Reg.zero).ch < ((st.regs ++ [(⟨st.lr + 1, ch, at', at' + n⟩ : Reg)]).getD k Reg.zero).ch ∨ (((st.regs ++ [(⟨st.lr + 1, ch, at', at' + n⟩ : Reg)]).getD j Reg.zero).ch = ((st.regs ++ [(⟨st.lr + 1, ch, at', at' + n⟩ : Reg)]).getD k Reg.zero).ch ∧ ((st.regs ++ [(⟨st.lr + 1, ch, at', at' + n⟩ : Reg)]).getD j Reg.zero).to ≤ ((st.regs ++ [(⟨st.lr + 1, ch, at', at' + n⟩ : Reg)]).getD k Reg.zero).fr)
      rw [List.length_append] at hk
      simp at hk
      rw [e0 j (by omega)]
      by_cases hk2 : k < st.regs.length
      · rw [e0 k hk2]; exact h.ord j k hjk hk2
      · obtain rfl : k = st.regs.length := by omega
        rw [e1]
        exact hahead j (by omega)
    · change k < (st.regs ++ [(⟨st.lr + 1, ch, at', at' + n⟩ : Reg)]).length at hk
      show ((st.regs ++ [(⟨st.lr + 1, ch, at', at' + n⟩ : Reg)]).getD j Reg.zero).no < ((st.regs ++ [(⟨st.lr + 1, ch, at', at' + n⟩ : Reg)]).getD k Reg.zero).no
      rw [List.length_append] at hk
      simp at hk
      rw [e0 j (by omega)]
      by_cases hk2 : k < st.regs.length
      · rw [e0 k hk2]; exact h.nos j k hjk hk2
      · obtain rfl : k = st.regs.length := by omega
        rw [e1]
        have := (h.rng _ (getD_in Reg.zero (show j < st.regs.length by omega))).2
        show _ < st.lr + 1
        omega
    · change y ∈ st.regs ++ [(⟨st.lr + 1, ch, at', at' + n⟩ : Reg)] at hy
      show 1 ≤ y.no ∧ y.no ≤ st.lr + 1
      rcases List.mem_append.1 hy with hy | hy
      · have := h.rng y hy; omega
      · obtain rfl : y = ⟨st.lr + 1, ch, at', at' + n⟩ := by simpa using hy
        exact ⟨by show 1 ≤ st.lr + 1; omega, Int.le_refl _⟩
    · change y ∈ st.regs ++ [(⟨st.lr + 1, ch, at', at' + n⟩ : Reg)] at hy
      unfold ArSt.shows
      rcases List.mem_append.1 hy with hy | hy
      · rw [hw y (hok.2 y hy).1]
        have hcon := h.con y hy
        unfold ArSt.shows at hcon
        obtain ⟨i, hi, rfl⟩ := List.getElem_of_mem hy
        have ei : st.regs[i] = st.regs.getD i Reg.zero := by rw [List.getD_eq_getElem?_getD, List.getElem?_eq_getElem hi]; rfl
        have hfit := (hfi _ (List.getElem_mem hi)).1
        have hft := (hok.2 _ (List.getElem_mem hi)).1
        by_cases hy2 : st.regs[i].ch = ch
        · rw [if_pos hy2]
          have ha := hahead i hi
          rw [← ei] at ha
          have hto : st.regs[i].to ≤ at' := by rcases ha with ha | ha; omega; exact ha.2
          rw [fill_part _ _ _ _ _ _ (by rw [hlen0]; exact hle) (by unfold Reg.len; omega), fill_part _ _ _ _ _ _ hle (by unfold Reg.len; omega)]
          rw [← hy2, hold _ hfit]
          exact hcon
        · rw [if_neg hy2, hold _ hfit]
          exact hcon
      · obtain rfl : y = ⟨st.lr + 1, ch, at', at' + n⟩ := by simpa using hy
        rw [hw _ (by simp), if_pos rfl]
        unfold Reg.len
        simp only
        rw [show at' + n - at' = n by omega]
        exact fill_self _ _ _ _ (by rw [hlen0]; exact hle)
  · have hs2 : ∀ c, c < st.chunks.length → sumN Chk.len ((setChunk (newSt2 { st with chunks := C } ch at' n pk).chunks ch (fill ((st.lr + 1) % 256) ((newSt2 { st with chunks := C } ch at' n pk).chunks.getD ch Chk.zero).os at' n)).take c) = sumN Chk.len (st.chunks.take c) := by
      intro c hc
      rw [setChunk_sumT _ _ _ _ (fill_len _ _ _ _), c1, setChunk_sumT _ _ _ _ hlen0]
      exact hsum c hc
    refine ⟨hm.len, fun j hj => ?_, hm.inc, hm.top, hm.mono⟩
    obtain ⟨m1, m2, m3, m4, m5, m6⟩ := hm.ent j hj
    have et : (st.regs ++ [(⟨st.lr + 1, ch, at', at' + n⟩ : Reg)]).take (st.marks.getD j Mk.zero).many = st.regs.take (st.marks.getD j Mk.zero).many := List.take_append_of_le_length m2
    refine ⟨m1, by show _ ≤ (st.regs ++ [(⟨st.lr + 1, ch, at', at' + n⟩ : Reg)]).length; rw [List.length_append]; exact Nat.le_trans m2 (Nat.le_add_right _ _), ?_, ?_, ?_, ?_⟩
    · show _ = endOf ((st.regs ++ [(⟨st.lr + 1, ch, at', at' + n⟩ : Reg)]).take (st.marks.getD j Mk.zero).many)
      rw [et]; exact m3
    · show _ = ((sumN Reg.len ((st.regs ++ [(⟨st.lr + 1, ch, at', at' + n⟩ : Reg)]).take (st.marks.getD j Mk.zero).many) : Nat) : Int)
      rw [et]; exact m4
    · rw [m5]
      exact (lost_chunks st _ (st.regs.take (st.marks.getD j Mk.zero).many) (fun x hx => (hfi x (List.mem_of_mem_take hx)).1) hs2 _ rfl et).symm
    · show _ = ((st.regs ++ [(⟨st.lr + 1, ch, at', at' + n⟩ : Reg)]).take (st.marks.getD j Mk.zero).many).map Reg.no
      rw [et]; exact m6

/-- A release of the last mark. -/
theorem rel_regs (L : List Reg) (many : Nat) (h : many ≤ L.length) : relRegs L many (endOf (L.take many)) = L.take many := by
  unfold relRegs
  by_cases h0 : many = 0
  · subst h0; simp
  · have e : endOf (L.take many) = (L.getD (many - 1) Reg.zero).to := by
      unfold endOf
      rw [List.length_take, Nat.min_eq_left h, if_neg h0, getD_take _ _ _ _ (by omega)]
    rw [e]
    apply List.ext_getElem?
    intro i
    rw [List.getElem?_set]
    by_cases hi : many - 1 = i
    · subst hi
      rw [if_pos rfl, if_pos (by rw [List.length_take]; omega), List.getElem?_take, if_pos (by omega), List.getD_eq_getElem?_getD, List.getElem?_eq_getElem (show many - 1 < L.length by omega)]
      rfl
    · rw [if_neg hi]

theorem rel_plain {st : ArSt} {stk : List Sk} (h : Pl st) (hm : MkRel st stk) (k : Nat) (hk : k + 1 = stk.length) :
    (relSt st k).regs = st.regs.take (st.marks.getD k Mk.zero).many ∧ Pl (relSt st k) ∧ MkRel (relSt st k) (stk.take k) ∧ (stk.getD k Sk.zero).len = ((sumN Reg.len (relSt st k).regs : Nat) : Int) ∧ (stk.getD k Sk.zero).lost = lostOf (relSt st k) ∧ (stk.getD k Sk.zero).nos = (relSt st k).regs.map Reg.no := by
  obtain ⟨m1, m2, m3, m4, m5, m6⟩ := hm.ent k (by omega)
  have e : (relSt st k).regs = st.regs.take (st.marks.getD k Mk.zero).many := by
    show relRegs st.regs (st.marks.getD k Mk.zero).many (st.marks.getD k Mk.zero).en = _
    rw [m3]; exact rel_regs _ _ m2
  have hlen : (relSt st k).regs.length = (st.marks.getD k Mk.zero).many := by rw [e, List.length_take]; omega
  have hl := hm.len
  refine ⟨e, ⟨fun i j hij hj => ?_, fun i j hij hj => ?_, fun x hx => ?_, fun x hx => ?_⟩, ⟨?_, fun j hj => ?_, fun i j hij hj => ?_, fun j hj => ?_, fun i j hij hj => ?_⟩, by rw [e]; exact m4, ?_, by rw [e]; exact m6⟩
  · rw [hlen] at hj
    rw [e, getD_take _ _ _ _ (by omega), getD_take _ _ _ _ hj]; exact h.ord i j hij (by omega)
  · rw [hlen] at hj
    rw [e, getD_take _ _ _ _ (by omega), getD_take _ _ _ _ hj]; exact h.nos i j hij (by omega)
  · rw [e] at hx; exact h.rng x (List.mem_of_mem_take hx)
  · rw [e] at hx; exact h.con x (List.mem_of_mem_take hx)
  · show (st.marks.take k).length = (stk.take k).length
    rw [List.length_take, List.length_take, hl]
  · rw [List.length_take] at hj
    have hjk : j < k := by omega
    show _ = ((st.marks.take k).getD j Mk.zero).no ∧ ((st.marks.take k).getD j Mk.zero).many ≤ (relSt st k).regs.length ∧ ((st.marks.take k).getD j Mk.zero).en = endOf ((relSt st k).regs.take ((st.marks.take k).getD j Mk.zero).many) ∧ _ = ((sumN Reg.len ((relSt st k).regs.take ((st.marks.take k).getD j Mk.zero).many) : Nat) : Int) ∧ _ = lostOf { relSt st k with regs := (relSt st k).regs.take ((st.marks.take k).getD j Mk.zero).many } ∧ _ = ((relSt st k).regs.take ((st.marks.take k).getD j Mk.zero).many).map Reg.no
    rw [getD_take _ _ _ _ hjk, getD_take _ _ _ _ hjk]
    have hmo := hm.mono j k hjk (by omega)
    have e2 : (relSt st k).regs.take (st.marks.getD j Mk.zero).many = st.regs.take (st.marks.getD j Mk.zero).many := by rw [e, List.take_take, Nat.min_eq_left hmo]
    rw [e2, hlen]
    obtain ⟨n1, n2, n3, n4, n5, n6⟩ := hm.ent j (by omega)
    exact ⟨n1, hmo, n3, n4, n5, n6⟩
  · rw [List.length_take] at hj
    show ((st.marks.take k).getD i Mk.zero).no < ((st.marks.take k).getD j Mk.zero).no
    rw [getD_take _ _ _ _ (by omega), getD_take _ _ _ _ (by omega)]; exact hm.inc i j hij (by omega)
  · rw [List.length_take] at hj
    show ((st.marks.take k).getD j Mk.zero).no ≤ st.lm
    rw [getD_take _ _ _ _ (by omega)]; exact hm.top j (by omega)
  · rw [List.length_take] at hj
    show ((st.marks.take k).getD i Mk.zero).many ≤ ((st.marks.take k).getD j Mk.zero).many
    rw [getD_take _ _ _ _ (by omega), getD_take _ _ _ _ (by omega)]; exact hm.mono i j hij (by omega)
  · rw [m5]
    unfold lostOf
    rw [e]
    rfl

/-- Where the last mark lies. -/
theorem MkRel.first {st : ArSt} {stk : List Sk} (hm : MkRel st stk) (k : Nat) (hk : k < stk.length) : FirstMk st.marks (stk.getD k Sk.zero).mark k := by
  refine ⟨by rw [hm.len]; exact hk, (hm.ent k hk).1.symm, fun j hj => ?_⟩
  have := hm.inc j k hj hk
  rw [(hm.ent k hk).1]
  omega

end Go.Proofs.Ytfolidedcejafaa
