/-
  clear of a stretch of octets; octets written there. No conditions.
-/
import Derived.Test.YtfolidedcejafaaArenH
import Derived.Lib.SliceRun
namespace Go.Proofs.Ytfolidedcejafaa
open Go.RowKit
set_option linter.unusedVariables false

/-- n octets z from o on. -/
def fill (z : Int) : List Int → Nat → Nat → List Int
  | cs, _, 0 => cs
  | cs, o, n + 1 => fill z (cs.set o z) (o + 1) n
theorem fill_len (z : Int) : ∀ (n : Nat) (cs : List Int) (o : Nat), (fill z cs o n).length = cs.length
  | 0, _, _ => rfl
  | n + 1, cs, o => by rw [fill, fill_len z n]; simp
theorem fill_at (z : Int) : ∀ (n : Nat) (cs : List Int) (o j : Nat), o + n ≤ cs.length → (fill z cs o n)[j]? = if o ≤ j ∧ j < o + n then some z else cs[j]?
  | 0, cs, o, j, _ => by rw [fill, if_neg (by omega)]
  | n + 1, cs, o, j, h => by
    rw [fill, fill_at z n (cs.set o z) (o + 1) j (by simp; omega), List.getElem?_set]
    by_cases h1 : o = j
    · subst h1
      rw [if_neg (by omega), if_pos rfl, if_pos (by omega), if_pos (by omega)]
    · rw [if_neg h1]
      by_cases h2 : o + 1 ≤ j ∧ j < o + 1 + n
      · rw [if_pos h2, if_pos (by omega)]
      · rw [if_neg h2, if_neg (by omega)]

theorem setCells_row (z : Int) (b : Nat) : ∀ (n : Nat) (w : World) (cs : List Int) (o : Nat), byteRow w b cs → byteRow (w.setCells b o (List.replicate n (.int .u8 z))) b (fill z cs o n)
  | 0, w, cs, o, h => h
  | n + 1, w, cs, o, h => by
    rw [List.replicate_succ, World.setCells, fill]
    refine setCells_row z b n _ _ _ ?_
    unfold byteRow at h ⊢
    rw [block_setCell h]
    simp [List.map_set]
theorem setCells_touch (b : Nat) : ∀ (vs : List Value) (w : World) (o : Nat), Touch (fun k => k = b) w (w.setCells b o vs)
  | [], w, o => Touch.refl _ _
  | v :: vs, w, o => ((Touch.refl (fun k => k = b) w).setCell (p := ⟨b, o, none⟩) (Or.inl rfl) v).then (setCells_touch b vs _ _)

theorem zero_byte (w : World) : (zeroValue 5).run Try.prog w = .ok (.int .u8 0) w := by kernel_rfl

theorem clear_fact (w : World) (b fr n c : Nat) (f : Option Addr) (cs : List Int) (h : byteRow w b cs) (hle : fr + n ≤ cs.length) (hf : 0 < n → f = some ⟨b, fr, none⟩) :
    ∃ w', (∀ ty, (Builtin.clear_ #[46] ty #[.slice f n c]).run Try.prog w = .ok (.tuple #[]) w') ∧ byteRow w' b (fill 0 cs fr n) ∧ Touch (fun k => k = b) w w' := by
  by_cases h0 : n = 0
  · subst h0
    refine ⟨w, fun ty => ?_, h, Touch.refl _ _⟩
    cases f with
    | none => simp [Builtin.clear_, run_underlying Try.underlying46]
    | some a => simp [Builtin.clear_, run_underlying Try.underlying46]
  · obtain rfl := hf (by omega)
    refine ⟨_, fun ty => Lib.run_clear_slice w 46 5 ty (.int .u8 0) Try.underlying46 zero_byte rfl rfl b fr n c (by omega) (fun j hj => ?_) (fun j hj => free_of h _), setCells_row 0 b n w cs fr h, setCells_touch b _ _ _⟩
    rw [cell_of h]
    simp; omega

/-- A chunk's octets, written over. -/
def setChunk (L : List Chk) (ch : Nat) (os : List Int) : List Chk := L.set ch ⟨(L.getD ch Chk.zero).b, os⟩
theorem setChunk_len (L : List Chk) (ch : Nat) (os : List Int) : (setChunk L ch os).length = L.length := by unfold setChunk; simp
theorem setChunk_map {β : Type} (f : Chk → β) (L : List Chk) (ch : Nat) (os : List Int) (h : f ⟨(L.getD ch Chk.zero).b, os⟩ = f (L.getD ch Chk.zero)) : (setChunk L ch os).map f = L.map f := by
  unfold setChunk
  apply List.ext_getElem?
  intro i
  rw [List.getElem?_map, List.getElem?_map, List.getElem?_set]
  by_cases hi : ch = i
  · subst hi
    rw [if_pos rfl]
    by_cases hl : ch < L.length
    · rw [if_pos hl, List.getElem?_eq_getElem hl]
      have e : L.getD ch Chk.zero = L[ch] := by rw [List.getD_eq_getElem?_getD, List.getElem?_eq_getElem hl]; rfl
      rw [← e]
      exact congrArg some h
    · rw [if_neg hl, List.getElem?_eq_none (by omega)]
  · rw [if_neg hi]
theorem setChunk_val (L : List Chk) (ch : Nat) (os : List Int) (h : os.length = (L.getD ch Chk.zero).os.length) : (setChunk L ch os).map Chk.val = L.map Chk.val := setChunk_map _ _ _ _ (by unfold Chk.val; rw [h])
theorem setChunk_sum (L : List Chk) (ch : Nat) (os : List Int) (h : os.length = (L.getD ch Chk.zero).os.length) : sumN Chk.len (setChunk L ch os) = sumN Chk.len L := by
  unfold sumN
  rw [setChunk_map Chk.len _ _ _ (by unfold Chk.len; exact h)]
theorem setChunk_sumT (L : List Chk) (ch k : Nat) (os : List Int) (h : os.length = (L.getD ch Chk.zero).os.length) : sumN Chk.len ((setChunk L ch os).take k) = sumN Chk.len (L.take k) := by
  unfold sumN
  rw [List.map_take, List.map_take, setChunk_map Chk.len _ _ _ (by unfold Chk.len; exact h)]
theorem setChunk_at (L : List Chk) (ch i : Nat) (os : List Int) (hc : ch < L.length) : (setChunk L ch os).getD i Chk.zero = if i = ch then ⟨(L.getD ch Chk.zero).b, os⟩ else L.getD i Chk.zero := by
  unfold setChunk
  rw [List.getD_eq_getElem?_getD, List.getElem?_set]
  by_cases hi : ch = i
  · subst hi; rw [if_pos rfl, if_pos hc, if_pos rfl]; rfl
  · rw [if_neg hi, if_neg (fun e => hi e.symm), List.getD_eq_getElem?_getD]
theorem setChunk_oslen (L : List Chk) (ch i : Nat) (os : List Int) (h : os.length = (L.getD ch Chk.zero).os.length) (hc : ch < L.length) : ((setChunk L ch os).getD i Chk.zero).os.length = (L.getD i Chk.zero).os.length := by
  rw [setChunk_at _ _ _ _ hc]
  split
  · next e => subst e; exact h
  · rfl

theorem ArMem.written {w w' : World} {F : Nat → Prop} {I : ArId} {st : ArSt} {cv rv mv : Value} (h : ArMem w F I st cv rv mv) (ch : Nat) (os : List Int) (hc : ch < st.chunks.length) (hl : os.length = (st.chunks.getD ch Chk.zero).os.length)
    (hr : byteRow w' (st.chunks.getD ch Chk.zero).b os) (hT : Touch (fun k => k = (st.chunks.getD ch Chk.zero).b) w w') : ArMem w' F I { st with chunks := setChunk st.chunks ch os } cv rv mv := by
  have hin := getD_in Chk.zero hc
  have hb := (h.mem _ hin).1
  have ne : ∀ (v : Value) (e n sz : Nat) (xs : List Value), w.ownsRow 0 e sz v n xs → e ≠ 5 → ∀ k, v.ownBlock = some k → k ≠ (st.chunks.getD ch Chk.zero).b := fun v e n sz xs hr he k hk x => row_ne hr hb (fun y => he y.symm) (x ▸ hk)
  have hrb : I.r ≠ (st.chunks.getD ch Chk.zero).b := fun e => by
    have := h.self
    rw [e, hb] at this
    simp at this
  refine ⟨(hT.block _ (lt_of h.self) hrb).trans h.self, h.fr, ?_, h.fc, ?_, h.frg, ?_, h.fm, ?_, ?_⟩
  · show w'.ownsRow 0 46 1 cv (setChunk st.chunks ch os).length ((setChunk st.chunks ch os).map Chk.val)
    rw [setChunk_val _ _ _ hl, setChunk_len]
    exact ownsRow_same h.crow (fun k hk => hT.block k (h.crow.lt k hk).2 (ne _ _ _ _ _ h.crow (by decide) k hk))
  · exact ownsRow_same h.rrow (fun k hk => hT.block k (h.rrow.lt k hk).2 (ne _ _ _ _ _ h.rrow (by decide) k hk))
  · exact ownsRow_same h.mrow (fun k hk => hT.block k (h.mrow.lt k hk).2 (ne _ _ _ _ _ h.mrow (by decide) k hk))
  · intro c hcc
    have hcc' : c ∈ setChunk st.chunks ch os := hcc
    obtain ⟨i, hi, rfl⟩ := List.getElem_of_mem hcc'
    have e : (setChunk st.chunks ch os)[i] = (setChunk st.chunks ch os).getD i Chk.zero := by rw [List.getD_eq_getElem?_getD, List.getElem?_eq_getElem hi]; rfl
    rw [e, setChunk_at _ _ _ _ hc]
    rw [setChunk_len] at hi
    by_cases hic : i = ch
    · rw [if_pos hic]
      exact ⟨hr, (h.mem _ hin).2⟩
    · rw [if_neg hic]
      have h2 := h.mem _ (getD_in Chk.zero hi)
      refine ⟨(hT.block _ (lt_of h2.1) (fun e => hic ?_)).trans h2.1, h2.2⟩
      have hj := h.inj
      have g1 : (st.chunks.map Chk.b)[i]? = some (st.chunks.getD i Chk.zero).b := by rw [List.getElem?_map, List.getD_eq_getElem?_getD, List.getElem?_eq_getElem hi]; rfl
      have g2 : (st.chunks.map Chk.b)[ch]? = some (st.chunks.getD ch Chk.zero).b := by rw [List.getElem?_map, List.getD_eq_getElem?_getD, List.getElem?_eq_getElem hc]; rfl
      exact (List.getElem?_inj (by simpa using hi) hj).1 (by rw [g1, g2, e])
  · show ((setChunk st.chunks ch os).map Chk.b).Nodup
    rw [setChunk_map Chk.b st.chunks ch os rfl]
    exact h.inj

theorem AB.written {w w' : World} {I : ArId} {st : ArSt} {bst : BookSt} {F G : Nat → Prop} (h : AB w I st bst F G) (ch : Nat) (os : List Int) (hc : ch < st.chunks.length) (hl : os.length = (st.chunks.getD ch Chk.zero).os.length)
    (hr : byteRow w' (st.chunks.getD ch Chk.zero).b os) (hT : Touch (fun k => k = (st.chunks.getD ch Chk.zero).b) w w') : AB w' I { st with chunks := setChunk st.chunks ch os } bst F G := by
  obtain ⟨cv, rv, mv, hm⟩ := h.ar
  have hF := (hm.mem _ (getD_in Chk.zero hc)).2
  have hs := hT.size
  refine ⟨⟨cv, rv, mv, hm.written ch os hc hl hr hT⟩, h.bk.same (hT.same (fun k hk _ e => h.dis k (e ▸ hF) hk)), h.dis, fun k hk => by have := h.fl k hk; omega, fun k hk => by have := h.gl k hk; omega, h.own, h.pol, h.sz, ?_, h.bud, ?_, h.ent, h.rok, ?_, ?_, ?_⟩
  · rw [setChunk_sum _ _ _ hl]; exact h.acc
  · rw [setChunk_sum _ _ _ hl]; exact h.tot
  · refine ⟨by rw [setChunk_len]; exact h.cok.1, fun c hcc => ?_⟩
    have hcc' : c ∈ setChunk st.chunks ch os := hcc
    obtain ⟨i, hi, rfl⟩ := List.getElem_of_mem hcc'
    have e : (setChunk st.chunks ch os)[i] = (setChunk st.chunks ch os).getD i Chk.zero := by rw [List.getD_eq_getElem?_getD, List.getElem?_eq_getElem hi]; rfl
    rw [e, setChunk_oslen _ _ _ _ hl hc]
    rw [setChunk_len] at hi
    exact h.cok.2 _ (getD_in Chk.zero hi)
  · intro x hx
    obtain ⟨q1, q2⟩ := h.fit x hx
    exact ⟨by rw [setChunk_len]; exact q1, by rw [setChunk_oslen _ _ _ _ hl hc]; exact q2⟩
  · rw [setChunk_sum _ _ _ hl]; exact h.room

end Go.Proofs.Ytfolidedcejafaa
