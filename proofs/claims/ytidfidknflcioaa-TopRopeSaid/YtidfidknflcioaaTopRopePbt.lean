/-
  Split and Join of a rope: the plain law, and helpers. Conditions: numbers in their bounds.
-/
import Derived.Test.YtidfidknflcioaaTopRopePbs
namespace Go.Proofs.Ytidfidknflcioaa
open Go.RowKit
set_option linter.unusedVariables false

set_option maxRecDepth 100000 in
theorem indexMark_nil (f : Value) (w : World) : Calls Try.prog 76 #[.slice none 0 0, f] w (fun e w' => e = .returned (.int .i64 (-1)) ∧ w' = w) := by
  go_enter Try.func76, Try.ntmps76
  go_wp2_with fail
  go_loopw [8] (fun i wr => i = .int .i64 0 ∧ wr = w) (fun _ _ => 0)
  case atStart => exact ⟨rfl, rfl⟩
  case round =>
    obtain ⟨rfl, hw⟩ := hrel
    obtain rfl := hw.symm
    go_wp2_with fail
    go_ret
    exact ⟨rfl, rfl⟩
theorem deleteMark_nil (f : Value) (w : World) : Calls Try.prog 47 #[.slice none 0 0, f] w (fun e w' => e = .returned (.slice none 0 0) ∧ w' = w) := by
  go_enter Try.func47, Try.ntmps47
  go_wp2_with fail
  refine (indexMark_nil f w).mono ?_
  rintro e w1 ⟨rfl, rfl⟩
  go_wp2_with fail
  go_ret
  exact ⟨rfl, rfl⟩
theorem containsMark_none (f : Value) (w : World) : Calls Try.prog 49 #[.slice none 0 0, f] w (fun e w' => e = .returned (.bool false) ∧ w' = w) := by
  go_enter Try.func49, Try.ntmps49
  go_wp2_with fail
  refine (indexMark_nil f w).mono ?_
  rintro e w1 ⟨rfl, rfl⟩
  go_wp2_with fail
  go_ret
  exact ⟨rfl, rfl⟩

/-- append of a segment of slices onto a row of its own, as a run. -/
theorem run_append_rows (w : World) (base : Nat) (v : Value) (n : Nat) (xs : List Value) (hown : w.ownsRow base 32 1 v n xs) (sv : Value) (m : Nat) (zs : List Value) (hr : Seg w 1 sv m zs) (h63 : n + m ≤ 1000000) (hbase : base ≤ w.heap.size) :
    ∃ v' w', (Builtin.append_ #[66, 66] 66 #[v, sv]).run Try.prog w = .ok v' w' ∧ w'.ownsRow base 32 1 v' (n + m) (xs ++ zs) ∧ w.grownBy w' v.ownBlock ∧ (∀ k, v'.ownBlock = some k → v.ownBlock = some k ∨ w.heap.size ≤ k) := by
  obtain ⟨i0, hi0, hz0, hz1, hz2⟩ := info_parts info_row
  obtain ⟨hl, h1, sa, cap, rfl, hle, hcap, hc⟩ := hr
  cases sa with
  | none =>
    have hz : zs = [] := by
      rcases List.eq_nil_or_concat zs with h' | ⟨l, y, h'⟩
      · exact h'
      · obtain ⟨b, o, h1, _⟩ := hc l.length y (by rw [h']; simp)
        cases h1
    subst hz
    have hm : m = 0 := by simp at hl; omega
    subst hm
    obtain ⟨a1, c1, rfl⟩ := wrow_sh hown
    have h1' : n ≤ c1 := by
      rcases hown.2 with ⟨hv, h0⟩ | ⟨g, cap', cur, hv, _, _, hn, _⟩
      · simp only [Value.slice.injEq] at hv; omega
      · simp only [Value.slice.injEq] at hv; omega
    exact ⟨_, w, run_append_nothing (P := Try.prog) w 66 66 66 32 i0 Try.underlying66 hi0 a1 n c1 h1' (.slice none 0 cap) (Src.ofNil w Try.underlying66 cap), by simpa using hown, World.grownBy.refl _ _, fun k hk => Or.inl hk⟩
  | some ad =>
    have hnews : ∀ j u, zs[j]? = some u → w.cell? (ad.add j) = some u := fun j u hu => by
      obtain ⟨b, o, e', hcell⟩ := hc j u hu
      cases e'
      have e1 : (⟨b, o, none⟩ : Addr).add j = ⟨b, o + j, none⟩ := by unfold Addr.add; split <;> simp_all
      rw [e1]
      exact hcell
    rcases Nat.eq_zero_or_pos m with hm | hm
    · subst hm
      have hz : zs = [] := List.eq_nil_of_length_eq_zero (by omega)
      subst hz
      obtain ⟨a1, c1, rfl⟩ := wrow_sh hown
      have h1' : n ≤ c1 := by
        rcases hown.2 with ⟨hv, h0⟩ | ⟨g, cap', cur, hv, _, _, hn, _⟩
        · simp only [Value.slice.injEq] at hv; omega
        · simp only [Value.slice.injEq] at hv; omega
      exact ⟨_, w, run_append_nothing (P := Try.prog) w 66 66 66 32 i0 Try.underlying66 hi0 a1 n c1 h1' (.slice (some ad) 0 cap) (Src.ofSlice w Try.underlying66 ad 0 cap [] (by simp) (by simp) (by simp)), by simpa using hown, World.grownBy.refl _ _, fun k hk => Or.inl hk⟩
    · obtain ⟨g, cp, w', h2, h3, h4, h5⟩ := run_append_place (P := Try.prog) w base 66 66 32 i0 (.slice none 0 0) 1 24 Try.underlying66 hi0 hz0 hz1 hz2 rfl (by decide) v n xs hown ad m cap zs (by omega) hnews h1 hm (by unfold maxLen; omega) (by omega) hbase
      exact ⟨_, w', h2, h3, h4, fun k hk => by
        simp only [Value.ownBlock, Option.some.injEq] at hk
        subst hk
        exact h5⟩

/-- The two parts of a rope that is split. -/
def splitC (p : RPar) (l : List Lc) (a : Nat) : List Lc × List Lc :=
  match l[(endsS (l.map szC) a).1]? with
  | none => (l, [])
  | some x => if (endsS (l.map szC) a).2 = x.1.length then (l.take ((endsS (l.map szC) a).1 + 1), l.drop ((endsS (l.map szC) a).1 + 1))
    else if (endsS (l.map szC) a).2 = 0 then (l.take (endsS (l.map szC) a).1, l.drop (endsS (l.map szC) a).1)
    else (l.take (endsS (l.map szC) a).1 ++ [(x.1.take (endsS (l.map szC) a).2, x.2)], madeC p (x.1.drop (endsS (l.map szC) a).2) ++ l.drop ((endsS (l.map szC) a).1 + 1))
/-- Its error, where the position is right. -/
def splE (p : RPar) (l : List Sz) (a : Nat) : Int :=
  match l[(endsS l a).1]? with
  | none => 0
  | some q => if (endsS l a).2 = q.1 then 0 else if (endsS l a).2 = 0 then 0 else askE (roomS l) (roomS (l ++ piecesS p (q.1 - (endsS l a).2)))

theorem splitC_oct (p : RPar) (l : List Lc) (a : Nat) (hp : 1 ≤ p.leaf) (ha : a ≤ (octC l).length) : octC (splitC p l a).1 = (octC l).take a ∧ octC (splitC p l a).2 = (octC l).drop a := by
  by_cases hl : l = []
  · subst hl
    have h0 : a = 0 := by simp [octC_nil] at ha; exact ha
    subst h0
    exact ⟨rfl, rfl⟩
  obtain ⟨x, hx, hle, h1, h2⟩ := ends_split l a ha hl
  unfold splitC
  rw [hx]
  simp only
  rw [h1, h2]
  have hk := (List.getElem?_eq_some_iff.1 hx)
  obtain ⟨hk1, hk2⟩ := hk
  have e1 : l.take ((endsS (l.map szC) a).1 + 1) = l.take (endsS (l.map szC) a).1 ++ [x] := by rw [List.take_add_one, hx]; rfl
  have e2 : l.drop (endsS (l.map szC) a).1 = x :: l.drop ((endsS (l.map szC) a).1 + 1) := by rw [List.drop_eq_getElem_cons hk1, hk2]
  split
  · rename_i h
    rw [e1, octC_app, octC_cons, octC_nil, List.append_nil, h, List.take_length, List.drop_length, List.nil_append]
    exact ⟨rfl, rfl⟩
  · split
    · rename_i h
      rw [h, List.take_zero, List.append_nil, List.drop_zero, e2, octC_cons]
      exact ⟨rfl, rfl⟩
    · rw [octC_app, octC_cons, octC_nil, List.append_nil, octC_app, octC_made p _ hp]
      exact ⟨rfl, rfl⟩

theorem RopeMem.wider {w : World} {F F' : Nat → Prop} {I : RopI} {L : List Lm} {lv : Value} (h : RopeMem w F I L lv) (hF : ∀ k, F k → F' k) : RopeMem w F' I L lv :=
  ⟨h.self, h.row, fun x hx => by obtain ⟨h1, h2, h3⟩ := h.mem x hx; exact ⟨h1, h2, hF _ h3⟩, h.inj, hF _ h.fr, fun k hk => hF _ (h.frow k hk)⟩
theorem Grant.wider {w w' : World} {I : RopI} {F F' G : Nat → Prop} {b : BookSt} {next : Nat} (g : Grant w I F G b next) (ht : Touch F w w') (hF : ∀ k, F' k → F k ∨ w.heap.size ≤ k) (hF' : ∀ k, F' k → k < w'.heap.size) : Grant w' I F' G b next :=
  ⟨g.bk.same (fun k hk hl => ht.block k hl (fun hf => g.dis k hf hk)), fun k hk hg => (hF k hk).elim (fun h => g.dis k h hg) (fun h => by have := g.gl k hg; omega), hF', fun k hk => Nat.lt_of_lt_of_le (g.gl k hk) ht.size, g.acc, g.bud, g.tot, g.ent, g.room⟩

/-- Two ropes over one room of one book: what a split leaves. -/
structure Two (w : World) (I : RopI) (q : Nat) (L1 L2 : List Lm) (v1 v2 : Value) (F G : Nat → Prop) (b : BookSt) : Prop where
  m1 : RopeMem w F I L1 v1
  m2 : RopeMem w F ⟨q, I.bp, I.o, I.p⟩ L2 v2
  ne : q ≠ I.r
  nd : ((L1 ++ L2).map Lm.g).Nodup
  gr : Grant w I F G b (roomS ((L1 ++ L2).map Lm.sz))
  own : I.o = 1
  pok : POk I.p
  oct : (totS ((L1 ++ L2).map Lm.sz)).1 ≤ 50000
  each : ∀ x ∈ L1 ++ L2, 1 ≤ x.n ∧ x.n ≤ I.p.leaf

end Go.Proofs.Ytidfidknflcioaa
