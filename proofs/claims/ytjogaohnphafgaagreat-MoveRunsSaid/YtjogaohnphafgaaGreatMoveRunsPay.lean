/-
  A heap's history: one more, and the last eight. No conditions but bounds.
-/
import Derived.Test.YtjogaohnphafgaaGreatMoveRunsPax
namespace Go.Proofs.YtjogaohnphafgaaGreat
open Go.RowKit
set_option linter.unusedVariables false

/-- A heap with another history. -/
theorem HB.hst {w w' : World} {hp bp : Nat} {S : HpSt} {vm vb vh vh' : Value} {vhs vhs' : List Value} {F F' G : Nat → Prop} {M : Nat} {b : BookSt} {hist' : List (List Blk)} {count' : Nat} (h : HB w hp bp S vm vb vh vhs F G M b)
    (hF : ∀ k, F k → F' k) (hF' : ∀ k, F' k → F k ∨ w.heap.size ≤ k) (hFl : ∀ k, F' k → k < w'.heap.size) (hsz : w.heap.size ≤ w'.heap.size)
    (keep : ∀ k, k < w.heap.size → k ≠ hp → vh.ownBlock ≠ some k → w'.heap[k]? = w.heap[k]?)
    (hself : w'.heap[hp]? = some (.cells (hpCells bp { S with hist := hist', count := count' } vm vb vh') 75 (0, 0)))
    (hrow : w'.ownsRow 0 39 1 vh' hist'.length vhs' ∧ ∀ k, vh'.ownBlock = some k → F' k)
    (hhs : vhs'.length = hist'.length ∧ ∀ (i : Nat) (v : Value) (l : List Blk), vhs'[i]? = some v → hist'[i]? = some l → w'.ownsRow 0 78 3 v l.length (l.flatMap Blk.cells) ∧ ∀ k, v.ownBlock = some k → F' k ∧ vb.ownBlock ≠ some k)
    (hbig : count' ≤ 1000000000 ∧ hist'.length ≤ 9) : HB w' hp bp { S with hist := hist', count := count' } vm vb vh' vhs' F' G M b := by
  have m := h.hm
  obtain ⟨a1, a2, a3, a4⟩ := m.apart
  have keepF : ∀ k, F k → k ≠ hp → vh.ownBlock ≠ some k → w'.heap[k]? = w.heap[k]? := fun k hk => keep k (h.fl k hk)
  refine ⟨⟨hself, hF _ m.fh, ⟨?_, fun k hk => hF _ (m.mem.2 k hk)⟩, m.mb, m.msh, ⟨?_, fun k hk => hF _ (m.row.2 k hk)⟩, hrow, hhs, m.ord, m.hb, ⟨m.big.1, m.big.2.1, m.big.2.2.1, hbig.1, hbig.2⟩⟩, ?_, fun k hk hg => ?_, hFl⟩
  · exact ownsRow_same m.mem.1 (fun k hk => keepF k (m.mem.2 k hk) (a4 k hk) (rowApart m.mem.1 m.hrow.1 (by decide) hk))
  · exact ownsRow_same m.row.1 (fun k hk => keepF k (m.row.2 k hk) (a1 k hk) (rowApart m.row.1 m.hrow.1 (by decide) hk))
  · refine h.bk.same (fun k hk => keep k (h.bk.gl k hk) (fun e => ?_) (fun e => h.dis k (m.hrow.2 k e) hk)) hsz
    subst e
    exact h.dis k m.fh hk
  · rcases hF' k hk with e | e
    · exact h.dis k e hg
    · have := h.bk.gl k hg
      omega

/-- One more. -/
theorem HB.pushed {w w2 : World} {hp bp g cap : Nat} {S : HpSt} {vm vb vh v : Value} {vhs : List Value} {F G : Nat → Prop} {M : Nat} {b : BookSt} (h : HB w hp bp S vm vb vh vhs F G M b) (h8 : S.hist.length ≤ 8)
    (hv : w2.ownsRow w.heap.size 78 3 v S.bl.length (S.bl.flatMap Blk.cells)) (hrow : w2.ownsRow 0 39 1 (.slice (some ⟨g, 0, none⟩) (S.hist.length + 1) cap) (S.hist.length + 1) (vhs ++ [v])) (ht : Touch (fun k => vh.ownBlock = some k) w w2) (hpl : vh.ownBlock = some g ∨ w.heap.size ≤ g) :
    ∃ F', HB (w2.setCell ⟨hp, 10, none⟩ (.slice (some ⟨g, 0, none⟩) (S.hist.length + 1) cap)) hp bp { S with hist := S.hist ++ [S.bl] } vm vb (.slice (some ⟨g, 0, none⟩) (S.hist.length + 1) cap) (vhs ++ [v]) F' G M b ∧ (∀ k, F k → F' k) ∧ (∀ k, F' k → F k ∨ w.heap.size ≤ k) ∧ Touch F w (w2.setCell ⟨hp, 10, none⟩ (.slice (some ⟨g, 0, none⟩) (S.hist.length + 1) cap)) := by
  have m := h.hm
  obtain ⟨a1, a2, a3, a4⟩ := m.apart
  have hpl' := lt_of m.self
  have s1 := (ht.block hp hpl' (fun e => a2 hp e rfl)).trans m.self
  have s2 := block_setCell s1 10 (.slice (some ⟨g, 0, none⟩) (S.hist.length + 1) cap)
  have hgne : g ≠ hp := by
    rcases hpl with e | e
    · exact a2 g e
    · omega
  have keep : ∀ k, k < w.heap.size → k ≠ hp → vh.ownBlock ≠ some k → (w2.setCell ⟨hp, 10, none⟩ (.slice (some ⟨g, 0, none⟩) (S.hist.length + 1) cap)).heap[k]? = w.heap[k]? := fun k hk hne hvk =>
    (Below.heap_setCell _ ⟨hp, 10, none⟩ _ k hne).trans (ht.block k hk hvk)
  have sz : w.heap.size ≤ (w2.setCell ⟨hp, 10, none⟩ (.slice (some ⟨g, 0, none⟩) (S.hist.length + 1) cap)).heap.size := by simpa [World.setCell] using ht.size
  have hgl : g < w2.heap.size := (hrow.lt g rfl).2
  have low : ∀ k, v.ownBlock = some k → w.heap.size ≤ k ∧ k < w2.heap.size := fun k hk => hv.lt k hk
  refine ⟨fun k => F k ∨ k = g ∨ v.ownBlock = some k, h.hst (count' := S.count) (fun k hk => Or.inl hk) (fun k hk => ?_) (fun k hk => ?_) sz keep s2 ⟨?_, fun k hk => ?_⟩ ⟨?_, fun i u l hu hl => ?_⟩ ⟨m.big.2.2.2.1, ?_⟩, fun k hk => Or.inl hk, fun k hk => ?_, ?_⟩
  · rcases hk with hk | rfl | hk
    · exact Or.inl hk
    · exact hpl.imp (fun e => m.hrow.2 _ e) id
    · exact Or.inr (low k hk).1
  · have : (w2.setCell ⟨hp, 10, none⟩ (.slice (some ⟨g, 0, none⟩) (S.hist.length + 1) cap)).heap.size = w2.heap.size := by simp [World.setCell]
    rcases hk with hk | rfl | hk
    · have := h.fl k hk; have := ht.size; omega
    · omega
    · have := low k hk; omega
  · rw [List.length_append]
    exact ownsRow_same hrow (fun k hk => by
      simp only [Value.ownBlock, Option.some.injEq] at hk
      subst hk
      exact Below.heap_setCell _ ⟨hp, 10, none⟩ _ _ hgne)
  · simp only [Value.ownBlock, Option.some.injEq] at hk
    exact Or.inr (Or.inl hk.symm)
  · rw [List.length_append, List.length_append, m.hs.1]
    rfl
  · by_cases hi : i < vhs.length
    · rw [List.getElem?_append_left hi] at hu
      rw [List.getElem?_append_left (by rw [← m.hs.1]; exact hi)] at hl
      obtain ⟨r1, r2⟩ := m.hs.2 i u l hu hl
      refine ⟨ownsRow_same r1 (fun k hk => keep k (r1.lt k hk).2 (a3 i u hu k hk) (rowApart r1 m.hrow.1 (by decide) hk)), fun k hk => ⟨Or.inl (r2 k hk).1, (r2 k hk).2⟩⟩
    · have hi2 : i = vhs.length := by
        have := (List.getElem?_eq_some_iff.1 hu).1
        rw [List.length_append] at this
        simp at this
        omega
      subst hi2
      rw [List.getElem?_append_right (Nat.le_refl _)] at hu
      rw [List.getElem?_append_right (by rw [m.hs.1]; exact Nat.le_refl _), m.hs.1] at hl
      simp at hu hl
      subst hu
      subst hl
      refine ⟨row_low (ownsRow_same hv (fun k hk => Below.heap_setCell _ ⟨hp, 10, none⟩ _ k (fun e => by have := (low k hk).1; have e' : k = hp := e; omega))) (Nat.zero_le _), fun k hk => ⟨Or.inr (Or.inr hk), fun e => ?_⟩⟩
      have := (low k hk).1
      have := h.fl k (m.row.2 k e)
      omega
  · rw [List.length_append]
    show S.hist.length + 1 ≤ 9
    omega
  · rcases hk with hk | rfl | hk
    · exact Or.inl hk
    · exact hpl.imp (fun e => m.hrow.2 _ e) id
    · exact Or.inr (low k hk).1
  · exact Touch.setCell (F := F) (p := ⟨hp, 10, none⟩) (ht.mono (fun k hk => m.hrow.2 k hk)) (Or.inl m.fh) _

/-- The last ones of the history, in a row of their own. -/
theorem HB.lasts {w w1 : World} {hp bp n c : Nat} {S : HpSt} {vm vb vh v : Value} {vhs : List Value} {F G : Nat → Prop} {M : Nat} {b : BookSt} (h : HB w hp bp S vm vb vh vhs F G M b) (hb : Below w.heap.size w w1) (hn : n = S.hist.length - c)
    (hrow : w1.ownsRow w.heap.size 39 1 v n (vhs.drop c)) :
    ∃ F', HB (w1.setCell ⟨hp, 10, none⟩ v) hp bp { S with hist := S.hist.drop c } vm vb v (vhs.drop c) F' G M b ∧ (∀ k, F k → F' k) ∧ (∀ k, F' k → F k ∨ w.heap.size ≤ k) ∧ Touch F w (w1.setCell ⟨hp, 10, none⟩ v) := by
  have m := h.hm
  obtain ⟨a1, a2, a3, a4⟩ := m.apart
  have hpl' := lt_of m.self
  have s1 := (hb.block hp hpl').trans m.self
  have s2 := block_setCell s1 10 v
  have keep : ∀ k, k < w.heap.size → k ≠ hp → (w1.setCell ⟨hp, 10, none⟩ v).heap[k]? = w.heap[k]? := fun k hk hne =>
    (Below.heap_setCell _ ⟨hp, 10, none⟩ _ k hne).trans (hb.block k hk)
  have sz : w.heap.size ≤ (w1.setCell ⟨hp, 10, none⟩ v).heap.size := by simpa [World.setCell] using hb.size
  have low : ∀ k, v.ownBlock = some k → w.heap.size ≤ k ∧ k < w1.heap.size := fun k hk => hrow.lt k hk
  refine ⟨fun k => F k ∨ v.ownBlock = some k, h.hst (count' := S.count) (fun k hk => Or.inl hk) (fun k hk => hk.imp id (fun e => (low k e).1)) (fun k hk => ?_) sz (fun k hk hne _ => keep k hk hne) s2 ⟨?_, fun k hk => Or.inr hk⟩ ⟨?_, fun i u l hu hl => ?_⟩ ⟨m.big.2.2.2.1, ?_⟩, fun k hk => Or.inl hk, fun k hk => hk.imp id (fun e => (low k e).1), ?_⟩
  · have : (w1.setCell ⟨hp, 10, none⟩ v).heap.size = w1.heap.size := by simp [World.setCell]
    rcases hk with hk | hk
    · have := h.fl k hk; have := hb.size; omega
    · have := low k hk; omega
  · rw [List.length_drop, ← hn]
    exact row_low (ownsRow_same hrow (fun k hk => Below.heap_setCell _ ⟨hp, 10, none⟩ _ _ (fun e => by have := (low k hk).1; have e' : k = hp := e; omega))) (Nat.zero_le _)
  · rw [List.length_drop, List.length_drop, m.hs.1]
  · rw [List.getElem?_drop] at hu hl
    obtain ⟨r1, r2⟩ := m.hs.2 (c + i) u l hu hl
    exact ⟨ownsRow_same r1 (fun k hk => keep k (r1.lt k hk).2 (a3 _ u hu k hk)), fun k hk => ⟨Or.inl (r2 k hk).1, (r2 k hk).2⟩⟩
  · rw [List.length_drop]
    have := m.big.2.2.2.2
    omega
  · exact Touch.setCell (F := F) (p := ⟨hp, 10, none⟩) (Touch.of_below hb) (Or.inl m.fh) _
/-- One compaction more. -/
theorem HB.counted {w : World} {hp bp : Nat} {S : HpSt} {vm vb vh : Value} {vhs : List Value} {F G : Nat → Prop} {M : Nat} {b : BookSt} (h : HB w hp bp S vm vb vh vhs F G M b) (hc : S.count < 1000000000) :
    HB (w.setCell ⟨hp, 9, none⟩ (.int .i64 ((S.count : Int) + 1))) hp bp { S with count := S.count + 1 } vm vb vh vhs F G M b ∧ Touch F w (w.setCell ⟨hp, 9, none⟩ (.int .i64 ((S.count : Int) + 1))) := by
  have m := h.hm
  have s2 := block_setCell m.self 9 (.int .i64 ((S.count : Int) + 1))
  have keep : ∀ k, k < w.heap.size → k ≠ hp → (w.setCell ⟨hp, 9, none⟩ (.int .i64 ((S.count : Int) + 1))).heap[k]? = w.heap[k]? := fun k hk hne => Below.heap_setCell _ ⟨hp, 9, none⟩ _ k hne
  have sz : w.heap.size ≤ (w.setCell ⟨hp, 9, none⟩ (.int .i64 ((S.count : Int) + 1))).heap.size := by simp [World.setCell]
  have e : ((S.count + 1 : Nat) : Int) = (S.count : Int) + 1 := by omega
  refine ⟨h.hst (hist' := S.hist) (fun k hk => hk) (fun k hk => Or.inl hk) (fun k hk => Nat.lt_of_lt_of_le (h.fl k hk) sz) sz (fun k hk hne _ => keep k hk hne) ?_ ⟨ownsRow_same m.hrow.1 (fun k hk => keep k (m.hrow.1.lt k hk).2 (m.apart.2.1 k hk)), m.hrow.2⟩ ⟨m.hs.1, fun i u l hu hl => ?_⟩ ⟨by omega, m.big.2.2.2.2⟩, Touch.setCell (F := F) (p := ⟨hp, 9, none⟩) (Touch.refl F w) (Or.inl m.fh) _⟩
  · have e2 : hpCells bp { S with hist := S.hist, count := S.count + 1 } vm vb vh = #[.pointer (some ⟨bp, 0, none⟩), .int .i64 1, .int .i64 S.k, .int .i64 S.s, .int .i64 S.m, .bool S.closed, vm, vb, .int .i64 (S.last : Int), .int .i64 ((S.count : Int) + 1), vh] := by
      unfold hpCells
      show #[_, _, _, _, _, _, _, _, _, Value.int .i64 ((S.count + 1 : Nat) : Int), _] = _
      rw [e]
    rw [e2]
    exact s2
  · obtain ⟨r1, r2⟩ := m.hs.2 i u l hu hl
    exact ⟨ownsRow_same r1 (fun k hk => keep k (r1.lt k hk).2 (m.apart.2.2.1 i u hu k hk)), r2⟩

theorem infoHis : (Tryz.prog.info? 39).map (fun i => (i.zero, i.size, i.bytes)) = some (some (.slice none 0 0), 1, 24) := by kernel_rfl
/-- Clone of the end of a row of rows. -/
theorem clone_his (g n c cap : Nat) (xs : List Value) (w : World) (hr : w.ownsRow 0 39 1 (.slice (some ⟨g, 0, none⟩) n cap) n xs) (hc : c ≤ n) (hn : n ≤ 1000000) (h1 : ∀ u ∈ xs, u.oneCell' = true) (cp : Nat) :
    Calls Tryz.prog 50 #[.slice (some ⟨g, c, none⟩) (n - c) cp] w fun e w' => ∃ v', e = .returned v' ∧ w'.ownsRow w.heap.size 39 1 v' (n - c) (xs.drop c) ∧ Below w.heap.size w w' := by
  obtain ⟨i0, hi0, hz0, hz1, hz2⟩ := info_parts infoHis
  have hl := hr.1
  have hcl := hr.cells (g := g) rfl
  refine (Tryz.slices_Clone_f50 i0 _ 1 24 hi0 hz0 hz1 hz2 rfl (by decide) Tryz.sizeOf39 g c (n - c) cp (xs.drop c) w (by rw [List.length_drop, hl]; omega) (by unfold maxLen; omega) (by omega) (fun j u hj => by
    rw [List.getElem?_drop] at hj
    have := hcl (c + j) u hj
    rw [Addr.add_lit, Nat.zero_add] at this
    exact this) (fun u hu => h1 u (List.mem_of_mem_drop hu))).mono ?_
  rintro e w' ⟨v', rfl, r1, _, r2⟩
  exact ⟨v', rfl, r1, r2⟩
theorem HpMem.hisCells {w : World} {F : Nat → Prop} {hp bp : Nat} {S : HpSt} {vm vb vh : Value} {vhs : List Value} (m : HpMem w F hp bp S vm vb vh vhs) : ∀ u ∈ vhs, u.oneCell' = true := fun u hu => by
  obtain ⟨i, hi⟩ := List.mem_iff_getElem?.1 hu
  have hlt : i < S.hist.length := by rw [← m.hs.1]; exact (List.getElem?_eq_some_iff.1 hi).1
  obtain ⟨a, c, rfl⟩ := wrow_sh (m.hs.2 i u _ hi (List.getElem?_eq_getElem hlt)).1
  rfl
/-- append of one more row. -/
theorem append_his {w : World} {B n : Nat} {v u : Value} {xs : List Value} {sb : Nat} (hr : w.ownsRow B 39 1 v n xs) (hs : w.heap[sb]? = some (.cells #[u] 39 (0, 0))) (h1 : u.oneCell' = true) (hn : n ≤ 1000000) (hB : B ≤ w.heap.size) (ty : TypeId) :
    ∃ g cap w', (Builtin.append_ #[40, 40] ty #[v, .slice (some ⟨sb, 0, none⟩) 1 1]).run Tryz.prog w = .ok (.slice (some ⟨g, 0, none⟩) (n + 1) cap) w' ∧ w'.ownsRow B 39 1 (.slice (some ⟨g, 0, none⟩) (n + 1) cap) (n + 1) (xs ++ [u]) ∧ w.grownBy w' v.ownBlock ∧ (v.ownBlock = some g ∨ w.heap.size ≤ g) := by
  obtain ⟨i0, hi0, hz0, hz1, hz2⟩ := info_parts infoHis
  obtain ⟨g, cap, w', h2, h3, h4, h5⟩ := run_append_place (P := Tryz.prog) w B 40 ty 39 i0 _ 1 24 Tryz.underlying40 hi0 hz0 hz1 hz2 rfl (by decide) v n xs hr ⟨sb, 0, none⟩ 1 1 [u] rfl (fun j u' hj => by
    rw [Addr.add_lit, Nat.zero_add, cell_of hs]
    simpa using hj) (by intro u' hu'; simp at hu'; rw [hu']; exact h1) (by omega) (by unfold maxLen; omega) (by omega) hB
  exact ⟨g, cap, w', h2, h3, h4, h5⟩

end Go.Proofs.YtjogaohnphafgaaGreat
