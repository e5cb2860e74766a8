/-
  Blocks apart, gaps, blocks moved together: the plain part. No conditions.
  A block given back: Free. No conditions but bounds.
  What is read of a heap: Blocks, Generation, Room, Used, Copy, Look. No conditions but bounds.
  A look at a block of a heap. No conditions but bounds.
-/
import Derived.Test.YtjogaohnphafgaaGreatMoveRunsPap
import Derived.Test.YtjogaohnphafgaaGreatMoveRunsPar
import Derived.Test.YtjogaohnphafgaaGreatMoveRunsPat
import Derived.Test.YtjogaohnphafgaaGreatMoveRunsPag

namespace Go.Proofs.YtjogaohnphafgaaGreat
section
open Go.RowKit
set_option linter.unusedVariables false

def octB (mem : List Int) (x : Blk) : List Int := (mem.drop x.at').take x.len
/-- Two blocks have no octet in common. -/
def apartB (a b : Blk) : Prop := a.len = 0 ∨ b.len = 0 ∨ a.at' + a.len ≤ b.at' ∨ b.at' + b.len ≤ a.at'
theorem apartB_symm {a b : Blk} (h : apartB a b) : apartB b a := by unfold apartB at *; omega
def Chain (L : List Blk) : Prop := L.Pairwise (fun a b => a.at' + a.len ≤ b.at')
theorem chain_of {l L : List Blk} (h : SortedL (lieL l) L) (ha : l.Pairwise apartB) : Chain L := by
  have h1 : (lieL l).Pairwise apartB := ha.sublist List.filter_sublist
  have h2 : L.Pairwise apartB := (h.1.pairwise_iff (fun h => apartB_symm h)).2 h1
  unfold Chain
  refine List.Pairwise.imp_of_mem ?_ (h2.and h.2)
  rintro a b ma mb ⟨h3, h4⟩
  have := (h.mem ma).2
  have := (h.mem mb).2
  unfold apartB at h3
  omega

def sumG (gs : List Gp) : Nat := (gs.map Gp.len).sum
def sumB (l : List Blk) : Nat := (l.map Blk.len).sum
theorem sumB_cons (x : Blk) (l : List Blk) : sumB (x :: l) = x.len + sumB l := by simp [sumB]
theorem sumG_append (a b : List Gp) : sumG (a ++ b) = sumG a + sumG b := by simp [sumG]
theorem chain_cons {x : Blk} {l : List Blk} (h : Chain (x :: l)) : (∀ y ∈ l, x.at' + x.len ≤ y.at') ∧ Chain l := List.pairwise_cons.1 h
theorem sumB_le : ∀ (L : List Blk) (a N : Nat), Chain L → (∀ x ∈ L, a ≤ x.at' ∧ x.at' + x.len ≤ N) → a ≤ N → sumB L + a ≤ N
  | [], a, N, _, _, h => by simpa [sumB] using h
  | x :: l, a, N, hc, hb, h => by
    obtain ⟨h1, h2⟩ := chain_cons hc
    have h3 := hb x List.mem_cons_self
    have := sumB_le l (x.at' + x.len) N h2 (fun y hy => ⟨h1 y hy, (hb y (List.mem_cons_of_mem _ hy)).2⟩) h3.2
    rw [sumB_cons]
    omega
theorem gapsG_sum : ∀ (L : List Blk) (a N : Nat), Chain L → (∀ x ∈ L, a ≤ x.at' ∧ x.at' + x.len ≤ N) → a ≤ N → sumG (gapsG a (L ++ [(⟨0, N, 0⟩ : Blk)])) + sumB L + a = N
  | [], a, N, _, _, h => by
    simp only [List.nil_append, gapsG, List.append_nil]
    split
    · simp [sumG, sumB]; omega
    · simp [sumG, sumB]; omega
  | x :: l, a, N, hc, hb, h => by
    obtain ⟨h1, h2⟩ := chain_cons hc
    have h3 := hb x List.mem_cons_self
    have := gapsG_sum l (x.at' + x.len) N h2 (fun y hy => ⟨h1 y hy, (hb y (List.mem_cons_of_mem _ hy)).2⟩) h3.2
    rw [List.cons_append, gapsG, sumG_append, sumB_cons]
    split
    · simp [sumG] at *; omega
    · simp [sumG] at *; omega
theorem gapsG_apart : ∀ (L : List Blk) (a N : Nat), Chain L → (∀ x ∈ L, a ≤ x.at' ∧ x.at' + x.len ≤ N) → a ≤ N → ∀ g ∈ gapsG a (L ++ [(⟨0, N, 0⟩ : Blk)]), a ≤ g.at' ∧ g.at' + g.len ≤ N ∧ ∀ x ∈ L, x.at' + x.len ≤ g.at' ∨ g.at' + g.len ≤ x.at'
  | [], a, N, _, _, h, g, hg => by
    simp only [List.nil_append, gapsG, List.append_nil] at hg
    split at hg
    · rw [List.mem_singleton] at hg
      subst hg
      exact ⟨Nat.le_refl _, by show a + (N - a) ≤ N; omega, by simp⟩
    · cases hg
  | x :: l, a, N, hc, hb, h, g, hg => by
    obtain ⟨h1, h2⟩ := chain_cons hc
    have h3 := hb x List.mem_cons_self
    rw [List.cons_append, gapsG] at hg
    rcases List.mem_append.1 hg with hg | hg
    · split at hg
      · next hlt =>
        rw [List.mem_singleton] at hg
        subst hg
        refine ⟨Nat.le_refl _, by show a + (x.at' - a) ≤ N; omega, fun y hy => Or.inr ?_⟩
        show a + (x.at' - a) ≤ y.at'
        rcases List.mem_cons.1 hy with rfl | hy
        · omega
        · have := h1 y hy; omega
      · cases hg
    · obtain ⟨r1, r2, r3⟩ := gapsG_apart l (x.at' + x.len) N h2 (fun y hy => ⟨h1 y hy, (hb y (List.mem_cons_of_mem _ hy)).2⟩) h3.2 g hg
      refine ⟨by omega, r2, fun y hy => ?_⟩
      rcases List.mem_cons.1 hy with rfl | hy
      · exact Or.inl r1
      · exact r3 y hy
/-- Blocks that fill all up to N: the only gap is at the end. -/
theorem gapsG_full : ∀ (L : List Blk) (a N M : Nat), Chain L → (∀ x ∈ L, a ≤ x.at' ∧ x.at' + x.len ≤ N) → a ≤ N → N ≤ M → sumB L + a = N → gapsG a (L ++ [(⟨0, M, 0⟩ : Blk)]) = if N < M then [⟨N, M - N⟩] else []
  | [], a, N, M, _, _, h, hM, hs => by
    have : a = N := by simpa [sumB] using hs
    subst this
    simp [gapsG]
  | x :: l, a, N, M, hc, hb, h, hM, hs => by
    obtain ⟨h1, h2⟩ := chain_cons hc
    have h3 := hb x List.mem_cons_self
    have h4 := sumB_le l (x.at' + x.len) N h2 (fun y hy => ⟨h1 y hy, (hb y (List.mem_cons_of_mem _ hy)).2⟩) h3.2
    rw [sumB_cons] at hs
    rw [List.cons_append, gapsG, if_neg (by show ¬ a < x.at'; omega), List.nil_append]
    exact gapsG_full l _ N M h2 (fun y hy => ⟨h1 y hy, (hb y (List.mem_cons_of_mem _ hy)).2⟩) h3.2 hM (by omega)
theorem endL_ge : ∀ (L : List Blk), Chain L → ∀ x ∈ L, x.at' + x.len ≤ endL L := by
  intro L hc x hx
  unfold endL
  rcases List.eq_nil_or_concat L with rfl | ⟨l, y, rfl⟩
  · cases hx
  · rw [List.concat_eq_append] at *
    rw [List.getLast?_append]
    simp only [List.getLast?_singleton, Option.some_or]
    rcases List.mem_append.1 hx with h1 | h1
    · have := (List.pairwise_append.1 hc).2.2 x h1 y (by simp)
      omega
    · rw [List.mem_singleton] at h1
      subst h1
      exact Nat.le_refl _
theorem lieL_sum : ∀ (l : List Blk), sumB (lieL l) = sumB l
  | [] => rfl
  | x :: l => by
    have ih := lieL_sum l
    unfold lieL at ih ⊢
    rw [List.filter_cons]
    by_cases h : x.len = 0
    · rw [if_neg (by simp [h]), sumB_cons, ih, h, Nat.zero_add]
    · rw [if_pos (by simp [h]), sumB_cons, sumB_cons, ih]
theorem SortedL.sum {l L : List Blk} (h : SortedL (lieL l) L) : sumB L = sumB l := by
  rw [← lieL_sum l]
  exact (h.1.map Blk.len).sum_nat
theorem SortedL.mem' {l L : List Blk} (h : SortedL (lieL l) L) {x : Blk} (hx : x ∈ l) (h0 : x.len ≠ 0) : x ∈ L := by
  refine h.1.mem_iff.2 ?_
  unfold lieL
  rw [List.mem_filter]
  exact ⟨hx, by simp [h0]⟩

/-! Octets where others are written. -/
theorem octB_same {m m' : List Int} {x : Blk} (h : ∀ j, x.at' ≤ j → j < x.at' + x.len → m'[j]? = m[j]?) : octB m' x = octB m x := by
  unfold octB
  refine List.ext_getElem? (fun j => ?_)
  rw [List.getElem?_take, List.getElem?_take]
  split
  · next hj => rw [List.getElem?_drop, List.getElem?_drop]; exact h _ (by omega) (by omega)
  · rfl
theorem octB_len {m : List Int} {x : Blk} (h : x.at' + x.len ≤ m.length) : (octB m x).length = x.len := by
  unfold octB
  rw [List.length_take, List.length_drop]
  omega

end
end Go.Proofs.YtjogaohnphafgaaGreat

namespace Go.Proofs.YtjogaohnphafgaaGreat
section
open Go.RowKit
set_option linter.unusedVariables false

set_option maxHeartbeats 1000000 in
set_option maxRecDepth 100000 in
theorem free1 (x : Blk) (bx : Nat) (n : Int) (W : World) (h : W.cell? ⟨bx, 0, none⟩ = some (.int .i64 n)) : Calls Tryz.prog 41 #[.agg #[.int .i64 (x.h : Int), .int .i64 (x.at' : Int), .int .i64 (x.len : Int)], .pointer (some ⟨bx, 0, none⟩)] W fun e w' => e = .returned (.bool (decide ((x.h : Int) = n))) ∧ Below W.heap.size W w' := by
  obtain ⟨a0, a1, a2⟩ := x
  have h' : (W.alloc (.cells #[.int .i64 (a0 : Int), .int .i64 (a1 : Int), .int .i64 (a2 : Int)] 78)).cell? ⟨bx, 0, none⟩ = some (.int .i64 n) := Lib.cell?_alloc_some _ h
  have hlt : bx < W.heap.size := World.block_lt_of_cell? W ⟨bx, 0, none⟩ h
  have FIN := Lib.hid ((Below.refl _ W).alloc (Nat.le_refl _) (.cells #[.int .i64 (a0 : Int), .int .i64 (a1 : Int), .int .i64 (a2 : Int)] 78))
  have e : ((a0 : Int) == n) = decide ((a0 : Int) = n) := rfl
  clear h
  go_enter Tryz.func41, Tryz.ntmps41
  go_wp2_with fail
  go_ret
  exact ⟨by first | rfl | simp, FIN.out⟩

/-- The state when a block was given back. -/
def HpSt.free (S : HpSt) (h : Int) : HpSt := { S with bl := S.bl.filter fun y => !decide ((y.h : Int) = h) }
def FrPost (w : World) (hp bp : Nat) (S : HpSt) (vm vb vh : Value) (vhs : List Value) (F G : Nat → Prop) (M : Nat) (b : BookSt) (h : Int) : Ending → World → Prop := fun e w' => e = .returned (.int .i64 (fndE S h)) ∧
  ((fndE S h ≠ 0 ∧ Below w.heap.size w w') ∨ (fndE S h = 0 ∧ ∃ vb', HB w' hp bp (S.free h) vm vb' vh vhs F G M b ∧ Touch F w w'))
theorem HB.freed {w w1 : World} {hp bp : Nat} {S : HpSt} {vm vb vh : Value} {vhs : List Value} {F G : Nat → Prop} {M : Nat} {b : BookSt} (h : HB w hp bp S vm vb vh vhs F G M b) (q : Int) {g n cap : Nat} (hg : vb.ownBlock = some g) (hn : n = (S.free q).bl.length)
    (hr : w1.ownsRow g 78 3 (.slice (some ⟨g, 0, none⟩) n cap) (S.free q).bl.length ((S.free q).bl.flatMap Blk.cells)) (ht : Touch (fun k => k = g) w w1) : HB (w1.setCell ⟨hp, 7, none⟩ (.slice (some ⟨g, 0, none⟩) n cap)) hp bp (S.free q) vm (.slice (some ⟨g, 0, none⟩) n cap) vh vhs F G M b ∧ Touch F w (w1.setCell ⟨hp, 7, none⟩ (.slice (some ⟨g, 0, none⟩) n cap)) := by
  have m := h.hm
  obtain ⟨a1, a2, a3, a4⟩ := m.apart
  have hgne : g ≠ hp := a1 g hg
  have hFg := m.row.2 g hg
  have s1 : w1.heap[hp]? = w.heap[hp]? := ht.block hp (lt_of m.self) (fun e => hgne e.symm)
  have s2 := block_setCell (s1.trans m.self) 7 (.slice (some ⟨g, 0, none⟩) n cap)
  have keep : ∀ k, k < w.heap.size → k ≠ hp → k ≠ g → (w1.setCell ⟨hp, 7, none⟩ (.slice (some ⟨g, 0, none⟩) n cap)).heap[k]? = w.heap[k]? := fun k hk hne hv =>
    (Below.heap_setCell _ ⟨hp, 7, none⟩ _ k hne).trans (ht.block k hk hv)
  have hsz : w.heap.size ≤ (w1.setCell ⟨hp, 7, none⟩ (.slice (some ⟨g, 0, none⟩) n cap)).heap.size := by simpa [World.setCell] using ht.size
  refine ⟨h.re (fun k hk => hk) (fun k hk => Or.inl hk) (fun k hk => Nat.lt_of_lt_of_le (h.fl k hk) hsz) hsz (fun k hk hne _ hv => keep k hk hne (fun e => hv (e ▸ hg))) s2 ⟨?_, m.mem.2⟩ m.mb m.msh rfl ⟨?_, fun k hk => ?_⟩ (fun k hk => ?_) rfl (m.ord.sublist (List.filter_sublist.map _)) (fun x hx => m.hb x (List.mem_filter.1 hx).1) ⟨?_, m.big.2.2.1, m.big.2.2.2.1⟩, ?_⟩
  · exact ownsRow_same m.mem.1 (fun k hk => keep k (m.mem.1.lt k hk).2 (a4 k hk) (fun e => rowApart m.mem.1 m.row.1 (by decide) hk (e ▸ hg)))
  · have h1 : w1.ownsRow 0 78 3 (.slice (some ⟨g, 0, none⟩) n cap) (S.free q).bl.length ((S.free q).bl.flatMap Blk.cells) := by
      refine ⟨hr.1, hr.2.imp id ?_⟩
      rintro ⟨g, cap', cur, h1, h2, h3⟩
      exact ⟨g, cap', cur, h1, Nat.zero_le _, h3⟩
    exact ownsRow_same h1 (fun k hk => by
      simp only [Value.ownBlock, Option.some.injEq] at hk
      subst hk
      exact Below.heap_setCell _ ⟨hp, 7, none⟩ _ _ hgne)
  · simp only [Value.ownBlock, Option.some.injEq] at hk
    exact hk ▸ hFg
  · simp only [Value.ownBlock, Option.some.injEq] at hk
    exact Or.inl (hk ▸ hg)
  · exact Nat.le_trans (List.length_filter_le _ _) m.big.2.1
  · exact Touch.setCell (F := F) (p := ⟨hp, 7, none⟩) (ht.mono (fun k hk => hk ▸ hFg)) (Or.inl m.fh) _

set_option maxHeartbeats 4000000 in
set_option maxRecDepth 100000 in
theorem freeM_any {w : World} {hp bp : Nat} {S : HpSt} {vm vb vh : Value} {vhs : List Value} {F G : Nat → Prop} {M : Nat} {b : BookSt} (h : HB w hp bp S vm vb vh vhs F G M b) (q : Int) :
    Calls Tryz.prog 10 #[.pointer (some ⟨hp, 0, none⟩), .int .i64 q] w (FrPost w hp bp S vm vb vh vhs F G M b q) := by
  have B0 : Below w.heap.size w (w.alloc (.cells #[.int .i64 q] 3)) := (Below.refl _ w).alloc (Nat.le_refl _) _
  have N0 := heap_alloc_new w (.cells #[.int .i64 q] 3)
  have h1 := h.below B0
  have FD := Lib.hid (findM_any h1.hm q)
  have BB := Lib.hid B0
  have H1 := Lib.hid h1
  have HN := Lib.hid N0
  have c3 : (w.alloc (.cells #[.int .i64 q] 3)).cell? ⟨w.heap.size, 0, none⟩ = some (.int .i64 q) := (cell_of N0 0).trans rfl
  have c7 := h1.hm.cells.2.2.2.2.2.2.2.1
  obtain ⟨va, vc, hvb⟩ := wrow_sh h.hm.row.1
  have HVB := Lib.hid hvb
  have hfew := h.hm.big.2.1
  obtain ⟨BL, hBL⟩ : ∃ BL, S.bl.length = BL := ⟨_, rfl⟩
  have HBL := Lib.hid hBL
  rw [hBL] at hfew
  rw [hvb, hBL] at c7
  have f7 := free_of h1.hm.self 7
  clear B0 N0 h1 h hvb hBL
  go_enter Tryz.func10, Tryz.ntmps10
  go_wp2_with fail
  generalize w.alloc (.cells #[.int .i64 q] 3) = W0 at *
  refine FD.out.mono ?_
  rintro e w1 ⟨hw1, hpost⟩
  obtain rfl := hw1.symm
  clear hw1
  rcases hpost with ⟨he, rfl⟩ | ⟨he, i, x, g, cap, hf, hv, rfl⟩
  · have he' : (fndE S q != 0) = true := by simpa using he
    have FIN : Hid (FrPost w hp bp S vm vb vh vhs F G M b q (.returned (.int .i64 (fndE S q))) W0) := Lib.hid ⟨rfl, Or.inl ⟨he, BB.out⟩⟩
    clear he
    generalize fndE S q = er at *
    go_wp2_with fail
    go_ret
    exact FIN.out
  · obtain ⟨hx, hxh⟩ := findB_at hf
    have h0 : 0 < S.bl.length := by
      have := (List.getElem?_eq_some_iff.1 hx).1
      omega
    have egD : ∀ args w, (callFunc 41 args).run Tryz.prog w = .ok (.enter 41 args) w := enters_of Tryz.func41 (by kernel_rfl) rfl
    have hr := H1.out.hm.row.1
    rw [hv] at hr
    have hgne : w.heap.size ≠ g := fun e => by
      have h2 := H1.out.hm.row.2 g (by rw [hv]; rfl)
      obtain ⟨cur, hc⟩ := row_block hr (k := g) rfl
      rw [← e, HN.out] at hc
      simp at hc
    have C := bdeleteFunc_row _ g cap S.bl 41 #[.pointer (some ⟨w.heap.size, 0, none⟩)] (fun y => decide ((y.h : Int) = q)) W0 hr h0 (by rw [HBL.out]; omega) egD (fun W y hT => free1 y w.heap.size q W ((cell_of ((hT.block _ (lt_of HN.out) hgne).trans HN.out) 0).trans rfl))
    have HC := Lib.hid C
    have HG : Hid (vb.ownBlock = some g) := Lib.hid (by rw [hv]; rfl)
    have hv2 := HVB.out
    rw [hv, HBL.out] at hv2
    simp only [Value.slice.injEq] at hv2
    obtain ⟨rfl, _, rfl⟩ := hv2
    have HE := Lib.hid he
    rw [HBL.out] at HC
    have hgl := lt_of (row_block hr (k := g) rfl).choose_spec
    clear egD hr C hx hxh hf hv h0
    clear he
    go_wp2_with fail
    refine HC.out.mono ?_
    rintro e w2 ⟨n, hn, rfl, hr2, ht2⟩
    have HF := H1.out.freed q HG.out hn hr2 ht2
    have d7 : w2.cell? ⟨hp, 7, none⟩ = some (.slice (some ⟨g, 0, none⟩) BL cap) := (cell_of ((ht2.block hp (lt_of H1.out.hm.self) (fun e => H1.out.hm.apart.1 g HG.out e.symm)).trans H1.out.hm.self) 7).trans (by show some vb = _; rw [HVB.out, HBL.out])
    have f7 := free_of ((ht2.block hp (lt_of H1.out.hm.self) (fun e => H1.out.hm.apart.1 g HG.out e.symm)).trans H1.out.hm.self) 7
    have FIN : Hid (FrPost w hp bp S vm vb vh vhs F G M b q (.returned (.int .i64 0)) (w2.setCell ⟨hp, 7, none⟩ (.slice (some ⟨g, 0, none⟩) n cap))) := Lib.hid ⟨by rw [HE.out], Or.inr ⟨HE.out, _, HF.1, (Touch.of_below BB.out).then HF.2⟩⟩
    clear HF hn hr2 ht2 HC
    go_wp2_with fail
    go_ret
    exact FIN.out

end
end Go.Proofs.YtjogaohnphafgaaGreat

namespace Go.Proofs.YtjogaohnphafgaaGreat
section
open Go.RowKit
set_option linter.unusedVariables false

theorem genM_any {w : World} {F : Nat → Prop} {hp bp : Nat} {S : HpSt} {vm vb vh : Value} {vhs : List Value} (m : HpMem w F hp bp S vm vb vh vhs) :
    Calls Tryz.prog 67 #[.pointer (some ⟨hp, 0, none⟩)] w (fun e w' => e = .returned (.int .i64 (S.count : Int)) ∧ w' = w) := by
  have c9 := m.cells.2.2.2.2.2.2.2.2.2.1
  clear m
  go_enter Tryz.func67, Tryz.ntmps67
  go_wp2_with fail
  go_ret
  exact ⟨rfl, by first | rfl | trivial⟩
theorem roomM_any {w : World} {F : Nat → Prop} {hp bp : Nat} {S : HpSt} {vm vb vh : Value} {vhs : List Value} (m : HpMem w F hp bp S vm vb vh vhs) :
    Calls Tryz.prog 63 #[.pointer (some ⟨hp, 0, none⟩)] w (fun e w' => e = .returned (.int .i64 (S.mem.length : Int)) ∧ w' = w) := by
  have c6 := m.cells.2.2.2.2.2.2.1
  obtain ⟨a, cap, hv, _⟩ := m.memory
  rw [hv] at c6
  clear m hv
  go_enter Tryz.func63, Tryz.ntmps63
  go_wp2_with fail
  go_ret
  exact ⟨rfl, by first | rfl | trivial⟩
theorem blocksM_any {w : World} {F : Nat → Prop} {hp bp : Nat} {S : HpSt} {vm vb vh : Value} {vhs : List Value} (m : HpMem w F hp bp S vm vb vh vhs) :
    Calls Tryz.prog 70 #[.pointer (some ⟨hp, 0, none⟩)] w (OwnBlks S.bl w) := by
  have c7 := m.cells.2.2.2.2.2.2.2.1
  obtain ⟨va, vc, hvb⟩ := wrow_sh m.row.1
  have C := Lib.hid (clone_blk vb 0 S.bl w m.row.1 (by have := m.big.2.1; omega))
  rw [hvb] at c7 C
  clear m hvb
  go_enter Tryz.func70, Tryz.ntmps70
  go_wp2_with fail
  refine C.out.mono ?_
  rintro e w1 ⟨v, rfl, hr, hb⟩
  have HF := Lib.hid (And.intro hr hb)
  obtain ⟨a, cap, rfl⟩ := wrow_sh hr
  clear hr hb C
  go_wp2_with fail
  go_ret
  exact ⟨_, rfl, HF.out⟩

set_option maxHeartbeats 1000000 in
set_option maxRecDepth 100000 in
theorem usedM_any {w : World} {F : Nat → Prop} {hp bp : Nat} {S : HpSt} {vm vb vh : Value} {vhs : List Value} (m : HpMem w F hp bp S vm vb vh vhs) :
    Calls Tryz.prog 65 #[.pointer (some ⟨hp, 0, none⟩)] w (fun e w' => e = .returned (.int .i64 (sumB S.bl : Int)) ∧ Below w.heap.size w w') := by
  have c7 := m.cells.2.2.2.2.2.2.2.1
  obtain ⟨va, vc, hvb⟩ := wrow_sh m.row.1
  have HM := Lib.hid m
  have hfew := m.big.2.1
  have SM : Hid (∀ k, sumB (S.bl.take k) ≤ k * 100000) := Lib.hid (fun k => by
    have : ∀ (l : List Blk) (k : Nat), (∀ x ∈ l, x.len ≤ 100000) → sumB (l.take k) ≤ k * 100000 := by
      intro l
      induction l with
      | nil => intro k _; simp [sumB]
      | cons x l ih =>
        intro k h
        cases k with
        | zero => simp [sumB]
        | succ k =>
          rw [List.take_succ_cons, sumB_cons]
          have h1 := ih k (fun y hy => h y (List.mem_cons_of_mem _ hy))
          have h2 := h x List.mem_cons_self
          omega
    exact this S.bl k (fun x hx => by have := (m.hb x hx).2.2; have := m.big.1; omega))
  obtain ⟨BL, hBL⟩ : ∃ BL, S.bl.length = BL := ⟨_, rfl⟩
  have HBL := Lib.hid hBL
  rw [hBL] at hfew
  rw [hvb, hBL] at c7
  have HVB := Lib.hid hvb
  have B0 := Lib.hid (Below.refl w.heap.size w)
  clear m hvb hBL
  go_enter Tryz.func65, Tryz.ntmps65
  go_wp2_with fail
  go_loopw [3, 11] (fun n i wr => ∃ k : Nat, k ≤ BL ∧ i = .int .i64 (k : Int) ∧ n = .int .i64 (sumB (S.bl.take k) : Int) ∧ Below w.heap.size w wr) (fun _ i _ => BL - (intOf i).toNat)
  case atStart => exact ⟨0, Nat.zero_le _, rfl, rfl, B0.out⟩
  case round =>
    obtain ⟨k, hk, rfl, rfl, hb⟩ := hrel
    by_cases hlt : k < BL
    · obtain ⟨x, hx⟩ : ∃ x, S.bl[k]? = some x := ⟨_, List.getElem?_eq_getElem (by have := HBL.out; omega)⟩
      obtain ⟨g, cap2, hv2, d0, d1, d2, _⟩ := blk_cells (HM.out.below hb).row.1 hx
      have hv3 := HVB.out
      rw [hv2, HBL.out] at hv3
      simp only [Value.slice.injEq] at hv3
      obtain ⟨rfl, k6, rfl⟩ := hv3
      clear k6
      have hs1 : sumB (S.bl.take (k + 1)) = sumB (S.bl.take k) + x.len := by
        rw [List.take_add_one, hx]
        simp [sumB]
      have HS1 := Lib.hid hs1
      have b1 := SM.out (k + 1)
      have b2 := SM.out k
      rw [hs1] at b1
      generalize hq : sumB (S.bl.take k) = q at *
      have HB := Lib.hid hb
      clear hx hv2 hs1 hq hb
      go_wp2_with fail
      go_roundw
      case measure => simp only [intOf]; omega
      case rel => exact ⟨k + 1, by omega, by go_num, by rw [HS1.out]; go_num, HB.out.trans ((Below.refl _ _).alloc HB.out.size _)⟩
    · obtain rfl : k = BL := by omega
      have ek : S.bl.take k = S.bl := List.take_of_length_le (by have := HBL.out; omega)
      rw [ek]
      have HB := Lib.hid hb
      clear ek hb
      go_wp2_with fail
      go_ret
      exact ⟨rfl, HB.out⟩

theorem HpMem.octR {w : World} {F : Nat → Prop} {hp bp : Nat} {S : HpSt} {vm vb vh : Value} {vhs : List Value} (m : HpMem w F hp bp S vm vb vh vhs) (at' len c : Nat) (a : Option Addr) (hl : at' + len ≤ S.mem.length) (ha : 0 < len → ∃ g cap, vm = .slice (some ⟨g, 0, none⟩) S.mem.length cap ∧ a = some ⟨g, at', none⟩) :
    Reads w .u8 (.slice a len c) ((S.mem.drop at').take len) := by
  have e : ((S.mem.drop at').take len).length = len := by rw [List.length_take, List.length_drop]; omega
  refine ⟨a, c, by rw [e], by rw [e]; have := m.big.1; omega, fun hne => ?_⟩
  have hpos : 0 < len := by
    rcases Nat.eq_zero_or_pos len with h | h
    · rw [h] at hne; simp at hne
    · exact h
  obtain ⟨g, cap, hv, rfl⟩ := ha hpos
  obtain ⟨g', hv', hrow, _⟩ := m.bytes (by omega)
  rw [hv] at hv'
  simp only [Value.slice.injEq, Option.some.injEq, Addr.mk.injEq, and_true] at hv'
  obtain ⟨rfl, _⟩ := hv'
  refine ⟨g, at', rfl, fun j hj => ?_⟩
  rw [e] at hj
  have h1 : S.mem[at' + j]? = some (S.mem[at' + j]'(by omega)) := List.getElem?_eq_getElem (by omega)
  rw [cell_of hrow]
  have h2 : ((S.mem.drop at').take len)[j]? = S.mem[at' + j]? := by rw [List.getElem?_take, if_pos hj, List.getElem?_drop]
  simp [List.getElem?_map, List.getD_eq_getElem?_getD, h2, h1]

/-- What Copy gives. -/
def CpPost (w : World) (S : HpSt) (q : Int) : Ending → World → Prop := fun e w' => Below w.heap.size w w' ∧
  ((fndE S q ≠ 0 ∧ e = .returned (.tuple #[.slice none 0 0, .int .i64 (fndE S q)])) ∨ (fndE S q = 0 ∧ ∃ i x v, findB S.bl q = some (i, x) ∧ e = .returned (.tuple #[v, .int .i64 0]) ∧ w'.ownsRow w.heap.size 5 1 v x.len ((octB S.mem x).map (Value.int .u8))))

set_option maxHeartbeats 1000000 in
set_option maxRecDepth 100000 in
theorem copyM_any {w : World} {F : Nat → Prop} {hp bp : Nat} {S : HpSt} {vm vb vh : Value} {vhs : List Value} (m : HpMem w F hp bp S vm vb vh vhs) (q : Int) :
    Calls Tryz.prog 77 #[.pointer (some ⟨hp, 0, none⟩), .int .i64 q] w (CpPost w S q) := by
  have FD := Lib.hid (findM_any m q)
  have HM := Lib.hid m
  have BB := Lib.hid (Below.refl w.heap.size w)
  clear m
  go_enter Tryz.func77, Tryz.ntmps77
  go_wp2_with fail
  refine FD.out.mono ?_
  rintro e w1 ⟨hw1, hpost⟩
  obtain rfl := hw1.symm
  clear hw1
  rcases hpost with ⟨he, rfl⟩ | ⟨he, i, x, g, cap, hf, hv, rfl⟩
  · have he' : (fndE S q != 0) = true := by simpa using he
    have FIN : Hid (CpPost w S q (.returned (.tuple #[.slice none 0 0, .int .i64 (fndE S q)])) w) := Lib.hid ⟨BB.out, Or.inl ⟨he, rfl⟩⟩
    clear he FD
    generalize fndE S q = er at *
    go_wp2_with fail
    go_ret2
    exact FIN.out
  · obtain ⟨hx, hxh⟩ := findB_at hf
    obtain ⟨g2, cap2, hv2, d0, d1, d2, _⟩ := blk_cells HM.out.row.1 hx
    rw [hv] at hv2
    simp only [Value.slice.injEq, Option.some.injEq, Addr.mk.injEq, and_true] at hv2
    obtain ⟨rfl, _, rfl⟩ := hv2
    have hl := (HM.out.hb x (List.mem_of_getElem? hx)).2.2
    have OC := Lib.hid (octetsM_any HM.out (x.h : Int) x.at' x.len hl)
    have KEY : Hid (∀ v w', w'.ownsRow w.heap.size 5 1 v (octB S.mem x).length ((octB S.mem x).map (Value.int .u8)) → Below w.heap.size w w' → CpPost w S q (.returned (.tuple #[v, .int .i64 0])) w') := Lib.hid (fun v w' hr hb => ⟨hb, Or.inr ⟨he, i, x, v, hf, rfl, by rw [octB_len hl] at hr; exact hr⟩⟩)
    have HL := Lib.hid hl
    clear he hf hv hx hxh hl FD
    go_wp2_with fail
    refine OC.out.mono ?_
    rintro e w2 ⟨a, rfl, ha, hb⟩
    have CL := Lib.hid (clone_byte (.slice a x.len x.len) (octB S.mem x) w2 ((HM.out.below hb).octR x.at' x.len x.len a HL.out ha) (by rw [octB_len HL.out]; have := HL.out; have := HM.out.big.1; omega))
    have HB := Lib.hid hb
    clear ha hb OC d0 d1 d2
    go_wp2_with fail
    refine CL.out.mono ?_
    rintro e w3 ⟨v, rfl, hr, hb⟩
    have FIN := Lib.hid (KEY.out v w3 (row_low hr HB.out.size) (HB.out.trans (hb.mono HB.out.size)))
    obtain ⟨ra, rc, rfl⟩ := wrow_sh hr
    clear hr hb CL KEY
    go_wp2_with fail
    go_ret2
    exact FIN.out

end
end Go.Proofs.YtjogaohnphafgaaGreat

namespace Go.Proofs.YtjogaohnphafgaaGreat
section
open Go.RowKit
set_option linter.unusedVariables false

def lkE (x : Blk) (f t : Int) : Int := if ¬ (0 ≤ f ∧ f ≤ (x.len : Int)) ∨ ¬ (f ≤ t ∧ t ≤ (x.len : Int)) then 2 else 0
/-- What Look gives. -/
def LkPost (w : World) (S : HpSt) (vm : Value) (q f t : Int) : Ending → World → Prop := fun e w' => Below w.heap.size w w' ∧
  ((fndE S q ≠ 0 ∧ e = .returned (.tuple #[.slice none 0 0, .int .i64 (fndE S q)])) ∨ (fndE S q = 0 ∧ ∃ i x, findB S.bl q = some (i, x) ∧
    ((lkE x f t ≠ 0 ∧ e = .returned (.tuple #[.slice none 0 0, .int .i64 (lkE x f t)])) ∨ (lkE x f t = 0 ∧ ∃ a, e = .returned (.tuple #[.slice a (t - f).toNat (t - f).toNat, .int .i64 0]) ∧ (0 < (t - f).toNat → ∃ g cap, vm = .slice (some ⟨g, 0, none⟩) S.mem.length cap ∧ a = some ⟨g, x.at' + f.toNat, none⟩)))))

set_option maxHeartbeats 4000000 in
set_option maxRecDepth 100000 in
theorem lookM_any {w : World} {F : Nat → Prop} {hp bp : Nat} {S : HpSt} {vm vb vh : Value} {vhs : List Value} (m : HpMem w F hp bp S vm vb vh vhs) (q f t : Int) :
    Calls Tryz.prog 16 #[.pointer (some ⟨hp, 0, none⟩), .int .i64 q, .int .i64 f, .int .i64 t] w (LkPost w S vm q f t) := by
  have FD := Lib.hid (findM_any m q)
  have HM := Lib.hid m
  have BB := Lib.hid (Below.refl w.heap.size w)
  clear m
  go_enter Tryz.func16, Tryz.ntmps16
  go_wp2_with fail
  refine FD.out.mono ?_
  rintro e w1 ⟨hw1, hpost⟩
  obtain rfl := hw1.symm
  clear hw1
  rcases hpost with ⟨he, rfl⟩ | ⟨he, i, x, g, cap, hf, hv, rfl⟩
  · have he' : (fndE S q != 0) = true := by simpa using he
    have FIN : Hid (LkPost w S vm q f t (.returned (.tuple #[.slice none 0 0, .int .i64 (fndE S q)])) w) := Lib.hid ⟨BB.out, Or.inl ⟨he, rfl⟩⟩
    clear he FD
    generalize fndE S q = er at *
    go_wp2_with fail
    go_ret2
    exact FIN.out
  · obtain ⟨hx, hxh⟩ := findB_at hf
    obtain ⟨g2, cap2, hv2, d0, d1, d2, _⟩ := blk_cells HM.out.row.1 hx
    have HV := Lib.hid hv
    rw [hv] at hv2
    simp only [Value.slice.injEq, Option.some.injEq, Addr.mk.injEq, and_true] at hv2
    obtain ⟨rfl, _, rfl⟩ := hv2
    have hl := (HM.out.hb x (List.mem_of_getElem? hx)).2.2
    have OC := Lib.hid (octetsM_any HM.out (x.h : Int) x.at' x.len hl)
    have KEY : Hid (∀ e w', Below w.heap.size w w' → ((lkE x f t ≠ 0 ∧ e = .returned (.tuple #[.slice none 0 0, .int .i64 (lkE x f t)])) ∨ (lkE x f t = 0 ∧ ∃ a, e = .returned (.tuple #[.slice a (t - f).toNat (t - f).toNat, .int .i64 0]) ∧ (0 < (t - f).toNat → ∃ g cap, vm = .slice (some ⟨g, 0, none⟩) S.mem.length cap ∧ a = some ⟨g, x.at' + f.toNat, none⟩))) → LkPost w S vm q f t e w') := Lib.hid (fun e w' hb h => ⟨hb, Or.inr ⟨he, i, x, hf, h⟩⟩)
    have HL := Lib.hid hl
    have hxl : x.len ≤ 100000 := by have := HM.out.big.1; omega
    clear he hf hv hx hxh hl FD
    by_cases h1 : 0 ≤ f ∧ f ≤ (x.len : Int)
    case neg =>
      have W1 := Lib.hid (within_move_no f 0 (x.len : Int) w h1)
      have e2 : lkE x f t = 2 := by unfold lkE; rw [if_pos (Or.inl h1)]
      have FIN := Lib.hid (KEY.out (.returned (.tuple #[.slice none 0 0, .int .i64 2])) w BB.out (Or.inl ⟨by rw [e2]; decide, by rw [e2]⟩))
      clear e2 KEY h1 OC
      go_wp2_with fail
      refine W1.out.mono ?_
      rintro e w2 ⟨rfl, hw2⟩
      obtain rfl := hw2
      go_wp2_with fail
      go_ret2
      exact FIN.out
    case pos =>
      have W1 := Lib.hid (within_move_yes f 0 (x.len : Int) w h1.1 h1.2)
      by_cases h2 : f ≤ t ∧ t ≤ (x.len : Int)
      case neg =>
        have W2 := Lib.hid (within_move_no t f (x.len : Int) w h2)
        have e2 : lkE x f t = 2 := by unfold lkE; rw [if_pos (Or.inr h2)]
        have FIN := Lib.hid (KEY.out (.returned (.tuple #[.slice none 0 0, .int .i64 2])) w BB.out (Or.inl ⟨by rw [e2]; decide, by rw [e2]⟩))
        clear e2 KEY h1 h2 OC
        go_wp2_with fail
        refine W1.out.mono ?_
        rintro e w2 ⟨rfl, hw2⟩
        obtain rfl := hw2
        go_wp2_with fail
        refine W2.out.mono ?_
        rintro e w2 ⟨rfl, hw2⟩
        obtain rfl := hw2
        go_wp2_with fail
        go_ret2
        exact FIN.out
      case pos =>
        have W2 := Lib.hid (within_move_yes t f (x.len : Int) w h2.1 h2.2)
        have e2 : lkE x f t = 0 := by unfold lkE; rw [if_neg (by rintro (h | h); exact h h1; exact h h2)]
        obtain ⟨fn, rfl⟩ : ∃ fn : Nat, f = (fn : Int) := ⟨f.toNat, by omega⟩
        obtain ⟨tn, rfl⟩ : ∃ tn : Nat, t = (tn : Int) := ⟨t.toNat, by omega⟩
        have h3 : fn ≤ tn := by omega
        have h4 : tn ≤ x.len := by omega
        have KEY2 : Hid (∀ a w', Below w.heap.size w w' → (0 < tn - fn → ∃ g cap, vm = .slice (some ⟨g, 0, none⟩) S.mem.length cap ∧ a = some ⟨g, x.at' + fn, none⟩) → LkPost w S vm q fn tn (.returned (.tuple #[.slice a (tn - fn) (tn - fn), .int .i64 0])) w') := Lib.hid (fun a w' hb ha => by
          have e5 : ((tn : Int) - (fn : Int)).toNat = tn - fn := by omega
          exact KEY.out _ w' hb (Or.inr ⟨e2, a, by rw [e5], fun h => by rw [Int.toNat_natCast]; exact ha (by omega)⟩))
        clear e2 KEY h1 h2
        go_wp2_with fail
        refine W1.out.mono ?_
        rintro e w2 ⟨rfl, hw2⟩
        obtain rfl := hw2
        go_wp2_with fail
        refine W2.out.mono ?_
        rintro e w2 ⟨rfl, hw2⟩
        obtain rfl := hw2
        clear W1 W2
        go_wp2_with fail
        refine OC.out.mono ?_
        rintro e w3 ⟨a, rfl, ha, hb⟩
        have HA := Lib.hid ha
        have HB := Lib.hid hb
        clear ha hb OC
        by_cases h0 : tn = fn
        · subst h0
          go_wp2_with fail
          go_ret2
          have e0 : tn - tn = 0 := Nat.sub_self tn
          have FIN := KEY2.out a w3 HB.out (fun h => by omega)
          rw [e0] at FIN
          first
          | exact FIN
          | exact KEY2.out _ w3 HB.out (fun h => by omega)
        · obtain ⟨gm, cm, hvm, rfl⟩ := HA.out (by omega)
          have FIN := Lib.hid (KEY2.out (some ⟨gm, x.at' + fn, none⟩) w3 HB.out (fun _ => ⟨gm, cm, hvm, rfl⟩))
          clear KEY2 hvm
          go_wp2_with fail
          go_ret2
          exact FIN.out

end
end Go.Proofs.YtjogaohnphafgaaGreat
