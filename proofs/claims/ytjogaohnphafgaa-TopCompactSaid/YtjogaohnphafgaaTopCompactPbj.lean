/-
  Blocks apart, gaps, blocks moved together: the plain part. No conditions.
  A block given back: Free. No conditions but bounds.
-/
import Derived.Test.YtjogaohnphafgaaTopCompactPbb
import Derived.Test.YtjogaohnphafgaaTopCompactPbh
import Derived.Test.YtjogaohnphafgaaTopCompactPbi

namespace Go.Proofs.Ytjogaohnphafgaa
section
open Go.RowKit
set_option linter.unusedVariables false

def octB (mem : List Int) (x : Blk) : List Int := (mem.drop x.at').take x.len
/-- Two blocks have no octet in common. -/
def apartB (a b : Blk) : Prop := a.len = 0 ∨ b.len = 0 ∨ a.at' + a.len ≤ b.at' ∨ b.at' + b.len ≤ a.at'
theorem apartB_symm {a b : Blk} (h : apartB a b) : apartB b a := by unfold apartB at *; omega
def Chain (L : List Blk) : Prop := L.Pairwise (fun a b => a.at' + a.len ≤ b.at')
theorem chain_of {l L : List Blk} (h : SortedL (lieL l) L) (ha : l.Pairwise apartB) : Chain L := by
  have h1 : (lieL l).Pairwise apartB := ha.sublist List.filter_sublist
  have h2 : L.Pairwise apartB := (h.1.pairwise_iff (fun h => apartB_symm h)).2 h1
  unfold Chain
  refine List.Pairwise.imp_of_mem ?_ (h2.and h.2)
  rintro a b ma mb ⟨h3, h4⟩
  have := (h.mem ma).2
  have := (h.mem mb).2
  unfold apartB at h3
  omega

def sumG (gs : List Gp) : Nat := (gs.map Gp.len).sum
def sumB (l : List Blk) : Nat := (l.map Blk.len).sum
theorem sumB_cons (x : Blk) (l : List Blk) : sumB (x :: l) = x.len + sumB l := by simp [sumB]
theorem sumG_append (a b : List Gp) : sumG (a ++ b) = sumG a + sumG b := by simp [sumG]
theorem chain_cons {x : Blk} {l : List Blk} (h : Chain (x :: l)) : (∀ y ∈ l, x.at' + x.len ≤ y.at') ∧ Chain l := List.pairwise_cons.1 h
theorem sumB_le : ∀ (L : List Blk) (a N : Nat), Chain L → (∀ x ∈ L, a ≤ x.at' ∧ x.at' + x.len ≤ N) → a ≤ N → sumB L + a ≤ N
  | [], a, N, _, _, h => by simpa [sumB] using h
  | x :: l, a, N, hc, hb, h => by
    obtain ⟨h1, h2⟩ := chain_cons hc
    have h3 := hb x List.mem_cons_self
    have := sumB_le l (x.at' + x.len) N h2 (fun y hy => ⟨h1 y hy, (hb y (List.mem_cons_of_mem _ hy)).2⟩) h3.2
    rw [sumB_cons]
    omega
theorem gapsG_sum : ∀ (L : List Blk) (a N : Nat), Chain L → (∀ x ∈ L, a ≤ x.at' ∧ x.at' + x.len ≤ N) → a ≤ N → sumG (gapsG a (L ++ [(⟨0, N, 0⟩ : Blk)])) + sumB L + a = N
  | [], a, N, _, _, h => by
    simp only [List.nil_append, gapsG, List.append_nil]
    split
    · simp [sumG, sumB]; omega
    · simp [sumG, sumB]; omega
  | x :: l, a, N, hc, hb, h => by
    obtain ⟨h1, h2⟩ := chain_cons hc
    have h3 := hb x List.mem_cons_self
    have := gapsG_sum l (x.at' + x.len) N h2 (fun y hy => ⟨h1 y hy, (hb y (List.mem_cons_of_mem _ hy)).2⟩) h3.2
    rw [List.cons_append, gapsG, sumG_append, sumB_cons]
    split
    · simp [sumG] at *; omega
    · simp [sumG] at *; omega
theorem gapsG_apart : ∀ (L : List Blk) (a N : Nat), Chain L → (∀ x ∈ L, a ≤ x.at' ∧ x.at' + x.len ≤ N) → a ≤ N → ∀ g ∈ gapsG a (L ++ [(⟨0, N, 0⟩ : Blk)]), a ≤ g.at' ∧ g.at' + g.len ≤ N ∧ ∀ x ∈ L, x.at' + x.len ≤ g.at' ∨ g.at' + g.len ≤ x.at'
  | [], a, N, _, _, h, g, hg => by
    simp only [List.nil_append, gapsG, List.append_nil] at hg
    split at hg
    · rw [List.mem_singleton] at hg
      subst hg
      exact ⟨Nat.le_refl _, by show a + (N - a) ≤ N; omega, by simp⟩
    · cases hg
  | x :: l, a, N, hc, hb, h, g, hg => by
    obtain ⟨h1, h2⟩ := chain_cons hc
    have h3 := hb x List.mem_cons_self
    rw [List.cons_append, gapsG] at hg
    rcases List.mem_append.1 hg with hg | hg
    · split at hg
      · next hlt =>
        rw [List.mem_singleton] at hg
        subst hg
        refine ⟨Nat.le_refl _, by show a + (x.at' - a) ≤ N; omega, fun y hy => Or.inr ?_⟩
        show a + (x.at' - a) ≤ y.at'
        rcases List.mem_cons.1 hy with rfl | hy
        · omega
        · have := h1 y hy; omega
      · cases hg
    · obtain ⟨r1, r2, r3⟩ := gapsG_apart l (x.at' + x.len) N h2 (fun y hy => ⟨h1 y hy, (hb y (List.mem_cons_of_mem _ hy)).2⟩) h3.2 g hg
      refine ⟨by omega, r2, fun y hy => ?_⟩
      rcases List.mem_cons.1 hy with rfl | hy
      · exact Or.inl r1
      · exact r3 y hy
/-- Blocks that fill all up to N: the only gap is at the end. -/
theorem gapsG_full : ∀ (L : List Blk) (a N M : Nat), Chain L → (∀ x ∈ L, a ≤ x.at' ∧ x.at' + x.len ≤ N) → a ≤ N → N ≤ M → sumB L + a = N → gapsG a (L ++ [(⟨0, M, 0⟩ : Blk)]) = if N < M then [⟨N, M - N⟩] else []
  | [], a, N, M, _, _, h, hM, hs => by
    have : a = N := by simpa [sumB] using hs
    subst this
    simp [gapsG]
  | x :: l, a, N, M, hc, hb, h, hM, hs => by
    obtain ⟨h1, h2⟩ := chain_cons hc
    have h3 := hb x List.mem_cons_self
    have h4 := sumB_le l (x.at' + x.len) N h2 (fun y hy => ⟨h1 y hy, (hb y (List.mem_cons_of_mem _ hy)).2⟩) h3.2
    rw [sumB_cons] at hs
    rw [List.cons_append, gapsG, if_neg (by show ¬ a < x.at'; omega), List.nil_append]
    exact gapsG_full l _ N M h2 (fun y hy => ⟨h1 y hy, (hb y (List.mem_cons_of_mem _ hy)).2⟩) h3.2 hM (by omega)
theorem endL_ge : ∀ (L : List Blk), Chain L → ∀ x ∈ L, x.at' + x.len ≤ endL L := by
  intro L hc x hx
  unfold endL
  rcases List.eq_nil_or_concat L with rfl | ⟨l, y, rfl⟩
  · cases hx
  · rw [List.concat_eq_append] at *
    rw [List.getLast?_append]
    simp only [List.getLast?_singleton, Option.some_or]
    rcases List.mem_append.1 hx with h1 | h1
    · have := (List.pairwise_append.1 hc).2.2 x h1 y (by simp)
      omega
    · rw [List.mem_singleton] at h1
      subst h1
      exact Nat.le_refl _
theorem lieL_sum : ∀ (l : List Blk), sumB (lieL l) = sumB l
  | [] => rfl
  | x :: l => by
    have ih := lieL_sum l
    unfold lieL at ih ⊢
    rw [List.filter_cons]
    by_cases h : x.len = 0
    · rw [if_neg (by simp [h]), sumB_cons, ih, h, Nat.zero_add]
    · rw [if_pos (by simp [h]), sumB_cons, sumB_cons, ih]
theorem SortedL.sum {l L : List Blk} (h : SortedL (lieL l) L) : sumB L = sumB l := by
  rw [← lieL_sum l]
  exact (h.1.map Blk.len).sum_nat
theorem SortedL.mem' {l L : List Blk} (h : SortedL (lieL l) L) {x : Blk} (hx : x ∈ l) (h0 : x.len ≠ 0) : x ∈ L := by
  refine h.1.mem_iff.2 ?_
  unfold lieL
  rw [List.mem_filter]
  exact ⟨hx, by simp [h0]⟩

/-! Octets where others are written. -/
theorem octB_same {m m' : List Int} {x : Blk} (h : ∀ j, x.at' ≤ j → j < x.at' + x.len → m'[j]? = m[j]?) : octB m' x = octB m x := by
  unfold octB
  refine List.ext_getElem? (fun j => ?_)
  rw [List.getElem?_take, List.getElem?_take]
  split
  · next hj => rw [List.getElem?_drop, List.getElem?_drop]; exact h _ (by omega) (by omega)
  · rfl
theorem octB_len {m : List Int} {x : Blk} (h : x.at' + x.len ≤ m.length) : (octB m x).length = x.len := by
  unfold octB
  rw [List.length_take, List.length_drop]
  omega

end
end Go.Proofs.Ytjogaohnphafgaa

namespace Go.Proofs.Ytjogaohnphafgaa
section
open Go.RowKit
set_option linter.unusedVariables false

set_option maxHeartbeats 1000000 in
set_option maxRecDepth 100000 in
theorem free1 (x : Blk) (bx : Nat) (n : Int) (W : World) (h : W.cell? ⟨bx, 0, none⟩ = some (.int .i64 n)) : Calls Try.prog 30 #[.agg #[.int .i64 (x.h : Int), .int .i64 (x.at' : Int), .int .i64 (x.len : Int)], .pointer (some ⟨bx, 0, none⟩)] W fun e w' => e = .returned (.bool (decide ((x.h : Int) = n))) ∧ Below W.heap.size W w' := by
  obtain ⟨a0, a1, a2⟩ := x
  have h' : (W.alloc (.cells #[.int .i64 (a0 : Int), .int .i64 (a1 : Int), .int .i64 (a2 : Int)] 52)).cell? ⟨bx, 0, none⟩ = some (.int .i64 n) := Lib.cell?_alloc_some _ h
  have hlt : bx < W.heap.size := World.block_lt_of_cell? W ⟨bx, 0, none⟩ h
  have FIN := Lib.hid ((Below.refl _ W).alloc (Nat.le_refl _) (.cells #[.int .i64 (a0 : Int), .int .i64 (a1 : Int), .int .i64 (a2 : Int)] 52))
  have e : ((a0 : Int) == n) = decide ((a0 : Int) = n) := rfl
  clear h
  go_enter Try.func30, Try.ntmps30
  go_wp2_with fail
  go_ret
  exact ⟨by first | rfl | simp, FIN.out⟩

/-- The state when a block was given back. -/
def HpSt.free (S : HpSt) (h : Int) : HpSt := { S with bl := S.bl.filter fun y => !decide ((y.h : Int) = h) }
def FrPost (w : World) (hp bp : Nat) (S : HpSt) (vm vb vh : Value) (vhs : List Value) (F G : Nat → Prop) (M : Nat) (b : BookSt) (h : Int) : Ending → World → Prop := fun e w' => e = .returned (.int .i64 (fndE S h)) ∧
  ((fndE S h ≠ 0 ∧ Below w.heap.size w w') ∨ (fndE S h = 0 ∧ ∃ vb', HB w' hp bp (S.free h) vm vb' vh vhs F G M b ∧ Touch F w w'))
theorem HB.freed {w w1 : World} {hp bp : Nat} {S : HpSt} {vm vb vh : Value} {vhs : List Value} {F G : Nat → Prop} {M : Nat} {b : BookSt} (h : HB w hp bp S vm vb vh vhs F G M b) (q : Int) {g n cap : Nat} (hg : vb.ownBlock = some g) (hn : n = (S.free q).bl.length)
    (hr : w1.ownsRow g 52 3 (.slice (some ⟨g, 0, none⟩) n cap) (S.free q).bl.length ((S.free q).bl.flatMap Blk.cells)) (ht : Touch (fun k => k = g) w w1) : HB (w1.setCell ⟨hp, 7, none⟩ (.slice (some ⟨g, 0, none⟩) n cap)) hp bp (S.free q) vm (.slice (some ⟨g, 0, none⟩) n cap) vh vhs F G M b ∧ Touch F w (w1.setCell ⟨hp, 7, none⟩ (.slice (some ⟨g, 0, none⟩) n cap)) := by
  have m := h.hm
  obtain ⟨a1, a2, a3, a4⟩ := m.apart
  have hgne : g ≠ hp := a1 g hg
  have hFg := m.row.2 g hg
  have s1 : w1.heap[hp]? = w.heap[hp]? := ht.block hp (lt_of m.self) (fun e => hgne e.symm)
  have s2 := block_setCell (s1.trans m.self) 7 (.slice (some ⟨g, 0, none⟩) n cap)
  have keep : ∀ k, k < w.heap.size → k ≠ hp → k ≠ g → (w1.setCell ⟨hp, 7, none⟩ (.slice (some ⟨g, 0, none⟩) n cap)).heap[k]? = w.heap[k]? := fun k hk hne hv =>
    (Below.heap_setCell _ ⟨hp, 7, none⟩ _ k hne).trans (ht.block k hk hv)
  have hsz : w.heap.size ≤ (w1.setCell ⟨hp, 7, none⟩ (.slice (some ⟨g, 0, none⟩) n cap)).heap.size := by simpa [World.setCell] using ht.size
  refine ⟨h.re (fun k hk => hk) (fun k hk => Or.inl hk) (fun k hk => Nat.lt_of_lt_of_le (h.fl k hk) hsz) hsz (fun k hk hne _ hv => keep k hk hne (fun e => hv (e ▸ hg))) s2 ⟨?_, m.mem.2⟩ m.mb m.msh rfl ⟨?_, fun k hk => ?_⟩ (fun k hk => ?_) rfl (m.ord.sublist (List.filter_sublist.map _)) (fun x hx => m.hb x (List.mem_filter.1 hx).1) ⟨?_, m.big.2.2.1, m.big.2.2.2.1⟩, ?_⟩
  · exact ownsRow_same m.mem.1 (fun k hk => keep k (m.mem.1.lt k hk).2 (a4 k hk) (fun e => rowApart m.mem.1 m.row.1 (by decide) hk (e ▸ hg)))
  · have h1 : w1.ownsRow 0 52 3 (.slice (some ⟨g, 0, none⟩) n cap) (S.free q).bl.length ((S.free q).bl.flatMap Blk.cells) := by
      refine ⟨hr.1, hr.2.imp id ?_⟩
      rintro ⟨g, cap', cur, h1, h2, h3⟩
      exact ⟨g, cap', cur, h1, Nat.zero_le _, h3⟩
    exact ownsRow_same h1 (fun k hk => by
      simp only [Value.ownBlock, Option.some.injEq] at hk
      subst hk
      exact Below.heap_setCell _ ⟨hp, 7, none⟩ _ _ hgne)
  · simp only [Value.ownBlock, Option.some.injEq] at hk
    exact hk ▸ hFg
  · simp only [Value.ownBlock, Option.some.injEq] at hk
    exact Or.inl (hk ▸ hg)
  · exact Nat.le_trans (List.length_filter_le _ _) m.big.2.1
  · exact Touch.setCell (F := F) (p := ⟨hp, 7, none⟩) (ht.mono (fun k hk => hk ▸ hFg)) (Or.inl m.fh) _

set_option maxHeartbeats 4000000 in
set_option maxRecDepth 100000 in
theorem freeM_any {w : World} {hp bp : Nat} {S : HpSt} {vm vb vh : Value} {vhs : List Value} {F G : Nat → Prop} {M : Nat} {b : BookSt} (h : HB w hp bp S vm vb vh vhs F G M b) (q : Int) :
    Calls Try.prog 8 #[.pointer (some ⟨hp, 0, none⟩), .int .i64 q] w (FrPost w hp bp S vm vb vh vhs F G M b q) := by
  have B0 : Below w.heap.size w (w.alloc (.cells #[.int .i64 q] 3)) := (Below.refl _ w).alloc (Nat.le_refl _) _
  have N0 := heap_alloc_new w (.cells #[.int .i64 q] 3)
  have h1 := h.below B0
  have FD := Lib.hid (findM_any h1.hm q)
  have BB := Lib.hid B0
  have H1 := Lib.hid h1
  have HN := Lib.hid N0
  have c3 : (w.alloc (.cells #[.int .i64 q] 3)).cell? ⟨w.heap.size, 0, none⟩ = some (.int .i64 q) := (cell_of N0 0).trans rfl
  have c7 := h1.hm.cells.2.2.2.2.2.2.2.1
  obtain ⟨va, vc, hvb⟩ := wrow_sh h.hm.row.1
  have HVB := Lib.hid hvb
  have hfew := h.hm.big.2.1
  obtain ⟨BL, hBL⟩ : ∃ BL, S.bl.length = BL := ⟨_, rfl⟩
  have HBL := Lib.hid hBL
  rw [hBL] at hfew
  rw [hvb, hBL] at c7
  have f7 := free_of h1.hm.self 7
  clear B0 N0 h1 h hvb hBL
  go_enter Try.func8, Try.ntmps8
  go_wp2_with fail
  generalize w.alloc (.cells #[.int .i64 q] 3) = W0 at *
  refine FD.out.mono ?_
  rintro e w1 ⟨hw1, hpost⟩
  obtain rfl := hw1.symm
  clear hw1
  rcases hpost with ⟨he, rfl⟩ | ⟨he, i, x, g, cap, hf, hv, rfl⟩
  · have he' : (fndE S q != 0) = true := by simpa using he
    have FIN : Hid (FrPost w hp bp S vm vb vh vhs F G M b q (.returned (.int .i64 (fndE S q))) W0) := Lib.hid ⟨rfl, Or.inl ⟨he, BB.out⟩⟩
    clear he
    generalize fndE S q = er at *
    go_wp2_with fail
    go_ret
    exact FIN.out
  · obtain ⟨hx, hxh⟩ := findB_at hf
    have h0 : 0 < S.bl.length := by
      have := (List.getElem?_eq_some_iff.1 hx).1
      omega
    have egD : ∀ args w, (callFunc 30 args).run Try.prog w = .ok (.enter 30 args) w := enters_of Try.func30 (by kernel_rfl) rfl
    have hr := H1.out.hm.row.1
    rw [hv] at hr
    have hgne : w.heap.size ≠ g := fun e => by
      have h2 := H1.out.hm.row.2 g (by rw [hv]; rfl)
      obtain ⟨cur, hc⟩ := row_block hr (k := g) rfl
      rw [← e, HN.out] at hc
      simp at hc
    have C := bdeleteFunc_row _ g cap S.bl 30 #[.pointer (some ⟨w.heap.size, 0, none⟩)] (fun y => decide ((y.h : Int) = q)) W0 hr h0 (by rw [HBL.out]; omega) egD (fun W y hT => free1 y w.heap.size q W ((cell_of ((hT.block _ (lt_of HN.out) hgne).trans HN.out) 0).trans rfl))
    have HC := Lib.hid C
    have HG : Hid (vb.ownBlock = some g) := Lib.hid (by rw [hv]; rfl)
    have hv2 := HVB.out
    rw [hv, HBL.out] at hv2
    simp only [Value.slice.injEq] at hv2
    obtain ⟨rfl, _, rfl⟩ := hv2
    have HE := Lib.hid he
    rw [HBL.out] at HC
    have hgl := lt_of (row_block hr (k := g) rfl).choose_spec
    clear egD hr C hx hxh hf hv h0
    clear he
    go_wp2_with fail
    refine HC.out.mono ?_
    rintro e w2 ⟨n, hn, rfl, hr2, ht2⟩
    have HF := H1.out.freed q HG.out hn hr2 ht2
    have d7 : w2.cell? ⟨hp, 7, none⟩ = some (.slice (some ⟨g, 0, none⟩) BL cap) := (cell_of ((ht2.block hp (lt_of H1.out.hm.self) (fun e => H1.out.hm.apart.1 g HG.out e.symm)).trans H1.out.hm.self) 7).trans (by show some vb = _; rw [HVB.out, HBL.out])
    have f7 := free_of ((ht2.block hp (lt_of H1.out.hm.self) (fun e => H1.out.hm.apart.1 g HG.out e.symm)).trans H1.out.hm.self) 7
    have FIN : Hid (FrPost w hp bp S vm vb vh vhs F G M b q (.returned (.int .i64 0)) (w2.setCell ⟨hp, 7, none⟩ (.slice (some ⟨g, 0, none⟩) n cap))) := Lib.hid ⟨by rw [HE.out], Or.inr ⟨HE.out, _, HF.1, (Touch.of_below BB.out).then HF.2⟩⟩
    clear HF hn hr2 ht2 HC
    go_wp2_with fail
    go_ret
    exact FIN.out

end
end Go.Proofs.Ytjogaohnphafgaa
