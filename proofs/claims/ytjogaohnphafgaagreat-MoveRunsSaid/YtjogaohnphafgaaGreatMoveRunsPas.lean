/-
  A heap's memory written, cleared; its blocks changed. No conditions but bounds.
-/
import Derived.Test.YtjogaohnphafgaaGreatMoveRunsPar
namespace Go.Proofs.YtjogaohnphafgaaGreat
open Go.RowKit
set_option linter.unusedVariables false

theorem byteRow.owns {w : World} {g : Nat} {cs : List Int} (h : byteRow w g cs) (hn : cs.length ≤ 100000) : w.ownsRow 0 5 1 (.slice (some ⟨g, 0, none⟩) cs.length cs.length) cs.length (cs.map (Value.int .u8)) := by
  refine ⟨by rw [List.length_map, Nat.mul_one], Or.inr ⟨g, cs.length, _, rfl, Nat.zero_le _, h, Nat.le_refl _, by unfold maxLen; omega, by simp, ?_⟩⟩
  rw [List.toList_toArray, List.take_of_length_le (by rw [List.length_map]; omega)]
theorem HpMem.bytes {w : World} {F : Nat → Prop} {hp bp : Nat} {S : HpSt} {vm vb vh : Value} {vhs : List Value} (m : HpMem w F hp bp S vm vb vh vhs) (h0 : 0 < S.mem.length) : ∃ g, vm = .slice (some ⟨g, 0, none⟩) S.mem.length S.mem.length ∧ byteRow w g S.mem ∧ F g := by
  rcases m.msh with ⟨_, h1⟩ | ⟨g, hg⟩
  · omega
  · refine ⟨g, hg, ?_, m.mem.2 g (by rw [hg]; rfl)⟩
    rcases m.mem.1.2 with ⟨h1, h2⟩ | ⟨g', cap, cur, h1, _, hb, hle, _, hsz, htk⟩
    · omega
    · rw [hg] at h1
      simp only [Value.slice.injEq, Option.some.injEq, Addr.mk.injEq, and_true] at h1
      obtain ⟨rfl, _, rfl⟩ := h1
      have e : cur = (S.mem.map (Value.int .u8)).toArray := by
        rw [← htk, List.take_of_length_le (by rw [Array.length_toList, hsz]; omega)]
      rw [e] at hb
      exact hb
/-- A heap with another state, whose history is the same. -/
theorem HB.re {w w' : World} {hp bp : Nat} {S S' : HpSt} {vm vb vm' vb' vh : Value} {vhs : List Value} {F F' G : Nat → Prop} {M : Nat} {b : BookSt} (h : HB w hp bp S vm vb vh vhs F G M b)
    (hF : ∀ k, F k → F' k) (hF' : ∀ k, F' k → F k ∨ w.heap.size ≤ k) (hFl : ∀ k, F' k → k < w'.heap.size) (hsz : w.heap.size ≤ w'.heap.size)
    (keep : ∀ k, k < w.heap.size → k ≠ hp → vm.ownBlock ≠ some k → vb.ownBlock ≠ some k → w'.heap[k]? = w.heap[k]?)
    (hself : w'.heap[hp]? = some (.cells (hpCells bp S' vm' vb' vh) 75 (0, 0)))
    (hmem : w'.ownsRow 0 5 1 vm' S'.mem.length (S'.mem.map (Value.int .u8)) ∧ ∀ k, vm'.ownBlock = some k → F' k) (hmb : bytes S'.mem) (hms : memSh vm' S'.mem.length) (hml : S'.mem.length = S.mem.length)
    (hrow : w'.ownsRow 0 78 3 vb' S'.bl.length (S'.bl.flatMap Blk.cells) ∧ ∀ k, vb'.ownBlock = some k → F' k) (hvb : ∀ k, vb'.ownBlock = some k → vb.ownBlock = some k ∨ w.heap.size ≤ k) (hh : S'.hist = S.hist)
    (hord : (S'.bl.map Blk.h).Pairwise (· < ·)) (hb : ∀ x ∈ S'.bl, 1 ≤ x.h ∧ x.h ≤ S'.last ∧ x.at' + x.len ≤ S'.mem.length) (hbig : S'.bl.length ≤ 500 ∧ S'.last ≤ 1000000000 ∧ S'.count ≤ 1000000000) :
    HB w' hp bp S' vm' vb' vh vhs F' G M b := by
  have m := h.hm
  obtain ⟨a1, a2, a3, a4⟩ := m.apart
  have keepF : ∀ k, F k → k ≠ hp → vm.ownBlock ≠ some k → vb.ownBlock ≠ some k → w'.heap[k]? = w.heap[k]? := fun k hk => keep k (h.fl k hk)
  refine ⟨⟨hself, hF _ m.fh, hmem, hmb, hms, hrow, ⟨?_, fun k hk => hF _ (m.hrow.2 k hk)⟩, ⟨by rw [hh]; exact m.hs.1, fun i v l h1 h2 => ?_⟩, hord, hb, ⟨by rw [hml]; exact m.big.1, hbig.1, hbig.2.1, hbig.2.2, by rw [hh]; exact m.big.2.2.2.2⟩⟩, ?_, fun k hk hg => ?_, hFl⟩
  · rw [hh]
    exact ownsRow_same m.hrow.1 (fun k hk => keepF k (m.hrow.2 k hk) (a2 k hk) (rowApart m.hrow.1 m.mem.1 (by decide) hk) (rowApart m.hrow.1 m.row.1 (by decide) hk))
  · rw [hh] at h2
    obtain ⟨r1, r2⟩ := m.hs.2 i v l h1 h2
    refine ⟨ownsRow_same r1 (fun k hk => keepF k (r2 k hk).1 (a3 i v h1 k hk) (rowApart r1 m.mem.1 (by decide) hk) (r2 k hk).2), fun k hk => ⟨hF _ (r2 k hk).1, fun e => ?_⟩⟩
    rcases hvb k e with e | e
    · exact (r2 k hk).2 e
    · have := h.fl k (r2 k hk).1
      omega
  · rw [hml]
    refine h.bk.same (fun k hk => keep k (h.bk.gl k hk) (fun e => ?_) (fun e => h.dis k (m.mem.2 k e) hk) (fun e => h.dis k (m.row.2 k e) hk)) hsz
    subst e
    exact h.dis k m.fh hk
  · rcases hF' k hk with e | e
    · exact h.dis k e hg
    · have := h.bk.gl k hg
      omega
/-- The memory's octets are others. -/
theorem HB.octs {w w' : World} {hp bp g : Nat} {S : HpSt} {vm vb vh : Value} {vhs : List Value} {F G : Nat → Prop} {M : Nat} {b : BookSt} (h : HB w hp bp S vm vb vh vhs F G M b) {cs : List Int} (hg : vm = .slice (some ⟨g, 0, none⟩) S.mem.length S.mem.length) (hr : byteRow w' g cs) (hl : cs.length = S.mem.length) (hb : Go.Proofs.YtjogaohnphafgaaGreat.bytes cs) (ht : Touch (fun k => k = g) w w') :
    HB w' hp bp { S with mem := cs } vm vb vh vhs F G M b := by
  have m := h.hm
  have hg1 : vm.ownBlock = some g := by rw [hg]; rfl
  have hne : hp ≠ g := fun e => m.apart.2.2.2 g hg1 e.symm
  refine h.re (fun k hk => hk) (fun k hk => Or.inl hk) (fun k hk => Nat.lt_of_lt_of_le (h.fl k hk) ht.size) ht.size (fun k hk _ hv _ => ht.block k hk (fun e => hv (e ▸ hg1))) ?_ ⟨?_, m.mem.2⟩ hb ?_ hl ⟨?_, m.row.2⟩ (fun k hk => Or.inl hk) rfl m.ord (fun x hx => ?_) ⟨m.big.2.1, m.big.2.2.1, m.big.2.2.2.1⟩
  · exact (ht.block _ (lt_of m.self) hne).trans m.self
  · have := hr.owns (by rw [hl]; exact m.big.1)
    rw [hg]
    show w'.ownsRow 0 _ 1 (.slice (some ⟨g, 0, none⟩) S.mem.length S.mem.length) cs.length _
    rw [hl] at this ⊢
    exact this
  · show memSh vm cs.length
    rw [hl]; exact m.msh
  · exact rowFar m.row.1 ht (fun k hk e => rowApart m.row.1 m.mem.1 (by decide) hk (e ▸ hg1))
  · show 1 ≤ x.h ∧ x.h ≤ S.last ∧ x.at' + x.len ≤ cs.length
    rw [hl]; exact m.hb x hx
theorem fill_bytes {cs : List Int} (h : bytes cs) : ∀ (n o : Nat), bytes (fill 0 cs o n) := by
  intro n
  induction n generalizing cs with
  | zero => intro o; exact h
  | succ n ih =>
    intro o
    unfold fill
    refine ih (fun u hu => ?_) (o + 1)
    rcases List.mem_or_eq_of_mem_set hu with h1 | h1
    · exact h u h1
    · rw [h1]; omega
/-- clear of octets of the memory. -/
theorem HB.clr {w : World} {hp bp : Nat} {S : HpSt} {vm vb vh : Value} {vhs : List Value} {F G : Nat → Prop} {M : Nat} {b : BookSt} (h : HB w hp bp S vm vb vh vhs F G M b) (at' n c : Nat) (f : Option Addr) (hle : at' + n ≤ S.mem.length)
    (hf : 0 < n → ∃ g, vm = .slice (some ⟨g, 0, none⟩) S.mem.length S.mem.length ∧ f = some ⟨g, at', none⟩) :
    ∃ w', (∀ ty, (Builtin.clear_ #[38] ty #[.slice f n c]).run Tryz.prog w = .ok (.tuple #[]) w') ∧ HB w' hp bp { S with mem := fill 0 S.mem at' n } vm vb vh vhs F G M b ∧ Touch (fun k => vm.ownBlock = some k) w w' := by
  by_cases h0 : n = 0
  · subst h0
    refine ⟨w, fun ty => ?_, h, Touch.refl _ _⟩
    cases f with
    | none => simp [Builtin.clear_, run_underlying Tryz.underlying38]
    | some a => simp [Builtin.clear_, run_underlying Tryz.underlying38]
  · obtain ⟨g, hg, hrow, _⟩ := h.hm.bytes (by omega)
    obtain ⟨w', h1, h2, h3⟩ := clear_fact w g at' n c f S.mem hrow hle (fun hn => by
      obtain ⟨g', hg', hf'⟩ := hf hn
      rw [hg] at hg'
      simp only [Value.slice.injEq, Option.some.injEq, Addr.mk.injEq, and_true] at hg'
      rw [hg']; exact hf')
    exact ⟨w', h1, h.octs hg h2 (fill_len _ _ _ _) (fill_bytes h.hm.mb _ _) h3, h3.mono (fun k hk => by rw [hg, hk]; rfl)⟩

/-! Where a place lies. -/
theorem gapsG_in : ∀ (l : List Blk) (a N : Nat), (∀ x ∈ l, x.at' ≤ N) → ∀ g ∈ gapsG a l, g.at' + g.len ≤ N
  | [], a, N, _, g, hg => by simp [gapsG] at hg
  | x :: l, a, N, h, g, hg => by
    unfold gapsG at hg
    rcases List.mem_append.1 hg with h1 | h1
    · split at h1
      · next hlt =>
        rw [List.mem_singleton] at h1
        subst h1
        have := h x List.mem_cons_self
        show a + (x.at' - a) ≤ N
        omega
      · cases h1
    · exact gapsG_in l _ N (fun y hy => h y (List.mem_cons_of_mem _ hy)) g h1
theorem gapsOf_in {M : Nat} {L : List Blk} (h : ∀ x ∈ L, x.at' ≤ M) : ∀ g ∈ gapsOf M L, g.at' + g.len ≤ M := gapsG_in _ _ _ (fun x hx => by
  rcases List.mem_append.1 hx with h1 | h1
  · exact h x h1
  · rw [List.mem_singleton] at h1
    subst h1
    exact Nat.le_refl _)
theorem gapSel_in {M n : Nat} {way : Int} {L : List Blk} {g : Gp} (h : gapSel M L n way = some g) : g ∈ gapsOf M L ∧ n ≤ g.len := by
  have hm : g ∈ gapC M L n := by
    unfold gapSel at h
    split at h
    · exact List.mem_of_head? h
    · exact minG_mem h
  unfold gapC at hm
  have := List.mem_filter.1 hm
  refine ⟨this.1, ?_⟩
  have h2 := this.2
  simp at h2
  exact h2

end Go.Proofs.YtjogaohnphafgaaGreat
