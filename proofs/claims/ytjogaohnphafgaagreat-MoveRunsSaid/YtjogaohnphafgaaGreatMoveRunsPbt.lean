/-
  What MoveRuns keeps between two calls: the heap, the reference's heap, the watched slices; how a call turns it. No conditions.
-/
import Derived.Test.YtjogaohnphafgaaGreatMoveRunsPbq
import Derived.Test.YtjogaohnphafgaaGreatMoveRunsPbs
import Derived.Test.YtjogaohnphafgaaGreatMoveRunsPbk
namespace Go.Proofs.YtjogaohnphafgaaGreat
open Go.RowKit
set_option linter.unusedVariables false

theorem CelF.lt {w : World} {B c : Nat} {prs : List (Value × Value)} (h : CellsAt w B c prs) {k : Nat} (hk : CelF w c k) : k < w.heap.size := by
  obtain ⟨_, vo, vw, hc, ho, hw, _⟩ := h
  rcases hk with rfl | ⟨vo', vw', h1, h2⟩
  · exact lt_of hc
  · rw [hc] at h1
    simp at h1
    obtain ⟨rfl, rfl⟩ := h1
    rcases h2 with h2 | h2
    · exact (ho.lt k h2).2
    · exact (hw.lt k h2).2
theorem CelF.low {w : World} {B c : Nat} {prs : List (Value × Value)} (h : CellsAt w B c prs) {k : Nat} (hk : CelF w c k) : B ≤ k := by
  obtain ⟨hB, vo, vw, hc, ho, hw, _⟩ := h
  rcases hk with rfl | ⟨vo', vw', h1, h2⟩
  · exact hB
  · rw [hc] at h1
    simp at h1
    obtain ⟨rfl, rfl⟩ := h1
    rcases h2 with h2 | h2
    · exact row_base ho h2
    · exact row_base hw h2
theorem CellsAt.kept {w w' : World} {B c : Nat} {prs : List (Value × Value)} (h : CellsAt w B c prs) (hk : ∀ k, CelF w c k → w'.heap[k]? = w.heap[k]?) : CellsAt w' B c prs ∧ ∀ k, CelF w' c k → CelF w c k := by
  have h' := h
  obtain ⟨hB, vo, vw, hc, ho, hw, hs, hl⟩ := h
  have e := hk c (Or.inl rfl)
  refine ⟨⟨hB, vo, vw, e.trans hc, ownsRow_same ho (fun k h => hk k (Or.inr ⟨vo, vw, hc, Or.inl h⟩)), ownsRow_same hw (fun k h => hk k (Or.inr ⟨vo, vw, hc, Or.inr h⟩)), hs, hl⟩, fun k h => ?_⟩
  rcases h with h | ⟨a, b, h1, h2⟩
  · exact Or.inl h
  · exact Or.inr ⟨a, b, e.symm.trans h1, h2⟩
theorem RfMem.narrow {w : World} {F : Nat → Prop} {rp pp M : Nat} {S : HpSt} {kept : List (List Blk)} {vm vb vk : Value} {vks : List Value} (m : RfMem w F rp pp M S kept vm vb vk vks) : RfMem w (fun k => F k ∧ k < w.heap.size) rp pp M S kept vm vb vk vks :=
  ⟨m.self, ⟨m.fr, lt_of m.self⟩, m.purse, ⟨m.fp, lt_of m.purse⟩, ⟨m.mem.1, fun k hk => ⟨m.mem.2 k hk, (m.mem.1.lt k hk).2⟩⟩, m.mb, m.msh, ⟨m.row.1, fun k hk => ⟨m.row.2 k hk, by obtain ⟨_, h⟩ := m.row.1.block hk; exact lt_of h⟩⟩, ⟨m.krow.1, fun k hk => ⟨m.krow.2 k hk, (m.krow.1.lt k hk).2⟩⟩,
    ⟨m.ks.1, fun i v l h1 h2 => ⟨(m.ks.2 i v l h1 h2).1, fun k hk => ⟨⟨((m.ks.2 i v l h1 h2).2 k hk).1, ((m.ks.2 i v l h1 h2).1.lt k hk).2⟩, ((m.ks.2 i v l h1 h2).2 k hk).2⟩⟩⟩, m.ord, m.hb, m.big, m.kb⟩
theorem RfMem.touch {w w' : World} {F Z : Nat → Prop} {rp pp M : Nat} {S : HpSt} {kept : List (List Blk)} {vm vb vk : Value} {vks : List Value} (m : RfMem w F rp pp M S kept vm vb vk vks) (ht : Touch Z w w') (hF : ∀ k, Z k → ¬ F k) : RfMem w' F rp pp M S kept vm vb vk vks :=
  m.same (fun k hk hl => ht.block k hl (fun e => hF k e hk))

/-- The memory's octets are others; whatever else was turned is no part of the heap. -/
theorem HB.octs2 {w w' : World} {hp bp g : Nat} {S : HpSt} {vm vb vh : Value} {vhs : List Value} {F G Z : Nat → Prop} {M : Nat} {b : BookSt} (h : HB w hp bp S vm vb vh vhs F G M b) {cs : List Int} (hg : vm = .slice (some ⟨g, 0, none⟩) S.mem.length S.mem.length) (hr : byteRow w' g cs) (hl : cs.length = S.mem.length) (hb : Go.Proofs.YtjogaohnphafgaaGreat.bytes cs) (ht : Touch Z w w') (hZF : ∀ k, Z k → F k → k = g) (hZG : ∀ k, Z k → ¬ G k) :
    HB w' hp bp { S with mem := cs } vm vb vh vhs F G M b := by
  have m := h.hm
  have hg1 : vm.ownBlock = some g := by rw [hg]; rfl
  have far : ∀ k, F k → k ≠ g → w'.heap[k]? = w.heap[k]? := fun k hk hne => ht.block k (h.fl k hk) (fun e => hne (hZF k e hk))
  have ap : ∀ {B size n : Nat} {e : TypeId} {v : Value} {xs : List Value}, w.ownsRow B e size v n xs → e ≠ 5 → ∀ k, v.ownBlock = some k → k ≠ g := fun {B size n e v xs} hrow he k hk e2 => rowApart hrow m.mem.1 he hk (e2 ▸ hg1)
  refine ⟨⟨(far _ m.fh (fun e => m.apart.2.2.2 g hg1 e.symm)).trans m.self, m.fh, ⟨?_, m.mem.2⟩, hb, ?_, ⟨ownsRow_same m.row.1 (fun k hk => far k (m.row.2 k hk) (ap m.row.1 (by decide) k hk)), m.row.2⟩, ⟨ownsRow_same m.hrow.1 (fun k hk => far k (m.hrow.2 k hk) (ap m.hrow.1 (by decide) k hk)), m.hrow.2⟩, ⟨m.hs.1, fun i v l h1 h2 => ⟨ownsRow_same (m.hs.2 i v l h1 h2).1 (fun k hk => far k ((m.hs.2 i v l h1 h2).2 k hk).1 (ap (m.hs.2 i v l h1 h2).1 (by decide) k hk)), (m.hs.2 i v l h1 h2).2⟩⟩, m.ord, fun x hx => ?_, ⟨by show cs.length ≤ _; rw [hl]; exact m.big.1, m.big.2⟩⟩, ?_, h.dis, fun k hk => Nat.lt_of_lt_of_le (h.fl k hk) ht.size⟩
  · have := hr.owns (by rw [hl]; exact m.big.1)
    rw [hg]
    show w'.ownsRow 0 _ 1 (.slice (some ⟨g, 0, none⟩) S.mem.length S.mem.length) cs.length _
    rw [hl] at this ⊢
    exact this
  · show memSh vm cs.length
    rw [hl]; exact m.msh
  · show 1 ≤ x.h ∧ x.h ≤ S.last ∧ x.at' + x.len ≤ cs.length
    rw [hl]; exact m.hb x hx
  · show BkIn w' G bp M cs.length b
    rw [hl]
    exact h.bk.touch ht hZG
theorem RfMem.octs2 {w w' : World} {F Z : Nat → Prop} {rp pp M g : Nat} {S : HpSt} {kept : List (List Blk)} {vm vb vk : Value} {vks : List Value} (m : RfMem w F rp pp M S kept vm vb vk vks) {cs : List Int} (hg : vm = .slice (some ⟨g, 0, none⟩) S.mem.length S.mem.length) (hr : byteRow w' g cs) (hl : cs.length = S.mem.length) (hb : Go.Proofs.YtjogaohnphafgaaGreat.bytes cs) (ht : Touch Z w w') (hZF : ∀ k, Z k → F k → k = g) :
    RfMem w' F rp pp M { S with mem := cs } kept vm vb vk vks := by
  have hg1 : vm.ownBlock = some g := by rw [hg]; rfl
  have far : ∀ {k : Nat} {cur : Array Value} {e : TypeId}, F k → w.heap[k]? = some (.cells cur e (0, 0)) → e ≠ 5 → w'.heap[k]? = w.heap[k]? := fun {k cur e} hf hk he => ht.block k (lt_of hk) (fun ez => by
    have e2 := hZF k ez hf
    obtain ⟨c2, h2⟩ := row_block m.mem.1 hg1
    rw [← e2, hk] at h2
    simp at h2
    exact he h2.2)
  refine m.re (fun _ h => h) ((far m.fr m.self (by decide)).trans m.self) ?_ ⟨?_, m.mem.2⟩ hb ?_ ⟨?_, fun k hk => ⟨m.row.2 k hk, Or.inl hk⟩⟩ (fun k hf hk _ _ hv _ => ht.block k hk (fun e => hv (by rw [hZF k e hf]; exact hg1))) m.ord (fun x hx => ?_) ⟨?_, m.big.2.1, m.big.2.2.1, m.big.2.2.2.1, ?_⟩
  · show _ = some (Obj.cells #[Value.int .i64 (cs.length : Int), .int .i64 (M : Int)] 37 (0, 0))
    rw [hl]
    exact (far m.fp m.purse (by decide)).trans m.purse
  · have := hr.owns (by rw [hl]; exact m.big.1)
    rw [hg]
    show w'.ownsRow 0 _ 1 (.slice (some ⟨g, 0, none⟩) S.mem.length S.mem.length) cs.length _
    rw [hl] at this ⊢
    exact this
  · show memSh vm cs.length
    rw [hl]; exact m.msh
  · exact m.row.1.same (fun k hk => by obtain ⟨cur, hc⟩ := m.row.1.block hk; exact far (m.row.2 k hk) hc (by decide))
  · show 1 ≤ x.h ∧ x.h ≤ S.last ∧ x.at' + x.len ≤ cs.length
    rw [hl]; exact m.hb x hx
  · show cs.length ≤ 100000
    rw [hl]; exact m.big.1
  · show cs.length ≤ M
    rw [hl]; exact m.big.2.2.2.2.2.2

/-- What MoveRuns keeps. X: foreign blocks. -/
structure MrI (w0 : World) (hp bp rp pp cp n M : Nat) (X : Nat → Prop) (S : HpSt) (vm vb vh : Value) (vhs : List Value) (F G : Nat → Prop) (b : BookSt) (kept : List (List Blk)) (um ub uk : Value) (uks : List Value) (E : Nat → Prop) (R : Rel) (prs : List (Value × Value)) (w : World) : Prop where
  bel : Below w0.heap.size w0 w
  hb : HB w hp bp S vm vb vh vhs F G M b
  rf : RfMem w E rp pp M S kept um ub uk uks
  el : ∀ k, E k → k < w.heap.size
  z : ∀ k, F k ∨ G k ∨ E k → w0.heap.size ≤ k
  fe : ∀ k, F k ∨ G k → ¬ E k
  ca : CellsAt w w0.heap.size cp prs
  ct : Twins w w0.heap.size R
  pr : ∀ xy ∈ prs, Pr R xy
  cf : ∀ k, CelF w cp k → ¬ F k ∧ ¬ G k ∧ ¬ E k
  tw : ∀ b o c p, R b o c p → ((F b ∨ E c) → vm.ownBlock = some b ∧ um.ownBlock = some c ∧ o = p ∧ o < S.mem.length) ∧ ¬ G b ∧ ¬ E b ∧ ¬ F c ∧ ¬ G c
  cur : ∀ g g', vm.ownBlock = some g → um.ownBlock = some g' → ∀ o, o < S.mem.length → R g o g' o
  few : prs.length ≤ n
  xx : ∀ k, X k → ¬ F k ∧ ¬ G k ∧ ¬ E k ∧ ¬ CelF w cp k ∧ ¬ InR R k ∧ k < w.heap.size
/-- The foreign blocks stay. -/
def Stay (X : Nat → Prop) (w w' : World) : Prop := ∀ k, X k → w'.heap[k]? = w.heap[k]?
section
variable {w0 w w1 w2 : World} {hp bp rp pp cp n M : Nat} {S S' : HpSt} {vm vb vh vm2 vb2 vh2 um ub uk um2 ub2 uk2 : Value} {vhs vhs2 uks uks2 : List Value} {F G E F2 G2 E2 X : Nat → Prop} {b b2 : BookSt} {kept kept2 : List (List Blk)} {R : Rel} {prs : List (Value × Value)}
theorem HB.cell {w : World} {hp bp : Nat} {S : HpSt} {vm vb vh : Value} {vhs : List Value} {F G : Nat → Prop} {M : Nat} {b : BookSt} (h : HB w hp bp S vm vb vh vhs F G M b) {g o : Nat} (hg : vm.ownBlock = some g) (ho : o < S.mem.length) : w.cell? ⟨g, o, none⟩ = some (.int .u8 (S.mem[o]'ho)) := by
  obtain ⟨g', hv, hr, _⟩ := h.hm.bytes (by omega)
  rw [hv] at hg
  simp only [Value.ownBlock, Option.some.injEq] at hg
  subst hg
  rw [hr.cell o ho, List.getD_eq_getElem?_getD, List.getElem?_eq_getElem ho]
  rfl
theorem RfMem.cell {w : World} {F : Nat → Prop} {rp pp M : Nat} {S : HpSt} {kept : List (List Blk)} {vm vb vk : Value} {vks : List Value} (h : RfMem w F rp pp M S kept vm vb vk vks) {g o : Nat} (hg : vm.ownBlock = some g) (ho : o < S.mem.length) : w.cell? ⟨g, o, none⟩ = some (.int .u8 (S.mem[o]'ho)) := by
  obtain ⟨g', hv, hr, _⟩ := h.bytes (by omega)
  rw [hv] at hg
  simp only [Value.ownBlock, Option.some.injEq] at hg
  subst hg
  rw [hr.cell o ho, List.getD_eq_getElem?_getD, List.getElem?_eq_getElem ho]
  rfl
/-- Both heaps are turned. -/
theorem MrI.turn0 (h : MrI w0 hp bp rp pp cp n M X S vm vb vh vhs F G b kept um ub uk uks E R prs w)
    (hb : HB w2 hp bp S' vm2 vb2 vh2 vhs2 F2 G2 M b2) (hr : RfMem w2 E2 rp pp M S' kept2 um2 ub2 uk2 uks2) (m1 : MemTo w.heap.size S.mem.length S'.mem.length vm vm2) (m2 : MemTo w.heap.size S.mem.length S'.mem.length um um2)
    (f1 : ∀ k, F2 k → Lost F vm vm2 k ∨ w.heap.size ≤ k) (g1 : ∀ k, G2 k → G k ∨ w.heap.size ≤ k) (e1 : ∀ k, E2 k → Lost E um um2 k ∨ w.heap.size ≤ k) (d : ∀ k, F2 k ∨ G2 k → ¬ E2 k) (el2 : ∀ k, E2 k → k < w2.heap.size)
    (t : Touch (fun k => Lost F vm vm2 k ∨ G k ∨ Lost E um um2 k) w w2) :
    (∃ R2, MrI w0 hp bp rp pp cp n M X S' vm2 vb2 vh2 vhs2 F2 G2 b2 kept2 um2 ub2 uk2 uks2 E2 R2 prs w2) ∧ Stay X w w2 := by
  have s1 := t.size
  have s0 := h.bel.size
  have fl := h.hb.fl
  have gl := h.hb.bk.gl
  have el := h.el
  have b1 : Below w0.heap.size w w2 := t.below s0 (fun k hk => h.z k (hk.elim (fun e => Or.inl e.1) (fun e => e.elim (fun e => Or.inr (Or.inl e)) (fun e => Or.inr (Or.inr e.1)))))
  have keepC : ∀ k, CelF w cp k → w2.heap[k]? = w.heap[k]? := fun k hk => by
    have hl := CelF.lt h.ca hk
    obtain ⟨c1, c2, c3⟩ := h.cf k hk
    exact t.block k hl (fun e => e.elim (fun e => c1 e.1) (fun e => e.elim c2 (fun e => c3 e.1)))
  obtain ⟨ca, cf⟩ := h.ca.kept keepC
  have mb' := hb.hm.mb
  -- the cells beside each other
  have mixed : ∀ b o c p, R b o c p → (F b ∨ E c) → (vm2 = vm ∧ um2 = um ∧ S'.mem.length = S.mem.length) ∨ ((∀ k, vm2.ownBlock = some k → w.heap.size ≤ k) ∧ ∀ k, um2.ownBlock = some k → w.heap.size ≤ k) := fun b o c p hR hFE => by
    obtain ⟨_, _, _, h4⟩ := (h.tw b o c p hR).1 hFE
    rcases m1 with ⟨a1, a2⟩ | ⟨a1, a2⟩ <;> rcases m2 with ⟨c1, c2⟩ | ⟨c1, c2⟩
    · exact Or.inl ⟨a1, c1, a2⟩
    · exact absurd (c1 a2) (by omega)
    · exact absurd (a1 c2) (by omega)
    · exact Or.inr ⟨a2, c2⟩
  have far : ∀ b o c p, R b o c p → ¬ ((F b ∨ E c) ∧ vm2 = vm) → w2.heap[b]? = w.heap[b]? ∧ w2.heap[c]? = w.heap[c]? := fun b o c p hR hn => by
    obtain ⟨hb1, hc1⟩ := h.ct.lt hR
    obtain ⟨i1, i2, i3, i4, i5⟩ := h.tw b o c p hR
    have nb : ¬ Lost F vm vm2 b := fun e => by
      obtain ⟨j1, j2, j3, j4⟩ := i1 (Or.inl e.1)
      rcases mixed b o c p hR (Or.inl e.1) with ⟨k1, _⟩ | ⟨k1, _⟩
      · exact hn ⟨Or.inl e.1, k1⟩
      · have := k1 b (e.2 j1); omega
    have nc : ¬ Lost E um um2 c := fun e => by
      obtain ⟨j1, j2, j3, j4⟩ := i1 (Or.inr e.1)
      rcases mixed b o c p hR (Or.inr e.1) with ⟨k1, _⟩ | ⟨_, k1⟩
      · exact hn ⟨Or.inr e.1, k1⟩
      · have := k1 c (e.2 j2); omega
    exact ⟨t.block b hb1 (fun e => e.elim nb (fun e => e.elim i2 (fun e => i3 e.1))), t.block c hc1 (fun e => e.elim (fun e => i4 e.1) (fun e => e.elim i5 nc))⟩
  have same : ∀ b o c p, R b o c p → (F b ∨ E c) ∧ vm2 = vm → vm2 = vm ∧ um2 = um ∧ S'.mem.length = S.mem.length := fun b o c p hR hn => by
    obtain ⟨j1, j2, j3, j4⟩ := (h.tw b o c p hR).1 hn.1
    rcases mixed b o c p hR hn.1 with k | ⟨k, _⟩
    · exact k
    · have := k b (by rw [hn.2]; exact j1)
      have := (h.ct.lt hR).1
      omega
  have rows : ∀ b o c p, R b o c p → (∃ cs, w2.heap[b]? = some (.cells cs 5 (0, 0))) ∧ ∃ cs, w2.heap[c]? = some (.cells cs 5 (0, 0)) := fun b o c p hR => by
    obtain ⟨_, _, ⟨cs, r1⟩, ⟨ds, r2⟩⟩ := h.ct.row b o c p hR
    by_cases hn : (F b ∨ E c) ∧ vm2 = vm
    · obtain ⟨j1, j2, j3, j4⟩ := (h.tw b o c p hR).1 hn.1
      obtain ⟨k1, k2, k3⟩ := same b o c p hR hn
      rw [← k1] at j1
      rw [← k2] at j2
      exact ⟨row_block hb.hm.mem.1 j1, row_block hr.mem.1 j2⟩
    · obtain ⟨q1, q2⟩ := far b o c p hR hn
      exact ⟨⟨cs, q1.trans r1⟩, ⟨ds, q2.trans r2⟩⟩
  have ct : Twins w2 w0.heap.size R := by
    refine ⟨fun b o c p hR => ?_, fun b o c p hR => ⟨(h.ct.row b o c p hR).1, (h.ct.row b o c p hR).2.1, rows b o c p hR⟩, h.ct.one, h.ct.inj, h.ct.apart⟩
    by_cases hn : (F b ∨ E c) ∧ vm2 = vm
    · obtain ⟨j1, j2, j3, j4⟩ := (h.tw b o c p hR).1 hn.1
      obtain ⟨k1, k2, k3⟩ := same b o c p hR hn
      rw [← k1] at j1
      rw [← k2] at j2
      subst j3
      have ho : o < S'.mem.length := by omega
      have hz := mb' _ (List.getElem_mem ho)
      exact ⟨_, hz.1, hz.2, hb.cell j1 ho, hr.cell j2 ho⟩
    · obtain ⟨q1, q2⟩ := far b o c p hR hn
      obtain ⟨z, z0, z1, v1, v2⟩ := h.ct.val b o c p hR
      exact ⟨z, z0, z1, (cell_blk q1).trans v1, (cell_blk q2).trans v2⟩
  have tw : ∀ b o c p, R b o c p → ((F2 b ∨ E2 c) → vm2.ownBlock = some b ∧ um2.ownBlock = some c ∧ o = p ∧ o < S'.mem.length) ∧ ¬ G2 b ∧ ¬ E2 b ∧ ¬ F2 c ∧ ¬ G2 c := fun b o c p hR => by
    obtain ⟨hb1, hc1⟩ := h.ct.lt hR
    obtain ⟨i1, i2, i3, i4, i5⟩ := h.tw b o c p hR
    refine ⟨fun e => ?_, fun e => (g1 b e).elim i2 (fun e => by omega), fun e => (e1 b e).elim (fun e => i3 e.1) (fun e => by omega), fun e => (f1 c e).elim (fun e => i4 e.1) (fun e => by omega), fun e => (g1 c e).elim i5 (fun e => by omega)⟩
    have key : (F b ∨ E c) ∧ ((Lost F vm vm2 b) ∨ Lost E um um2 c) := by
      rcases e with e | e
      · rcases f1 b e with e | e
        · exact ⟨Or.inl e.1, Or.inl e⟩
        · omega
      · rcases e1 c e with e | e
        · exact ⟨Or.inr e.1, Or.inr e⟩
        · omega
    obtain ⟨j1, j2, j3, j4⟩ := i1 key.1
    rcases mixed b o c p hR key.1 with ⟨k1, k2, k3⟩ | ⟨k1, k2⟩
    · rw [k1, k2, k3]
      exact ⟨j1, j2, j3, j4⟩
    · rcases key.2 with e | e
      · have := k1 b (e.2 j1); omega
      · have := k2 c (e.2 j2); omega
  have z' : ∀ k, F2 k ∨ G2 k ∨ E2 k → w0.heap.size ≤ k := fun k hk => by
    rcases hk with hk | hk | hk
    · exact (f1 k hk).elim (fun e => h.z k (Or.inl e.1)) (fun e => by omega)
    · exact (g1 k hk).elim (fun e => h.z k (Or.inr (Or.inl e))) (fun e => by omega)
    · exact (e1 k hk).elim (fun e => h.z k (Or.inr (Or.inr e.1))) (fun e => by omega)
  have cf' : ∀ k, CelF w2 cp k → ¬ F2 k ∧ ¬ G2 k ∧ ¬ E2 k := fun k hk => by
    have hk' := cf k hk
    have hl := CelF.lt h.ca hk'
    obtain ⟨c1, c2, c3⟩ := h.cf k hk'
    exact ⟨fun e => (f1 k e).elim (fun e => c1 e.1) (fun e => by omega), fun e => (g1 k e).elim c2 (fun e => by omega), fun e => (e1 k e).elim (fun e => c3 e.1) (fun e => by omega)⟩
  have xx' : ∀ k, X k → ¬ F2 k ∧ ¬ G2 k ∧ ¬ E2 k ∧ ¬ CelF w2 cp k ∧ k < w2.heap.size := fun k hk => by
    obtain ⟨x1, x2, x3, x4, x5, x6⟩ := h.xx k hk
    exact ⟨fun e => (f1 k e).elim (fun e => x1 e.1) (fun e => by omega), fun e => (g1 k e).elim x2 (fun e => by omega), fun e => (e1 k e).elim (fun e => x3 e.1) (fun e => by omega), fun e => x4 (cf k e), by omega⟩
  have stay : Stay X w w2 := fun k hk => by
    obtain ⟨x1, x2, x3, x4, x5, x6⟩ := h.xx k hk
    exact t.block k x6 (fun e => e.elim (fun e => x1 e.1) (fun e => e.elim x2 (fun e => x3 e.1)))
  refine ⟨?_, stay⟩
  have xR : ∀ k, X k → ¬ F2 k ∧ ¬ G2 k ∧ ¬ E2 k ∧ ¬ CelF w2 cp k ∧ ¬ InR R k ∧ k < w2.heap.size := fun k hk => by
    obtain ⟨x1, x2, x3, x4, x6⟩ := xx' k hk
    exact ⟨x1, x2, x3, x4, (h.xx k hk).2.2.2.2.1, x6⟩
  by_cases hnew : vm2 = vm ∧ um2 = um ∧ S'.mem.length = S.mem.length
  · obtain ⟨k1, k2, k3⟩ := hnew
    exact ⟨R, h.bel.trans b1, hb, hr, el2, z', d, ca, ct, h.pr, cf', tw, fun g g' hg hg' o ho => h.cur g g' (by rw [← k1]; exact hg) (by rw [← k2]; exact hg') o (by omega), h.few, xR⟩
  · by_cases h0 : S'.mem.length = 0
    · exact ⟨R, h.bel.trans b1, hb, hr, el2, z', d, ca, ct, h.pr, cf', tw, fun g g' hg hg' o ho => by omega, h.few, xR⟩
    · obtain ⟨n1, n2⟩ : (∀ k, vm2.ownBlock = some k → w.heap.size ≤ k) ∧ ∀ k, um2.ownBlock = some k → w.heap.size ≤ k := by
        rcases m1 with ⟨a1, a2⟩ | ⟨a1, a2⟩ <;> rcases m2 with ⟨c1, c2⟩ | ⟨c1, c2⟩
        · exact absurd ⟨a1, c1, a2⟩ hnew
        · exact absurd (c1 a2) h0
        · exact absurd (a1 c2) h0
        · exact ⟨a2, c2⟩
      obtain ⟨g, hg, hgr, hgF⟩ := hb.hm.bytes (by omega)
      obtain ⟨g', hg', hgr', hgE⟩ := hr.bytes (by omega)
      have hgo : vm2.ownBlock = some g := by rw [hg]; rfl
      have hgo' : um2.ownBlock = some g' := by rw [hg']; rfl
      have q1 := n1 g hgo
      have q2 := n2 g' hgo'
      have dg : ¬ E2 g := d g (Or.inl hgF)
      have dg' : ¬ F2 g' ∧ ¬ G2 g' := ⟨fun e => d g' (Or.inl e) hgE, fun e => d g' (Or.inr e) hgE⟩
      have hne : g ≠ g' := fun e => dg (e ▸ hgE)
      refine ⟨addR R g g' S'.mem.length, h.bel.trans b1, hb, hr, el2, z', d, ca, ct.add hne hgr hgr' mb' (by omega) (by omega) (fun b o c p hR => by have := h.ct.lt hR; omega), fun xy hxy => (h.pr xy hxy).mono (fun _ _ _ _ h => Or.inl h), cf', ?_, fun a a' ha ha' o ho => ?_, h.few, fun k hk => ?_⟩
      · rintro b o c p (hR | ⟨rfl, rfl, rfl, ho⟩)
        · exact tw b o c p hR
        · exact ⟨fun _ => ⟨hgo, hgo', rfl, ho⟩, fun e => hb.dis _ hgF e, dg, dg'.1, dg'.2⟩
      · rw [hgo] at ha
        rw [hgo'] at ha'
        cases ha
        cases ha'
        exact Or.inr ⟨rfl, rfl, rfl, ho⟩
      · obtain ⟨x1, x2, x3, x4, x6⟩ := xx' k hk
        have xk := (h.xx k hk).2.2.2.2.2
        refine ⟨x1, x2, x3, x4, ?_, x6⟩
        rintro ⟨b, o, c, p, hR | ⟨rfl, rfl, rfl, ho⟩, hkb⟩
        · exact (h.xx k hk).2.2.2.2.1 ⟨b, o, c, p, hR, hkb⟩
        · rcases hkb with rfl | rfl <;> omega
/-- First the program's heap, then the reference's. -/
theorem MrI.turn (h : MrI w0 hp bp rp pp cp n M X S vm vb vh vhs F G b kept um ub uk uks E R prs w)
    (hb : HB w1 hp bp S' vm2 vb2 vh2 vhs2 F2 G2 M b2) (m1 : MemTo w.heap.size S.mem.length S'.mem.length vm vm2) (f1 : ∀ k, F2 k → Lost F vm vm2 k ∨ w.heap.size ≤ k) (g1 : ∀ k, G2 k → G k ∨ w.heap.size ≤ k) (t1 : Touch (fun k => Lost F vm vm2 k ∨ G k) w w1)
    (hr : RfMem w2 E2 rp pp M S' kept2 um2 ub2 uk2 uks2) (m2 : MemTo w1.heap.size S.mem.length S'.mem.length um um2) (e1 : ∀ k, E2 k → Lost E um um2 k ∨ w1.heap.size ≤ k) (t2 : Touch (Lost E um um2) w1 w2) :
    (∃ R2, MrI w0 hp bp rp pp cp n M X S' vm2 vb2 vh2 vhs2 F2 G2 b2 kept2 um2 ub2 uk2 uks2 (fun k => E2 k ∧ k < w2.heap.size) R2 prs w2) ∧ Stay X w w2 := by
  have s1 := t1.size
  have el := h.el
  have F2E : ∀ k, F2 k → ¬ E k := fun k hk he => (f1 k hk).elim (fun e => h.fe k (Or.inl e.1) he) (fun e => by have := el k he; omega)
  have G2E : ∀ k, G2 k → ¬ E k := fun k hk he => (g1 k hk).elim (fun e => h.fe k (Or.inr e) he) (fun e => by have := el k he; omega)
  refine h.turn0 (hb.touch t2 (fun k hk hf => F2E k hf hk.1) (fun k hk hg => G2E k hg hk.1)) hr.narrow m1 (m2.mono s1) f1 g1 (fun k hk => (e1 k hk.1).imp id (fun e => Nat.le_trans s1 e)) (fun k hk he => ?_) (fun k hk => hk.2) ((t1.mono (fun k hk => hk.elim Or.inl (fun e => Or.inr (Or.inl e)))).then (t2.mono (fun k hk => Or.inr (Or.inr hk))))
  rcases e1 k he.1 with e | e
  · exact hk.elim (fun hk => F2E k hk e.1) (fun hk => G2E k hk e.1)
  · rcases hk with hk | hk
    · have := hb.fl k hk; omega
    · have := hb.bk.gl k hk; omega
/-- The octets alone are others, on both sides. -/
theorem MrI.octs (h : MrI w0 hp bp rp pp cp n M X S vm vb vh vhs F G b kept um ub uk uks E R prs w) (hb : HB w2 hp bp S' vm vb vh vhs F G M b) (hr : RfMem w2 E rp pp M S' kept um ub uk uks) (hl : S'.mem.length = S.mem.length) (t : Touch (fun k => F k ∨ E k) w w2) :
    (∃ R2, MrI w0 hp bp rp pp cp n M X S' vm vb vh vhs F G b kept um ub uk uks E R2 prs w2) ∧ Stay X w w2 :=
  h.turn0 hb hr (Or.inl ⟨rfl, hl⟩) (Or.inl ⟨rfl, hl⟩) (fun k hk => Or.inl (Lost.self hk)) (fun k hk => Or.inl hk) (fun k hk => Or.inl (Lost.self hk)) h.fe (fun k hk => Nat.lt_of_lt_of_le (h.el k hk) t.size) (t.mono (fun k hk => hk.elim (fun e => Or.inl (Lost.self e)) (fun e => Or.inr (Or.inr (Lost.self e)))))
/-- Nothing is turned. -/
theorem MrI.below (h : MrI w0 hp bp rp pp cp n M X S vm vb vh vhs F G b kept um ub uk uks E R prs w) (hb : Below w.heap.size w w1) : MrI w0 hp bp rp pp cp n M X S vm vb vh vhs F G b kept um ub uk uks E R prs w1 :=
  ⟨h.bel.trans (hb.mono h.bel.size), h.hb.below hb, h.rf.below hb, fun k hk => Nat.lt_of_lt_of_le (h.el k hk) hb.size, h.z, h.fe, h.ca.below hb, h.ct.below hb, h.pr, fun k hk => h.cf k ((h.ca.kept (fun k hk => hb.block k (CelF.lt h.ca hk))).2 k hk), h.tw, h.cur, h.few, fun k hk => by obtain ⟨x1, x2, x3, x4, x5, x6⟩ := h.xx k hk; exact ⟨x1, x2, x3, fun e => x4 ((h.ca.kept (fun k hk => hb.block k (CelF.lt h.ca hk))).2 k e), x5, Nat.lt_of_lt_of_le x6 hb.size⟩⟩
theorem MrI.more (h : MrI w0 hp bp rp pp cp n M X S vm vb vh vhs F G b kept um ub uk uks E R prs w) {n' : Nat} (hn : n ≤ n') : MrI w0 hp bp rp pp cp n' M X S vm vb vh vhs F G b kept um ub uk uks E R prs w :=
  ⟨h.bel, h.hb, h.rf, h.el, h.z, h.fe, h.ca, h.ct, h.pr, h.cf, h.tw, h.cur, Nat.le_trans h.few hn, h.xx⟩
/-- A slice more is watched. -/
theorem MrI.seen (h : MrI w0 hp bp rp pp cp n M X S vm vb vh vhs F G b kept um ub uk uks E R prs w) {xy : Value × Value} (hc : CellsAt w1 w0.heap.size cp (prs ++ [xy])) (ht : Twins w1 w0.heap.size R) (hto : CelTo w0.heap.size cp w w1) (hxy : Pr R xy) : MrI w0 hp bp rp pp cp (n + 1) M X S vm vb vh vhs F G b kept um ub uk uks E R (prs ++ [xy]) w1 := by
  obtain ⟨t1, t2, t3⟩ := hto
  refine ⟨h.bel.trans t1, h.hb.touch t2 (fun k hk => (h.cf k hk).1) (fun k hk => (h.cf k hk).2.1), h.rf.touch t2 (fun k hk => (h.cf k hk).2.2), fun k hk => Nat.lt_of_lt_of_le (h.el k hk) t2.size, h.z, h.fe, hc, ht, pr_snoc h.pr hxy, fun k hk => ?_, h.tw, h.cur, by rw [List.length_append]; have := h.few; simp; omega, fun k hk => by obtain ⟨x1, x2, x3, x4, x5, x6⟩ := h.xx k hk; exact ⟨x1, x2, x3, fun e => (t3 k e).elim x4 (fun e => by omega), x5, Nat.lt_of_lt_of_le x6 t2.size⟩⟩
  rcases t3 k hk with e | e
  · exact h.cf k e
  · exact ⟨fun hf => by have := h.hb.fl k hf; omega, fun hf => by have := h.hb.bk.gl k hf; omega, fun hf => by have := h.el k hf; omega⟩
/-- Octets were written through watched slices. -/
theorem MrI.poked (h : MrI w0 hp bp rp pp cp n M X S vm vb vh vhs F G b kept um ub uk uks E R prs w) (hc : CellsAt w1 w0.heap.size cp prs) (ht : Twins w1 w0.heap.size R) (tt : Touch (InR R) w w1) (sz : Sz w w1) : ∃ m, m.length = S.mem.length ∧ MrI w0 hp bp rp pp cp n M X { S with mem := m } vm vb vh vhs F G b kept um ub uk uks E R prs w1 := by
  have inF : ∀ k, InR R k → F k → vm.ownBlock = some k := fun k hk hf => by
    obtain ⟨b, o, c, p, hR, rfl | rfl⟩ := hk
    · exact ((h.tw _ _ _ _ hR).1 (Or.inl hf)).1
    · exact absurd hf (h.tw _ _ _ _ hR).2.2.2.1
  have inG : ∀ k, InR R k → ¬ G k := fun k hk hg => by
    obtain ⟨b, o, c, p, hR, rfl | rfl⟩ := hk
    · exact (h.tw _ _ _ _ hR).2.1 hg
    · exact (h.tw _ _ _ _ hR).2.2.2.2 hg
  have inE : ∀ k, InR R k → E k → um.ownBlock = some k := fun k hk hf => by
    obtain ⟨b, o, c, p, hR, rfl | rfl⟩ := hk
    · exact absurd hf (h.tw _ _ _ _ hR).2.2.1
    · exact ((h.tw _ _ _ _ hR).1 (Or.inr hf)).2.1
  have inC : ∀ k, InR R k → ¬ CelF w cp k := fun k hk hf => by
    have hu : ∃ cs, w.heap[k]? = some (.cells cs 5 (0, 0)) := by
      obtain ⟨b, o, c, p, hR, rfl | rfl⟩ := hk
      · exact (h.ct.row _ _ _ _ hR).2.2.1
      · exact (h.ct.row _ _ _ _ hR).2.2.2
    obtain ⟨cs, hcs⟩ := hu
    obtain ⟨_, vo, vw, hcc, ho, hw, _⟩ := h.ca
    rcases hf with rfl | ⟨vo', vw', h1, h2⟩
    · rw [hcc] at hcs; simp at hcs
    · rw [hcc] at h1
      simp at h1
      obtain ⟨rfl, rfl⟩ := h1
      rcases h2 with h2 | h2
      · obtain ⟨c2, hc2⟩ := row_block ho h2
        rw [hc2] at hcs; simp at hcs
      · obtain ⟨c2, hc2⟩ := row_block hw h2
        rw [hc2] at hcs; simp at hcs
  have bel : Below w0.heap.size w0 w1 := h.bel.trans (tt.below h.bel.size (fun k hk => by
    obtain ⟨b, o, c, p, hR, rfl | rfl⟩ := hk
    · exact (h.ct.row _ _ _ _ hR).1
    · exact (h.ct.row _ _ _ _ hR).2.1))
  have cf' : ∀ k, CelF w1 cp k → ¬ F k ∧ ¬ G k ∧ ¬ E k := fun k hk => h.cf k ((h.ca.kept (fun k hk => tt.block k (CelF.lt h.ca hk) (fun e => inC k e hk))).2 k hk)
  have xx' : ∀ k, X k → ¬ F k ∧ ¬ G k ∧ ¬ E k ∧ ¬ CelF w1 cp k ∧ ¬ InR R k ∧ k < w1.heap.size := fun k hk => by
    obtain ⟨x1, x2, x3, x4, x5, x6⟩ := h.xx k hk
    exact ⟨x1, x2, x3, fun e => x4 ((h.ca.kept (fun k hk => tt.block k (CelF.lt h.ca hk) (fun e => inC k e hk))).2 k e), x5, Nat.lt_of_lt_of_le x6 tt.size⟩
  by_cases h0 : S.mem.length = 0
  · have nv : ∀ k, InR R k → ¬ F k ∧ ¬ E k := fun k hk => by
      obtain ⟨b, o, c, p, hR, rfl | rfl⟩ := hk
      · exact ⟨fun e => by have := ((h.tw _ _ _ _ hR).1 (Or.inl e)).2.2.2; omega, (h.tw _ _ _ _ hR).2.2.1⟩
      · exact ⟨(h.tw _ _ _ _ hR).2.2.2.1, fun e => by have := ((h.tw _ _ _ _ hR).1 (Or.inr e)).2.2.2; omega⟩
    exact ⟨S.mem, rfl, bel, h.hb.touch tt (fun k hk => (nv k hk).1) inG, h.rf.touch tt (fun k hk => (nv k hk).2), fun k hk => Nat.lt_of_lt_of_le (h.el k hk) tt.size, h.z, h.fe, hc, ht, h.pr, cf', h.tw, h.cur, h.few, xx'⟩
  · obtain ⟨g, hg, hgr, hgF⟩ := h.hb.hm.bytes (by omega)
    obtain ⟨g', hg', hgr', hgE⟩ := h.rf.bytes (by omega)
    have hgo : vm.ownBlock = some g := by rw [hg]; rfl
    have hgo' : um.ownBlock = some g' := by rw [hg']; rfl
    have key : ∀ o, o < S.mem.length → ∃ z : Int, 0 ≤ z ∧ z ≤ 255 ∧ w1.cell? ⟨g, o, none⟩ = some (.int .u8 z) ∧ w1.cell? ⟨g', o, none⟩ = some (.int .u8 z) := fun o ho => ht.val _ _ _ _ (h.cur g g' hgo hgo' o ho)
    have hsh : ∀ o, o < S.mem.length → ∃ z : Int, 0 ≤ z ∧ z ≤ 255 ∧ w1.cell? ⟨g, o, none⟩ = some (.int .u8 z) ∧ w1.cell? ⟨g', o, none⟩ = some (.int .u8 z) ∧ (shown w1 g 0 S.mem.length).getD o 0 = z := fun o ho => by
      obtain ⟨z, z0, z1, h1, h2⟩ := key o ho
      exact ⟨z, z0, z1, h1, h2, by simp [shown, List.getD_eq_getElem?_getD, ho, h1]⟩
    have hlen : (shown w1 g 0 S.mem.length).length = S.mem.length := shown_len _ _ _ _
    have row : ∀ (a : Nat), byteRow w a S.mem → (∀ o, o < S.mem.length → w1.cell? ⟨a, o, none⟩ = some (.int .u8 ((shown w1 g 0 S.mem.length).getD o 0))) → byteRow w1 a (shown w1 g 0 S.mem.length) := fun a ha hcell => by
      obtain ⟨cs, h1, h2⟩ := sz a _ _ ha
      unfold byteRow
      rw [h1]
      congr 2
      apply Array.ext
      · simp [h2, hlen]
      · intro i hi1 hi2
        have hi : i < S.mem.length := by simpa [h2] using hi1
        have h3 := hcell i hi
        rw [cell_of h1] at h3
        simp [hi1] at h3
        rw [h3]
        simp [hlen, hi]
    have hbs : bytes (shown w1 g 0 S.mem.length) := fun z hz => by
      obtain ⟨o, ho, rfl⟩ := List.mem_iff_getElem.1 hz
      rw [hlen] at ho
      obtain ⟨z, z0, z1, _, _, h5⟩ := hsh o ho
      rw [List.getD_eq_getElem?_getD, List.getElem?_eq_getElem (by rw [hlen]; exact ho)] at h5
      simp only [Option.getD_some] at h5
      rw [h5]
      exact ⟨z0, z1⟩
    have r1 := row g hgr (fun o ho => by obtain ⟨z, _, _, h3, _, h5⟩ := hsh o ho; rw [h3, h5])
    have r2 := row g' hgr' (fun o ho => by obtain ⟨z, _, _, _, h4, h5⟩ := hsh o ho; rw [h4, h5])
    generalize shown w1 g 0 S.mem.length = m at *
    refine ⟨m, hlen, bel, ?_, ?_, fun k hk => Nat.lt_of_lt_of_le (h.el k hk) tt.size, h.z, h.fe, hc, ht, h.pr, cf', fun b o c p hR => ?_, fun a a' ha ha' o ho => h.cur a a' ha ha' o (by rw [← hlen]; exact ho), h.few, xx'⟩
    · exact h.hb.octs2 hg r1 hlen hbs tt (fun k hk hf => by have := inF k hk hf; rw [hgo] at this; simpa using this.symm) inG
    · exact h.rf.octs2 hg' r2 hlen hbs tt (fun k hk hf => by have := inE k hk hf; rw [hgo'] at this; simpa using this.symm)
    · have := h.tw b o c p hR
      exact ⟨fun e => by obtain ⟨j1, j2, j3, j4⟩ := this.1 e; exact ⟨j1, j2, j3, by show o < m.length; omega⟩, this.2⟩
/-- Other foreign blocks. -/
theorem MrI.other (h : MrI w0 hp bp rp pp cp n M X S vm vb vh vhs F G b kept um ub uk uks E R prs w) {Y : Nat → Prop} (hy : ∀ k, Y k → X k) : MrI w0 hp bp rp pp cp n M Y S vm vb vh vhs F G b kept um ub uk uks E R prs w :=
  ⟨h.bel, h.hb, h.rf, h.el, h.z, h.fe, h.ca, h.ct, h.pr, h.cf, h.tw, h.cur, h.few, fun k hk => h.xx k (hy k hk)⟩
/-- A box of one's own. -/
theorem MrI.box (h : MrI w0 hp bp rp pp cp n M X S vm vb vh vhs F G b kept um ub uk uks E R prs w) (o : Obj) : MrI w0 hp bp rp pp cp n M (fun k => k = w.heap.size) S vm vb vh vhs F G b kept um ub uk uks E R prs (w.alloc o) := by
  have hb : Below w.heap.size w (w.alloc o) := (Below.refl _ w).alloc (Nat.le_refl _) o
  have h' := (h.other (Y := fun _ => False) (fun k hk => hk.elim)).below hb
  refine ⟨h'.bel, h'.hb, h'.rf, h'.el, h'.z, h'.fe, h'.ca, h'.ct, h'.pr, h'.cf, h'.tw, h'.cur, h'.few, fun k hk => ?_⟩
  subst hk
  refine ⟨fun e => ?_, fun e => ?_, fun e => ?_, fun e => ?_, ?_, by simp⟩
  · have := h.hb.fl _ e; omega
  · have := h.hb.bk.gl _ e; omega
  · have := h.el _ e; omega
  · have := CelF.lt h.ca ((h.ca.kept (fun k hk => hb.block k (CelF.lt h.ca hk))).2 _ e); omega
  · rintro ⟨b, o, c, p, hR, e | e⟩
    · have := (h.ct.lt hR).1; omega
    · have := (h.ct.lt hR).2; omega
end

end Go.Proofs.YtjogaohnphafgaaGreat
