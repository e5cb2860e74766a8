/-
  The book in memory, where accounts, numbers, the leases' row have turned. No conditions.
-/
import Derived.Test.YtljjndifmfhffaaGreatDoorLedgerChecksPai
namespace Go.Proofs.YtljjndifmfhffaaGreatDoor
open Go.RowKit
set_option linter.unusedVariables false

/-- Accounts and the book's own numbers have turned: the rows, the map, the accounts' blocks lie where they lay. -/
theorem BookMem.turn {w W : World} {F : Nat → Prop} {p : Nat} {st : BookSt} {N mb : Nat} {blk : Int → Option Nat} {lv ev : Value} {D : DataW Unit} (h : BookMem w F p st N mb blk lv ev D) (st' : BookSt)
    (hp : W.heap[p]? = some (.cells (bookCells st' mb lv ev) 39 (0, 0)))
    (ha : ∀ o b, blk o = some b → ∃ l x s, st'.acc o = some (l, x, s) ∧ W.heap[b]? = some (.cells #[.int .i64 l, .int .i64 x, .int .i64 s] 81 (0, 0)))
    (hn : ∀ o, st'.acc o = none ↔ st.acc o = none) (hl : st'.leases = st.leases) (he : st'.entries = st.entries)
    (hk : ∀ k, k < w.heap.size → k ≠ p → (∀ o, blk o ≠ some k) → W.heap[k]? = w.heap[k]?) : BookMem W F p st' N mb blk lv ev D := by
  have noacc : ∀ k obj, w.heap[k]? = some obj → (∀ x y z, obj ≠ .cells #[.int .i64 x, .int .i64 y, .int .i64 z] 81 (0, 0)) → ∀ o, blk o ≠ some k := by
    intro k obj hobj hne o hb
    obtain ⟨l, x, s, _, h2, _⟩ := h.asome o k hb
    rw [hobj] at h2
    exact hne l x s (by simpa using h2)
  have rows : ∀ (v : Value) (e n sz : Nat) (xs : List Value), w.ownsRow 0 e sz v n xs → e ≠ 81 → e ≠ 39 → W.ownsRow 0 e sz v n xs := by
    intro v e n sz xs hr h1 h2
    refine ownsRow_same hr (fun k hk' => ?_)
    obtain ⟨cur, hc⟩ := row_block hr hk'
    refine hk k (lt_of hc) ?_ (noacc k _ hc (fun x y z e => by simp only [Obj.cells.injEq] at e; exact h1 e.2.1))
    rintro rfl; rw [h.self] at hc; simp only [Option.some.injEq, Obj.cells.injEq] at hc; exact h2 hc.2.1.symm
  refine ⟨hp, h.fp, ?_, h.fmap, h.look, fun o => (h.anone o).trans (hn o).symm, ?_, h.inj, ?_, h.flea, ?_, h.fent⟩
  · refine ownsMap_same h.map ?_
    obtain ⟨xs, clock, hx, _⟩ := h.map
    refine hk mb (lt_of hx) ?_ (noacc mb _ hx (fun x y z e => by simp at e))
    rintro rfl; rw [h.self] at hx; simp at hx
  · intro o b hb
    obtain ⟨l, x, s, h1, h2⟩ := ha o b hb
    obtain ⟨_, _, _, _, _, h3⟩ := h.asome o b hb
    exact ⟨l, x, s, h1, h2, h3⟩
  · rw [hl]; exact rows _ _ _ _ _ h.lrow (by decide) (by decide)
  · rw [he]; exact rows _ _ _ _ _ h.erow (by decide) (by decide)

/-- The book when its leases' row has moved, or turned, and its field is stored. -/
theorem BookMem.leasesTo {w W : World} {F : Nat → Prop} {p : Nat} {st : BookSt} {N mb : Nat} {blk : Int → Option Nat} {lv ev : Value} {D : DataW Unit} (h : BookMem w F p st N mb blk lv ev D) (v' : Value) (ls : List Lea)
    (hp : W.heap[p]? = some (.cells (bookCells st mb v' ev) 39 (0, 0)))
    (hk : ∀ k, k < w.heap.size → k ≠ p → lv.ownBlock ≠ some k → W.heap[k]? = w.heap[k]?)
    (hrow : W.ownsRow 0 88 4 v' ls.length (ls.flatMap Lea.cells)) (hv : ∀ k, v'.ownBlock = some k → F k ∨ w.heap.size ≤ k) :
    BookMem W (fun k => F k ∨ w.heap.size ≤ k) p { st with leases := ls } N mb blk v' ev D := by
  have nm : mb ≠ p ∧ lv.ownBlock ≠ some mb := by
    obtain ⟨xs, clock, hx, _⟩ := h.map
    refine ⟨fun e => ?_, fun e => ?_⟩
    · subst e; rw [h.self] at hx; simp at hx
    · obtain ⟨cur, hc⟩ := row_block h.lrow e; rw [hc] at hx; simp at hx
  refine ⟨hp, Or.inl h.fp, ownsMap_same h.map (hk mb h.map.lt nm.1 nm.2), Or.inl h.fmap, h.look, h.anone, ?_, h.inj, hrow, hv, ?_, fun k hk => Or.inl (h.fent k hk)⟩
  · intro o b hb
    obtain ⟨l, x, s, h1, h2, h3⟩ := h.asome o b hb
    refine ⟨l, x, s, h1, ?_, Or.inl h3⟩
    rw [hk b (lt_of h2) ?_ ?_]
    · exact h2
    · intro e; subst e; rw [h.self] at h2; simp at h2
    · intro e; obtain ⟨cur, hc⟩ := row_block h.lrow e; rw [hc] at h2; simp at h2
  · refine ownsRow_same h.erow (fun k hk' => ?_)
    obtain ⟨cur, hc⟩ := row_block h.erow hk'
    refine hk k (lt_of hc) ?_ ?_
    · intro e; subst e; rw [h.self] at hc; simp at hc
    · intro e; obtain ⟨cur2, hc2⟩ := row_block h.lrow e; rw [hc2] at hc; simp at hc

theorem BookMem.pl {w : World} {F : Nat → Prop} {p : Nat} {st : BookSt} {N mb : Nat} {blk : Int → Option Nat} {lv ev : Value} {D : DataW Unit} (h : BookMem w F p st N mb blk lv ev D) : lv.ownBlock ≠ some p := by
  intro he
  obtain ⟨cur, hc⟩ := row_block h.lrow he
  rw [h.self] at hc
  simp at hc

/-- One account has turned (field j), and one of the book's numbers may have: the account's block and the book's. -/
theorem BookMem.acct {w W : World} {F : Nat → Prop} {p : Nat} {st : BookSt} {N mb : Nat} {blk : Int → Option Nat} {lv ev : Value} {D : DataW Unit} (h : BookMem w F p st N mb blk lv ev D) {o : Int} {b : Nat} (hb : blk o = some b) (l x s : Int) (st' : BookSt)
    (hst : st'.acc = fun y => if y = o then some (l, x, s) else st.acc y) (hl : st'.leases = st.leases) (he : st'.entries = st.entries)
    (hp : W.heap[p]? = some (.cells (bookCells st' mb lv ev) 39 (0, 0)))
    (hW : W.heap[b]? = some (.cells #[.int .i64 l, .int .i64 x, .int .i64 s] 81 (0, 0)))
    (hk : ∀ k, k < w.heap.size → k ≠ p → k ≠ b → W.heap[k]? = w.heap[k]?) : BookMem W F p st' N mb blk lv ev D := by
  refine h.turn st' hp ?_ ?_ hl he (fun k h1 h2 h3 => hk k h1 h2 (fun e => h3 o (e ▸ hb)))
  · intro y c hc
    rw [hst]
    by_cases e : y = o
    · subst e
      rw [hb] at hc
      obtain rfl : b = c := by simpa using hc
      exact ⟨l, x, s, by simp, hW⟩
    · obtain ⟨l', x', s', h1, h2, _⟩ := h.asome y c hc
      refine ⟨l', x', s', by simp [e, h1], ?_⟩
      rw [hk c (lt_of h2) (by rintro rfl; rw [h.self] at h2; simp [bookCells] at h2) (by rintro rfl; exact e (h.inj y o c hc hb))]
      exact h2
  · intro y
    rw [hst]
    by_cases e : y = o
    · subst e
      have := h.anone y
      rw [hb] at this
      simp at this ⊢
      exact this
    · simp [e]

theorem BookMem.found {w : World} {F : Nat → Prop} {p : Nat} {st : BookSt} {N mb : Nat} {blk : Int → Option Nat} {lv ev : Value} {D : DataW Unit} (hm : BookMem w F p st N mb blk lv ev D) {o l h s : Int} (ha : st.acc o = some (l, h, s)) :
    ∃ b, blk o = some b ∧ w.heap[b]? = some (.cells #[.int .i64 l, .int .i64 h, .int .i64 s] 81 (0, 0)) ∧ F b ∧ b ≠ p := by
  obtain ⟨b, hb⟩ : ∃ b, blk o = some b := by
    cases hb : blk o with
    | none => rw [(hm.anone o).1 hb] at ha; cases ha
    | some b => exact ⟨b, rfl⟩
  obtain ⟨l', h', s', ha', hblk, hFb⟩ := hm.asome o b hb
  rw [ha] at ha'
  simp only [Option.some.injEq, Prod.mk.injEq] at ha'
  obtain ⟨rfl, rfl, rfl⟩ := ha'
  exact ⟨b, hb, hblk, hFb, by rintro rfl; rw [hm.self] at hblk; simp [bookCells] at hblk⟩
theorem BookMem.lost {w : World} {F : Nat → Prop} {p : Nat} {st : BookSt} {N mb : Nat} {blk : Int → Option Nat} {lv ev : Value} {D : DataW Unit} (hm : BookMem w F p st N mb blk lv ev D) {o : Int} (ha : st.acc o = none) : blk o = none := (hm.anone o).2 ha

/-- What a call's way out owes: wider blocks. -/
theorem OpPost.mk {err : Int} {F : Nat → Prop} {p : Nat} {st : BookSt} {N : Nat} {w w1 w2 : World} {G : Nat → Prop} (h1 : Touch F w w1) (h2 : Touch G w1 w2) (hb : BookAt w2 (fun k => G k ∨ w1.heap.size ≤ k) p st N) (hG : ∀ k, G k → F k ∨ w.heap.size ≤ k) :
    OpPost err F p st N w (.returned (.int .i64 err)) w2 :=
  ⟨rfl, hb.wider (fun k hk => hk.elim (hG k) (fun x => Or.inr (Nat.le_trans h1.size x))), h1.trans h2 hG⟩

end Go.Proofs.YtljjndifmfhffaaGreatDoor
