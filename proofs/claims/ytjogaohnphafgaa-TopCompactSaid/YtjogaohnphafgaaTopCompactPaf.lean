/-
  The book's note: an entry more. No conditions.
-/
import Derived.Test.YtjogaohnphafgaaTopCompactPae
import Derived.Deep.RegionLaw
namespace Go.Proofs.Ytjogaohnphafgaa
open Go.RowKit

/-- The law on append, and where the row lies then: in place, or in a new block. -/
theorem run_append_place {P : Program} (w : World) (base : Nat) (t ty e : TypeId) (i : TypeInfo) (z : Value) (size bytes : Nat) (ht : P.underlying t = some (.slice e)) (hi : P.info? e = some i) (hz : i.zero = some z)
    (hsize : i.size = size) (hby : i.bytes = bytes) (hzs : z.cells.size = size) (hsz : 0 < size)
    (v : Value) (n : Nat) (xs : List Value) (hown : w.ownsRow base e size v n xs)
    (a : Addr) (m c : Nat) (news : List Value) (hl : news.length = m * size) (hnews : ∀ j u, news[j]? = some u → w.cell? (a.add j) = some u) (h1 : ∀ u ∈ news, u.oneCell' = true)
    (hm : 0 < m) (h63 : n + m ≤ maxLen) (hbytes : (n + m) * bytes ≤ 140737488355328) (hbase : base ≤ w.heap.size) :
    ∃ g cap w', (Builtin.append_ #[t, t] ty #[v, .slice (some a) m c]).run P w = .ok (.slice (some ⟨g, 0, none⟩) (n + m) cap) w' ∧ w'.ownsRow base e size (.slice (some ⟨g, 0, none⟩) (n + m) cap) (n + m) (xs ++ news) ∧ w.grownBy w' v.ownBlock ∧
      (v.ownBlock = some g ∨ w.heap.size ≤ g) := by
  have hlaw := fun base hown hbase => run_append_own (P := P) w base t ty e i z size bytes ht hi hz hsize hby hzs hsz v n xs hown a m c news hl hnews h1 h63 hbytes hbase
  obtain ⟨v', w', hr, ho, hg, _⟩ := hlaw base hown hbase
  rcases ho.2 with ⟨_, h0⟩ | ⟨g, cap, cur, rfl, hb, hgg, rest⟩
  · omega
  refine ⟨g, cap, w', hr, ho, hg, ?_⟩
  have hsmall : n + m ≤ 9223372036854775807 := by simp only [maxLen] at h63; omega
  rcases hown.2 with ⟨rfl, rfl⟩ | ⟨g0, cap0, cur0, rfl, hb0, hg0, hn0, hc0, hs0, ht0⟩
  · right
    obtain ⟨v2, w2, hr2, ho2, _, _⟩ := hlaw w.heap.size ⟨hown.1, Or.inl ⟨rfl, rfl⟩⟩ (Nat.le_refl _)
    rw [hr] at hr2
    simp only [Result.ok.injEq] at hr2
    obtain ⟨rfl, rfl⟩ := hr2
    rcases ho2.2 with ⟨_, h0⟩ | ⟨g2, cap2, cur2, he2, hb2, _⟩
    · omega
    · simp only [Value.slice.injEq, Option.some.injEq, Addr.mk.injEq, and_true] at he2
      omega
  · by_cases hroom : n + m ≤ cap0
    · left
      subst hsize
      have hfit : n * i.size + news.length ≤ cur0.size := by rw [hl, hs0, ← Nat.add_mul]; exact Nat.mul_le_mul_right _ hroom
      have hr2 := run_append_room (P := P) w t ty e i ht hi g0 n cap0 cur0 hg0 a m c news hl hnews h1 hroom hfit
      rw [hr] at hr2
      simp only [Result.ok.injEq, Value.slice.injEq, Option.some.injEq, Addr.mk.injEq, and_true] at hr2
      simp [Value.ownBlock, hr2.1.1]
    · right
      subst hsize
      subst hby
      have holds : ∀ j u, xs[j]? = some u → w.cell? ((⟨g0, 0, none⟩ : Addr).add j) = some u := hown.cells (g := g0) rfl
      have hr2 := run_append_grow (P := P) w t ty e i z ht hi hz ⟨g0, 0, none⟩ n cap0 xs hown.1 holds a m c news hl hnews (by omega) (by omega) (growslice_fits (by omega) hbytes)
      rw [hr] at hr2
      simp only [Result.ok.injEq, Value.slice.injEq, Option.some.injEq, Addr.mk.injEq, and_true] at hr2
      have := hr2.1.1
      omega

/-- 'x.f = append(x.f, y)' in a region that draws: y lies in the block just made. -/
theorem step_append_new {P : Program} {ops : Array Oper} {o : Oper} {a : Act} {K : Act → World → Prop} {Q : Exit → Act → World → Prop} {E : Prop}
    (hg : o.guard = none) (s x : Operand) (t : TypeId) (hop : o.op = Op.call { callee := Callee.builtin Builtin.append, args := #[s, x], argTypes := #[t, t] })
    (base : Nat) (e : TypeId) (i : TypeInfo) (z : Value) (size bytes : Nat) (ht : P.underlying t = some (.slice e)) (hi : P.info? e = some i) (hz : i.zero = some z)
    (hsize : i.size = size) (hby : i.bytes = bytes) (hzs : z.cells.size = size) (hsz : 0 < size)
    (v : Value) (n : Nat) (xs : List Value) (wr : World) (e' : TypeId) (us : List Value) (hs : a.eval s = v) (hown : wr.ownsRow base e size v n xs)
    (hx : a.eval x = .slice (some ⟨wr.heap.size, 0, none⟩) 1 1) (hl : us.length = size) (h1 : ∀ u ∈ us, u.oneCell' = true)
    (h63 : n + 1 ≤ maxLen) (hbytes : (n + 1) * bytes ≤ 140737488355328) (hbase : base ≤ wr.heap.size)
    (h : ∀ g cap w', w'.ownsRow base e size (.slice (some ⟨g, 0, none⟩) (n + 1) cap) (n + 1) (xs ++ us) → wr.grownBy w' v.ownBlock → (v.ownBlock = some g ∨ wr.heap.size ≤ g) → wr.heap.size < w'.heap.size → K (a.put o.dst (.slice (some ⟨g, 0, none⟩) (n + 1) cap)) w') :
    if Region.wanted o (yielded ops a.tmps) = true then Oper.wp P o a (wr.alloc (.cells us.toArray e')) K Q else E := by
  have hw : Region.wanted o (yielded ops a.tmps) = true := by simp [Region.wanted, hg]
  rw [if_pos hw]
  have hnews : ∀ j u, us[j]? = some u → (wr.alloc (.cells us.toArray e')).cell? ((⟨wr.heap.size, 0, none⟩ : Addr).add j) = some u := by
    intro j u hj
    have e1 : (⟨wr.heap.size, 0, none⟩ : Addr).add j = ⟨wr.heap.size, j, none⟩ := by unfold Addr.add; split <;> simp_all
    rw [e1, cell_of_row _ _ _ _ _ _ (heap_alloc_new wr _)]
    simpa using hj
  obtain ⟨g, cap, w', hr, ho, hg', hp⟩ := run_append_place (P := P) (wr.alloc (.cells us.toArray e')) base t o.type e i z size bytes ht hi hz hsize hby hzs hsz v n xs (hown.alloc _) ⟨wr.heap.size, 0, none⟩ 1 1 us (by omega) hnews h1 (by omega) h63 hbytes (by simp; omega)
  unfold Oper.wp execOp
  simp only [hop, resolve, invoke, builtin, Sem.run_bind, Sem.run_pure, Result.andThen_ok, List.map_toArray, List.map_cons, List.map_nil, hs, hx, hr]
  have hg2 : wr.grownBy w' v.ownBlock := ⟨hg'.os, hg'.tape, hg'.output, Nat.le_trans (by simp) hg'.size, fun k hk hne => (hg'.block k (by simp; omega) hne).trans (heap_alloc_old wr _ hk)⟩
  exact h g cap w' ho hg2 (hp.imp id (fun x => by simp at x; omega)) (by have := hg'.size; simp at this; omega)

theorem BookMem.pe {w : World} {F : Nat → Prop} {p : Nat} {st : BookSt} {N mb : Nat} {blk : Int → Option Nat} {lv ev : Value} {D : DataW Unit} (h : BookMem w F p st N mb blk lv ev D) : ev.ownBlock ≠ some p := by
  intro he
  rcases h.erow.2 with ⟨hv, _⟩ | ⟨g, cap, cur, hv, _, hg, _⟩
  · subst hv; simp [Value.ownBlock] at he
  · subst hv
    simp only [Value.ownBlock, Option.some.injEq] at he
    subst he
    rw [h.self] at hg
    simp at hg

theorem infoEnt : (Try.prog.info? 101).map (fun i => (i.zero, i.size, i.bytes)) = some (some (.agg #[.int .i64 0, .int .i64 0, .int .i64 0, .int .i64 0, .int .i64 0, .int .i64 0]), 6, 48) := by kernel_rfl

/-- The book after a call that has made an entry: F: what the book had; new blocks are its own, too. -/
def NotePost (F : Nat → Prop) (p : Nat) (st : BookSt) (N : Nat) (w : World) : Ending → World → Prop := fun e w' =>
  e = .returned (.tuple #[]) ∧ BookAt w' (fun k => F k ∨ w.heap.size ≤ k) p st N ∧ Touch F w w'

/-- The row of a slice that is owned, as a block. -/
theorem row_block {w : World} {B e size n : Nat} {v : Value} {xs : List Value} {k : Nat} (h : w.ownsRow B e size v n xs) (hk : v.ownBlock = some k) : ∃ cur, w.heap[k]? = some (.cells cur e (0, 0)) := by
  rcases h.2 with ⟨hv, _⟩ | ⟨g, cap, cur, hv, _, hg, _⟩
  · subst hv; simp [Value.ownBlock] at hk
  · subst hv
    simp only [Value.ownBlock, Option.some.injEq] at hk
    subst hk
    exact ⟨cur, hg⟩

/-- The book when its entries' row has moved, or grown, and its field is stored. -/
theorem BookMem.entries {w W : World} {F : Nat → Prop} {p : Nat} {st : BookSt} {N mb : Nat} {blk : Int → Option Nat} {lv ev : Value} {D : DataW Unit} (h : BookMem w F p st N mb blk lv ev D) (v' : Value) (es : List Ent)
    (hp : W.heap[p]? = some (.cells (bookCells st mb lv v') 94 (0, 0)))
    (hk : ∀ k, k < w.heap.size → k ≠ p → ev.ownBlock ≠ some k → W.heap[k]? = w.heap[k]?)
    (hrow : W.ownsRow 0 101 6 v' es.length (es.flatMap Ent.cells)) (hv : ∀ k, v'.ownBlock = some k → F k ∨ w.heap.size ≤ k) :
    BookMem W (fun k => F k ∨ w.heap.size ≤ k) p { st with entries := es } N mb blk lv v' D := by
  have nm : mb ≠ p ∧ ev.ownBlock ≠ some mb := by
    obtain ⟨xs, clock, hx, _⟩ := h.map
    refine ⟨fun e => ?_, fun e => ?_⟩
    · subst e; rw [h.self] at hx; simp at hx
    · obtain ⟨cur, hc⟩ := row_block h.erow e; rw [hc] at hx; simp at hx
  refine ⟨hp, Or.inl h.fp, ownsMap_same h.map (hk mb h.map.lt nm.1 nm.2), Or.inl h.fmap, h.look, h.anone, ?_, h.inj, ?_, fun k hk => Or.inl (h.flea k hk), hrow, hv⟩
  · intro o b hb
    obtain ⟨l, x, s, h1, h2, h3⟩ := h.asome o b hb
    refine ⟨l, x, s, h1, ?_, Or.inl h3⟩
    rw [hk b (lt_of h2) ?_ ?_]
    · exact h2
    · intro e; subst e; rw [h.self] at h2; simp at h2
    · intro e; obtain ⟨cur, hc⟩ := row_block h.erow e; rw [hc] at h2; simp at h2
  · refine ownsRow_same h.lrow (fun k hk' => ?_)
    obtain ⟨cur, hc⟩ := row_block h.lrow hk'
    refine hk k (lt_of hc) ?_ ?_
    · intro e; subst e; rw [h.self] at hc; simp at hc
    · intro e; obtain ⟨cur2, hc2⟩ := row_block h.erow e; rw [hc2] at hc; simp at hc

theorem note_mem {w w' : World} {F : Nat → Prop} {p : Nat} {st : BookSt} {N mb : Nat} {blk : Int → Option Nat} {lv ev : Value} {D : DataW Unit} (h : BookMem w F p st N mb blk lv ev D) (en : Ent) (o : Obj) (g cap : Nat)
    (hrow : w'.ownsRow 0 101 6 (.slice (some ⟨g, 0, none⟩) (st.entries.length + 1) cap) (st.entries.length + 1) (st.entries.flatMap Ent.cells ++ en.cells))
    (hgr : (w.alloc o).drew.grownBy w' ev.ownBlock) (hpl : ev.ownBlock = some g ∨ w.heap.size + 1 ≤ g) :
    BookMem (w'.setCell ⟨p, 6, none⟩ (.slice (some ⟨g, 0, none⟩) (st.entries.length + 1) cap)) (fun k => F k ∨ w.heap.size ≤ k) p { st with entries := st.entries ++ [en] } N mb blk lv (.slice (some ⟨g, 0, none⟩) (st.entries.length + 1) cap) D ∧
      Touch F w (w'.setCell ⟨p, 6, none⟩ (.slice (some ⟨g, 0, none⟩) (st.entries.length + 1) cap)) := by
  have hp := lt_of h.self
  have blk' : ∀ k, k < w.heap.size → ev.ownBlock ≠ some k → w'.heap[k]? = w.heap[k]? := fun k hk hne =>
    (hgr.block k (by simp; omega) (fun e => hne e.symm)).trans (heap_alloc_old w _ hk)
  have hp' : w'.heap[p]? = some (.cells (bookCells st mb lv ev) 94 (0, 0)) := (blk' p hp h.pe).trans h.self
  have hgp : g ≠ p := by
    rcases hpl with e | e
    · intro x; subst x; exact h.pe e
    · omega
  refine ⟨h.entries _ _ ?_ ?_ ?_ ?_, ?_⟩
  · rw [block_setCell hp']; rfl
  · intro k hk hne hne2
    rw [Below.heap_setCell _ _ _ _ hne]
    exact blk' k hk hne2
  · have := ownsRow_setCell_other hrow (a := ⟨p, 6, none⟩) (by simp [Value.ownBlock]; exact hgp) (.slice (some ⟨g, 0, none⟩) (st.entries.length + 1) cap)
    simpa [List.flatMap_append] using this
  · intro k hk
    simp only [Value.ownBlock, Option.some.injEq] at hk
    subst hk
    rcases hpl with e | e
    · exact Or.inl (h.fent _ e)
    · exact Or.inr (by omega)
  · refine Touch.setCell ?_ (Or.inl h.fp) _
    exact ((Touch.refl F w).alloc o).drew.grown hgr (fun k hk => Or.inl (h.fent k hk))

set_option maxHeartbeats 4000000 in
set_option maxRecDepth 100000 in
theorem note_few (p : Nat) (en : Ent) (w : World) (F : Nat → Prop) (st : BookSt) (N : Nat) (hb : BookAt w F p st N) (hn : st.entries.length ≤ 9999) :
    Calls Try.prog 46 #[.pointer (some ⟨p, 0, none⟩), .agg #[.int .i64 en.kind, .int .i64 en.owner, .int .i64 en.other, .int .i64 en.amount, .int .i64 en.lease, .int .i64 en.untl]] w
      (NotePost F p { st with entries := st.entries ++ [en] } N w) := by
  obtain ⟨i0, hi0, hz0, hz1, hz2⟩ := info_parts infoEnt
  obtain ⟨mb, blk, lv, ev, D, hm⟩ := hb
  obtain ⟨en1, en2, en3, en4, en5, en6⟩ := en
  have hp := lt_of hm.self
  have c6 : w.cell? ⟨p, 6, none⟩ = some ev := by rw [cell_of hm.self]; rfl
  have HM := Lib.hid hm
  have ONE : ∀ u ∈ [Value.int .i64 en1, .int .i64 en2, .int .i64 en3, .int .i64 en4, .int .i64 en5, .int .i64 en6], u.oneCell' = true := by
    intro u hu
    simp at hu
    rcases hu with rfl | rfl | rfl | rfl | rfl | rfl <;> rfl
  have same : ∀ w', (w.alloc (.cells #[.int .i64 en1, .int .i64 en2, .int .i64 en3, .int .i64 en4, .int .i64 en5, .int .i64 en6] 101)).drew.grownBy w' ev.ownBlock → w'.heap[p]? = some (.cells (bookCells st mb lv ev) 94 (0, 0)) := by
    intro w' hg
    have h1 := hg.block p (by simp; omega) (fun e => hm.pe e.symm)
    exact h1.trans ((heap_alloc_old w _ hp).trans hm.self)
  have PC : ∀ w', (w.alloc (.cells #[.int .i64 en1, .int .i64 en2, .int .i64 en3, .int .i64 en4, .int .i64 en5, .int .i64 en6] 101)).drew.grownBy w' ev.ownBlock → w'.cell? ⟨p, 6, none⟩ = some ev := fun w' h => by rw [cell_of (same w' h)]; rfl
  have PF : ∀ w', (w.alloc (.cells #[.int .i64 en1, .int .i64 en2, .int .i64 en3, .int .i64 en4, .int .i64 en5, .int .i64 en6] 101)).drew.grownBy w' ev.ownBlock → w'.frozen? ⟨p, 6, none⟩ = false := fun w' h => free_of (same w' h) 6
  have SAME := Lib.hid same
  clear hm same
  go_enter Try.func46, Try.ntmps46
  go_wp2_with fail
  go_region_law ((go_loud (refine step_append_new rfl (.tmp 9) (.tmp 11) 92 rfl 0 101 i0 (.agg #[.int .i64 0, .int .i64 0, .int .i64 0, .int .i64 0, .int .i64 0, .int .i64 0]) 6 48 Try.underlying92 hi0 hz0 hz1 hz2 rfl (by decide) ev st.entries.length (st.entries.flatMap Ent.cells) (w.alloc (.cells #[.int .i64 en1, .int .i64 en2, .int .i64 en3, .int .i64 en4, .int .i64 en5, .int .i64 en6] 101)).drew _ [.int .i64 en1, .int .i64 en2, .int .i64 en3, .int .i64 en4, .int .i64 en5, .int .i64 en6] rfl (by exact HM.out.erow.alloc _) (by simp [Act.eval]) rfl ONE (by unfold maxLen; omega) (by omega) (by omega) ?_); intro g cap w' hrow hgr hpl hsz; have d6 := PC w' hgr; have f6 := PF w' hgr))
  all_goals
    go_wp2_with fail
    go_end0
    obtain ⟨h1, h2⟩ := note_mem HM.out ⟨en1, en2, en3, en4, en5, en6⟩ _ g cap hrow hgr (hpl.imp id (fun x => by simpa using x))
    exact ⟨rfl, ⟨mb, blk, lv, _, D, h1⟩, h2⟩

end Go.Proofs.Ytjogaohnphafgaa
