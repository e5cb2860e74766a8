/-
  The book's note: an entry more. No conditions.
  slices.Equal at []byte. No conditions.
  Cells of the program beside cells of the reference: which memory shows the same; and the slices that are watched. No conditions.
-/
import Derived.Test.YtfnmjlnpfoclbaaGreatQueueRunsPab
import Derived.Deep.RegionLaw

namespace Go.Proofs.YtfnmjlnpfoclbaaGreat
section
open Go.RowKit

/-- The law on append, and where the row lies then: in place, or in a new block. -/
theorem run_append_place {P : Program} (w : World) (base : Nat) (t ty e : TypeId) (i : TypeInfo) (z : Value) (size bytes : Nat) (ht : P.underlying t = some (.slice e)) (hi : P.info? e = some i) (hz : i.zero = some z)
    (hsize : i.size = size) (hby : i.bytes = bytes) (hzs : z.cells.size = size) (hsz : 0 < size)
    (v : Value) (n : Nat) (xs : List Value) (hown : w.ownsRow base e size v n xs)
    (a : Addr) (m c : Nat) (news : List Value) (hl : news.length = m * size) (hnews : ∀ j u, news[j]? = some u → w.cell? (a.add j) = some u) (h1 : ∀ u ∈ news, u.oneCell' = true)
    (hm : 0 < m) (h63 : n + m ≤ maxLen) (hbytes : (n + m) * bytes ≤ 140737488355328) (hbase : base ≤ w.heap.size) :
    ∃ g cap w', (Builtin.append_ #[t, t] ty #[v, .slice (some a) m c]).run P w = .ok (.slice (some ⟨g, 0, none⟩) (n + m) cap) w' ∧ w'.ownsRow base e size (.slice (some ⟨g, 0, none⟩) (n + m) cap) (n + m) (xs ++ news) ∧ w.grownBy w' v.ownBlock ∧
      (v.ownBlock = some g ∨ w.heap.size ≤ g) := by
  have hlaw := fun base hown hbase => run_append_own (P := P) w base t ty e i z size bytes ht hi hz hsize hby hzs hsz v n xs hown a m c news hl hnews h1 h63 hbytes hbase
  obtain ⟨v', w', hr, ho, hg, _⟩ := hlaw base hown hbase
  rcases ho.2 with ⟨_, h0⟩ | ⟨g, cap, cur, rfl, hb, hgg, rest⟩
  · omega
  refine ⟨g, cap, w', hr, ho, hg, ?_⟩
  have hsmall : n + m ≤ 9223372036854775807 := by simp only [maxLen] at h63; omega
  rcases hown.2 with ⟨rfl, rfl⟩ | ⟨g0, cap0, cur0, rfl, hb0, hg0, hn0, hc0, hs0, ht0⟩
  · right
    obtain ⟨v2, w2, hr2, ho2, _, _⟩ := hlaw w.heap.size ⟨hown.1, Or.inl ⟨rfl, rfl⟩⟩ (Nat.le_refl _)
    rw [hr] at hr2
    simp only [Result.ok.injEq] at hr2
    obtain ⟨rfl, rfl⟩ := hr2
    rcases ho2.2 with ⟨_, h0⟩ | ⟨g2, cap2, cur2, he2, hb2, _⟩
    · omega
    · simp only [Value.slice.injEq, Option.some.injEq, Addr.mk.injEq, and_true] at he2
      omega
  · by_cases hroom : n + m ≤ cap0
    · left
      subst hsize
      have hfit : n * i.size + news.length ≤ cur0.size := by rw [hl, hs0, ← Nat.add_mul]; exact Nat.mul_le_mul_right _ hroom
      have hr2 := run_append_room (P := P) w t ty e i ht hi g0 n cap0 cur0 hg0 a m c news hl hnews h1 hroom hfit
      rw [hr] at hr2
      simp only [Result.ok.injEq, Value.slice.injEq, Option.some.injEq, Addr.mk.injEq, and_true] at hr2
      simp [Value.ownBlock, hr2.1.1]
    · right
      subst hsize
      subst hby
      have holds : ∀ j u, xs[j]? = some u → w.cell? ((⟨g0, 0, none⟩ : Addr).add j) = some u := hown.cells (g := g0) rfl
      have hr2 := run_append_grow (P := P) w t ty e i z ht hi hz ⟨g0, 0, none⟩ n cap0 xs hown.1 holds a m c news hl hnews (by omega) (by omega) (growslice_fits (by omega) hbytes)
      rw [hr] at hr2
      simp only [Result.ok.injEq, Value.slice.injEq, Option.some.injEq, Addr.mk.injEq, and_true] at hr2
      have := hr2.1.1
      omega

/-- 'x.f = append(x.f, y)' in a region that draws: y lies in the block just made. -/
theorem step_append_new {P : Program} {ops : Array Oper} {o : Oper} {a : Act} {K : Act → World → Prop} {Q : Exit → Act → World → Prop} {E : Prop}
    (hg : o.guard = none) (s x : Operand) (t : TypeId) (hop : o.op = Op.call { callee := Callee.builtin Builtin.append, args := #[s, x], argTypes := #[t, t] })
    (base : Nat) (e : TypeId) (i : TypeInfo) (z : Value) (size bytes : Nat) (ht : P.underlying t = some (.slice e)) (hi : P.info? e = some i) (hz : i.zero = some z)
    (hsize : i.size = size) (hby : i.bytes = bytes) (hzs : z.cells.size = size) (hsz : 0 < size)
    (v : Value) (n : Nat) (xs : List Value) (wr : World) (e' : TypeId) (us : List Value) (hs : a.eval s = v) (hown : wr.ownsRow base e size v n xs)
    (hx : a.eval x = .slice (some ⟨wr.heap.size, 0, none⟩) 1 1) (hl : us.length = size) (h1 : ∀ u ∈ us, u.oneCell' = true)
    (h63 : n + 1 ≤ maxLen) (hbytes : (n + 1) * bytes ≤ 140737488355328) (hbase : base ≤ wr.heap.size)
    (h : ∀ g cap w', w'.ownsRow base e size (.slice (some ⟨g, 0, none⟩) (n + 1) cap) (n + 1) (xs ++ us) → wr.grownBy w' v.ownBlock → (v.ownBlock = some g ∨ wr.heap.size ≤ g) → wr.heap.size < w'.heap.size → K (a.put o.dst (.slice (some ⟨g, 0, none⟩) (n + 1) cap)) w') :
    if Region.wanted o (yielded ops a.tmps) = true then Oper.wp P o a (wr.alloc (.cells us.toArray e')) K Q else E := by
  have hw : Region.wanted o (yielded ops a.tmps) = true := by simp [Region.wanted, hg]
  rw [if_pos hw]
  have hnews : ∀ j u, us[j]? = some u → (wr.alloc (.cells us.toArray e')).cell? ((⟨wr.heap.size, 0, none⟩ : Addr).add j) = some u := by
    intro j u hj
    have e1 : (⟨wr.heap.size, 0, none⟩ : Addr).add j = ⟨wr.heap.size, j, none⟩ := by unfold Addr.add; split <;> simp_all
    rw [e1, cell_of_row _ _ _ _ _ _ (heap_alloc_new wr _)]
    simpa using hj
  obtain ⟨g, cap, w', hr, ho, hg', hp⟩ := run_append_place (P := P) (wr.alloc (.cells us.toArray e')) base t o.type e i z size bytes ht hi hz hsize hby hzs hsz v n xs (hown.alloc _) ⟨wr.heap.size, 0, none⟩ 1 1 us (by omega) hnews h1 (by omega) h63 hbytes (by simp; omega)
  unfold Oper.wp execOp
  simp only [hop, resolve, invoke, builtin, Sem.run_bind, Sem.run_pure, Result.andThen_ok, List.map_toArray, List.map_cons, List.map_nil, hs, hx, hr]
  have hg2 : wr.grownBy w' v.ownBlock := ⟨hg'.os, hg'.tape, hg'.output, Nat.le_trans (by simp) hg'.size, fun k hk hne => (hg'.block k (by simp; omega) hne).trans (heap_alloc_old wr _ hk)⟩
  exact h g cap w' ho hg2 (hp.imp id (fun x => by simp at x; omega)) (by have := hg'.size; simp at this; omega)

theorem BookMem.pe {w : World} {F : Nat → Prop} {p : Nat} {st : BookSt} {N mb : Nat} {blk : Int → Option Nat} {lv ev : Value} {D : DataW Unit} (h : BookMem w F p st N mb blk lv ev D) : ev.ownBlock ≠ some p := by
  intro he
  rcases h.erow.2 with ⟨hv, _⟩ | ⟨g, cap, cur, hv, _, hg, _⟩
  · subst hv; simp [Value.ownBlock] at he
  · subst hv
    simp only [Value.ownBlock, Option.some.injEq] at he
    subst he
    rw [h.self] at hg
    simp at hg

theorem infoEnt : (Tryz.prog.info? 61).map (fun i => (i.zero, i.size, i.bytes)) = some (some (.agg #[.int .i64 0, .int .i64 0, .int .i64 0, .int .i64 0, .int .i64 0, .int .i64 0]), 6, 48) := by kernel_rfl

/-- The book after a call that has made an entry: F: what the book had; new blocks are its own, too. -/
def NotePost (F : Nat → Prop) (p : Nat) (st : BookSt) (N : Nat) (w : World) : Ending → World → Prop := fun e w' =>
  e = .returned (.tuple #[]) ∧ BookAt w' (fun k => F k ∨ w.heap.size ≤ k) p st N ∧ Touch F w w'

/-- The row of a slice that is owned, as a block. -/
theorem row_block {w : World} {B e size n : Nat} {v : Value} {xs : List Value} {k : Nat} (h : w.ownsRow B e size v n xs) (hk : v.ownBlock = some k) : ∃ cur, w.heap[k]? = some (.cells cur e (0, 0)) := by
  rcases h.2 with ⟨hv, _⟩ | ⟨g, cap, cur, hv, _, hg, _⟩
  · subst hv; simp [Value.ownBlock] at hk
  · subst hv
    simp only [Value.ownBlock, Option.some.injEq] at hk
    subst hk
    exact ⟨cur, hg⟩

/-- The book when its entries' row has moved, or grown, and its field is stored. -/
theorem BookMem.entries {w W : World} {F : Nat → Prop} {p : Nat} {st : BookSt} {N mb : Nat} {blk : Int → Option Nat} {lv ev : Value} {D : DataW Unit} (h : BookMem w F p st N mb blk lv ev D) (v' : Value) (es : List Ent)
    (hp : W.heap[p]? = some (.cells (bookCells st mb lv v') 107 (0, 0)))
    (hk : ∀ k, k < w.heap.size → k ≠ p → ev.ownBlock ≠ some k → W.heap[k]? = w.heap[k]?)
    (hrow : W.ownsRow 0 61 6 v' es.length (es.flatMap Ent.cells)) (hv : ∀ k, v'.ownBlock = some k → F k ∨ w.heap.size ≤ k) :
    BookMem W (fun k => F k ∨ w.heap.size ≤ k) p { st with entries := es } N mb blk lv v' D := by
  have nm : mb ≠ p ∧ ev.ownBlock ≠ some mb := by
    obtain ⟨xs, clock, hx, _⟩ := h.map
    refine ⟨fun e => ?_, fun e => ?_⟩
    · subst e; rw [h.self] at hx; simp at hx
    · obtain ⟨cur, hc⟩ := row_block h.erow e; rw [hc] at hx; simp at hx
  refine ⟨hp, Or.inl h.fp, ownsMap_same h.map (hk mb h.map.lt nm.1 nm.2), Or.inl h.fmap, h.look, h.anone, ?_, h.inj, ?_, fun k hk => Or.inl (h.flea k hk), hrow, hv⟩
  · intro o b hb
    obtain ⟨l, x, s, h1, h2, h3⟩ := h.asome o b hb
    refine ⟨l, x, s, h1, ?_, Or.inl h3⟩
    rw [hk b (lt_of h2) ?_ ?_]
    · exact h2
    · intro e; subst e; rw [h.self] at h2; simp at h2
    · intro e; obtain ⟨cur, hc⟩ := row_block h.erow e; rw [hc] at h2; simp at h2
  · refine ownsRow_same h.lrow (fun k hk' => ?_)
    obtain ⟨cur, hc⟩ := row_block h.lrow hk'
    refine hk k (lt_of hc) ?_ ?_
    · intro e; subst e; rw [h.self] at hc; simp at hc
    · intro e; obtain ⟨cur2, hc2⟩ := row_block h.erow e; rw [hc2] at hc; simp at hc

theorem note_mem {w w' : World} {F : Nat → Prop} {p : Nat} {st : BookSt} {N mb : Nat} {blk : Int → Option Nat} {lv ev : Value} {D : DataW Unit} (h : BookMem w F p st N mb blk lv ev D) (en : Ent) (o : Obj) (g cap : Nat)
    (hrow : w'.ownsRow 0 61 6 (.slice (some ⟨g, 0, none⟩) (st.entries.length + 1) cap) (st.entries.length + 1) (st.entries.flatMap Ent.cells ++ en.cells))
    (hgr : (w.alloc o).drew.grownBy w' ev.ownBlock) (hpl : ev.ownBlock = some g ∨ w.heap.size + 1 ≤ g) :
    BookMem (w'.setCell ⟨p, 6, none⟩ (.slice (some ⟨g, 0, none⟩) (st.entries.length + 1) cap)) (fun k => F k ∨ w.heap.size ≤ k) p { st with entries := st.entries ++ [en] } N mb blk lv (.slice (some ⟨g, 0, none⟩) (st.entries.length + 1) cap) D ∧
      Touch F w (w'.setCell ⟨p, 6, none⟩ (.slice (some ⟨g, 0, none⟩) (st.entries.length + 1) cap)) := by
  have hp := lt_of h.self
  have blk' : ∀ k, k < w.heap.size → ev.ownBlock ≠ some k → w'.heap[k]? = w.heap[k]? := fun k hk hne =>
    (hgr.block k (by simp; omega) (fun e => hne e.symm)).trans (heap_alloc_old w _ hk)
  have hp' : w'.heap[p]? = some (.cells (bookCells st mb lv ev) 107 (0, 0)) := (blk' p hp h.pe).trans h.self
  have hgp : g ≠ p := by
    rcases hpl with e | e
    · intro x; subst x; exact h.pe e
    · omega
  refine ⟨h.entries _ _ ?_ ?_ ?_ ?_, ?_⟩
  · rw [block_setCell hp']; rfl
  · intro k hk hne hne2
    rw [Below.heap_setCell _ _ _ _ hne]
    exact blk' k hk hne2
  · have := ownsRow_setCell_other hrow (a := ⟨p, 6, none⟩) (by simp [Value.ownBlock]; exact hgp) (.slice (some ⟨g, 0, none⟩) (st.entries.length + 1) cap)
    simpa [List.flatMap_append] using this
  · intro k hk
    simp only [Value.ownBlock, Option.some.injEq] at hk
    subst hk
    rcases hpl with e | e
    · exact Or.inl (h.fent _ e)
    · exact Or.inr (by omega)
  · refine Touch.setCell ?_ (Or.inl h.fp) _
    exact ((Touch.refl F w).alloc o).drew.grown hgr (fun k hk => Or.inl (h.fent k hk))

set_option maxHeartbeats 4000000 in
set_option maxRecDepth 100000 in
theorem note_few (p : Nat) (en : Ent) (w : World) (F : Nat → Prop) (st : BookSt) (N : Nat) (hb : BookAt w F p st N) (hn : st.entries.length ≤ 9999) :
    Calls Tryz.prog 57 #[.pointer (some ⟨p, 0, none⟩), .agg #[.int .i64 en.kind, .int .i64 en.owner, .int .i64 en.other, .int .i64 en.amount, .int .i64 en.lease, .int .i64 en.untl]] w
      (NotePost F p { st with entries := st.entries ++ [en] } N w) := by
  obtain ⟨i0, hi0, hz0, hz1, hz2⟩ := info_parts infoEnt
  obtain ⟨mb, blk, lv, ev, D, hm⟩ := hb
  obtain ⟨en1, en2, en3, en4, en5, en6⟩ := en
  have hp := lt_of hm.self
  have c6 : w.cell? ⟨p, 6, none⟩ = some ev := by rw [cell_of hm.self]; rfl
  have HM := Lib.hid hm
  have ONE : ∀ u ∈ [Value.int .i64 en1, .int .i64 en2, .int .i64 en3, .int .i64 en4, .int .i64 en5, .int .i64 en6], u.oneCell' = true := by
    intro u hu
    simp at hu
    rcases hu with rfl | rfl | rfl | rfl | rfl | rfl <;> rfl
  have same : ∀ w', (w.alloc (.cells #[.int .i64 en1, .int .i64 en2, .int .i64 en3, .int .i64 en4, .int .i64 en5, .int .i64 en6] 61)).drew.grownBy w' ev.ownBlock → w'.heap[p]? = some (.cells (bookCells st mb lv ev) 107 (0, 0)) := by
    intro w' hg
    have h1 := hg.block p (by simp; omega) (fun e => hm.pe e.symm)
    exact h1.trans ((heap_alloc_old w _ hp).trans hm.self)
  have PC : ∀ w', (w.alloc (.cells #[.int .i64 en1, .int .i64 en2, .int .i64 en3, .int .i64 en4, .int .i64 en5, .int .i64 en6] 61)).drew.grownBy w' ev.ownBlock → w'.cell? ⟨p, 6, none⟩ = some ev := fun w' h => by rw [cell_of (same w' h)]; rfl
  have PF : ∀ w', (w.alloc (.cells #[.int .i64 en1, .int .i64 en2, .int .i64 en3, .int .i64 en4, .int .i64 en5, .int .i64 en6] 61)).drew.grownBy w' ev.ownBlock → w'.frozen? ⟨p, 6, none⟩ = false := fun w' h => free_of (same w' h) 6
  have SAME := Lib.hid same
  clear hm same
  go_enter Tryz.func57, Tryz.ntmps57
  go_wp2_with fail
  go_region_law ((go_loud (refine step_append_new rfl (.tmp 9) (.tmp 11) 59 rfl 0 61 i0 (.agg #[.int .i64 0, .int .i64 0, .int .i64 0, .int .i64 0, .int .i64 0, .int .i64 0]) 6 48 Tryz.underlying59 hi0 hz0 hz1 hz2 rfl (by decide) ev st.entries.length (st.entries.flatMap Ent.cells) (w.alloc (.cells #[.int .i64 en1, .int .i64 en2, .int .i64 en3, .int .i64 en4, .int .i64 en5, .int .i64 en6] 61)).drew _ [.int .i64 en1, .int .i64 en2, .int .i64 en3, .int .i64 en4, .int .i64 en5, .int .i64 en6] rfl (by exact HM.out.erow.alloc _) (by simp [Act.eval]) rfl ONE (by unfold maxLen; omega) (by omega) (by omega) ?_); intro g cap w' hrow hgr hpl hsz; have d6 := PC w' hgr; have f6 := PF w' hgr))
  all_goals
    go_wp2_with fail
    go_end0
    obtain ⟨h1, h2⟩ := note_mem HM.out ⟨en1, en2, en3, en4, en5, en6⟩ _ g cap hrow hgr (hpl.imp id (fun x => by simpa using x))
    exact ⟨rfl, ⟨mb, blk, lv, _, D, h1⟩, h2⟩

end
end Go.Proofs.YtfnmjlnpfoclbaaGreat

namespace Go.Proofs.YtfnmjlnpfoclbaaGreat
section
open Go.RowKit

set_option maxHeartbeats 1000000 in
set_option maxRecDepth 100000 in
/-- slices.Equal at []byte. -/
theorem equal_byte (v1 v2 : Value) (xs ys : List Int) (w : World) (h1 : Reads w .u8 v1 xs) (h2 : Reads w .u8 v2 ys) :
    Calls Tryz.prog 33 #[v1, v2] w (EqPost (decide (xs = ys)) w) := by
  obtain ⟨a1, c1, rfl, hl1, hc1⟩ := h1
  obtain ⟨a2, c2, rfl, hl2, hc2⟩ := h2
  by_cases hlen : xs.length = ys.length
  · by_cases hz : xs = []
    · subst hz
      have hy : ys = [] := by cases ys <;> simp_all
      subst hy
      go_enter Tryz.func33, Tryz.ntmps33
      go_wp2
      go_loopg [13] 0 (fun _ s13 wr => s13 = .int .i64 0 ∧ wr = w)
      case atStart => exact ⟨rfl, rfl⟩
      case round =>
        obtain ⟨rfl, rfl⟩ := hrel
        go_wp2
        go_ret
        exact ⟨rfl, 0, rfl⟩
    · have hy : ys ≠ [] := by intro e; subst e; simp at hlen; exact hz hlen
      obtain ⟨b1, o1, rfl, hd1⟩ := hc1 hz
      obtain ⟨b2, o2, rfl, hd2⟩ := hc2 hy
      clear hc1 hc2
      rw [← hlen] at hd2 hl2 ⊢
      generalize hn : xs.length = n at *
      have Hn := Lib.hid hn
      have Hl := Lib.hid hlen
      clear hn hlen hz hy
      have HC1 := Lib.hid hd1
      have HC2 := Lib.hid hd2
      clear hd1 hd2
      go_enter Tryz.func33, Tryz.ntmps33
      go_wp2
      go_loopg [13] n (fun g s13 wr => ∃ k q : Nat, k ≤ n ∧ n - k ≤ g ∧ s13 = .int .i64 k ∧ wr = w.drewN q ∧ ∀ j, j < k → xs.getD j 0 = ys.getD j 0)
      case atStart => exact ⟨0, 0, Nat.zero_le _, by omega, rfl, rfl, fun j hj => absurd hj (Nat.not_lt_zero _)⟩
      case round =>
        obtain ⟨k, q, hk, hg, rfl, rfl, heq⟩ := hrel
        have A := Lib.hid heq
        clear heq
        by_cases hlt : k < n
        · have g1 : w.cell? ⟨b1, o1 + k, none⟩ = some (.int .u8 (xs.getD k 0)) := HC1.out k (by omega)
          have g2 : w.cell? ⟨b2, o2 + k, none⟩ = some (.int .u8 (ys.getD k 0)) := HC2.out k (by omega)
          generalize hxk : xs.getD k 0 = x at g1
          generalize hyk : ys.getD k 0 = y at g2
          have B1 := Lib.hid hxk
          have B2 := Lib.hid hyk
          clear hxk hyk
          by_cases hxy : x = y
          · subst hxy
            go_wp2_with fail
            go_region
            go_wp2
            go_roundg (n - (k + 1))
            case measure => omega
            case rel =>
              refine ⟨k + 1, q + 1, by omega, by omega, by go_num, rfl, fun j hj => ?_⟩
              by_cases e : j = k
              · subst e
                rw [B1.out, B2.out]
              · exact A.out j (by omega)
          · go_wp2_with fail
            go_region
            go_wp2
            go_ret
            exact ⟨ret_bool (take_ne_of k (by rw [B1.out, B2.out]; exact hxy)).symm, q + 1, rfl⟩
        · have : k = n := by omega
          subst this
          go_wp2
          go_ret
          exact ⟨ret_bool (decide_eq_true (eq_of_all (xs := xs) (ys := ys) (Hn.out.trans Hl.out) (fun j hj => A.out j (by rw [Hn.out] at hj; exact hj)))).symm, q, rfl⟩
  · have hnm' : ¬ (xs.length : Int) = (ys.length : Int) := by omega
    have Hl := Lib.hid hlen
    clear hlen hc1 hc2
    go_enter Tryz.func33, Tryz.ntmps33
    go_wp2
    go_ret
    exact ⟨ret_bool (by simp; intro e; subst e; exact Hl.out rfl), 0, rfl⟩

end
end Go.Proofs.YtfnmjlnpfoclbaaGreat

namespace Go.Proofs.YtfnmjlnpfoclbaaGreat
section
open Go.RowKit

/-- R b o c p: the cell o of block b (the program's) stands beside the cell p of block c (the reference's). -/
abbrev Rel := Nat → Nat → Nat → Nat → Prop

structure Twins (w : World) (B : Nat) (R : Rel) : Prop where
  val : ∀ b o c p, R b o c p → ∃ z : Int, 0 ≤ z ∧ z ≤ 255 ∧ w.cell? ⟨b, o, none⟩ = some (.int .u8 z) ∧ w.cell? ⟨c, p, none⟩ = some (.int .u8 z)
  row : ∀ b o c p, R b o c p → B ≤ b ∧ B ≤ c ∧ (∃ cs, w.heap[b]? = some (.cells cs 5 (0, 0))) ∧ ∃ cs, w.heap[c]? = some (.cells cs 5 (0, 0))
  one : ∀ b o c p c' p', R b o c p → R b o c' p' → c = c' ∧ p = p'
  inj : ∀ b o c p b' o', R b o c p → R b' o' c p → b = b' ∧ o = o'
  apart : ∀ b o c p b' o' c' p', R b o c p → R b' o' c' p' → ¬ (b = c' ∧ o = p')

/-- A slice of the program and the reference's: the same length and room, cell beside cell. -/
def Pr (R : Rel) (xy : Value × Value) : Prop :=
  ∃ p q len cap, xy = (.slice p len cap, .slice q len cap) ∧ len ≤ cap ∧ cap ≤ 140737488355200 ∧ (0 < cap → ∃ b o c r, p = some ⟨b, o, none⟩ ∧ q = some ⟨c, r, none⟩ ∧ ∀ j, j < cap → R b (o + j) c (r + j))

/-- The watched slices, in the variable at block c. -/
def CellsAt (w : World) (B : Nat) (c : Nat) (prs : List (Value × Value)) : Prop :=
  B ≤ c ∧ ∃ vo vw, w.heap[c]? = some (.cells #[vo, vw] 41 (0, 0)) ∧ w.ownsRow B 42 1 vo prs.length (prs.map Prod.fst) ∧ w.ownsRow B 42 1 vw prs.length (prs.map Prod.snd) ∧
    (∀ k, vo.ownBlock = some k → vw.ownBlock ≠ some k) ∧ prs.length ≤ 5500000000000

theorem Twins.below {w w' : World} {B : Nat} {R : Rel} (h : Twins w B R) (hb : Below w.heap.size w w') : Twins w' B R := by
  have lt1 : ∀ b o c p, R b o c p → b < w.heap.size := fun b o c p hr => by obtain ⟨_, _, ⟨cs, h1⟩, _⟩ := h.row b o c p hr; exact lt_of h1
  have lt2 : ∀ b o c p, R b o c p → c < w.heap.size := fun b o c p hr => by obtain ⟨_, _, _, ⟨cs, h1⟩⟩ := h.row b o c p hr; exact lt_of h1
  refine ⟨fun b o c p hr => ?_, fun b o c p hr => ?_, h.one, h.inj, h.apart⟩
  · obtain ⟨z, z0, z1, h1, h2⟩ := h.val b o c p hr
    exact ⟨z, z0, z1, (hb.cell (p := ⟨b, o, none⟩) (lt1 b o c p hr)).trans h1, (hb.cell (p := ⟨c, p, none⟩) (lt2 b o c p hr)).trans h2⟩
  · obtain ⟨b1, b2, ⟨cs, h1⟩, ⟨ds, h2⟩⟩ := h.row b o c p hr
    exact ⟨b1, b2, ⟨cs, (hb.block b (lt1 b o c p hr)).trans h1⟩, ⟨ds, (hb.block c (lt2 b o c p hr)).trans h2⟩⟩

theorem CellsAt.below {w w' : World} {B c : Nat} {prs : List (Value × Value)} (h : CellsAt w B c prs) (hb : Below w.heap.size w w') : CellsAt w' B c prs := by
  obtain ⟨hB, vo, vw, hc, ho, hw, hs, hl⟩ := h
  refine ⟨hB, vo, vw, (hb.block c (lt_of hc)).trans hc, ownsRow_same ho (fun k hk => hb.block k ?_), ownsRow_same hw (fun k hk => hb.block k ?_), hs, hl⟩
  · obtain ⟨cur, h1⟩ := row_block ho hk; exact lt_of h1
  · obtain ⟨cur, h1⟩ := row_block hw hk; exact lt_of h1

theorem Twins.drewN {w : World} {B : Nat} {R : Rel} (h : Twins w B R) (n : Nat) : Twins (w.drewN n) B R := h.below (bdrewN (Below.refl _ _) n)
theorem CellsAt.drewN {w : World} {B c : Nat} {prs : List (Value × Value)} (h : CellsAt w B c prs) (n : Nat) : CellsAt (w.drewN n) B c prs := h.below (bdrewN (Below.refl _ _) n)

/-- What cells hold, as a list. -/
def shown (w : World) (b o n : Nat) : List Int := (List.range n).map fun j => match w.cell? ⟨b, o + j, none⟩ with | some (.int _ z) => z | _ => 0

theorem shown_len (w : World) (b o n : Nat) : (shown w b o n).length = n := by simp [shown]

/-- Both slices, up to their room, read as the same list. -/
theorem Pr.reads {w : World} {B : Nat} {R : Rel} {p q : Option Addr} {len cap : Nat} (h : Pr R (.slice p len cap, .slice q len cap)) (ht : Twins w B R) (n : Nat) (hn : n ≤ cap) :
    ∃ zs : List Int, zs.length = n ∧ (∀ m, Reads w .u8 (.slice p n m) zs ∧ Reads w .u8 (.slice q n m) zs) ∧ ∀ z ∈ zs, 0 ≤ z ∧ z ≤ 255 := by
  obtain ⟨p', q', len', cap', e, hl, hm, hc⟩ := h
  simp only [Prod.mk.injEq, Value.slice.injEq] at e
  obtain ⟨⟨rfl, rfl, rfl⟩, rfl, _, _⟩ := e
  rcases Nat.eq_zero_or_pos n with h0 | h0
  · subst h0
    exact ⟨[], rfl, fun m => ⟨⟨p, m, rfl, by simp, fun h => absurd rfl h⟩, ⟨q, m, rfl, by simp, fun h => absurd rfl h⟩⟩, by simp⟩
  · obtain ⟨b, o, c, r, rfl, rfl, hR⟩ := hc (by omega)
    have key : ∀ j, j < n → ∃ z : Int, 0 ≤ z ∧ z ≤ 255 ∧ w.cell? ⟨b, o + j, none⟩ = some (.int .u8 z) ∧ w.cell? ⟨c, r + j, none⟩ = some (.int .u8 z) ∧ (shown w b o n).getD j 0 = z := by
      intro j hj
      obtain ⟨z, z0, z1, h1, h2⟩ := ht.val _ _ _ _ (hR j (by omega))
      exact ⟨z, z0, z1, h1, h2, by simp [shown, List.getD_eq_getElem?_getD, hj, h1]⟩
    refine ⟨shown w b o n, shown_len _ _ _ _, fun m => ⟨⟨_, m, by rw [shown_len], by rw [shown_len]; omega, fun _ => ⟨b, o, rfl, fun j hj => ?_⟩⟩, ⟨_, m, by rw [shown_len], by rw [shown_len]; omega, fun _ => ⟨c, r, rfl, fun j hj => ?_⟩⟩⟩, ?_⟩
    · rw [shown_len] at hj
      obtain ⟨z, _, _, h1, _, h3⟩ := key j hj
      rw [h1, h3]
    · rw [shown_len] at hj
      obtain ⟨z, _, _, _, h2, h3⟩ := key j hj
      rw [h2, h3]
    · intro z hz
      obtain ⟨j, hj, rfl⟩ := List.mem_iff_getElem.1 hz
      rw [shown_len] at hj
      obtain ⟨z, z0, z1, _, _, h3⟩ := key j hj
      rw [List.getD_eq_getElem?_getD, List.getElem?_eq_getElem (by rw [shown_len]; exact hj)] at h3
      simp only [Option.getD_some] at h3
      rw [h3]
      exact ⟨z0, z1⟩

/-- The watched slices, as the walk loads them. -/
theorem CellsAt.open {w : World} {B c : Nat} {prs : List (Value × Value)} (h : CellsAt w B c prs) :
    ∃ a ca a' ca', w.heap[c]? = some (.cells #[.slice a prs.length ca, .slice a' prs.length ca'] 41 (0, 0)) ∧
      ∀ k (hk : k < prs.length), ∃ g g', a = some ⟨g, 0, none⟩ ∧ a' = some ⟨g', 0, none⟩ ∧ w.cell? ⟨g, k, none⟩ = some (prs[k].1) ∧ w.cell? ⟨g', k, none⟩ = some (prs[k].2) := by
  obtain ⟨hB, vo, vw, hc, ho, hw, hs, hl⟩ := h
  have row : ∀ (v : Value) (xs : List Value), w.ownsRow B 42 1 v prs.length xs → ∃ a ca, v = .slice a prs.length ca ∧ ∀ k, k < prs.length → ∃ g, a = some ⟨g, 0, none⟩ ∧ ∀ (x : Value), xs[k]? = some x → w.cell? ⟨g, k, none⟩ = some x := by
    intro v xs hr
    rcases hr.2 with ⟨rfl, h0⟩ | ⟨g, cap, cur, rfl, _⟩
    · exact ⟨none, 0, by rw [h0], fun k hk => by omega⟩
    · refine ⟨_, cap, rfl, fun k _ => ⟨g, rfl, fun x hx => ?_⟩⟩
      have := hr.cells (g := g) rfl k x hx
      have e : (⟨g, 0, none⟩ : Addr).add k = ⟨g, k, none⟩ := by unfold Addr.add; split <;> simp_all
      rwa [e] at this
  obtain ⟨a, ca, rfl, h1⟩ := row vo _ ho
  obtain ⟨a', ca', rfl, h2⟩ := row vw _ hw
  refine ⟨a, ca, a', ca', hc, fun k hk => ?_⟩
  obtain ⟨g, rfl, h3⟩ := h1 k hk
  obtain ⟨g', rfl, h4⟩ := h2 k hk
  exact ⟨g, g', rfl, rfl, h3 _ (by simp [hk]), h4 _ (by simp [hk])⟩

theorem CellsAt.len {w : World} {B c : Nat} {prs : List (Value × Value)} (h : CellsAt w B c prs) : prs.length ≤ 5500000000000 := by obtain ⟨_, _, _, _, _, _, _, h⟩ := h; exact h

end
end Go.Proofs.YtfnmjlnpfoclbaaGreat
