/-
  A row that begins anywhere in its block: what is left of it, and what is appended to it. No conditions but lengths.
  The reference's heap in memory; the search of a block; the block. No conditions but bounds.
  The reference's heap: a block, its octets. No conditions but bounds.
-/
import Derived.Test.YtjogaohnphafgaaGreatMoveRunsPab
import Derived.Test.YtjogaohnphafgaaGreatMoveRunsPaj
import Derived.ArgAppend
import Derived.Test.YtjogaohnphafgaaGreatMoveRunsPaz
import Derived.Test.YtjogaohnphafgaaGreatMoveRunsPaw

namespace Go.Proofs.YtjogaohnphafgaaGreat
section
open Go.RowKit
set_option linter.unusedVariables false

/-- A row of its own that may begin behind its block's beginning. -/
def OffRow (w : World) (e size : Nat) (v : Value) (n : Nat) (xs : List Value) : Prop :=
  xs.length = n * size ∧ ((v = .slice none 0 0 ∧ n = 0) ∨ ∃ g off cap cur, v = .slice (some ⟨g, off, none⟩) n cap ∧ w.heap[g]? = some (.cells cur e (0, 0)) ∧ n ≤ cap ∧ cap ≤ maxLen ∧ off + cap * size ≤ cur.size ∧ (cur.toList.drop off).take (n * size) = xs)

theorem OffRow.nil (w : World) (e size : Nat) : OffRow w e size (.slice none 0 0) 0 [] := ⟨by simp, .inl ⟨rfl, rfl⟩⟩
theorem OffRow.of_own {w : World} {B e size n : Nat} {v : Value} {xs : List Value} (h : w.ownsRow B e size v n xs) : OffRow w e size v n xs := by
  refine ⟨h.1, ?_⟩
  rcases h.2 with h2 | ⟨g, cap, cur, hv, hB, hg, hn, hm, hs, ht⟩
  · exact .inl h2
  · exact .inr ⟨g, 0, cap, cur, hv, hg, hn, hm, by omega, by simpa using ht⟩
theorem OffRow.same {w w' : World} {e size n : Nat} {v : Value} {xs : List Value} (h : OffRow w e size v n xs) (hs : ∀ k, v.ownBlock = some k → w'.heap[k]? = w.heap[k]?) : OffRow w' e size v n xs := by
  refine ⟨h.1, ?_⟩
  rcases h.2 with h2 | ⟨g, off, cap, cur, rfl, hg, rest⟩
  · exact .inl h2
  · exact .inr ⟨g, off, cap, cur, rfl, (hs g rfl).trans hg, rest⟩
theorem OffRow.block {w : World} {e size n : Nat} {v : Value} {xs : List Value} (h : OffRow w e size v n xs) {k : Nat} (hk : v.ownBlock = some k) : ∃ cur, w.heap[k]? = some (.cells cur e (0, 0)) := by
  rcases h.2 with ⟨rfl, _⟩ | ⟨g, off, cap, cur, rfl, hg, _⟩
  · simp [Value.ownBlock] at hk
  · simp [Value.ownBlock] at hk; subst hk; exact ⟨cur, hg⟩
theorem OffRow.sh {w : World} {e size n : Nat} {v : Value} {xs : List Value} (h : OffRow w e size v n xs) : ∃ a c, v = .slice a n c ∧ n ≤ c ∧ c ≤ maxLen := by
  rcases h.2 with ⟨rfl, rfl⟩ | ⟨g, off, cap, cur, rfl, _, h1, h2, _⟩
  · exact ⟨_, _, rfl, Nat.le_refl _, Nat.zero_le _⟩
  · exact ⟨_, _, rfl, h1, h2⟩
theorem OffRow.cell {w : World} {e size n g off cap : Nat} {xs : List Value} (h : OffRow w e size (.slice (some ⟨g, off, none⟩) n cap) n xs) {j : Nat} {u : Value} (hj : xs[j]? = some u) : w.cell? ⟨g, off + j, none⟩ = some u := by
  rcases h.2 with ⟨h1, _⟩ | ⟨g', off', cap', cur, hv, hg, hn, hm, hs, ht⟩
  · simp at h1
  · simp only [Value.slice.injEq, Option.some.injEq, Addr.mk.injEq, and_true, true_and] at hv
    obtain ⟨⟨rfl, rfl⟩, rfl⟩ := hv
    have hjl : j < n * size := by rw [← h.1]; exact (List.getElem?_eq_some_iff.1 hj).1
    rw [cell_of hg, ← Array.getElem?_toList]
    rw [← ht, List.getElem?_take_of_lt hjl, List.getElem?_drop] at hj
    exact hj

/-- What is left behind the first k. -/
theorem OffRow.drop {w : World} {e size n g off cap : Nat} {xs : List Value} (h : OffRow w e size (.slice (some ⟨g, off, none⟩) n cap) n xs) {k : Nat} (hk : k ≤ n) :
    OffRow w e size (.slice (some ⟨g, off + k * size, none⟩) (n - k) (cap - k)) (n - k) (xs.drop (k * size)) := by
  rcases h.2 with ⟨h1, _⟩ | ⟨g', off', cap', cur, hv, hg, hn, hm, hs, ht⟩
  · simp at h1
  · simp only [Value.slice.injEq, Option.some.injEq, Addr.mk.injEq, and_true, true_and] at hv
    obtain ⟨⟨rfl, rfl⟩, rfl⟩ := hv
    refine ⟨by rw [List.length_drop, h.1, Nat.sub_mul], .inr ⟨g, off + k * size, cap - k, cur, rfl, hg, by omega, by omega, ?_, ?_⟩⟩
    · rw [Nat.sub_mul]
      have := Nat.mul_le_mul_right size (show k ≤ cap by omega)
      omega
    · rw [← ht, List.drop_take, List.drop_drop, Nat.sub_mul]

/-- One append: in place, or in a new block. -/
theorem run_append_off {P : Program} (w : World) (t ty e : TypeId) (i : TypeInfo) (z : Value) (size bytes : Nat) (ht : P.underlying t = some (.slice e)) (hi : P.info? e = some i) (hz : i.zero = some z)
    (hsize : i.size = size) (hby : i.bytes = bytes) (hzs : z.cells.size = size) (hsz : 0 < size)
    (v : Value) (n : Nat) (xs : List Value) (hown : OffRow w e size v n xs)
    (a : Addr) (m c : Nat) (news : List Value) (hl : news.length = m * size) (hnews : ∀ j u, news[j]? = some u → w.cell? (a.add j) = some u) (h1 : ∀ u ∈ news, u.oneCell' = true)
    (hm : 0 < m) (h63 : n + m ≤ maxLen) (hbytes : (n + m) * bytes ≤ 140737488355328) :
    ∃ g off cap w', (Builtin.append_ #[t, t] ty #[v, .slice (some a) m c]).run P w = .ok (.slice (some ⟨g, off, none⟩) (n + m) cap) w' ∧ OffRow w' e size (.slice (some ⟨g, off, none⟩) (n + m) cap) (n + m) (xs ++ news) ∧ w.grownBy w' v.ownBlock ∧
      (v.ownBlock = some g ∨ w.heap.size ≤ g) := by
  rcases hown.2 with ⟨rfl, rfl⟩ | ⟨g, off, cap, cur, rfl, hg, hn, hc, hs, htk⟩
  · have hx : xs = [] := List.eq_nil_of_length_eq_zero (by rw [hown.1]; simp)
    subst hx
    obtain ⟨g, cap, w', hr, ho, hgr, hp⟩ := run_append_place (P := P) w 0 t ty e i z size bytes ht hi hz hsize hby hzs hsz (.slice none 0 0) 0 [] (World.ownsRow_nil _ _ _ _) a m c news hl hnews h1 hm h63 hbytes (Nat.zero_le _)
    exact ⟨g, 0, cap, w', hr, .of_own ho, hgr, hp⟩
  · by_cases hroom : n + m ≤ cap
    · have hmul : n * size + m * size ≤ cap * size := by rw [← Nat.add_mul]; exact Nat.mul_le_mul_right _ hroom
      subst hsize
      have hr := run_append_room_cells (P := P) (w := w) t ty e i ht hi g off n cap a m c news hl hnews h1 hroom
        (fun j hj => by rw [cell_of hg, Array.getElem?_eq_getElem (by omega)]; rfl) (fun j hj => free_of hg _)
      obtain ⟨cur', k1, k2, k3⟩ := block_setCells news (off + n * i.size) w cur hg (by omega)
      refine ⟨g, off, cap, _, hr, ⟨by rw [List.length_append, hown.1, hl, Nat.add_mul], .inr ⟨g, off, cap, cur', rfl, k1, hroom, hc, by rw [k2]; exact hs, ?_⟩⟩, ?_, Or.inl rfl⟩
      · rw [k3]
        have hlt : (cur.toList.take (off + n * i.size)).length = off + n * i.size := by rw [List.length_take]; simp; omega
        rw [List.append_assoc, List.drop_append_of_le_length (by omega), List.drop_take]
        have e1 : off + n * i.size - off = n * i.size := by omega
        rw [e1, htk, ← List.append_assoc]
        refine List.take_left' ?_
        rw [List.length_append, hown.1, hl, Nat.add_mul]
      · obtain ⟨r1, r2, r3⟩ := setCells_rest g news (off + n * i.size) w
        refine ⟨r1, r2, r3, ?_, ?_⟩
        · rw [size_setCells]; exact Nat.le_refl _
        · exact fun k hk hne => heap_setCells_other g news _ w k (fun e => hne (by rw [e]; rfl))
    · have hlo : xs.length = n * size := hown.1
      obtain ⟨v', w', hr, ho, hgr⟩ := run_append_arg_grows (P := P) (w := w) t ty e i z size bytes ht hi hz hsize hby hzs hsz ⟨g, off, none⟩ n cap xs hlo (fun j u hj => by
        have e1 : (⟨g, off, none⟩ : Addr).add j = ⟨g, off + j, none⟩ := by unfold Addr.add; split <;> simp_all
        rw [e1]; exact hown.cell hj) a m c news hl hnews (by omega) h63 hbytes
      rcases ho.2 with ⟨_, h0⟩ | ⟨g2, cap2, cur2, rfl, hb2, hg2, rest⟩
      · omega
      refine ⟨g2, 0, cap2, w', hr, .of_own ho, ⟨hgr.os, hgr.tape, hgr.output, hgr.size, fun k hk _ => hgr.block k hk (by simp)⟩, Or.inr hb2⟩

/-- 'x.f = append(x.f, y)' in a region that draws: y lies in the block just made; the row may begin anywhere. -/
theorem step_append_off {P : Program} {ops : Array Oper} {o : Oper} {a : Act} {K : Act → World → Prop} {Q : Exit → Act → World → Prop} {E : Prop}
    (hg : o.guard = none) (s x : Operand) (t : TypeId) (hop : o.op = Op.call { callee := Callee.builtin Builtin.append, args := #[s, x], argTypes := #[t, t] })
    (e : TypeId) (i : TypeInfo) (z : Value) (size bytes : Nat) (ht : P.underlying t = some (.slice e)) (hi : P.info? e = some i) (hz : i.zero = some z)
    (hsize : i.size = size) (hby : i.bytes = bytes) (hzs : z.cells.size = size) (hsz : 0 < size)
    (v : Value) (n : Nat) (xs : List Value) (wr : World) (e' : TypeId) (us : List Value) (hs : a.eval s = v) (hown : OffRow wr e size v n xs)
    (hx : a.eval x = .slice (some ⟨wr.heap.size, 0, none⟩) 1 1) (hl : us.length = size) (h1 : ∀ u ∈ us, u.oneCell' = true)
    (h63 : n + 1 ≤ maxLen) (hbytes : (n + 1) * bytes ≤ 140737488355328)
    (h : ∀ g off cap w', OffRow w' e size (.slice (some ⟨g, off, none⟩) (n + 1) cap) (n + 1) (xs ++ us) → wr.grownBy w' v.ownBlock → (v.ownBlock = some g ∨ wr.heap.size ≤ g) → wr.heap.size < w'.heap.size → K (a.put o.dst (.slice (some ⟨g, off, none⟩) (n + 1) cap)) w') :
    if Region.wanted o (yielded ops a.tmps) = true then Oper.wp P o a (wr.alloc (.cells us.toArray e')) K Q else E := by
  have hw : Region.wanted o (yielded ops a.tmps) = true := by simp [Region.wanted, hg]
  rw [if_pos hw]
  have hnews : ∀ j u, us[j]? = some u → (wr.alloc (.cells us.toArray e')).cell? ((⟨wr.heap.size, 0, none⟩ : Addr).add j) = some u := by
    intro j u hj
    have e1 : (⟨wr.heap.size, 0, none⟩ : Addr).add j = ⟨wr.heap.size, j, none⟩ := by unfold Addr.add; split <;> simp_all
    rw [e1, cell_of_row _ _ _ _ _ _ (heap_alloc_new wr _)]
    simpa using hj
  have hown' : OffRow (wr.alloc (.cells us.toArray e')) e size v n xs := hown.same (fun k hk => by
    obtain ⟨cur, hc⟩ := hown.block hk
    exact heap_alloc_old wr _ (lt_of hc))
  obtain ⟨g, off, cap, w', hr, ho, hg', hp⟩ := run_append_off (P := P) (wr.alloc (.cells us.toArray e')) t o.type e i z size bytes ht hi hz hsize hby hzs hsz v n xs hown' ⟨wr.heap.size, 0, none⟩ 1 1 us (by omega) hnews h1 (by omega) h63 hbytes
  unfold Oper.wp execOp
  simp only [hop, resolve, invoke, builtin, Sem.run_bind, Sem.run_pure, Result.andThen_ok, List.map_toArray, List.map_cons, List.map_nil, hs, hx, hr]
  have hg2 : wr.grownBy w' v.ownBlock := ⟨hg'.os, hg'.tape, hg'.output, Nat.le_trans (by simp) hg'.size, fun k hk hne => (hg'.block k (by simp; omega) hne).trans (heap_alloc_old wr _ hk)⟩
  exact h g off cap w' ho hg2 (hp.imp id (fun x => by simp at x; omega)) (by have := hg'.size; simp at this; omega)

end
end Go.Proofs.YtjogaohnphafgaaGreat

namespace Go.Proofs.YtjogaohnphafgaaGreat
section
open Go.RowKit
set_option linter.unusedVariables false

/-- The reference's heap: its purse at pp, all generations kept. -/
structure RfMem (w : World) (F : Nat → Prop) (rp pp M : Nat) (S : HpSt) (kept : List (List Blk)) (vm vb vk : Value) (vks : List Value) : Prop where
  self : w.heap[rp]? = some (.cells #[.pointer (some ⟨pp, 0, none⟩), .int .i64 S.k, .int .i64 S.s, .int .i64 S.m, .bool S.closed, .int .i64 (S.count : Int), vm, vb, .int .i64 (S.last : Int), vk] 42 (0, 0))
  fr : F rp
  purse : w.heap[pp]? = some (.cells #[.int .i64 (S.mem.length : Int), .int .i64 (M : Int)] 37 (0, 0))
  fp : F pp
  mem : w.ownsRow 0 5 1 vm S.mem.length (S.mem.map (Value.int .u8)) ∧ ∀ k, vm.ownBlock = some k → F k
  mb : bytes S.mem
  msh : memSh vm S.mem.length
  row : OffRow w 78 3 vb S.bl.length (S.bl.flatMap Blk.cells) ∧ ∀ k, vb.ownBlock = some k → F k
  krow : w.ownsRow 0 39 1 vk kept.length vks ∧ ∀ k, vk.ownBlock = some k → F k
  ks : vks.length = kept.length ∧ ∀ (i : Nat) (v : Value) (l : List Blk), vks[i]? = some v → kept[i]? = some l → w.ownsRow 0 78 3 v l.length (l.flatMap Blk.cells) ∧ ∀ k, v.ownBlock = some k → F k ∧ vb.ownBlock ≠ some k
  ord : (S.bl.map Blk.h).Pairwise (· < ·)
  hb : ∀ x ∈ S.bl, 1 ≤ x.h ∧ x.h ≤ S.last ∧ x.at' + x.len ≤ S.mem.length
  big : S.mem.length ≤ 100000 ∧ S.bl.length ≤ 500 ∧ S.last ≤ 1000000000 ∧ S.count ≤ 1000000000 ∧ kept.length ≤ 1000 ∧ M ≤ 10000000 ∧ S.mem.length ≤ M
  kb : ∀ l ∈ kept, l.length ≤ 500 ∧ ∀ x ∈ l, x.at' + x.len ≤ 100000
theorem RfMem.same {w w' : World} {F : Nat → Prop} {rp pp M : Nat} {S : HpSt} {kept : List (List Blk)} {vm vb vk : Value} {vks : List Value} (m : RfMem w F rp pp M S kept vm vb vk vks) (hs : ∀ k, F k → k < w.heap.size → w'.heap[k]? = w.heap[k]?) : RfMem w' F rp pp M S kept vm vb vk vks :=
  ⟨(hs _ m.fr (lt_of m.self)).trans m.self, m.fr, (hs _ m.fp (lt_of m.purse)).trans m.purse, m.fp, ⟨ownsRow_same m.mem.1 (fun k hk => hs k (m.mem.2 k hk) (m.mem.1.lt k hk).2), m.mem.2⟩, m.mb, m.msh,
    ⟨m.row.1.same (fun k hk => hs k (m.row.2 k hk) (by obtain ⟨_, h⟩ := m.row.1.block hk; exact lt_of h)), m.row.2⟩, ⟨ownsRow_same m.krow.1 (fun k hk => hs k (m.krow.2 k hk) (m.krow.1.lt k hk).2), m.krow.2⟩,
    ⟨m.ks.1, fun i v l h1 h2 => ⟨ownsRow_same (m.ks.2 i v l h1 h2).1 (fun k hk => hs k ((m.ks.2 i v l h1 h2).2 k hk).1 ((m.ks.2 i v l h1 h2).1.lt k hk).2), (m.ks.2 i v l h1 h2).2⟩⟩, m.ord, m.hb, m.big, m.kb⟩
theorem RfMem.below {w w' : World} {F : Nat → Prop} {rp pp M : Nat} {S : HpSt} {kept : List (List Blk)} {vm vb vk : Value} {vks : List Value} (m : RfMem w F rp pp M S kept vm vb vk vks) (hb : Below w.heap.size w w') : RfMem w' F rp pp M S kept vm vb vk vks := m.same (fun k _ hk => hb.block k hk)
theorem RfMem.cells {w : World} {F : Nat → Prop} {rp pp M : Nat} {S : HpSt} {kept : List (List Blk)} {vm vb vk : Value} {vks : List Value} (m : RfMem w F rp pp M S kept vm vb vk vks) :
    w.cell? ⟨rp, 0, none⟩ = some (.pointer (some ⟨pp, 0, none⟩)) ∧ w.cell? ⟨rp, 1, none⟩ = some (.int .i64 S.k) ∧ w.cell? ⟨rp, 2, none⟩ = some (.int .i64 S.s) ∧ w.cell? ⟨rp, 3, none⟩ = some (.int .i64 S.m) ∧ w.cell? ⟨rp, 4, none⟩ = some (.bool S.closed) ∧ w.cell? ⟨rp, 5, none⟩ = some (.int .i64 (S.count : Int)) ∧
      w.cell? ⟨rp, 6, none⟩ = some vm ∧ w.cell? ⟨rp, 7, none⟩ = some vb ∧ w.cell? ⟨rp, 8, none⟩ = some (.int .i64 (S.last : Int)) ∧ w.cell? ⟨rp, 9, none⟩ = some vk := by
  refine ⟨?_, ?_, ?_, ?_, ?_, ?_, ?_, ?_, ?_, ?_⟩ <;> (rw [cell_of m.self]; rfl)
/-- The cells of a block of a row that may begin anywhere. -/
theorem oblk_cells {w : World} {v : Value} {l : List Blk} {i : Nat} {x : Blk} (h : OffRow w 78 3 v l.length (l.flatMap Blk.cells)) (hs : l[i]? = some x) :
    ∃ g off cap, v = .slice (some ⟨g, off, none⟩) l.length cap ∧ w.cell? ⟨g, off + i * 3, none⟩ = some (.int .i64 (x.h : Int)) ∧ w.cell? ⟨g, off + i * 3 + 1, none⟩ = some (.int .i64 (x.at' : Int)) ∧ w.cell? ⟨g, off + i * 3 + 2, none⟩ = some (.int .i64 (x.len : Int)) ∧ ∀ j, w.frozen? ⟨g, j, none⟩ = false := by
  have hi : i < l.length := (List.getElem?_eq_some_iff.1 hs).1
  obtain ⟨g, off, cap, rfl⟩ : ∃ g off cap, v = .slice (some ⟨g, off, none⟩) l.length cap := by
    rcases h.2 with ⟨h1, h2⟩ | ⟨g, off, cap', cur, h1, _⟩
    · omega
    · exact ⟨g, off, cap', h1⟩
  have key : ∀ r (u : Value), r < 3 → x.cells[r]? = some u → w.cell? ⟨g, off + (i * 3 + r), none⟩ = some u := fun r u hr hu => h.cell (by rw [blk_get l i r x hs hr]; exact hu)
  obtain ⟨cur, hc⟩ := h.block (k := g) (by simp [Value.ownBlock])
  exact ⟨g, off, cap, rfl, key 0 _ (by decide) rfl, key 1 _ (by decide) rfl, key 2 _ (by decide) rfl, fun j => free_of hc _⟩

def atI (S : HpSt) (q : Int) : Nat := if fndE S q = 0 then ((findB S.bl q).map Prod.fst).getD 0 else 0
/-- at's error: first whether the heap is closed, then the search, then whether the number was ever made. -/
theorem fndE_hit {S : HpSt} {q : Int} {i : Nat} {x : Blk} (hb : ∀ x ∈ S.bl, 1 ≤ x.h ∧ x.h ≤ S.last ∧ x.at' + x.len ≤ S.mem.length) (hc : S.closed = false) (h : findB S.bl q = some (i, x)) : fndE S q = 0 ∧ atI S q = i := by
  have h1 := findB_at h
  have h2 := hb x (List.mem_of_getElem? h1.1)
  have e : fndE S q = 0 := by
    unfold fndE
    rw [hc, if_neg (by simp), if_neg (by omega), h]
  refine ⟨e, ?_⟩
  unfold atI
  rw [if_pos e, h]
  rfl
def AtPost (S : HpSt) (q : Int) (w : World) : Ending → World → Prop := fun e w' => e = .returned (.tuple #[.int .i64 (atI S q : Int), .int .i64 (fndE S q)]) ∧ Below w.heap.size w w'

set_option maxHeartbeats 4000000 in
set_option maxRecDepth 100000 in
theorem atR_any {w : World} {F : Nat → Prop} {rp pp M : Nat} {S : HpSt} {kept : List (List Blk)} {vm vb vk : Value} {vks : List Value} (m : RfMem w F rp pp M S kept vm vb vk vks) (q : Int) :
    Calls Tryz.prog 42 #[.pointer (some ⟨rp, 0, none⟩), .int .i64 q] w (AtPost S q w) := by
  obtain ⟨c0, c1, c2, c3, c4, c5, c6, c7, c8, c9⟩ := m.cells
  have hl1 := m.big.2.2.1
  cases hc : S.closed with
  | true =>
    rw [hc] at c4
    have FIN : Hid (AtPost S q w (.returned (.tuple #[.int .i64 0, .int .i64 11])) w) := Lib.hid ⟨by
      have e : fndE S q = 11 := by unfold fndE; rw [hc]; rfl
      unfold atI; rw [e]; rfl, Below.refl _ _⟩
    clear m hc
    go_enter Tryz.func42, Tryz.ntmps42
    go_wp2_with fail
    go_ret2
    exact FIN.out
  | false =>
    rw [hc] at c4
    have HM := Lib.hid m
    obtain ⟨L, hL⟩ : ∃ L, S.bl.length = L := ⟨_, rfl⟩
    have HL := Lib.hid hL
    have hfew := m.big.2.1
    obtain ⟨a, cap, hvb, _⟩ := m.row.1.sh
    have HVB := Lib.hid hvb
    have HC := Lib.hid hc
    rw [hvb, hL] at c7
    rw [hL] at hfew
    have HC8 := Lib.hid c8
    clear m hc hL hvb
    go_enter Tryz.func42, Tryz.ntmps42
    go_wp2_with fail
    go_loopw [17] (fun i wr => ∃ k : Nat, k ≤ L ∧ i = .int .i64 (k : Int) ∧ Below w.heap.size w wr ∧ findB (S.bl.take k) q = none) (fun i _ => L - (intOf i).toNat)
    case atStart => exact ⟨0, Nat.zero_le _, rfl, Below.refl _ _, rfl⟩
    case round =>
      obtain ⟨k, hk, rfl, hb, hnone⟩ := hrel
      by_cases hlt : k < L
      · obtain ⟨x, hx⟩ : ∃ x, S.bl[k]? = some x := ⟨_, List.getElem?_eq_getElem (by have := HL.out; omega)⟩
        obtain ⟨g, off, cap2, hv2, d0, d1, d2, _⟩ := oblk_cells HM.out.row.1 hx
        have hv3 := HVB.out
        rw [hv2] at hv3
        simp only [Value.slice.injEq] at hv3
        obtain ⟨rfl, k6, rfl⟩ := hv3
        clear k6
        have d0 := old_cell hb d0
        have d1 := old_cell hb d1
        have d2 := old_cell hb d2
        have HB1 : Hid (∀ o, Below w.heap.size w (wr.alloc o)) := Lib.hid (fun o => hb.trans ((Below.refl _ _).alloc hb.size _))
        by_cases hh : (x.h : Int) = q
        · have hf := findB_hit hx hh hnone
          have FIN : Hid (∀ o, AtPost S q w (.returned (.tuple #[.int .i64 (k : Int), .int .i64 0])) (wr.alloc o)) := Lib.hid (fun o => by
            obtain ⟨e1, e2⟩ := fndE_hit HM.out.hb HC.out hf
            exact ⟨by rw [e1, e2], HB1.out o⟩)
          clear hf hx hnone hv2 hb
          go_wp2_with fail
          go_ret2
          exact FIN.out _
        · have hf := Lib.hid (findB_next hx hh hnone)
          clear hx hnone hv2 hb
          go_wp2_with fail
          go_roundw
          case measure => simp only [intOf]; omega
          case rel => exact ⟨k + 1, by omega, by go_num, HB1.out _, hf.out⟩
      · obtain rfl : k = L := by omega
        have ek : S.bl.take k = S.bl := List.take_of_length_le (by have := HL.out; omega)
        rw [ek] at hnone
        have c8' := old_cell hb HC8.out
        have HB := Lib.hid hb
        have FIN : Hid (AtPost S q w (.returned (.tuple #[.int .i64 0, .int .i64 (if ¬ (1 ≤ q ∧ q ≤ (S.last : Int)) then 7 else 13)])) wr) := Lib.hid (by
          have e : fndE S q = if ¬ (1 ≤ q ∧ q ≤ (S.last : Int)) then 7 else 13 := by unfold fndE; rw [HC.out, hnone]; rfl
          refine ⟨?_, HB.out⟩
          rw [← e]
          have : fndE S q ≠ 0 := by rw [e]; split <;> decide
          unfold atI
          rw [if_neg this]
          rfl)
        have F1 : Hid (¬ (1 ≤ q ∧ q ≤ (S.last : Int)) → AtPost S q w (.returned (.tuple #[.int .i64 0, .int .i64 7])) wr) := Lib.hid (fun h => by have := FIN.out; rwa [if_pos h] at this)
        have F2 : Hid ((1 ≤ q ∧ q ≤ (S.last : Int)) → AtPost S q w (.returned (.tuple #[.int .i64 0, .int .i64 13])) wr) := Lib.hid (fun h => by have := FIN.out; rwa [if_neg (not_not_intro h)] at this)
        clear hnone ek hb FIN
        go_wp2_with fail
        all_goals go_ret2
        all_goals first | exact F1.out (by omega) | exact F2.out (by omega)

end
end Go.Proofs.YtjogaohnphafgaaGreat

namespace Go.Proofs.YtjogaohnphafgaaGreat
section
open Go.RowKit
set_option linter.unusedVariables false

theorem res3h {W : World} {r : Nat} {t : TypeId} {x0 x1 x2 a b c : Value} (h : W.heap[r]? = some (.cells #[x0, x1, x2] t (0, 0))) :
    (((W.setCell ⟨r, 0, none⟩ a).setCell ⟨r, 1, none⟩ b).setCell ⟨r, 2, none⟩ c).heap[r]? = some (.cells #[a, b, c] t (0, 0)) := by
  have h0 := block_setCell h 0 a
  have h1 := block_setCell h0 1 b
  exact block_setCell h1 2 c
theorem cells3h {W : World} {r : Nat} {t : TypeId} {a b c : Value} (h : W.heap[r]? = some (.cells #[a, b, c] t (0, 0))) : W.cell? ⟨r, 0, none⟩ = some a ∧ W.cell? ⟨r, 1, none⟩ = some b ∧ W.cell? ⟨r, 2, none⟩ = some c := by
  refine ⟨?_, ?_, ?_⟩ <;> (rw [cell_of h]; rfl)
theorem below3h {w W : World} {B : Nat} (h : Below B w W) {r : Nat} (hr : B ≤ r) (a b c : Value) : Below B w (((W.setCell ⟨r, 0, none⟩ a).setCell ⟨r, 1, none⟩ b).setCell ⟨r, 2, none⟩ c) :=
  ((h.setCell (p := ⟨r, 0, none⟩) hr _).setCell (p := ⟨r, 1, none⟩) hr _).setCell (p := ⟨r, 2, none⟩) hr _

/-- The block with a number. -/
def blkAt (S : HpSt) (q : Int) : Blk := if fndE S q = 0 then ((findB S.bl q).map Prod.snd).getD ⟨0, 0, 0⟩ else ⟨0, 0, 0⟩
theorem fndE_zero {S : HpSt} {q : Int} (h : fndE S q = 0) : S.closed = false ∧ ∃ i x, findB S.bl q = some (i, x) ∧ S.bl[i]? = some x ∧ atI S q = i ∧ blkAt S q = x := by
  have h' := h
  unfold fndE at h
  split at h
  · cases h
  · next hc =>
    split at h
    · cases h
    · cases hf : findB S.bl q with
      | none => rw [hf] at h; cases h
      | some p =>
        obtain ⟨i, x⟩ := p
        refine ⟨by simpa using hc, i, x, rfl, (findB_at hf).1, ?_, ?_⟩
        · unfold atI; rw [if_pos h', hf]; rfl
        · unfold blkAt; rw [if_pos h', hf]; rfl
theorem blkAt_none {S : HpSt} {q : Int} (h : fndE S q ≠ 0) : blkAt S q = ⟨0, 0, 0⟩ := by unfold blkAt; rw [if_neg h]
theorem blkAt_in {S : HpSt} {q : Int} {n : Nat} (hb : ∀ x ∈ S.bl, x.at' + x.len ≤ n) : (blkAt S q).at' + (blkAt S q).len ≤ n := by
  by_cases h : fndE S q = 0
  · obtain ⟨_, i, x, _, hx, _, e⟩ := fndE_zero h
    rw [e]
    exact hb x (List.mem_of_getElem? hx)
  · rw [blkAt_none h]; exact Nat.zero_le _
def BkPost (S : HpSt) (q : Int) (w : World) : Ending → World → Prop := fun e w' => e = .returned (.tuple #[.agg #[.int .i64 ((blkAt S q).h : Int), .int .i64 ((blkAt S q).at' : Int), .int .i64 ((blkAt S q).len : Int)], .int .i64 (fndE S q)]) ∧ Below w.heap.size w w'

set_option maxHeartbeats 4000000 in
set_option maxRecDepth 100000 in
theorem blockR_any {w : World} {F : Nat → Prop} {rp pp M : Nat} {S : HpSt} {kept : List (List Blk)} {vm vb vk : Value} {vks : List Value} (m : RfMem w F rp pp M S kept vm vb vk vks) (q : Int) :
    Calls Tryz.prog 46 #[.pointer (some ⟨rp, 0, none⟩), .int .i64 q] w (BkPost S q w) := by
  have B0 : Below w.heap.size w (w.alloc (.cells #[.int .i64 0, .int .i64 0, .int .i64 0] 78)) := (Below.refl _ w).alloc (Nat.le_refl _) _
  have RS0 := heap_alloc_new w (.cells #[.int .i64 0, .int .i64 0, .int .i64 0] 78)
  have AT := Lib.hid (atR_any (m.below B0) q)
  unfold AtPost at AT
  have HM := Lib.hid m
  clear m
  go_enter Tryz.func46, Tryz.ntmps46
  go_upto_region 1 with fail
  generalize w.alloc (.cells #[.int .i64 0, .int .i64 0, .int .i64 0] 78) = W0 at *
  have HB0 := Lib.hid B0
  have HRS := Lib.hid RS0
  clear B0 RS0
  obtain ⟨r, hr⟩ : ∃ r, w.heap.size = r := ⟨_, rfl⟩
  have HRR := Lib.hid hr
  have hge : w.heap.size ≤ r := by rw [hr]; exact Nat.le_refl _
  have HRS : Hid (W0.heap[r]? = some (.cells #[.int .i64 0, .int .i64 0, .int .i64 0] 78 (0, 0))) := Lib.hid (by rw [← hr]; exact HRS.out)
  rw [hr]
  clear hr
  by_cases hE : fndE S q = 0
  case neg =>
    have FIN := Lib.hid (fun (W : World) (h : Below w.heap.size w W) => (show BkPost S q w (.returned (.tuple #[.agg #[.int .i64 0, .int .i64 0, .int .i64 0], .int .i64 (fndE S q)])) W from ⟨by rw [blkAt_none hE]; rfl, h⟩))
    have hE1 : (fndE S q != 0) = true := bne_iff_ne.2 hE
    have hE2 : (fndE S q == 0) = false := by simpa using hE
    generalize fndE S q = E at *
    generalize atI S q = I at *
    clear hE
    go_wp2_with fail
    refine AT.out.mono ?_
    rintro e w2 ⟨rfl, hb2⟩
    have HB2 := Lib.hid (HB0.out.trans (hb2.mono HB0.out.size))
    have R2 := (hb2.block _ (lt_of HRS.out)).trans HRS.out
    obtain ⟨q0, q1, q2⟩ := cells3h R2
    have f0 := free_of R2 0
    have f1 := free_of R2 1
    have f2 := free_of R2 2
    have HR2 := Lib.hid R2
    clear hb2 R2 AT HRS HB0
    go_wp2_with fail
    (try simp only [Exit.inBlock, Exit.then])
    obtain ⟨p0, p1, p2⟩ := cells3h (res3h (a := .int .i64 0) (b := .int .i64 0) (c := .int .i64 0) HR2.out)
    refine bodyPost_ret (v := .tuple #[.agg #[.int .i64 0, .int .i64 0, .int .i64 0], .int .i64 E]) ?_ rfl (FIN.out _ (below3h HB2.out hge _ _ _))
    rw [results_cell_tmp rfl]
    go_simp
  case pos =>
    obtain ⟨hcl, i, x, hf, hx, hi, hbk⟩ := fndE_zero hE
    have FIN := Lib.hid (fun (W : World) (h : Below w.heap.size w W) => (show BkPost S q w (.returned (.tuple #[.agg #[.int .i64 (x.h : Int), .int .i64 (x.at' : Int), .int .i64 (x.len : Int)], .int .i64 0])) W from ⟨by rw [hbk, hE], h⟩))
    rw [hE, hi] at AT
    have hil : i < S.bl.length := (List.getElem?_eq_some_iff.1 hx).1
    obtain ⟨N, hN⟩ : ∃ N, S.bl.length = N := ⟨_, rfl⟩
    have hfew := HM.out.big.2.1
    rw [hN] at hil hfew
    have HX := Lib.hid hx
    have HN := Lib.hid hN
    clear hE hcl hf hx hi hbk hN
    go_wp2_with fail
    refine AT.out.mono ?_
    rintro e w2 ⟨rfl, hb2⟩
    have HB2 := Lib.hid (HB0.out.trans (hb2.mono HB0.out.size))
    have R2 := (hb2.block _ (lt_of HRS.out)).trans HRS.out
    obtain ⟨q0, q1, q2⟩ := cells3h R2
    have f0 := free_of R2 0
    have f1 := free_of R2 1
    have f2 := free_of R2 2
    have HR2 := Lib.hid R2
    have m2 := HM.out.below HB2.out
    have c7 := m2.cells.2.2.2.2.2.2.2.1
    obtain ⟨g, off, cap, hv, d0, d1, d2, _⟩ := oblk_cells m2.row.1 HX.out
    rw [HN.out] at hv
    subst hv
    clear hb2 R2 AT HRS HB0 m2
    go_wp2_with fail
    (try simp only [Exit.inBlock, Exit.then])
    obtain ⟨p0, p1, p2⟩ := cells3h (res3h (a := .int .i64 (x.h : Int)) (b := .int .i64 (x.at' : Int)) (c := .int .i64 (x.len : Int)) HR2.out)
    refine bodyPost_ret (v := .tuple #[.agg #[.int .i64 (x.h : Int), .int .i64 (x.at' : Int), .int .i64 (x.len : Int)], .int .i64 0]) ?_ rfl (FIN.out _ (below3h HB2.out hge _ _ _))
    rw [results_cell_tmp rfl]
    go_simp

end
end Go.Proofs.YtjogaohnphafgaaGreat
