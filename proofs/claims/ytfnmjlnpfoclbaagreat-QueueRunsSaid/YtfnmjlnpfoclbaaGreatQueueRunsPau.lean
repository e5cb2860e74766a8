/-
  A row that begins anywhere in its block: what is left of it, and what is appended to it. No conditions but lengths.
  The reference's book in memory. No conditions.
-/
import Derived.Test.YtfnmjlnpfoclbaaGreatQueueRunsPac
import Derived.Test.YtfnmjlnpfoclbaaGreatQueueRunsPat
import Derived.ArgAppend

namespace Go.Proofs.YtfnmjlnpfoclbaaGreat
section
open Go.RowKit
set_option linter.unusedVariables false

/-- A row of its own that may begin behind its block's beginning. -/
def OffRow (w : World) (e size : Nat) (v : Value) (n : Nat) (xs : List Value) : Prop :=
  xs.length = n * size ∧ ((v = .slice none 0 0 ∧ n = 0) ∨ ∃ g off cap cur, v = .slice (some ⟨g, off, none⟩) n cap ∧ w.heap[g]? = some (.cells cur e (0, 0)) ∧ n ≤ cap ∧ cap ≤ maxLen ∧ off + cap * size ≤ cur.size ∧ (cur.toList.drop off).take (n * size) = xs)

theorem OffRow.nil (w : World) (e size : Nat) : OffRow w e size (.slice none 0 0) 0 [] := ⟨by simp, .inl ⟨rfl, rfl⟩⟩
theorem OffRow.of_own {w : World} {B e size n : Nat} {v : Value} {xs : List Value} (h : w.ownsRow B e size v n xs) : OffRow w e size v n xs := by
  refine ⟨h.1, ?_⟩
  rcases h.2 with h2 | ⟨g, cap, cur, hv, hB, hg, hn, hm, hs, ht⟩
  · exact .inl h2
  · exact .inr ⟨g, 0, cap, cur, hv, hg, hn, hm, by omega, by simpa using ht⟩
theorem OffRow.same {w w' : World} {e size n : Nat} {v : Value} {xs : List Value} (h : OffRow w e size v n xs) (hs : ∀ k, v.ownBlock = some k → w'.heap[k]? = w.heap[k]?) : OffRow w' e size v n xs := by
  refine ⟨h.1, ?_⟩
  rcases h.2 with h2 | ⟨g, off, cap, cur, rfl, hg, rest⟩
  · exact .inl h2
  · exact .inr ⟨g, off, cap, cur, rfl, (hs g rfl).trans hg, rest⟩
theorem OffRow.block {w : World} {e size n : Nat} {v : Value} {xs : List Value} (h : OffRow w e size v n xs) {k : Nat} (hk : v.ownBlock = some k) : ∃ cur, w.heap[k]? = some (.cells cur e (0, 0)) := by
  rcases h.2 with ⟨rfl, _⟩ | ⟨g, off, cap, cur, rfl, hg, _⟩
  · simp [Value.ownBlock] at hk
  · simp [Value.ownBlock] at hk; subst hk; exact ⟨cur, hg⟩
theorem OffRow.sh {w : World} {e size n : Nat} {v : Value} {xs : List Value} (h : OffRow w e size v n xs) : ∃ a c, v = .slice a n c ∧ n ≤ c ∧ c ≤ maxLen := by
  rcases h.2 with ⟨rfl, rfl⟩ | ⟨g, off, cap, cur, rfl, _, h1, h2, _⟩
  · exact ⟨_, _, rfl, Nat.le_refl _, Nat.zero_le _⟩
  · exact ⟨_, _, rfl, h1, h2⟩
theorem OffRow.cell {w : World} {e size n g off cap : Nat} {xs : List Value} (h : OffRow w e size (.slice (some ⟨g, off, none⟩) n cap) n xs) {j : Nat} {u : Value} (hj : xs[j]? = some u) : w.cell? ⟨g, off + j, none⟩ = some u := by
  rcases h.2 with ⟨h1, _⟩ | ⟨g', off', cap', cur, hv, hg, hn, hm, hs, ht⟩
  · simp at h1
  · simp only [Value.slice.injEq, Option.some.injEq, Addr.mk.injEq, and_true, true_and] at hv
    obtain ⟨⟨rfl, rfl⟩, rfl⟩ := hv
    have hjl : j < n * size := by rw [← h.1]; exact (List.getElem?_eq_some_iff.1 hj).1
    rw [cell_of hg, ← Array.getElem?_toList]
    rw [← ht, List.getElem?_take_of_lt hjl, List.getElem?_drop] at hj
    exact hj

/-- What is left behind the first k. -/
theorem OffRow.drop {w : World} {e size n g off cap : Nat} {xs : List Value} (h : OffRow w e size (.slice (some ⟨g, off, none⟩) n cap) n xs) {k : Nat} (hk : k ≤ n) :
    OffRow w e size (.slice (some ⟨g, off + k * size, none⟩) (n - k) (cap - k)) (n - k) (xs.drop (k * size)) := by
  rcases h.2 with ⟨h1, _⟩ | ⟨g', off', cap', cur, hv, hg, hn, hm, hs, ht⟩
  · simp at h1
  · simp only [Value.slice.injEq, Option.some.injEq, Addr.mk.injEq, and_true, true_and] at hv
    obtain ⟨⟨rfl, rfl⟩, rfl⟩ := hv
    refine ⟨by rw [List.length_drop, h.1, Nat.sub_mul], .inr ⟨g, off + k * size, cap - k, cur, rfl, hg, by omega, by omega, ?_, ?_⟩⟩
    · rw [Nat.sub_mul]
      have := Nat.mul_le_mul_right size (show k ≤ cap by omega)
      omega
    · rw [← ht, List.drop_take, List.drop_drop, Nat.sub_mul]

/-- One append: in place, or in a new block. -/
theorem run_append_off {P : Program} (w : World) (t ty e : TypeId) (i : TypeInfo) (z : Value) (size bytes : Nat) (ht : P.underlying t = some (.slice e)) (hi : P.info? e = some i) (hz : i.zero = some z)
    (hsize : i.size = size) (hby : i.bytes = bytes) (hzs : z.cells.size = size) (hsz : 0 < size)
    (v : Value) (n : Nat) (xs : List Value) (hown : OffRow w e size v n xs)
    (a : Addr) (m c : Nat) (news : List Value) (hl : news.length = m * size) (hnews : ∀ j u, news[j]? = some u → w.cell? (a.add j) = some u) (h1 : ∀ u ∈ news, u.oneCell' = true)
    (hm : 0 < m) (h63 : n + m ≤ maxLen) (hbytes : (n + m) * bytes ≤ 140737488355328) :
    ∃ g off cap w', (Builtin.append_ #[t, t] ty #[v, .slice (some a) m c]).run P w = .ok (.slice (some ⟨g, off, none⟩) (n + m) cap) w' ∧ OffRow w' e size (.slice (some ⟨g, off, none⟩) (n + m) cap) (n + m) (xs ++ news) ∧ w.grownBy w' v.ownBlock ∧
      (v.ownBlock = some g ∨ w.heap.size ≤ g) := by
  rcases hown.2 with ⟨rfl, rfl⟩ | ⟨g, off, cap, cur, rfl, hg, hn, hc, hs, htk⟩
  · have hx : xs = [] := List.eq_nil_of_length_eq_zero (by rw [hown.1]; simp)
    subst hx
    obtain ⟨g, cap, w', hr, ho, hgr, hp⟩ := run_append_place (P := P) w 0 t ty e i z size bytes ht hi hz hsize hby hzs hsz (.slice none 0 0) 0 [] (World.ownsRow_nil _ _ _ _) a m c news hl hnews h1 hm h63 hbytes (Nat.zero_le _)
    exact ⟨g, 0, cap, w', hr, .of_own ho, hgr, hp⟩
  · by_cases hroom : n + m ≤ cap
    · have hmul : n * size + m * size ≤ cap * size := by rw [← Nat.add_mul]; exact Nat.mul_le_mul_right _ hroom
      subst hsize
      have hr := run_append_room_cells (P := P) (w := w) t ty e i ht hi g off n cap a m c news hl hnews h1 hroom
        (fun j hj => by rw [cell_of hg, Array.getElem?_eq_getElem (by omega)]; rfl) (fun j hj => free_of hg _)
      obtain ⟨cur', k1, k2, k3⟩ := block_setCells news (off + n * i.size) w cur hg (by omega)
      refine ⟨g, off, cap, _, hr, ⟨by rw [List.length_append, hown.1, hl, Nat.add_mul], .inr ⟨g, off, cap, cur', rfl, k1, hroom, hc, by rw [k2]; exact hs, ?_⟩⟩, ?_, Or.inl rfl⟩
      · rw [k3]
        have hlt : (cur.toList.take (off + n * i.size)).length = off + n * i.size := by rw [List.length_take]; simp; omega
        rw [List.append_assoc, List.drop_append_of_le_length (by omega), List.drop_take]
        have e1 : off + n * i.size - off = n * i.size := by omega
        rw [e1, htk, ← List.append_assoc]
        refine List.take_left' ?_
        rw [List.length_append, hown.1, hl, Nat.add_mul]
      · obtain ⟨r1, r2, r3⟩ := setCells_rest g news (off + n * i.size) w
        refine ⟨r1, r2, r3, ?_, ?_⟩
        · rw [size_setCells]; exact Nat.le_refl _
        · exact fun k hk hne => heap_setCells_other g news _ w k (fun e => hne (by rw [e]; rfl))
    · have hlo : xs.length = n * size := hown.1
      obtain ⟨v', w', hr, ho, hgr⟩ := run_append_arg_grows (P := P) (w := w) t ty e i z size bytes ht hi hz hsize hby hzs hsz ⟨g, off, none⟩ n cap xs hlo (fun j u hj => by
        have e1 : (⟨g, off, none⟩ : Addr).add j = ⟨g, off + j, none⟩ := by unfold Addr.add; split <;> simp_all
        rw [e1]; exact hown.cell hj) a m c news hl hnews (by omega) h63 hbytes
      rcases ho.2 with ⟨_, h0⟩ | ⟨g2, cap2, cur2, rfl, hb2, hg2, rest⟩
      · omega
      refine ⟨g2, 0, cap2, w', hr, .of_own ho, ⟨hgr.os, hgr.tape, hgr.output, hgr.size, fun k hk _ => hgr.block k hk (by simp)⟩, Or.inr hb2⟩

/-- 'x.f = append(x.f, y)' in a region that draws: y lies in the block just made; the row may begin anywhere. -/
theorem step_append_off {P : Program} {ops : Array Oper} {o : Oper} {a : Act} {K : Act → World → Prop} {Q : Exit → Act → World → Prop} {E : Prop}
    (hg : o.guard = none) (s x : Operand) (t : TypeId) (hop : o.op = Op.call { callee := Callee.builtin Builtin.append, args := #[s, x], argTypes := #[t, t] })
    (e : TypeId) (i : TypeInfo) (z : Value) (size bytes : Nat) (ht : P.underlying t = some (.slice e)) (hi : P.info? e = some i) (hz : i.zero = some z)
    (hsize : i.size = size) (hby : i.bytes = bytes) (hzs : z.cells.size = size) (hsz : 0 < size)
    (v : Value) (n : Nat) (xs : List Value) (wr : World) (e' : TypeId) (us : List Value) (hs : a.eval s = v) (hown : OffRow wr e size v n xs)
    (hx : a.eval x = .slice (some ⟨wr.heap.size, 0, none⟩) 1 1) (hl : us.length = size) (h1 : ∀ u ∈ us, u.oneCell' = true)
    (h63 : n + 1 ≤ maxLen) (hbytes : (n + 1) * bytes ≤ 140737488355328)
    (h : ∀ g off cap w', OffRow w' e size (.slice (some ⟨g, off, none⟩) (n + 1) cap) (n + 1) (xs ++ us) → wr.grownBy w' v.ownBlock → (v.ownBlock = some g ∨ wr.heap.size ≤ g) → wr.heap.size < w'.heap.size → K (a.put o.dst (.slice (some ⟨g, off, none⟩) (n + 1) cap)) w') :
    if Region.wanted o (yielded ops a.tmps) = true then Oper.wp P o a (wr.alloc (.cells us.toArray e')) K Q else E := by
  have hw : Region.wanted o (yielded ops a.tmps) = true := by simp [Region.wanted, hg]
  rw [if_pos hw]
  have hnews : ∀ j u, us[j]? = some u → (wr.alloc (.cells us.toArray e')).cell? ((⟨wr.heap.size, 0, none⟩ : Addr).add j) = some u := by
    intro j u hj
    have e1 : (⟨wr.heap.size, 0, none⟩ : Addr).add j = ⟨wr.heap.size, j, none⟩ := by unfold Addr.add; split <;> simp_all
    rw [e1, cell_of_row _ _ _ _ _ _ (heap_alloc_new wr _)]
    simpa using hj
  have hown' : OffRow (wr.alloc (.cells us.toArray e')) e size v n xs := hown.same (fun k hk => by
    obtain ⟨cur, hc⟩ := hown.block hk
    exact heap_alloc_old wr _ (lt_of hc))
  obtain ⟨g, off, cap, w', hr, ho, hg', hp⟩ := run_append_off (P := P) (wr.alloc (.cells us.toArray e')) t o.type e i z size bytes ht hi hz hsize hby hzs hsz v n xs hown' ⟨wr.heap.size, 0, none⟩ 1 1 us (by omega) hnews h1 (by omega) h63 hbytes
  unfold Oper.wp execOp
  simp only [hop, resolve, invoke, builtin, Sem.run_bind, Sem.run_pure, Result.andThen_ok, List.map_toArray, List.map_cons, List.map_nil, hs, hx, hr]
  have hg2 : wr.grownBy w' v.ownBlock := ⟨hg'.os, hg'.tape, hg'.output, Nat.le_trans (by simp) hg'.size, fun k hk hne => (hg'.block k (by simp; omega) hne).trans (heap_alloc_old wr _ hk)⟩
  exact h g off cap w' ho hg2 (hp.imp id (fun x => by simp at x; omega)) (by have := hg'.size; simp at this; omega)

end
end Go.Proofs.YtfnmjlnpfoclbaaGreat

namespace Go.Proofs.YtfnmjlnpfoclbaaGreat
section
open Go.RowKit Go.Maps
set_option linter.unusedVariables false

/-- How an account reads: two integers. -/
def accList : List Value → Option (DataW Unit × List MemPlace)
  | [.int .i64 l, .int .i64 h] => some (.agg [.lit (.int .i64 l), .lit (.int .i64 h)], [])
  | _ => none
def accElem : Value → Option (DataW Unit × List MemPlace)
  | .agg cs => accList cs.toList
  | _ => none
theorem accElem_inv {v : Value} {l h : Int} {ps : List MemPlace} (e : accElem v = some (.agg [.lit (.int .i64 l), .lit (.int .i64 h)], ps)) : v = .agg #[.int .i64 l, .int .i64 h] := by
  unfold accElem at e
  split at e
  · next cs =>
    unfold accList at e
    split at e
    · next l' h' hl =>
      simp only [Option.some.injEq, Prod.mk.injEq, DataW.agg.injEq, List.cons.injEq, DataW.lit.injEq, Lit.int.injEq, true_and, and_true] at e
      obtain ⟨⟨rfl, rfl⟩, _⟩ := e
      have : cs = #[.int .i64 l', .int .i64 h'] := by rw [← Array.toArray_toList (xs := cs), hl]
      rw [this]
    · cases e
  · cases e
def accZero : DataW Unit := .agg [.lit (.int .i64 0), .lit (.int .i64 0)]
def accAt (a : Option (Int × Int × Int)) (z : DataW Unit) : DataW Unit := match a with | none => z | some (l, h, _) => .agg [.lit (.int .i64 l), .lit (.int .i64 h)]

def refCells (st : BookSt) (whole : Bool) (mb : Nat) (lv ev : Value) : Array Value :=
  #[.int .i64 st.budget, .map (some mb), lv, .int .i64 st.last, .int .i64 st.time, .bool whole, ev]

structure RefMem (w : World) (F : Nat → Prop) (p : Nat) (st : BookSt) (es : List Ent) (whole : Bool) (N mb : Nat) (lv ev : Value) (D : DataW Unit) : Prop where
  self : w.heap[p]? = some (.cells (refCells st whole mb lv ev) 66 (0, 0))
  fp : F p
  map : w.ownsMap Tryz.prog 3 accElem mb N D
  fmap : F mb
  tidy : Tidy D
  size : (Maps.size D : Int) = accCnt st.acc
  look : ∀ o z, D.atKey (.int .i64 o) z = accAt (st.acc o) z
  has : ∀ o, Maps.has D (.int .i64 o) = (st.acc o).isSome
  lrow : w.ownsRow 0 98 4 lv st.leases.length (st.leases.flatMap Lea.cells)
  flea : ∀ k, lv.ownBlock = some k → F k
  erow : OffRow w 61 6 ev es.length (es.flatMap Ent.cells)
  fent : ∀ k, ev.ownBlock = some k → F k

def RefAt (w : World) (F : Nat → Prop) (p : Nat) (st : BookSt) (es : List Ent) (whole : Bool) (N : Nat) : Prop := ∃ mb lv ev D, RefMem w F p st es whole N mb lv ev D

theorem RefMem.same {w w' : World} {F : Nat → Prop} {p : Nat} {st : BookSt} {es : List Ent} {wh : Bool} {N mb : Nat} {lv ev : Value} {D : DataW Unit} (h : RefMem w F p st es wh N mb lv ev D) (hs : SameOn F w w') : RefMem w' F p st es wh N mb lv ev D where
  self := (hs p h.fp (lt_of h.self)).trans h.self
  fp := h.fp
  map := ownsMap_same h.map (hs mb h.fmap h.map.lt)
  fmap := h.fmap
  tidy := h.tidy
  size := h.size
  look := h.look
  has := h.has
  lrow := ownsRow_same h.lrow (fun k hk => by
    obtain ⟨cur, hc⟩ := row_block h.lrow hk
    exact hs k (h.flea k hk) (lt_of hc))
  flea := h.flea
  erow := h.erow.same (fun k hk => by
    obtain ⟨cur, hc⟩ := h.erow.block hk
    exact hs k (h.fent k hk) (lt_of hc))
  fent := h.fent
theorem RefMem.wider {w : World} {F G : Nat → Prop} {p : Nat} {st : BookSt} {es : List Ent} {wh : Bool} {N mb : Nat} {lv ev : Value} {D : DataW Unit} (h : RefMem w F p st es wh N mb lv ev D) (hG : ∀ k, F k → G k) : RefMem w G p st es wh N mb lv ev D :=
  ⟨h.self, hG _ h.fp, h.map, hG _ h.fmap, h.tidy, h.size, h.look, h.has, h.lrow, fun k hk => hG _ (h.flea k hk), h.erow, fun k hk => hG _ (h.fent k hk)⟩
theorem RefAt.same {w w' : World} {F : Nat → Prop} {p : Nat} {st : BookSt} {es : List Ent} {wh : Bool} {N : Nat} (h : RefAt w F p st es wh N) (hs : SameOn F w w') : RefAt w' F p st es wh N := by
  obtain ⟨mb, lv, ev, D, h⟩ := h; exact ⟨mb, lv, ev, D, h.same hs⟩
theorem RefAt.wider {w : World} {F G : Nat → Prop} {p : Nat} {st : BookSt} {es : List Ent} {wh : Bool} {N : Nat} (h : RefAt w F p st es wh N) (hG : ∀ k, F k → G k) : RefAt w G p st es wh N := by
  obtain ⟨mb, lv, ev, D, h⟩ := h; exact ⟨mb, lv, ev, D, h.wider hG⟩
theorem RefMem.pe {w : World} {F : Nat → Prop} {p : Nat} {st : BookSt} {es : List Ent} {wh : Bool} {N mb : Nat} {lv ev : Value} {D : DataW Unit} (h : RefMem w F p st es wh N mb lv ev D) : ev.ownBlock ≠ some p := by
  intro he
  obtain ⟨cur, hc⟩ := h.erow.block he
  rw [h.self] at hc
  simp only [Option.some.injEq, Obj.cells.injEq] at hc
  exact absurd hc.2.1 (by decide)
theorem RefMem.pl {w : World} {F : Nat → Prop} {p : Nat} {st : BookSt} {es : List Ent} {wh : Bool} {N mb : Nat} {lv ev : Value} {D : DataW Unit} (h : RefMem w F p st es wh N mb lv ev D) : lv.ownBlock ≠ some p := by
  intro he
  obtain ⟨cur, hc⟩ := row_block h.lrow he
  rw [h.self] at hc
  simp only [Option.some.injEq, Obj.cells.injEq] at hc
  exact absurd hc.2.1 (by decide)

/-- An account looked up. -/
theorem ref_lookup {w : World} {F : Nat → Prop} {p : Nat} {st : BookSt} {es : List Ent} {wh : Bool} {N mb : Nat} {lv ev : Value} {D : DataW Unit} (h : RefMem w F p st es wh N mb lv ev D) (o : Int) (ho : 1 ≤ o ∧ o ≤ 40) {l x s : Int} (ha : st.acc o = some (l, x, s)) :
    (Instr.lookup 63 (.map (some mb)) (.int .i64 o) false).run Tryz.prog w = .ok (.agg #[.int .i64 l, .int .i64 x]) w := by
  have hwf : (Lit.int .i64 o).wf = true := WalkArith.wf_i64 (by omega)
  obtain ⟨v, ps, hrun, hv⟩ := h.map.lookup intKey Tryz.underlying63 (z := .agg #[.int .i64 0, .int .i64 0]) (by kernel_rfl) (zd := accZero) (zp := []) rfl (Maps.keyOf_int_mk Tryz.underlying3 hwf)
  rw [h.look o, ha] at hv
  rw [hrun, accElem_inv hv]

end
end Go.Proofs.YtfnmjlnpfoclbaaGreat
