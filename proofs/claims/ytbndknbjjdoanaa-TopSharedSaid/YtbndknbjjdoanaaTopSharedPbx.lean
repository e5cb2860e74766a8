/-
  What the walk of TopShared asks of Go's own functions, and the box of an operation. No conditions but bounds.
  Frames told by a function (slot number to value): loops and cuts over wide frames with ONE name for all slots. No conditions.
-/
import Derived.Test.YtbndknbjjdoanaaTopSharedPbv
import Derived.Test.YtbndknbjjdoanaaTopSharedPab
import Derived.Test.YtbndknbjjdoanaaTopSharedPbw
import Derived.ArgAppend
import Derived.Deep.LoopGhost
import Derived.Deep.Cut
import Derived.Test.YtbndknbjjdoanaaTopSharedPaa

namespace Go.Proofs.Ytbndknbjjdoanaa
section
open Go.RowKit
set_option linter.unusedVariables false

/-- The box of an operation. -/
def OpB5 (b : Nat) (k x y c : Int) (d : Value) (w : World) : Prop := w.heap[b]? = some (.cells #[.int .i64 k, .int .i64 x, .int .i64 y, .int .i64 c, d] 47 (0, 0))
theorem OpB5.below {b : Nat} {k x y c : Int} {d : Value} {w w' : World} (h : OpB5 b k x y c d w) (hb : Below w.heap.size w w') : OpB5 b k x y c d w' := (hb.block b (lt_of h)).trans h
theorem OpB5.touch {b : Nat} {k x y c : Int} {d : Value} {w w' : World} {T : Nat → Prop} (h : OpB5 b k x y c d w) (ht : Touch T w w') (hT : ¬ T b) : OpB5 b k x y c d w' := (ht.block b (lt_of h) hT).trans h
theorem OpB5.cells {b : Nat} {k x y c : Int} {d : Value} {w : World} (h : OpB5 b k x y c d w) : w.cell? ⟨b, 0, none⟩ = some (.int .i64 k) ∧ w.cell? ⟨b, 1, none⟩ = some (.int .i64 x) ∧ w.cell? ⟨b, 2, none⟩ = some (.int .i64 y) ∧ w.cell? ⟨b, 3, none⟩ = some (.int .i64 c) ∧ w.cell? ⟨b, 4, none⟩ = some d := by
  refine ⟨?_, ?_, ?_, ?_, ?_⟩ <;> (rw [cell_of h]; rfl)
theorem opB5 {zs : List Int} (h : ∀ z ∈ zs, (Lit.int .u8 z).wf = true) : bytes zs := by
  intro z hz
  have := h z hz
  simp [Lit.wf] at this
  have h1 : IntKind.u8.min = 0 := rfl
  have h2 : IntKind.u8.max = 255 := rfl
  omega
theorem clone_bytes (a : Option Addr) (n c : Nat) (xs : List Int) (w : World) (hr : Reads w .u8 (.slice a n c) xs) (hn : xs.length = n) (hbig : n ≤ 140737488355328) :
    Calls Try.prog 18 #[.slice a n c] w (fun e w' => ∃ o, e = .returned (rowOf o) ∧ w'.ownsRow w.heap.size 5 1 (rowOf o) xs.length (cellsB xs) ∧ Below w.heap.size w w') := by
  obtain ⟨a', c', he, _, hc⟩ := hr
  simp only [Value.slice.injEq] at he
  obtain ⟨rfl, _, rfl⟩ := he
  cases a with
  | none =>
    refine (Go.Proofs.Try.bytes_Clone_nil n c w).mono ?_
    rintro e w' ⟨rfl, rfl⟩
    have h0 : xs = [] := by
      rcases xs with _ | ⟨x, xs⟩
      · rfl
      · obtain ⟨b, o, h1, _⟩ := hc (by simp)
        cases h1
    subst h0
    exact ⟨none, rfl, World.ownsRow_nil _ _ _ _, Below.refl _ _⟩
  | some ad =>
    refine (Go.Proofs.Try.bytes_Clone_at ad n c xs w hn hbig (fun i hi => ?_)).mono ?_
    · obtain ⟨b, o, h1, h2⟩ := hc (by intro e; rw [e] at hn; simp at hn; omega)
      cases h1
      have e1 : (⟨b, o, none⟩ : Addr).add i = ⟨b, o + i, none⟩ := by unfold Addr.add; split <;> simp_all
      rw [e1]
      exact h2 i (by omega)
    · rintro e w' ⟨v', rfl, h1, _, h3⟩
      obtain ⟨o, rfl⟩ := row_of h1
      exact ⟨o, rfl, by rw [hn]; exact h1, h3⟩
theorem concat_two {wB : World} {S1 S2 : Value} {l1 l2 : List Int} (r1 : Reads wB .u8 S1 l1) (r2 : Reads wB .u8 S2 l2) (hl : (l1 ++ l2).length ≤ 100000000) :
    Calls Try.prog 16 #[.slice (some ⟨wB.heap.size, 0, none⟩) 2 2] (wB.alloc (.cells #[S1, S2] 22)) (fun e w' => ∃ o, e = .returned (rowOf o) ∧ w'.ownsRow wB.heap.size 5 1 (rowOf o) (l1 ++ l2).length (cellsB (l1 ++ l2)) ∧ Below wB.heap.size wB w') := by
  have W1 : Below wB.heap.size wB (wB.alloc (.cells #[S1, S2] 22)) := (Below.refl wB.heap.size wB).alloc (Nat.le_refl _) _
  have q1 := r1.below W1 rfl
  have q2 := r2.below W1 rfl
  have hn : (wB.alloc (.cells #[S1, S2] 22)).heap[wB.heap.size]? = some (.cells #[S1, S2] 22 (0, 0)) := heap_alloc_new _ _
  have e : (([(S1, l1), (S2, l2)] : List (Value × List Int)).map Prod.snd).flatten = l1 ++ l2 := by simp
  have h := concat_any wB.heap.size [(S1, l1), (S2, l2)] (wB.alloc (.cells #[S1, S2] 22)) (fun k hk => by
    match k, hk with
    | 0, _ => exact ⟨by rw [cell_of hn]; rfl, q1⟩
    | 1, _ => exact ⟨by rw [cell_of hn]; rfl, q2⟩
    | k + 2, hk => exact absurd hk (by simp)) (by rw [e]; exact hl) (by simp)
  rw [e] at h
  refine h.mono ?_
  rintro e w' ⟨v, rfl, h1, h2⟩
  obtain ⟨o, rfl⟩ := row_of h1
  exact ⟨o, rfl, row_low h1 (by simp), W1.trans (h2.mono W1.size)⟩
/-- The pool, its book and the plain map at the start. -/
theorem SvE.new {w0 w : World} {h bp : Nat} {sz : Nat} {Z : Nat → Prop} (hb : Below w0.heap.size w0 w) (sp : SP w Z h bp (newP sz) 0) (hz : ∀ k, Z k → w0.heap.size ≤ k) : SvE w0 h bp w.heap.size 0 (w.alloc (.map #[] 0)) := by
  have h1 : Below w.heap.size w (w.alloc (.map #[] 0)) := (Below.refl _ w).alloc (Nat.le_refl _) _
  refine ⟨newP sz, Z, _, _, _, hb.trans (h1.mono hb.size), sp.same h1, PlM.new, hz, fun k hk => by rw [hk]; exact hb.size, fun k hk e => ?_, rfl, fun s => rfl, Nat.le_refl _, Nat.le_refl _⟩
  have := sp.lt k hk
  omega
/-- Sizes of the strings. -/
theorem SP.short {w : World} {Z : Nat → Prop} {h bp : Nat} {P : PoolSt} {m : Nat} (s : SP w Z h bp P m) {x : Int} {xs : List Int} (hc : P.con x = some xs) : xs.length ≤ 100000 ∧ bytes xs ∧ 1 ≤ x := by
  have k := s.ok
  unfold PoolSt.con at hc
  obtain ⟨q, hq, rfl⟩ := Option.map_eq_some_iff.1 hc
  obtain ⟨k1, k2, k3, k4, _⟩ := k.str hq
  obtain ⟨n, hn, hm⟩ := lookN_mem hq
  obtain ⟨mb, ms, D1, D2, F, G, b, p, hz⟩ := s
  have h1 := (p.pm.few.2.2.1 _ hm).2
  have h2 := (p.pm.ns _ hm).1
  simp only at h1 h2
  refine ⟨by rw [k3]; exact h1, fun z hz => ?_, by omega⟩
  obtain ⟨pt, hpt, hz2⟩ := List.mem_flatMap.1 hz
  obtain ⟨y, hy, _⟩ := k1 pt hpt
  have h3 := (p.pm.blkOf hy).2.2.2.1
  rw [octPt_of hy] at hz2
  exact bytes_part h3 _ _ z hz2

theorem reads_row {w : World} {B : Nat} {v : Value} {xs : List Int} (h : w.ownsRow B 5 1 v xs.length (cellsB xs)) (hl : xs.length ≤ 100000000) : Reads w .u8 v xs := Reads.own h (by omega)
theorem reads_cut {w : World} {a : Option Addr} {n c : Nat} {xs : List Int} (h : Reads w .u8 (.slice a n c) xs) (hnc : n ≤ c) {f t : Nat} (hf : f ≤ t) (ht : t ≤ n) (m : Nat) : Reads w .u8 (.slice (if c = f then a else Option.map (fun x => x.add f) a) (t - f) m) ((xs.take t).drop f) := by
  obtain ⟨a', cap, e, hl, hc⟩ := h
  simp only [Value.slice.injEq] at e
  obtain ⟨rfl, hn, rfl⟩ := e
  have hlm : ((xs.take t).drop f).length = t - f := by rw [List.length_drop, List.length_take]; omega
  refine ⟨_, m, by rw [hlm], by omega, fun hne => ?_⟩
  have hlt : f < t := by
    have := List.length_pos_iff.2 hne
    omega
  obtain ⟨b, o, rfl, h1⟩ := hc (by intro e; rw [e] at hn; simp at hn; omega)
  refine ⟨b, o + f, by rw [if_neg (by omega)]; show some ((⟨b, o, none⟩ : Addr).add f) = _; unfold Addr.add; split <;> simp_all, fun j hj => ?_⟩
  rw [hlm] at hj
  have h2 := h1 (f + j) (by omega)
  rw [show o + f + j = o + (f + j) by omega, h2, List.getD_eq_getElem?_getD, List.getD_eq_getElem?_getD, List.getElem?_drop, List.getElem?_take_of_lt (by omega)]
/-- What a call leaves of the row that was looked up. -/
theorem SvI.rowW {w0 : World} {h bp mp n : Nat} {P P' : PoolSt} {Z Z' Y : Nat → Prop} {L : RowsL} {D : DataW Unit} {w w' : World} (s : SvI w0 h bp mp n P Z Y L D w) (g : Went h bp P Z w P' Z' w') {x : Int} {v : Value} {xs : List Int} (hv : rowOf (rowAt L x) = v) (hx : octAt L x = xs) : w'.ownsRow 0 5 1 v xs.length (cellsB xs) ∧ bytes xs ∧ Below w0.heap.size w0 w' := by
  obtain ⟨h1, h2, _⟩ := s.went g
  obtain ⟨h3, h4, _⟩ := h2.row x
  rw [hv, hx] at h3
  rw [hx] at h4
  exact ⟨h3, h4, h1⟩
theorem row_caps' {w : World} {B n c m : Nat} {a : Option Addr} {xs : List Value} (h : w.ownsRow B 5 1 (.slice a n c) m xs) : n ≤ c ∧ c ≤ 9223372036854775807 := by
  rcases h.2 with ⟨h1, h2⟩ | ⟨g, cap, cur, h1, _, _, h4, h5, _⟩
  · simp only [Value.slice.injEq] at h1
    omega
  · simp only [Value.slice.injEq] at h1
    unfold maxLen at h5
    omega

/-- 'append' of an octet to a slice without room. -/
theorem grow_full {w : World} {g off n : Nat} {xs : List Int} (ty : TypeId) (hr : Reads w .u8 (.slice (some ⟨g, off, none⟩) n n) xs) (h0 : 0 < n) (hb : n ≤ 4096) (z : Int) :
    ∃ gb cap w', (Builtin.append_ #[22, 22] ty #[.slice (some ⟨g, off, none⟩) n n, .slice (some ⟨w.heap.size, 0, none⟩) 1 1]).run Try.prog (w.alloc (.cells #[.int .u8 z] 5)) = .ok (.slice (some ⟨gb, 0, none⟩) (n + 1) cap) w' ∧ w.heap.size ≤ gb ∧ w'.cell? ⟨gb, 0, none⟩ = some (.int .u8 (xs.getD 0 0)) ∧ w'.frozen? ⟨gb, 0, none⟩ = false ∧ Below w.heap.size w w' := by
  obtain ⟨i0, hi, hz0, hz1, hz2⟩ := info_parts infoB1
  have W1 : Below w.heap.size w (w.alloc (.cells #[.int .u8 z] 5)) := (Below.refl w.heap.size w).alloc (Nat.le_refl _) _
  have r1 := hr.below W1 rfl
  obtain ⟨a', c', he, _, hc⟩ := r1
  simp only [Value.slice.injEq] at he
  obtain ⟨rfl, hn, _⟩ := he
  obtain ⟨b, o, h1, hcell⟩ := hc (by intro e; rw [e] at hn; simp at hn; omega)
  simp only [Option.some.injEq, Addr.mk.injEq, and_true] at h1
  obtain ⟨rfl, rfl⟩ := h1
  have e1 : ∀ (b o j : Nat), (⟨b, o, none⟩ : Addr).add j = ⟨b, o + j, none⟩ := fun b o j => by unfold Addr.add; split <;> simp_all
  obtain ⟨v', w', hrun, hown, hg⟩ := run_append_arg_grows (P := Try.prog) (w.alloc (.cells #[.int .u8 z] 5)) 22 ty 5 i0 (.int .u8 0) 1 1 Try.underlying22 hi hz0 hz1 hz2 rfl (by decide) ⟨g, off, none⟩ n n (cellsB xs) (by unfold cellsB; rw [List.length_map]; omega) (fun j u hj => by
    have hj2 : j < xs.length := by have := (List.getElem?_eq_some_iff.1 hj).1; unfold cellsB at this; rw [List.length_map] at this; exact this
    rw [e1, hcell j hj2]
    unfold cellsB at hj
    rw [List.getElem?_map, List.getElem?_eq_getElem hj2] at hj
    rw [List.getD_eq_getElem?_getD, List.getElem?_eq_getElem hj2]
    exact hj) ⟨w.heap.size, 0, none⟩ 1 1 [.int .u8 z] (by simp) (fun j u hj => by
    rw [e1, cell_of (heap_alloc_new w _)]
    simpa using hj) (by omega) (by unfold maxLen; omega) (by omega)
  have hlen0 : 0 < xs.length := by omega
  rcases hown.2 with ⟨_, h2⟩ | ⟨gb, cap, cur, rfl, hge, hgb, hle, hm, hsz, htk⟩
  · omega
  · refine ⟨gb, cap, w', hrun, by simp at hge; omega, ?_, free_of hgb 0, W1.grown hg (by simp) (fun k e => by cases e)⟩
    rw [cell_of hgb]
    have h3 := congrArg (fun l => l[0]?) htk
    simp only [Nat.mul_one] at h3
    rw [List.getElem?_take_of_lt (by omega)] at h3
    rw [← Array.getElem?_toList, h3, List.getElem?_append_left (by unfold cellsB; rw [List.length_map]; omega)]
    unfold cellsB
    rw [List.getElem?_map, List.getElem?_eq_getElem hlen0, List.getD_eq_getElem?_getD, List.getElem?_eq_getElem hlen0]
    rfl
theorem splice_set {xs : List Int} {f : Nat} {c : Int} (hf : f < xs.length) : splice xs f [c] = xs.set f c := by
  rw [List.set_eq_take_append_cons_drop, if_pos hf]
  simp [splice]
theorem row_poke {w : World} {g n c f : Nat} {xs : List Int} {o : Option (Nat × Nat × Nat)} (ho : rowOf o = .slice (some ⟨g, 0, none⟩) n c) (hr : w.ownsRow 0 5 1 (rowOf o) xs.length (cellsB xs)) (hf : f < xs.length) (z : Int) : (w.setCell ⟨g, f, none⟩ (.int .u8 z)).ownsRow 0 5 1 (rowOf o) (splice xs f [z]).length (cellsB (splice xs f [z])) := by
  have hn : n = xs.length := by
    rcases hr.2 with ⟨h1, h2⟩ | ⟨g, cap, cur, h1, _⟩
    · rw [ho] at h1
      simp at h1
    · rw [ho] at h1
      simp only [Value.slice.injEq] at h1
      omega
  rw [splice_set hf, List.length_set]
  rw [ho, hn] at hr ⊢
  have := wrow_set hr f (.int .u8 z)
  unfold cellsB at this ⊢
  rw [List.map_set]
  exact this

theorem cell_other (w : World) (p : Addr) (b j : Nat) (u : Value) (h : b ≠ p.block) : (w.setCell p u).cell? ⟨b, j, none⟩ = w.cell? ⟨b, j, none⟩ := by
  unfold World.cell?
  rw [Below.heap_setCell _ _ _ _ h]
theorem frozen_other (w : World) (p : Addr) (b j : Nat) (u : Value) (h : b ≠ p.block) : (w.setCell p u).frozen? ⟨b, j, none⟩ = w.frozen? ⟨b, j, none⟩ := by
  unfold World.frozen?
  rw [Below.heap_setCell _ _ _ _ h]
/-- A slice whose first octet is written. -/
theorem reads_set0 {w : World} {g off n : Nat} {xs : List Int} (h : Reads w .u8 (.slice (some ⟨g, off, none⟩) n n) xs) (h0 : 0 < n) (c : Int) : Reads (w.setCell ⟨g, off, none⟩ (.int .u8 c)) .u8 (.slice (some ⟨g, off, none⟩) n n) (xs.set 0 c) := by
  obtain ⟨a', c', he, hl, hc⟩ := h
  simp only [Value.slice.injEq] at he
  obtain ⟨rfl, hn, rfl⟩ := he
  obtain ⟨b, o, h1, h2⟩ := hc (by intro e; rw [e] at hn; simp at hn; omega)
  simp only [Option.some.injEq, Addr.mk.injEq, and_true] at h1
  obtain ⟨rfl, rfl⟩ := h1
  refine ⟨_, n, by rw [List.length_set, hn], by rw [List.length_set]; exact hl, fun _ => ⟨g, off, rfl, fun j hj => ?_⟩⟩
  rw [List.length_set] at hj
  have h3 := h2 j hj
  by_cases e : j = 0
  · subst e
    have h4 := h2 0 (by omega)
    rw [Nat.add_zero] at h4 ⊢
    rw [World.cell?_setCell_same _ _ _ h4, List.getD_eq_getElem?_getD, List.getElem?_set_self (by omega)]
    rfl
  · rw [World.cell?_setCell_other _ _ _ _ (by intro h; simp only [Addr.mk.injEq] at h; omega), h3, List.getD_eq_getElem?_getD, List.getD_eq_getElem?_getD, List.getElem?_set_ne (by omega)]

theorem bytesIn_oct {w : World} {p : Option Addr} {n c : Nat} {zs : List Int} (h : Reads w .u8 (.slice p n c) zs) (hl : zs.length = n) : Lib.BytesIn w p n zs := by
  obtain ⟨a, cap, hv, _, hc⟩ := h
  simp only [Value.slice.injEq] at hv
  obtain ⟨rfl, _, _⟩ := hv
  intro hn
  obtain ⟨b, o, hp, hcell⟩ := hc (fun e => by rw [e] at hl; simp at hl; omega)
  exact ⟨b, o, hp, fun i hi => hcell i (by omega)⟩
theorem equal_oct {w : World} {p1 p2 : Option Addr} {n m c d : Nat} {zs : List Int} (h1 : Reads w .u8 (.slice p1 n c) zs) (hl : zs.length = n) (h2 : Reads w .u8 (.slice p2 m d) zs) (hm : zs.length = m) :
    Calls Try.prog 15 #[.slice p1 n c, .slice p2 m d] w (fun e w' => e = .returned (.bool true) ∧ w' = w) := by
  refine (Go.Proofs.Try.bytes_Equal_all p1 p2 n c m d zs zs w hl hm (bytesIn_oct h1 hl) (bytesIn_oct h2 hm)).mono ?_
  rintro e w' ⟨rfl, rfl⟩
  exact ⟨by simp, rfl⟩
theorem reads_rest {w : World} {a : Option Addr} {n c k : Nat} {zs : List Int} (h : Reads w .u8 (.slice a n c) zs) (hk : k ≤ n) (hnc : n ≤ c) (m : Nat) : Reads w .u8 (.slice (if c = k then a else Option.map (fun x => x.add k) a) (n - k) m) (zs.drop k) := by
  obtain ⟨a', cap, he, hl, hc⟩ := h
  simp only [Value.slice.injEq] at he
  obtain ⟨rfl, hn, rfl⟩ := he
  have hlm : (zs.drop k).length = n - k := by rw [List.length_drop]; omega
  refine ⟨_, _, by rw [hlm], by omega, fun hne => ?_⟩
  have h0 : k < zs.length := by
    rcases Nat.lt_or_ge k zs.length with h0 | h0
    · exact h0
    · exact absurd (List.drop_eq_nil_of_le h0) hne
  obtain ⟨b, o, rfl, h1⟩ := hc (by intro e; subst e; simp at h0)
  refine ⟨b, o + k, by rw [if_neg (by omega)]; show some ((⟨b, o, none⟩ : Addr).add k) = _; unfold Addr.add; split <;> simp_all, fun j hj => ?_⟩
  rw [List.length_drop] at hj
  rw [Nat.add_assoc, h1 (k + j) (by omega)]
  simp [List.getD_eq_getElem?_getD]

theorem addr_zero (g f : Nat) : (⟨g, 0, none⟩ : Addr).add f = ⟨g, f, none⟩ := by unfold Addr.add; split <;> simp_all

theorem look_hasR {L : RowsL} {D : DataW Unit} (h : ∀ k z, D.atKey (.int .i64 k) z = rowZ ((lookN L k).map Prod.fst) z) {k : Int} {y : DataW Unit} (hat : ∀ z, D.atKey (.int .i64 k) z = y) : ∃ (n : Nat) (x : Option (Nat × Nat × Nat) × List Int), (n : Int) = k ∧ lookN L (n : Int) = some x ∧ y = rowD x.1 := by
  cases hl : lookN L k with
  | none =>
    have h1 := hat (.lit (.int .i64 0))
    have h2 := hat (.lit (.int .i64 1))
    rw [h, hl] at h1 h2
    rw [← h2] at h1
    simp [rowZ] at h1
  | some x =>
    obtain ⟨n, hn, _⟩ := lookN_mem hl
    have h1 := hat .nil
    rw [h, hl] at h1
    exact ⟨n, x, hn, by rw [hn]; exact hl, h1.symm⟩
theorem walks_below {w w' : World} (h : Below w.heap.size w w') : KeepsWalks w w' := ⟨h.size, fun k o hk _ => (h.block k (Array.getElem?_eq_some_iff.1 hk).1).trans hk⟩
theorem CpPost.out {h bp : Nat} {P : PoolSt} {s t : Int} {Z : Nat → Prop} {w : World} {e : Ending} {w' : World} {xs : List Int} (k : PoolOk P) (hc : P.con s = some xs) (ht : t = xs.length) (hp : CpPost h bp P s 0 t Z w e w') : Below w.heap.size w w' ∧ ∃ o, e = .returned (.tuple #[rowOf o, .int .i64 0]) ∧ w'.ownsRow w.heap.size 5 1 (rowOf o) xs.length (cellsB xs) := by
  obtain ⟨hst, hp⟩ := hp
  unfold PoolSt.con at hc
  obtain ⟨q, hq, rfl⟩ := Option.map_eq_some_iff.1 hc
  obtain ⟨k1, k2, k3, k4, _⟩ := k.str hq
  rw [hq] at hp
  simp only at hp
  have hb : btE (lenP q.2) 0 t = 0 := by
    unfold btE
    rw [if_pos (by rw [ht, k3]; omega)]
  rw [if_pos hb] at hp
  obtain ⟨v, he, hr⟩ := hp
  have e1 : ((octP P.oct q.2).take t.toNat).drop (0 : Int).toNat = octP P.oct q.2 := by
    rw [ht, Int.toNat_natCast, List.take_length]
    rfl
  rw [e1] at hr
  obtain ⟨o, rfl⟩ := row_of hr
  exact ⟨hst.2, o, he, hr⟩
theorem LnPost.out {P : PoolSt} {s : Int} {w : World} {e : Ending} {w' : World} {xs : List Int} (k : PoolOk P) (hc : P.con s = some xs) (hp : LnPost P s w e w') : Below w.heap.size w w' ∧ e = .returned (.tuple #[.int .i64 (xs.length : Int), .int .i64 0]) := by
  obtain ⟨hst, hp⟩ := hp
  unfold PoolSt.con at hc
  obtain ⟨q, hq, rfl⟩ := Option.map_eq_some_iff.1 hc
  obtain ⟨k1, k2, k3, k4, _⟩ := k.str hq
  rw [hq] at hp
  simp only at hp
  rw [k3]
  exact ⟨hst, hp⟩

end
end Go.Proofs.Ytbndknbjjdoanaa

namespace Go.Proofs.Ytbndknbjjdoanaa
section
open Go.RowKit
set_option linter.unusedVariables false

/-- The slots as a list. -/
def slotsOf (n : Nat) (f : Nat → Value) : List Value := (List.range n).map f
theorem slots_eq {n : Nat} {l : List Value} (h : l.length = n) : slotsOf n (fun i => l.getD i undef) = l := by
  unfold slotsOf
  refine List.ext_getElem (by simp [h]) (fun i h1 h2 => ?_)
  simp [List.getD_eq_getElem?_getD, h2]
/-- A loop: I: what holds of the slots (by their numbers) and the world at its head. -/
theorem wp_loop_framed {P : Program} {Q : Exit → Act → World → Prop} {w : World} {c : Code} (n : Nat) (I : Nat → (Nat → Value) → World → Prop) (l : List Value) (ds : List Deferred) (hl : l.length = n) (n₀ : Nat) (h₀ : I n₀ (fun i => l.getD i undef) w)
    (round : ∀ g f w, I g f w → ∀ (J : Nat → Act → World → Prop) (K : Act → World → Prop), (∀ k l' w', List.length l' = n → I k (fun i => l'.getD i undef) w' → J k ⟨l'.toArray, ds⟩ w') → (∀ a' w', Handed J g a' w' → K a' w') → c.wp P (Exit.then K Q) ⟨(slotsOf n f).toArray, ds⟩ w) : (Code.loop c).wp P Q ⟨l.toArray, ds⟩ w := by
  refine wp_loop_ghost_k (fun k a' w' => ∃ f, a' = ⟨(slotsOf n f).toArray, ds⟩ ∧ I k f w') n₀ ⟨_, by rw [slots_eq hl], h₀⟩ ?_
  rintro g a' w' ⟨f, rfl, hI⟩ J K hJ hK
  exact round g f w' hI J K (fun k l' w' h1 h2 => hJ k _ w' ⟨_, by rw [slots_eq h1], h2⟩) hK
/-- A statement that is cut around. -/
theorem wp_cut_framed {P : Program} {K : Act → World → Prop} {Q' : Exit → Act → World → Prop} {w : World} {s : Code} (n : Nat) (R : (Nat → Value) → World → Prop) (l : List Value) (ds : List Deferred) 
    (first : ∀ (J K' : Act → World → Prop), (∀ l' w', List.length l' = n → R (fun i => l'.getD i undef) w' → J ⟨l'.toArray, ds⟩ w') → (∀ a' w', Met J a' w' → K' a' w') → s.wp P (Exit.then K' Q') ⟨l.toArray, ds⟩ w)
    (rest : ∀ f w', R f w' → K ⟨(slotsOf n f).toArray, ds⟩ w') : s.wp P (Exit.then K Q') ⟨l.toArray, ds⟩ w := by
  refine wp_cut (fun a' w' => ∃ f, a' = ⟨(slotsOf n f).toArray, ds⟩ ∧ R f w') ?_ ?_
  · rintro a' w' ⟨f, rfl, hR⟩
    exact rest f w' hR
  · intro J K' hJ hK
    exact first J K' (fun l' w' h1 h2 => hJ _ w' ⟨_, by rw [slots_eq h1], h2⟩) hK

end
end Go.Proofs.Ytbndknbjjdoanaa
