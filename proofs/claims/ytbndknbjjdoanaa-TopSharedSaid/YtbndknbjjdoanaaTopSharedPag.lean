/-
  Slices of elements of several cells, wherever they begin; what 'append' of one makes of a row of the call's own. No conditions.
  slices.Equal at []byte. No conditions.
  Cells of the program beside cells of the reference: which memory shows the same; and the slices that are watched. No conditions.
  Same, Mod: what they give. No conditions.
  appends: what it gives. No conditions.
  Mod, Poke: what they give. No conditions.
-/
import Derived.Test.YtbndknbjjdoanaaTopSharedPaf
import Derived.Deep.Upon
import Derived.Lib.AppendZeros
import Derived.Test.YtbndknbjjdoanaaTopSharedPaa
import Derived.Test.YtbndknbjjdoanaaTopSharedPad
import Derived.Deep.QuietTactic
import Derived.BigQuiet
import Derived.ArgAppend
import Derived.BigRegion

namespace Go.Proofs.Ytbndknbjjdoanaa
section
open Go.RowKit
set_option linter.unusedVariables false

def Seg (w : World) (size : Nat) (v : Value) (n : Nat) (xs : List Value) : Prop :=
  xs.length = n * size ∧ (∀ u ∈ xs, u.oneCell' = true) ∧ ∃ a cap, v = .slice a n cap ∧ n ≤ cap ∧ cap ≤ 9223372036854775807 ∧ ∀ j u, xs[j]? = some u → ∃ b o, a = some ⟨b, o, none⟩ ∧ w.cell? ⟨b, o + j, none⟩ = some u
theorem Seg.below {w w' : World} {size : Nat} {v : Value} {n : Nat} {xs : List Value} (h : Seg w size v n xs) (hb : Below w.heap.size w w') : Seg w' size v n xs := by
  obtain ⟨h1, h2, a, c, h3, h4, h5, h6⟩ := h
  refine ⟨h1, h2, a, c, h3, h4, h5, fun j u hu => ?_⟩
  obtain ⟨b, o, e, hc⟩ := h6 j u hu
  exact ⟨b, o, e, (hb.cell (p := ⟨b, o + j, none⟩) (World.block_lt_of_cell? w _ hc)).trans hc⟩
theorem Seg.of_row {w : World} {B e size : Nat} {v : Value} {n : Nat} {xs : List Value} (h : w.ownsRow B e size v n xs) (h1 : ∀ u ∈ xs, u.oneCell' = true) : Seg w size v n xs := by
  refine ⟨h.1, h1, ?_⟩
  obtain ⟨a, c, rfl⟩ := wrow_sh h
  have hle : n ≤ c ∧ c ≤ 9223372036854775807 := by
    rcases h.2 with ⟨hv, h0⟩ | ⟨g, cap, cur, hv, _, _, hn, hm, _⟩
    · simp only [Value.slice.injEq] at hv; omega
    · simp only [Value.slice.injEq] at hv
      have : cap ≤ 9223372036854775807 := hm
      omega
  refine ⟨a, c, rfl, hle.1, hle.2, fun j u hu => ?_⟩
  obtain ⟨g, rfl, hc, _⟩ := wrow_cell h hu
  exact ⟨g, 0, rfl, by rw [Nat.zero_add]; exact hc⟩

/-- 'append(v, s...)' onto a row of the call's own, whatever s is. -/
theorem wpList_append_seg {P : Program} {ops : Array Oper} {rest : List Oper} {o : Oper} {a : Act} {Q : Exit → Act → World → Prop} (hgd : o.guard = none) (s x : Operand) (t : TypeId)
    (ho : o.op = .call { callee := .builtin .append, args := #[s, x], argTypes := #[t, t] })
    (base : Nat) (e : TypeId) (i : TypeInfo) (z : Value) (size bytes : Nat) (ht : P.underlying t = some (.slice e)) (hi : P.info? e = some i) (hz : i.zero = some z)
    (hsize : i.size = size) (hby : i.bytes = bytes) (hzs : z.cells.size = size) (hsz : 0 < size)
    (w : World) (v : Value) (n : Nat) (xs : List Value) (hs : a.eval s = v) (hown : w.ownsRow base e size v n xs)
    (sv : Value) (m : Nat) (zs : List Value) (hx : a.eval x = sv) (hr : Seg w size sv m zs) (h63 : n + m ≤ maxLen) (hbytes : (n + m) * bytes ≤ 140737488355328) (hbase : base ≤ w.heap.size)
    (h : ∀ v' w', w'.ownsRow base e size v' (n + m) (xs ++ zs) → w.grownBy w' v.ownBlock → wpList P ops Q rest (a.put o.dst v') w') :
    wpList P ops Q (o :: rest) a w := by
  obtain ⟨hl, h1, sa, cap, rfl, hle, hcap, hc⟩ := hr
  cases sa with
  | none =>
    have hz : zs = [] := by
      rcases List.eq_nil_or_concat zs with h' | ⟨l, y, h'⟩
      · exact h'
      · obtain ⟨b, o, h1, _⟩ := hc l.length y (by rw [h']; simp)
        cases h1
    subst hz
    have hm : m = 0 := by
      rcases Nat.eq_zero_or_pos m with e | e
      · exact e
      · have := Nat.mul_pos e hsz
        simp at hl
        omega
    subst hm
    obtain ⟨a1, c1, rfl⟩ := wrow_sh hown
    have h1' : n ≤ c1 := by
      rcases hown.2 with ⟨hv, h0⟩ | ⟨g, cap', cur, hv, _, _, hn, _⟩
      · simp only [Value.slice.injEq] at hv; omega
      · simp only [Value.slice.injEq] at hv; omega
    refine wpList_plain hgd fun K hK => ?_
    have hrun := run_append_nothing (P := P) w t t o.type e i ht hi a1 n c1 h1' (.slice none 0 cap) (Src.ofNil w ht cap)
    unfold Oper.wp execOp
    simp only [ho, resolve, invoke, builtin, Sem.run_bind, Sem.run_pure, Result.andThen_ok, List.map_toArray, List.map_cons, List.map_nil, hs, hx, hrun]
    exact hK _ _ (h _ _ (by simpa using hown) (World.grownBy.refl _ _))
  | some ad =>
    refine wpList_append_own _ hgd s x t ho base e i z size bytes ht hi hz hsize hby hzs hsz v n _ hs hown ad m cap zs hx hl ?_ h1 h63 hbytes hbase ?_
    · intro j u hu
      obtain ⟨b, o, e', hcell⟩ := hc j u hu
      cases e'
      have e1 : (⟨b, o, none⟩ : Addr).add j = ⟨b, o + j, none⟩ := by unfold Addr.add; split <;> simp_all
      rw [e1]
      exact hcell
    · intro v' w' h2 h3 _
      exact h v' w' h2 h3

/-- 'append(nil, make([]T, n)...)'. -/
theorem wpList_append_zeros_of {P : Program} {ops : Array Oper} {rest : List Oper} {o : Oper} {a : Act} {Q : Exit → Act → World → Prop} (hgd : o.guard = none) (s x : Operand) (t tn : TypeId)
    (ho : o.op = .call { callee := .builtin .append, args := #[s, x], argTypes := #[t, tn] })
    (e : TypeId) (i : TypeInfo) (z : Value) (size bytes : Nat) (ht : P.underlying t = some (.slice e)) (htn : P.underlying tn = some (.int .i64)) (hi : P.info? e = some i) (hz : i.zero = some z)
    (hsize : i.size = size) (hby : i.bytes = bytes) (hzs : z.cells.size = size) (hsz : 0 < size)
    (w : World) (n : Nat) (hs : a.eval s = .slice none 0 0) (hx : a.eval x = .int .i64 n) (h0 : 0 < n) (h63 : n ≤ 1000000000) (hbs : n * bytes ≤ 140737488355328)
    (h : ∀ cap w', n ≤ cap → w'.ownsRow w.heap.size e size (.slice (some ⟨w.heap.size, 0, none⟩) 0 cap) 0 [] → Below w.heap.size w w' → wpList P ops Q rest (a.put o.dst (.slice (some ⟨w.heap.size, 0, none⟩) n cap)) w') :
    wpList P ops Q (o :: rest) a w := by
  subst hsize
  subst hby
  have hrun := Lib.run_append_nil_zeros (P := P) w t tn o.type e i z .i64 .i64 ht htn hi hz n h0 hsz (by omega) (by omega)
  refine wpList_plain hgd fun K hK => ?_
  unfold Oper.wp execOp
  simp only [ho, resolve, invoke, builtin, Sem.run_bind, Sem.run_pure, Result.andThen_ok, List.map_toArray, List.map_cons, List.map_nil, hs, hx, hrun]
  have hge := grownCap_ge w n 0 e
  refine hK _ _ (h _ _ hge ?_ ?_)
  · refine ⟨by simp, Or.inr ⟨_, _, _, rfl, Nat.le_refl _, heap_alloc_new _ _, Nat.zero_le _, grownCap_le_maxLen _ _ _ _ (by unfold maxLen; omega), ?_, by simp⟩⟩
    simp only [Array.size_append, size_zeroCells, hzs]
    rw [← Nat.add_mul]
    congr 1
    omega
  · exact ((Below.refl _ w).drew).alloc (Nat.le_refl _) _

end
end Go.Proofs.Ytbndknbjjdoanaa

namespace Go.Proofs.Ytbndknbjjdoanaa
section
open Go.RowKit

end
end Go.Proofs.Ytbndknbjjdoanaa

namespace Go.Proofs.Ytbndknbjjdoanaa
section
open Go.RowKit

/-- R b o c p: the cell o of block b (the program's) stands beside the cell p of block c (the reference's). -/
abbrev Rel := Nat → Nat → Nat → Nat → Prop

structure Twins (w : World) (B : Nat) (R : Rel) : Prop where
  val : ∀ b o c p, R b o c p → ∃ z : Int, 0 ≤ z ∧ z ≤ 255 ∧ w.cell? ⟨b, o, none⟩ = some (.int .u8 z) ∧ w.cell? ⟨c, p, none⟩ = some (.int .u8 z)
  row : ∀ b o c p, R b o c p → B ≤ b ∧ B ≤ c ∧ (∃ cs, w.heap[b]? = some (.cells cs 5 (0, 0))) ∧ ∃ cs, w.heap[c]? = some (.cells cs 5 (0, 0))
  one : ∀ b o c p c' p', R b o c p → R b o c' p' → c = c' ∧ p = p'
  inj : ∀ b o c p b' o', R b o c p → R b' o' c p → b = b' ∧ o = o'
  apart : ∀ b o c p b' o' c' p', R b o c p → R b' o' c' p' → ¬ (b = c' ∧ o = p')

/-- A slice of the program and the reference's: the same length and room, cell beside cell. -/
def Pr (R : Rel) (xy : Value × Value) : Prop :=
  ∃ p q len cap, xy = (.slice p len cap, .slice q len cap) ∧ len ≤ cap ∧ cap ≤ 140737488355200 ∧ (0 < cap → ∃ b o c r, p = some ⟨b, o, none⟩ ∧ q = some ⟨c, r, none⟩ ∧ ∀ j, j < cap → R b (o + j) c (r + j))

theorem Twins.below {w w' : World} {B : Nat} {R : Rel} (h : Twins w B R) (hb : Below w.heap.size w w') : Twins w' B R := by
  have lt1 : ∀ b o c p, R b o c p → b < w.heap.size := fun b o c p hr => by obtain ⟨_, _, ⟨cs, h1⟩, _⟩ := h.row b o c p hr; exact lt_of h1
  have lt2 : ∀ b o c p, R b o c p → c < w.heap.size := fun b o c p hr => by obtain ⟨_, _, _, ⟨cs, h1⟩⟩ := h.row b o c p hr; exact lt_of h1
  refine ⟨fun b o c p hr => ?_, fun b o c p hr => ?_, h.one, h.inj, h.apart⟩
  · obtain ⟨z, z0, z1, h1, h2⟩ := h.val b o c p hr
    exact ⟨z, z0, z1, (hb.cell (p := ⟨b, o, none⟩) (lt1 b o c p hr)).trans h1, (hb.cell (p := ⟨c, p, none⟩) (lt2 b o c p hr)).trans h2⟩
  · obtain ⟨b1, b2, ⟨cs, h1⟩, ⟨ds, h2⟩⟩ := h.row b o c p hr
    exact ⟨b1, b2, ⟨cs, (hb.block b (lt1 b o c p hr)).trans h1⟩, ⟨ds, (hb.block c (lt2 b o c p hr)).trans h2⟩⟩

theorem Twins.drewN {w : World} {B : Nat} {R : Rel} (h : Twins w B R) (n : Nat) : Twins (w.drewN n) B R := h.below (bdrewN (Below.refl _ _) n)
/-- What cells hold, as a list. -/
def shown (w : World) (b o n : Nat) : List Int := (List.range n).map fun j => match w.cell? ⟨b, o + j, none⟩ with | some (.int _ z) => z | _ => 0

theorem shown_len (w : World) (b o n : Nat) : (shown w b o n).length = n := by simp [shown]

/-- Both slices, up to their room, read as the same list. -/
theorem Pr.reads {w : World} {B : Nat} {R : Rel} {p q : Option Addr} {len cap : Nat} (h : Pr R (.slice p len cap, .slice q len cap)) (ht : Twins w B R) (n : Nat) (hn : n ≤ cap) :
    ∃ zs : List Int, zs.length = n ∧ (∀ m, Reads w .u8 (.slice p n m) zs ∧ Reads w .u8 (.slice q n m) zs) ∧ ∀ z ∈ zs, 0 ≤ z ∧ z ≤ 255 := by
  obtain ⟨p', q', len', cap', e, hl, hm, hc⟩ := h
  simp only [Prod.mk.injEq, Value.slice.injEq] at e
  obtain ⟨⟨rfl, rfl, rfl⟩, rfl, _, _⟩ := e
  rcases Nat.eq_zero_or_pos n with h0 | h0
  · subst h0
    exact ⟨[], rfl, fun m => ⟨⟨p, m, rfl, by simp, fun h => absurd rfl h⟩, ⟨q, m, rfl, by simp, fun h => absurd rfl h⟩⟩, by simp⟩
  · obtain ⟨b, o, c, r, rfl, rfl, hR⟩ := hc (by omega)
    have key : ∀ j, j < n → ∃ z : Int, 0 ≤ z ∧ z ≤ 255 ∧ w.cell? ⟨b, o + j, none⟩ = some (.int .u8 z) ∧ w.cell? ⟨c, r + j, none⟩ = some (.int .u8 z) ∧ (shown w b o n).getD j 0 = z := by
      intro j hj
      obtain ⟨z, z0, z1, h1, h2⟩ := ht.val _ _ _ _ (hR j (by omega))
      exact ⟨z, z0, z1, h1, h2, by simp [shown, List.getD_eq_getElem?_getD, hj, h1]⟩
    refine ⟨shown w b o n, shown_len _ _ _ _, fun m => ⟨⟨_, m, by rw [shown_len], by rw [shown_len]; omega, fun _ => ⟨b, o, rfl, fun j hj => ?_⟩⟩, ⟨_, m, by rw [shown_len], by rw [shown_len]; omega, fun _ => ⟨c, r, rfl, fun j hj => ?_⟩⟩⟩, ?_⟩
    · rw [shown_len] at hj
      obtain ⟨z, _, _, h1, _, h3⟩ := key j hj
      rw [h1, h3]
    · rw [shown_len] at hj
      obtain ⟨z, _, _, _, h2, h3⟩ := key j hj
      rw [h2, h3]
    · intro z hz
      obtain ⟨j, hj, rfl⟩ := List.mem_iff_getElem.1 hz
      rw [shown_len] at hj
      obtain ⟨z, z0, z1, _, _, h3⟩ := key j hj
      rw [List.getD_eq_getElem?_getD, List.getElem?_eq_getElem (by rw [shown_len]; exact hj)] at h3
      simp only [Option.getD_some] at h3
      rw [h3]
      exact ⟨z0, z1⟩

end
end Go.Proofs.Ytbndknbjjdoanaa

namespace Go.Proofs.Ytbndknbjjdoanaa
section
open Go.RowKit

def SamePost (w : World) : Ending → World → Prop := fun e w' => e = .returned (.bool true) ∧ ∃ q, w' = w.drewN q

theorem quiet_at {P : Program} {f : FuncId} {args : Array Value} {w : World} {q n : Nat} {v : Value}
    (h : Calls P f args (w.drewN (q + n)) fun e w' => e = .returned v ∧ ∃ m, w' = (w.drewN (q + n)).drewN m) : Calls P f args (w.drewN (q + n)) fun e w'' => e = .returned v ∧ ∃ m, w'' = w.drewN (q + m) :=
  h.mono fun _ _ ⟨he, m, hm⟩ => ⟨he, n + m, by rw [hm, World.drewN_drewN, Nat.add_assoc]⟩

end
end Go.Proofs.Ytbndknbjjdoanaa

namespace Go.Proofs.Ytbndknbjjdoanaa
section
open Go.RowKit

def KeepPost (w : World) : Ending → World → Prop := fun e w' => e = .returned (.bool true) ∧ Below w.heap.size w w'

theorem byteInfo0 : (Try.prog.info? 5).map (fun i => (i.zero, i.size, i.bytes)) = some (some (.int .u8 0), 1, 1) := by kernel_rfl

/-- The cells of a slice, as the law on append wants them. -/
theorem Reads.cells {w : World} {p : Option Addr} {n m : Nat} {zs : List Int} (h : Reads w .u8 (.slice p n m) zs) (hn : zs.length = n) : ∀ b, p = some b → ∀ j u, (zs.map (Value.int .u8))[j]? = some u → w.cell? (b.add j) = some u := by
  intro b hb j u hj
  subst hb
  obtain ⟨a, cap, e, hl, hc⟩ := h
  simp only [Value.slice.injEq] at e
  obtain ⟨rfl, _, _⟩ := e
  rw [List.getElem?_map] at hj
  obtain ⟨z, hz, rfl⟩ := Option.map_eq_some_iff.1 hj
  have hlt : j < zs.length := (List.getElem?_eq_some_iff.1 hz).1
  obtain ⟨b', o, e, hcell⟩ := hc (by intro e; subst e; simp at hlt)
  cases e
  have e1 : (⟨b', o, none⟩ : Addr).add j = ⟨b', o + j, none⟩ := by unfold Addr.add; split <;> simp_all
  rw [e1, hcell j hlt]
  rw [List.getD_eq_getElem?_getD, hz]
  rfl

theorem new_cells (w : World) (us : List Value) (t : TypeId) : ∀ j u, us[j]? = some u → (w.alloc (.cells us.toArray t)).cell? ((⟨w.heap.size, 0, none⟩ : Addr).add j) = some u := by
  intro j u hj
  have e1 : (⟨w.heap.size, 0, none⟩ : Addr).add j = ⟨w.heap.size, j, none⟩ := by unfold Addr.add; split <;> simp_all
  rw [e1, cell_of_row _ _ _ _ _ _ (heap_alloc_new w _)]
  simpa using hj

end
end Go.Proofs.Ytbndknbjjdoanaa

namespace Go.Proofs.Ytbndknbjjdoanaa
section
open Go.RowKit

def InR (R : Rel) (k : Nat) : Prop := ∃ b o c p, R b o c p ∧ (k = b ∨ k = c)

def modv (x n : Int) : Nat := ((x.tmod n + n) % n).toNat
theorem modv_lt (x n : Int) (h : 1 ≤ n) : (modv x n : Int) < n := by
  have t3 : 0 ≤ (x.tmod n + n) % n := Int.emod_nonneg _ (by omega)
  have t4 : (x.tmod n + n) % n < n := Int.emod_lt_of_pos _ (by omega)
  unfold modv
  omega

theorem Twins.write {w : World} {B : Nat} {R : Rel} (h : Twins w B R) {b o c p : Nat} (hr : R b o c p) (z : Int) (z0 : 0 ≤ z) (z1 : z ≤ 255) :
    Twins ((w.setCell ⟨b, o, none⟩ (.int .u8 z)).setCell ⟨c, p, none⟩ (.int .u8 z)) B R := by
  have set1 : ∀ (w : World) (b o b' o' : Nat) (u : Value), ¬ (b = b' ∧ o = o') → (w.setCell ⟨b, o, none⟩ u).cell? ⟨b', o', none⟩ = w.cell? ⟨b', o', none⟩ := fun w b o b' o' u hne =>
    World.cell?_setCell_other _ _ _ _ (fun e => hne (by simpa using e))
  have blk : ∀ (w : World) (b o k : Nat) (u : Value) (cs : Array Value), w.heap[k]? = some (.cells cs 5 (0, 0)) → ∃ cs', (w.setCell ⟨b, o, none⟩ u).heap[k]? = some (.cells cs' 5 (0, 0)) := fun w b o k u cs hk => by
    by_cases e : k = b
    · subst e; exact ⟨_, block_setCell hk o u⟩
    · exact ⟨cs, (Below.heap_setCell w ⟨b, o, none⟩ u k (fun e2 => e e2)).trans hk⟩
  obtain ⟨y, _, _, hb, hc⟩ := h.val b o c p hr
  refine ⟨fun b' o' c' p' hr' => ?_, fun b' o' c' p' hr' => ?_, h.one, h.inj, h.apart⟩
  · by_cases e : b = b' ∧ o = o'
    · obtain ⟨rfl, rfl⟩ := e
      obtain ⟨rfl, rfl⟩ := h.one _ _ _ _ _ _ hr hr'
      have a1 : ¬ (c = b ∧ p = o) := fun e => h.apart _ _ _ _ _ _ _ _ hr hr ⟨e.1.symm, e.2.symm⟩
      refine ⟨z, z0, z1, ?_, ?_⟩
      · rw [set1 _ _ _ _ _ _ a1]
        exact World.cell?_setCell_same _ _ _ hb
      · refine World.cell?_setCell_same _ _ _ (u := .int .u8 y) ?_
        rw [set1 _ _ _ _ _ _ (fun e => a1 ⟨e.1.symm, e.2.symm⟩)]
        exact hc
    · obtain ⟨y', y0, y1, h1, h2⟩ := h.val _ _ _ _ hr'
      have a1 : ¬ (c = b' ∧ p = o') := fun e => h.apart _ _ _ _ _ _ _ _ hr' hr ⟨e.1.symm, e.2.symm⟩
      have a2 : ¬ (b = c' ∧ o = p') := fun e => h.apart _ _ _ _ _ _ _ _ hr hr' e
      have a3 : ¬ (c = c' ∧ p = p') := fun e' => by obtain ⟨rfl, rfl⟩ := e'; exact e (h.inj _ _ _ _ _ _ hr hr')
      refine ⟨y', y0, y1, ?_, ?_⟩
      · rw [set1 _ _ _ _ _ _ a1, set1 _ _ _ _ _ _ e]; exact h1
      · rw [set1 _ _ _ _ _ _ a3, set1 _ _ _ _ _ _ a2]; exact h2
  · obtain ⟨b1, b2, ⟨cs, h1⟩, ⟨ds, h2⟩⟩ := h.row _ _ _ _ hr'
    obtain ⟨cs1, g1⟩ := blk w b o b' (.int .u8 z) cs h1
    obtain ⟨ds1, g2⟩ := blk w b o c' (.int .u8 z) ds h2
    exact ⟨b1, b2, blk _ c p b' (.int .u8 z) cs1 g1, blk _ c p c' (.int .u8 z) ds1 g2⟩

def sliceLen : Value → Nat
  | .slice _ n _ => n
  | _ => 0

def sliceFits : Value → Prop
  | .slice _ n m => n ≤ m
  | _ => True

theorem Reads.tail3 {w : World} {k : IntKind} {a : Option Addr} {n cap : Nat} {zs : List Int} (h : Reads w k (.slice a n cap) zs) (h3 : 3 ≤ n) :
    zs.length = n ∧ ∃ b o, a = some ⟨b, o, none⟩ ∧ w.cell? ⟨b, o, none⟩ = some (.int k (zs.getD 0 0)) ∧ w.cell? ⟨b, o + 1, none⟩ = some (.int k (zs.getD 1 0)) ∧ w.cell? ⟨b, o + 2, none⟩ = some (.int k (zs.getD 2 0)) ∧
      ∀ m, Reads w k (.slice (some ⟨b, o + 3, none⟩) (n - 3) m) (zs.drop 3) := by
  obtain ⟨a', cap', e, hl, hc⟩ := h
  simp only [Value.slice.injEq] at e
  obtain ⟨rfl, rfl, rfl⟩ := e
  obtain ⟨b, o, rfl, hcell⟩ := hc (by intro e; subst e; simp at h3)
  refine ⟨rfl, b, o, rfl, hcell 0 (by omega), hcell 1 (by omega), hcell 2 (by omega), fun m => ⟨_, m, by simp, by simp; omega, fun _ => ⟨b, o + 3, rfl, fun j hj => ?_⟩⟩⟩
  simp only [List.length_drop] at hj
  have := hcell (3 + j) (by omega)
  rw [show o + (3 + j) = o + 3 + j by omega] at this
  rw [this]
  simp [List.getD_eq_getElem?_getD]

theorem tail_nil {w : World} {k : IntKind} {a a' : Option Addr} {n cap m : Nat} {zs : List Int} (h : Reads w k (.slice a n cap) zs) (h3 : n ≤ 3) : Reads w k (.slice a' (n - 3) m) (zs.drop 3) := by
  obtain ⟨_, _, e, _, _⟩ := h
  simp only [Value.slice.injEq] at e
  obtain ⟨_, rfl, _⟩ := e
  have : zs.drop 3 = [] := by simp; omega
  rw [this, show zs.length - 3 = 0 by omega]
  exact ⟨_, m, rfl, by simp, fun h => absurd rfl h⟩

theorem tail_if {w : World} {k : IntKind} {a : Option Addr} {b o n cap m : Nat} {zs : List Int} (h : Reads w k (.slice a n cap) zs) (hr : ∀ m, Reads w k (.slice (some ⟨b, o + 3, none⟩) (n - 3) m) (zs.drop 3)) (hf : sliceFits (.slice a n cap)) :
    Reads w k (.slice (if cap = 3 then some ⟨b, o, none⟩ else some ⟨b, o + 3, none⟩) (n - 3) m) (zs.drop 3) := by
  split
  · simp only [sliceFits] at hf
    exact tail_nil h (by omega)
  · exact hr m

theorem Touch.write {w0 w : World} {R : Rel} (h : Touch (InR R) w0 w) {b o c p : Nat} (hr : R b o c p) (u : Value) : Touch (InR R) w0 ((w.setCell ⟨b, o, none⟩ u).setCell ⟨c, p, none⟩ u) :=
  (h.setCell (p := ⟨b, o, none⟩) (Or.inl ⟨b, o, c, p, hr, Or.inl rfl⟩) u).setCell (p := ⟨c, p, none⟩) (Or.inl ⟨b, o, c, p, hr, Or.inr rfl⟩) u

end
end Go.Proofs.Ytbndknbjjdoanaa
