/-
  Common words of this seat's proofs: how a slice of integers reads in a world, the contracts of slices.Equal. No conditions.
  Opening of arguments for the rows of this seat: integers, slices of integers, policies. No conditions.
  Contracts of the small tests: within, inRoom, inBudget. No conditions.
  What a call may have turned: 'Touch F w w'': of the blocks that were there at most those in F. No conditions.
  Plain laws of a fair division: sums at a level, the greatest level, what is given out. No program. No conditions.
-/
import Derived.Test.YtfnmjlnpfoclbaaGreatRows
import Derived.WalkKit
import Derived.WalkSpells
import Derived.WalkLawsBesides
import Derived.ProofKit
import Derived.OpenShut
import Derived.ChangeOld
import Derived.Below
import Derived.Handy
import Derived.BigQuiet
import Derived.Deep.QuietTactic
import Derived.Deep.LoopGhost
import Derived.Lib.Hide
import Derived.SizedLaws
import Derived.ShutString
import Derived.Lib.SmallJoins
import Derived.Maps.Own
import Derived.Maps.OwnSet
import Derived.OneCell

namespace Go.Proofs.YtfnmjlnpfoclbaaGreat
section
open Go.RowKit

theorem own : ownKnob Tryz.prog.godebug = none := by kernel_rfl
theorem laidOut : laidOutB Tryz.prog = true := by kernel_rfl
theorem infoInt : (Tryz.prog.info? 3).map (fun i => (i.zero, i.size, i.bytes)) = some (some (.int .i64 0), 1, 8) := by kernel_rfl

/-- The slice value v of integers of kind k reads as the list zs. -/
def Reads (w : World) (k : IntKind) (v : Value) (zs : List Int) : Prop :=
  ∃ a cap, v = .slice a zs.length cap ∧ zs.length ≤ 9223372036854775807 ∧ (zs ≠ [] → ∃ b o, a = some ⟨b, o, none⟩ ∧ ∀ j, j < zs.length → w.cell? ⟨b, o + j, none⟩ = some (.int k (zs.getD j 0)))

theorem Reads.drewN {w : World} {k v zs} (h : Reads w k v zs) (n : Nat) : Reads (w.drewN n) k v zs := by
  obtain ⟨a, cap, hv, hl, hc⟩ := h
  refine ⟨a, cap, hv, hl, fun hne => ?_⟩
  obtain ⟨b, o, ha, hc⟩ := hc hne
  exact ⟨b, o, ha, fun j hj => by simpa using hc j hj⟩

/-- What lies below a bound is read as before behind a call that turns nothing below it. -/
theorem Reads.below {w w' : World} {k v zs} {B : Nat} (h : Reads w k v zs) (hb : Below B w w') (hB : B = w.heap.size) : Reads w' k v zs := by
  subst hB
  obtain ⟨a, cap, hv, hl, hc⟩ := h
  refine ⟨a, cap, hv, hl, fun hne => ?_⟩
  obtain ⟨b, o, ha, hc⟩ := hc hne
  refine ⟨b, o, ha, fun j hj => ?_⟩
  have h1 := hc j hj
  have hlt : b < w.heap.size := World.block_lt_of_cell? w ⟨b, o + j, none⟩ h1
  exact (hb.cell (p := ⟨b, o + j, none⟩) hlt).trans h1

theorem Reads.own {w : World} {B t : Nat} {k : IntKind} {v : Value} {zs : List Int} (h : w.ownsRow B t 1 v zs.length (zs.map (Value.int k))) (hl : zs.length ≤ 9223372036854775807) : Reads w k v zs := by
  rcases h.2 with ⟨rfl, hz⟩ | ⟨g, cap, cur, rfl, hB, hg, hn, hm, hs, ht⟩
  · have : zs = [] := by cases zs <;> simp_all
    subst this
    exact ⟨none, 0, rfl, by simp, fun h => absurd rfl h⟩
  · refine ⟨some ⟨g, 0, none⟩, cap, rfl, hl, fun _ => ⟨g, 0, rfl, fun j hj => ?_⟩⟩
    have hc := h.cells (g := g) rfl j (.int k (zs.getD j 0)) (by simp [hj])
    have e : (⟨g, 0, none⟩ : Addr).add j = ⟨g, 0 + j, none⟩ := by unfold Addr.add; split <;> simp_all
    rw [e] at hc
    exact hc

/-- 'append(out, x)' of one element of one cell onto a row of the call's own. -/
theorem wpList_append_new {P : Program} {ops : Array Oper} {rest : List Oper} {o : Oper} {a : Act} {Q : Exit → Act → World → Prop} (hgd : o.guard = none) (s x : Operand) (t : TypeId)
    (ho : o.op = .call { callee := .builtin .append, args := #[s, x], argTypes := #[t, t] })
    (base : Nat) (e : TypeId) (i : TypeInfo) (z : Value) (bytes : Nat) (ht : P.underlying t = some (.slice e)) (hi : P.info? e = some i) (hz : i.zero = some z)
    (hsize : i.size = 1) (hby : i.bytes = bytes) (hzs : z.cells.size = 1)
    (v : Value) (n : Nat) (xs : List Value) (wr : World) (e' : TypeId) (u : Value) (hs : a.eval s = v) (hown : wr.ownsRow base e 1 v n xs)
    (hx : a.eval x = .slice (some ⟨wr.heap.size, 0, none⟩) 1 1) (h1 : u.oneCell' = true)
    (h63 : n + 1 ≤ maxLen) (hbytes : (n + 1) * bytes ≤ 140737488355328) (hbase : base ≤ wr.heap.size)
    (h : ∀ v' w', w'.ownsRow base e 1 v' (n + 1) (xs ++ [u]) → wr.grownBy w' v.ownBlock → Below base wr w' → wpList P ops Q rest (a.put o.dst v') w') :
    wpList P ops Q (o :: rest) a (wr.alloc (.cells #[u] e')) := by
  refine wpList_append_own _ hgd s x t ho base e i z 1 bytes ht hi hz hsize hby hzs (by decide) v n xs hs (hown.alloc _) ⟨wr.heap.size, 0, none⟩ 1 1 [u] hx rfl ?_ ?_ h63 hbytes (by simp; omega) ?_
  · intro j u' hj
    match j, hj with
    | 0, hj => simp at hj; subst hj; simp [Addr.add]
  · intro u' hu; simp at hu; subst hu; exact h1
  · intro v' w' hown' hg _
    refine h v' w' hown' ?_ ?_
    · exact ⟨hg.os, hg.tape, hg.output, Nat.le_trans (by simp) hg.size, fun k hk hne => (hg.block k (by simp; omega) hne).trans (heap_alloc_old wr _ hk)⟩
    · exact ((Below.refl base wr).alloc hbase _).grown hg (by simp; omega) (fun q hq => (hown.lt q hq).1)

theorem bdrewN {B : Nat} {a w : World} (h : Below B a w) (n : Nat) : Below B a (w.drewN n) := ⟨h.os, h.tape, h.output, h.size, h.block⟩

theorem take_ne_of {xs ys : List Int} (k : Nat) (h : xs.getD k 0 ≠ ys.getD k 0) : decide (xs = ys) = false := by
  simp only [decide_eq_false_iff_not]; intro e; subst e; exact h rfl

theorem eq_of_all {xs ys : List Int} (hl : xs.length = ys.length) (h : ∀ j, j < xs.length → xs.getD j 0 = ys.getD j 0) : xs = ys := by
  apply List.ext_getElem hl
  intro i h1 h2
  have := h i h1
  simpa [h1, h2] using this

theorem ret_bool {a b : Bool} (h : a = b) : Ending.returned (.bool a) = .returned (.bool b) := by rw [h]
theorem ret_int {k : IntKind} {a b : Int} (h : a = b) : Ending.returned (.int k a) = .returned (.int k b) := by rw [h]

def EqPost (b : Bool) (w : World) : Ending → World → Prop := fun e w' => e = .returned (.bool b) ∧ ∃ q, w' = w.drewN q

set_option maxHeartbeats 1000000 in
set_option maxRecDepth 100000 in
/-- slices.Equal at []int. -/
theorem equal_int (v1 v2 : Value) (xs ys : List Int) (w : World) (h1 : Reads w .i64 v1 xs) (h2 : Reads w .i64 v2 ys) :
    Calls Tryz.prog 46 #[v1, v2] w (EqPost (decide (xs = ys)) w) := by
  obtain ⟨a1, c1, rfl, hl1, hc1⟩ := h1
  obtain ⟨a2, c2, rfl, hl2, hc2⟩ := h2
  by_cases hlen : xs.length = ys.length
  · by_cases hz : xs = []
    · subst hz
      have hy : ys = [] := by cases ys <;> simp_all
      subst hy
      go_enter Tryz.func46, Tryz.ntmps46
      go_wp2
      go_loopg [13] 0 (fun _ s13 wr => s13 = .int .i64 0 ∧ wr = w)
      case atStart => exact ⟨rfl, rfl⟩
      case round =>
        obtain ⟨rfl, rfl⟩ := hrel
        go_wp2
        go_ret
        exact ⟨rfl, 0, rfl⟩
    · have hy : ys ≠ [] := by intro e; subst e; simp at hlen; exact hz hlen
      obtain ⟨b1, o1, rfl, hd1⟩ := hc1 hz
      obtain ⟨b2, o2, rfl, hd2⟩ := hc2 hy
      clear hc1 hc2
      rw [← hlen] at hd2 hl2 ⊢
      generalize hn : xs.length = n at *
      have Hn := Lib.hid hn
      have Hl := Lib.hid hlen
      clear hn hlen hz hy
      have HC1 := Lib.hid hd1
      have HC2 := Lib.hid hd2
      clear hd1 hd2
      go_enter Tryz.func46, Tryz.ntmps46
      go_wp2
      go_loopg [13] n (fun g s13 wr => ∃ k q : Nat, k ≤ n ∧ n - k ≤ g ∧ s13 = .int .i64 k ∧ wr = w.drewN q ∧ ∀ j, j < k → xs.getD j 0 = ys.getD j 0)
      case atStart => exact ⟨0, 0, Nat.zero_le _, by omega, rfl, rfl, fun j hj => absurd hj (Nat.not_lt_zero _)⟩
      case round =>
        obtain ⟨k, q, hk, hg, rfl, rfl, heq⟩ := hrel
        have A := Lib.hid heq
        clear heq
        by_cases hlt : k < n
        · have g1 : w.cell? ⟨b1, o1 + k, none⟩ = some (.int .i64 (xs.getD k 0)) := HC1.out k (by omega)
          have g2 : w.cell? ⟨b2, o2 + k, none⟩ = some (.int .i64 (ys.getD k 0)) := HC2.out k (by omega)
          generalize hxk : xs.getD k 0 = x at g1
          generalize hyk : ys.getD k 0 = y at g2
          have B1 := Lib.hid hxk
          have B2 := Lib.hid hyk
          clear hxk hyk
          by_cases hxy : x = y
          · subst hxy
            go_wp2_with fail
            go_region
            go_wp2
            go_roundg (n - (k + 1))
            case measure => omega
            case rel =>
              refine ⟨k + 1, q + 1, by omega, by omega, by go_num, rfl, fun j hj => ?_⟩
              by_cases e : j = k
              · subst e
                rw [B1.out, B2.out]
              · exact A.out j (by omega)
          · go_wp2_with fail
            go_region
            go_wp2
            go_ret
            exact ⟨ret_bool (take_ne_of k (by rw [B1.out, B2.out]; exact hxy)).symm, q + 1, rfl⟩
        · have : k = n := by omega
          subst this
          go_wp2
          go_ret
          exact ⟨ret_bool (decide_eq_true (eq_of_all (xs := xs) (ys := ys) (Hn.out.trans Hl.out) (fun j hj => A.out j (by rw [Hn.out] at hj; exact hj)))).symm, q, rfl⟩
  · have hnm' : ¬ (xs.length : Int) = (ys.length : Int) := by omega
    have Hl := Lib.hid hlen
    clear hlen hc1 hc2
    go_enter Tryz.func46, Tryz.ntmps46
    go_wp2
    go_ret
    exact ⟨ret_bool (by simp; intro e; subst e; exact Hl.out rfl), 0, rfl⟩

end
end Go.Proofs.YtfnmjlnpfoclbaaGreat

namespace Go.Proofs.YtfnmjlnpfoclbaaGreat
section
open Go.ChangeShapes Go.WideShapes Go.ChangeAt Go.RowKit
open Go.ChangeMaps (open_string shut_string)

def LawPost (w : World) : Ending → World → Prop := fun e w' => e = .returned (.bool true) ∧ Below w.heap.size w w'

variable {H : Type} {enc : TypeId × Value → H} {P : Program} {W : World}

theorem range_i64 {n : Int} (h : (Lit.int .i64 n).wf = true) : -9223372036854775808 ≤ n ∧ n ≤ 9223372036854775807 := by
  simpa [Lit.wf, IntKind.min, IntKind.max, IntKind.signed, IntKind.bits] using h
theorem range_u8 {n : Int} (h : (Lit.int .u8 n).wf = true) : 0 ≤ n ∧ n ≤ 255 := by
  simpa [Lit.wf, IntKind.min, IntKind.max, IntKind.signed, IntKind.bits] using h

/-- A slice of integers that came in. -/
structure RowIn (W : World) (k : IntKind) (bytes : Nat) (v : Value) (zs : List Int) : Prop where
  reads : Reads W k v zs
  wf : ∀ z ∈ zs, (Lit.int k z).wf = true
  reach : zs.length * bytes ≤ 140737488351232

theorem openRow {t e : TypeId} {k : IntKind} {base : Nat} {v : Value} {d : DataW H} {p : List MemPlace} {ts : List TypeId} {ds : List (DataW H)} {j : Nat} (ht : P.underlying t = some (.slice e)) (he : P.underlying e = some (.int k)) (hc : P.cellsOf e = 1)
    (hv : Value.okWide P W .any base t v) (h : DataW.Trod enc P W 0 (fun _ => true) true t v d p)
    (hsz : (DataW.weightsEach P ts ds).all (· ≤ reachBytes) = true) (hts : ts[j]? = some t) (hds : ds[j]? = some d) :
    ∃ zs, RowIn W k (P.bytesOf e) v zs := by
  obtain ⟨a, len, cap, rfl⟩ := okWide_slice ht hv
  obtain ⟨fuel, hf⟩ := h
  rcases open_ints ht he hc hf with ⟨hcs, hx⟩ | ⟨x, l, c, zs, hcs, _, hl, hm, hz, hx, hcell, hwz⟩
  · simp [Value.cells] at hcs
    obtain ⟨rfl, rfl, rfl⟩ := hcs
    exact ⟨[], ⟨none, 0, rfl, by simp, fun h => absurd rfl h⟩, by simp, by simp⟩
  · simp [Value.cells] at hcs
    obtain ⟨rfl, rfl, rfl⟩ := hcs
    have hz' : zs.length = cap := by simpa using hz
    have hlen : (zs.take len).length = len := by simp; omega
    have hd : d = .slice (lits k (zs.take len)) (lits k (zs.drop len)) := by
      have := congrArg Prod.fst hx
      simpa using this
    have hr := sized_slice hsz hts (hd ▸ hds) ht
    have hl1 : (lits k (zs.take len) : List (DataW H)).length = len := by simp [lits]; omega
    rw [hl1] at hr
    refine ⟨zs.take len, ⟨some x, cap, by rw [hlen], by rw [hlen]; unfold maxLen at hm; omega, fun hne => ?_⟩, fun z hz => hwz z (List.mem_of_mem_take hz), ?_⟩
    · have h0 : 0 < len := by
        rcases Nat.eq_zero_or_pos len with h0 | h0
        · subst h0; simp at hne
        · exact h0
      obtain ⟨b, off, spot⟩ := x
      have h00 := hcell 0 (by omega)
      have hspot : spot = none := by simpa [Addr.add] using World.cell?_spot h00
      subst hspot
      refine ⟨b, off, rfl, fun j hj => ?_⟩
      rw [hlen] at hj
      have := hcell j (by omega)
      have e1 : (⟨b, off, none⟩ : Addr).add j = ⟨b, off + j, none⟩ := by unfold Addr.add; split <;> simp_all
      rw [e1] at this
      rw [this]
      simp [hj]
    · rw [hlen]
      have h1 : len * P.bytesOf e ≤ (len + (lits k (zs.drop len) : List (DataW H)).length) * P.bytesOf e := Nat.mul_le_mul_right _ (by omega)
      simp only [reachBytes] at hr
      omega

end
end Go.Proofs.YtfnmjlnpfoclbaaGreat

namespace Go.Proofs.YtfnmjlnpfoclbaaGreat
section
open Go.RowKit

theorem within_room_yes (n lo hi : Int) (w : World) (h1 : lo ≤ n) (h2 : n ≤ hi) :
    Calls Tryz.prog 59 #[.int .i64 n, .int .i64 lo, .int .i64 hi] w fun e w' => e = .returned (.bool true) ∧ w = w' := by
  go_enter Tryz.func59, Tryz.ntmps59
  go_wp2
  go_ret
  exact ⟨rfl, rfl⟩
theorem within_room_no (n lo hi : Int) (w : World) (h : ¬ (lo ≤ n ∧ n ≤ hi)) :
    Calls Tryz.prog 59 #[.int .i64 n, .int .i64 lo, .int .i64 hi] w fun e w' => e = .returned (.bool false) ∧ w = w' := by
  by_cases h1 : lo ≤ n
  · have h2 : hi < n := by omega
    clear h
    go_enter Tryz.func59, Tryz.ntmps59
    go_wp2
    go_ret
    first | exact ⟨rfl, rfl⟩ | exact ⟨ret_bool (decide_eq_false (by omega)), rfl⟩
  · have h2 : n < lo := by omega
    clear h h1
    go_enter Tryz.func59, Tryz.ntmps59
    go_wp2
    go_ret
    first | exact ⟨rfl, rfl⟩ | exact ⟨ret_bool (decide_eq_false (by omega)), rfl⟩

theorem within_ledger_yes (n lo hi : Int) (w : World) (h1 : lo ≤ n) (h2 : n ≤ hi) :
    Calls Tryz.prog 54 #[.int .i64 n, .int .i64 lo, .int .i64 hi] w fun e w' => e = .returned (.bool true) ∧ w = w' := by
  go_enter Tryz.func54, Tryz.ntmps54
  go_wp2
  go_ret
  exact ⟨rfl, rfl⟩
theorem within_ledger_no (n lo hi : Int) (w : World) (h : ¬ (lo ≤ n ∧ n ≤ hi)) :
    Calls Tryz.prog 54 #[.int .i64 n, .int .i64 lo, .int .i64 hi] w fun e w' => e = .returned (.bool false) ∧ w = w' := by
  by_cases h1 : lo ≤ n
  · have h2 : hi < n := by omega
    clear h
    go_enter Tryz.func54, Tryz.ntmps54
    go_wp2
    go_ret
    first | exact ⟨rfl, rfl⟩ | exact ⟨ret_bool (decide_eq_false (by omega)), rfl⟩
  · have h2 : n < lo := by omega
    clear h h1
    go_enter Tryz.func54, Tryz.ntmps54
    go_wp2
    go_ret
    first | exact ⟨rfl, rfl⟩ | exact ⟨ret_bool (decide_eq_false (by omega)), rfl⟩

theorem inRoom_yes (n : Int) (w : World) (h1 : 0 ≤ n) (h2 : n ≤ 100000) :
    Calls Tryz.prog 97 #[.int .i64 n] w fun e w' => e = .returned (.bool true) ∧ w = w' := by
  go_enter Tryz.func97, Tryz.ntmps97
  go_wp2
  go_ret
  exact ⟨rfl, rfl⟩
theorem inRoom_no (n : Int) (w : World) (h : ¬ (0 ≤ n ∧ n ≤ 100000)) :
    Calls Tryz.prog 97 #[.int .i64 n] w fun e w' => e = .returned (.bool false) ∧ w = w' := by
  by_cases h1 : 0 ≤ n
  · have h2 : 100000 < n := by omega
    clear h
    go_enter Tryz.func97, Tryz.ntmps97
    go_wp2
    go_ret
    first | exact ⟨rfl, rfl⟩ | exact ⟨ret_bool (decide_eq_false (by omega)), rfl⟩
  · have h2 : n < 0 := by omega
    clear h h1
    go_enter Tryz.func97, Tryz.ntmps97
    go_wp2
    go_ret
    first | exact ⟨rfl, rfl⟩ | exact ⟨ret_bool (decide_eq_false (by omega)), rfl⟩

theorem inBudget_yes (n : Int) (w : World) (h1 : 0 ≤ n) (h2 : n ≤ 10000000) :
    Calls Tryz.prog 55 #[.int .i64 n] w fun e w' => e = .returned (.bool true) ∧ w = w' := by
  go_enter Tryz.func55, Tryz.ntmps55
  go_wp2
  go_ret
  exact ⟨rfl, rfl⟩
theorem inBudget_no (n : Int) (w : World) (h : ¬ (0 ≤ n ∧ n ≤ 10000000)) :
    Calls Tryz.prog 55 #[.int .i64 n] w fun e w' => e = .returned (.bool false) ∧ w = w' := by
  by_cases h1 : 0 ≤ n
  · have h2 : 10000000 < n := by omega
    clear h
    go_enter Tryz.func55, Tryz.ntmps55
    go_wp2
    go_ret
    first | exact ⟨rfl, rfl⟩ | exact ⟨ret_bool (decide_eq_false (by omega)), rfl⟩
  · have h2 : n < 0 := by omega
    clear h h1
    go_enter Tryz.func55, Tryz.ntmps55
    go_wp2
    go_ret
    first | exact ⟨rfl, rfl⟩ | exact ⟨ret_bool (decide_eq_false (by omega)), rfl⟩

end
end Go.Proofs.YtfnmjlnpfoclbaaGreat

namespace Go.Proofs.YtfnmjlnpfoclbaaGreat
section
open Go.RowKit

structure Touch (F : Nat → Prop) (w w' : World) : Prop where
  os : w'.os = w.os
  tape : w'.tape = w.tape
  output : w'.output = w.output
  size : w.heap.size ≤ w'.heap.size
  block : ∀ k, k < w.heap.size → ¬ F k → w'.heap[k]? = w.heap[k]?

theorem Touch.refl (F : Nat → Prop) (w : World) : Touch F w w := ⟨rfl, rfl, rfl, Nat.le_refl _, fun _ _ _ => rfl⟩
theorem Touch.trans {F G : Nat → Prop} {a b c : World} (h : Touch F a b) (k : Touch G b c) (hG : ∀ i, G i → F i ∨ a.heap.size ≤ i) : Touch F a c :=
  ⟨k.os.trans h.os, k.tape.trans h.tape, k.output.trans h.output, Nat.le_trans h.size k.size,
    fun i hi hF => (k.block i (Nat.lt_of_lt_of_le hi h.size) (fun g => (hG i g).elim hF (fun x => by omega))).trans (h.block i hi hF)⟩
theorem Touch.then {F : Nat → Prop} {a b c : World} (h : Touch F a b) (k : Touch F b c) : Touch F a c := h.trans k (fun _ x => Or.inl x)
theorem Touch.mono {F G : Nat → Prop} {w w' : World} (h : Touch F w w') (hG : ∀ i, F i → G i) : Touch G w w' := ⟨h.os, h.tape, h.output, h.size, fun k hk hn => h.block k hk (fun x => hn (hG k x))⟩
theorem Touch.alloc {F : Nat → Prop} {a w : World} (h : Touch F a w) (o : Obj) : Touch F a (w.alloc o) :=
  ⟨h.os, h.tape, h.output, Nat.le_trans h.size (by simp), fun k hk hn => (heap_alloc_old w o (Nat.lt_of_lt_of_le hk h.size)).trans (h.block k hk hn)⟩
theorem Touch.drew {F : Nat → Prop} {a w : World} (h : Touch F a w) : Touch F a w.drew := ⟨h.os, h.tape, h.output, h.size, h.block⟩
theorem Touch.drewN {F : Nat → Prop} {a w : World} (h : Touch F a w) (n : Nat) : Touch F a (w.drewN n) := ⟨h.os, h.tape, h.output, h.size, h.block⟩
theorem Touch.setCell {F : Nat → Prop} {a w : World} (h : Touch F a w) {p : Addr} (hp : F p.block ∨ a.heap.size ≤ p.block) (u : Value) : Touch F a (w.setCell p u) :=
  ⟨h.os, h.tape, h.output, by simpa [World.setCell] using h.size, fun k hk hn => (Below.heap_setCell w p u k (fun e => by subst e; rcases hp with x | x; exact hn x; omega)).trans (h.block k hk hn)⟩
theorem Touch.grown {F : Nat → Prop} {a w w' : World} {row : Option Nat} (h : Touch F a w) (hg : w.grownBy w' row) (hr : ∀ k, row = some k → F k ∨ a.heap.size ≤ k) : Touch F a w' :=
  ⟨hg.os.trans h.os, hg.tape.trans h.tape, hg.output.trans h.output, Nat.le_trans h.size hg.size,
    fun k hk hn => (hg.block k (Nat.lt_of_lt_of_le hk h.size) (fun e => (hr k e.symm).elim hn (fun x => by omega))).trans (h.block k hk hn)⟩
theorem Touch.of_below {F : Nat → Prop} {w w' : World} (h : Below w.heap.size w w') : Touch F w w' := ⟨h.os, h.tape, h.output, h.size, fun k hk _ => h.block k hk⟩
theorem Touch.below {F : Nat → Prop} {w w' : World} {B : Nat} (h : Touch F w w') (hB : B ≤ w.heap.size) (hF : ∀ k, F k → B ≤ k) : Below B w w' :=
  ⟨h.os, h.tape, h.output, h.size, fun k hk => h.block k (by omega) (fun x => by have := hF k x; omega)⟩

/-- The blocks of F are as they were. -/
def SameOn (F : Nat → Prop) (w w' : World) : Prop := ∀ k, F k → k < w.heap.size → w'.heap[k]? = w.heap[k]?
theorem Touch.same {F G : Nat → Prop} {w w' : World} (h : Touch G w w') (hd : ∀ k, F k → k < w.heap.size → ¬ G k) : SameOn F w w' := fun k hk hlt => h.block k hlt (hd k hk hlt)
theorem Below.same_on {F : Nat → Prop} {w w' : World} (h : Below w.heap.size w w') : SameOn F w w' := fun k _ hlt => h.block k hlt

/-- A block that is known whole. -/
theorem cell_of {w : World} {b : Nat} {cur : Array Value} {t : TypeId} (h : w.heap[b]? = some (.cells cur t (0, 0))) (j : Nat) : w.cell? ⟨b, j, none⟩ = cur[j]? := cell_of_row w b j cur t (0, 0) h
theorem lt_of {w : World} {b : Nat} {o : Obj} (h : w.heap[b]? = some o) : b < w.heap.size := (Array.getElem?_eq_some_iff.1 h).1
theorem free_of {w : World} {b : Nat} {cur : Array Value} {t : TypeId} (h : w.heap[b]? = some (.cells cur t (0, 0))) (j : Nat) : w.frozen? ⟨b, j, none⟩ = false := by simp [World.frozen?, h]
theorem block_setCell {w : World} {b : Nat} {cur : Array Value} {t : TypeId} (h : w.heap[b]? = some (.cells cur t (0, 0))) (j : Nat) (u : Value) :
    (w.setCell ⟨b, j, none⟩ u).heap[b]? = some (.cells (cur.setIfInBounds j u) t (0, 0)) := by
  simp [World.setCell, Array.getElem?_modify, h]

end
end Go.Proofs.YtfnmjlnpfoclbaaGreat

namespace Go.Proofs.YtfnmjlnpfoclbaaGreat
section

/-- What all get together at a level. -/
def sumAt (zs : List Int) (L : Int) : Int := (zs.map fun z => min z L).sum
/-- What is given: at most the level, and one more to those that want more, as long as something is left. -/
def dist : List Int → Int → Int → List Int
  | [], _, _ => []
  | z :: zs, L, r => if L < z ∧ 0 < r then (L + 1) :: dist zs L (r - 1) else min z L :: dist zs L r

theorem sumAt_cons (z : Int) (zs : List Int) (L : Int) : sumAt (z :: zs) L = min z L + sumAt zs L := by simp [sumAt]
theorem sumAt_nil (L : Int) : sumAt [] L = 0 := rfl
theorem sumAt_append (a b : List Int) (L : Int) : sumAt (a ++ b) L = sumAt a L + sumAt b L := by simp [sumAt]
theorem take_succ_getD (zs : List Int) (k : Nat) (h : k < zs.length) : zs.take (k + 1) = zs.take k ++ [zs.getD k 0] := by
  rw [List.take_succ_eq_append_getElem h]; simp [h]
theorem sumAt_take (zs : List Int) (L : Int) (k : Nat) (h : k < zs.length) : sumAt (zs.take (k + 1)) L = sumAt (zs.take k) L + min (zs.getD k 0) L := by
  rw [take_succ_getD zs k h, sumAt_append]; simp [sumAt]

theorem sumAt_bd (M : Int) (hM : 0 ≤ M) (L : Int) (hL : 0 ≤ L) : ∀ zs : List Int, (∀ z ∈ zs, 0 ≤ z ∧ z ≤ M) → 0 ≤ sumAt zs L ∧ sumAt zs L ≤ M * zs.length
  | [], _ => by simp [sumAt_nil]
  | z :: zs, h => by
    have ih := sumAt_bd M hM L hL zs (fun x hx => h x (by simp [hx]))
    have hz := h z (by simp)
    rw [sumAt_cons, List.length_cons, Int.natCast_add, Int.mul_add]
    omega
theorem sumAt_mono (L L' : Int) (h : L ≤ L') : ∀ zs : List Int, sumAt zs L ≤ sumAt zs L'
  | [] => by simp [sumAt_nil]
  | z :: zs => by
    have ih := sumAt_mono L L' h zs
    rw [sumAt_cons, sumAt_cons]; omega
theorem sumAt_top (M : Int) : ∀ zs : List Int, (∀ z ∈ zs, z ≤ M) → sumAt zs M = zs.sum
  | [], _ => rfl
  | z :: zs, h => by
    have ih := sumAt_top M zs (fun x hx => h x (by simp [hx]))
    have hz := h z (by simp)
    rw [sumAt_cons, List.sum_cons, ih]; omega

/-- The level that the budget allows, below M. -/
def isLevel (zs : List Int) (b M L : Int) : Prop := 0 ≤ L ∧ L ≤ M ∧ sumAt zs L ≤ b ∧ (L = M ∨ b < sumAt zs (L + 1))

theorem level_unique {zs : List Int} {b M L L' : Int} (h : isLevel zs b M L) (h' : isLevel zs b M L') : L = L' := by
  obtain ⟨h1, h2, h3, h4⟩ := h
  obtain ⟨k1, k2, k3, k4⟩ := h'
  rcases Int.lt_trichotomy L L' with hlt | rfl | hlt
  · rcases h4 with h4 | h4
    · omega
    · have := sumAt_mono (L + 1) L' (by omega) zs; omega
  · rfl
  · rcases k4 with k4 | k4
    · omega
    · have := sumAt_mono (L' + 1) L (by omega) zs; omega
theorem level_top {zs : List Int} {b M L : Int} (h : isLevel zs b M L) (hs : sumAt zs M ≤ b) : L = M := by
  obtain ⟨h1, h2, h3, h4⟩ := h
  rcases h4 with h4 | h4
  · exact h4
  · have := sumAt_mono (L + 1) M
    rcases Int.lt_or_le L M with hl | hl
    · have := this (by omega) zs; omega
    · omega

theorem dist_len : ∀ (zs : List Int) (L r : Int), (dist zs L r).length = zs.length
  | [], _, _ => rfl
  | z :: zs, L, r => by unfold dist; split <;> simp [dist_len zs]
theorem dist_top (M : Int) : ∀ (zs : List Int) (r : Int), (∀ z ∈ zs, z ≤ M) → dist zs M r = zs
  | [], _, _ => rfl
  | z :: zs, r, h => by
    have hz := h z (by simp)
    unfold dist
    rw [if_neg (by omega), dist_top M zs r (fun x hx => h x (by simp [hx]))]
    congr 1; omega

theorem drop_cons (zs : List Int) (k : Nat) (h : k < zs.length) : zs.drop k = zs.getD k 0 :: zs.drop (k + 1) := by
  rw [List.drop_eq_getElem_cons h]; simp [h]
theorem dist_cons (z : Int) (zs : List Int) (L r : Int) : dist (z :: zs) L r = if L < z ∧ 0 < r then (L + 1) :: dist zs L (r - 1) else min z L :: dist zs L r := rfl
theorem dist_step_more {zs acc : List Int} {L r r0 : Int} {k : Nat} (h : k < zs.length) (he : acc ++ dist (zs.drop k) L r = dist zs L r0) (h1 : L < zs.getD k 0) (h2 : 0 < r) :
    (acc ++ [L + 1]) ++ dist (zs.drop (k + 1)) L (r - 1) = dist zs L r0 := by
  rw [drop_cons zs k h, dist_cons] at he
  rw [if_pos ⟨h1, h2⟩] at he
  rw [List.append_assoc]
  exact he
theorem dist_step_less {zs acc : List Int} {L r r0 : Int} {k : Nat} (h : k < zs.length) (he : acc ++ dist (zs.drop k) L r = dist zs L r0) (h1 : ¬ (L < zs.getD k 0 ∧ 0 < r)) :
    (acc ++ [min (zs.getD k 0) L]) ++ dist (zs.drop (k + 1)) L r = dist zs L r0 := by
  rw [drop_cons zs k h, dist_cons] at he
  rw [if_neg h1] at he
  rw [List.append_assoc]
  exact he

/-! What a fair division gives. -/
theorem dist_bd : ∀ (zs : List Int) (L r : Int), 0 ≤ L → (∀ z ∈ zs, 0 ≤ z) → ∀ j, j < zs.length → 0 ≤ (dist zs L r).getD j 0 ∧ (dist zs L r).getD j 0 ≤ zs.getD j 0 ∧ (dist zs L r).getD j 0 ≤ L + 1 ∧ ((dist zs L r).getD j 0 < zs.getD j 0 → L ≤ (dist zs L r).getD j 0)
  | [], _, _, _, _, j, hj => by simp at hj
  | z :: zs, L, r, hL, h, j, hj => by
    have hz := h z (by simp)
    unfold dist
    cases j with
    | zero => split <;> simp <;> omega
    | succ j =>
      have ih := fun r => dist_bd zs L r hL (fun x hx => h x (by simp [hx])) j (by simpa using hj)
      split
      · simpa using ih (r - 1)
      · simpa using ih r
theorem dist_sum : ∀ (zs : List Int) (L r : Int), 0 ≤ r → sumAt zs L + r ≤ sumAt zs (L + 1) → (dist zs L r).sum = sumAt zs L + r
  | [], L, r, h0, h => by simp [sumAt_nil] at h; simp [dist, sumAt_nil]; omega
  | z :: zs, L, r, h0, h => by
    rw [sumAt_cons, sumAt_cons] at h
    rw [sumAt_cons]
    unfold dist
    split
    · next hc =>
      rw [List.sum_cons, dist_sum zs L (r - 1) (by omega) (by omega)]
      omega
    · next hc =>
      rcases Int.lt_or_le L z with hz | hz
      · have hr : r = 0 := by omega
        subst hr
        rw [List.sum_cons, dist_sum zs L 0 (by omega) (by have := sumAt_mono L (L + 1) (by omega) zs; omega)]
        omega
      · rw [List.sum_cons, dist_sum zs L r h0 (by omega)]
        omega

end
end Go.Proofs.YtfnmjlnpfoclbaaGreat
