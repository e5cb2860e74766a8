/-
  Common words of this seat's proofs: how a slice of integers reads in a world, the contracts of slices.Equal. No conditions.
-/
import Derived.Test.YtclpkmplifcfjaaRows
import Derived.WalkKit
import Derived.WalkSpells
import Derived.WalkLawsBesides
import Derived.ProofKit
import Derived.OpenShut
import Derived.ChangeOld
import Derived.Below
import Derived.Handy
import Derived.BigQuiet
import Derived.Deep.QuietTactic
import Derived.Deep.LoopGhost
import Derived.Lib.Hide
namespace Go.Proofs.Ytclpkmplifcfjaa
open Go.RowKit

theorem own : ownKnob Try.prog.godebug = none := by kernel_rfl
theorem laidOut : laidOutB Try.prog = true := by kernel_rfl
theorem infoInt : (Try.prog.info? 3).map (fun i => (i.zero, i.size, i.bytes)) = some (some (.int .i64 0), 1, 8) := by kernel_rfl

/-- The slice value v of integers of kind k reads as the list zs. -/
def Reads (w : World) (k : IntKind) (v : Value) (zs : List Int) : Prop :=
  ∃ a cap, v = .slice a zs.length cap ∧ zs.length ≤ 9223372036854775807 ∧ (zs ≠ [] → ∃ b o, a = some ⟨b, o, none⟩ ∧ ∀ j, j < zs.length → w.cell? ⟨b, o + j, none⟩ = some (.int k (zs.getD j 0)))

theorem Reads.drewN {w : World} {k v zs} (h : Reads w k v zs) (n : Nat) : Reads (w.drewN n) k v zs := by
  obtain ⟨a, cap, hv, hl, hc⟩ := h
  refine ⟨a, cap, hv, hl, fun hne => ?_⟩
  obtain ⟨b, o, ha, hc⟩ := hc hne
  exact ⟨b, o, ha, fun j hj => by simpa using hc j hj⟩

/-- What lies below a bound is read as before behind a call that turns nothing below it. -/
theorem Reads.below {w w' : World} {k v zs} {B : Nat} (h : Reads w k v zs) (hb : Below B w w') (hB : B = w.heap.size) : Reads w' k v zs := by
  subst hB
  obtain ⟨a, cap, hv, hl, hc⟩ := h
  refine ⟨a, cap, hv, hl, fun hne => ?_⟩
  obtain ⟨b, o, ha, hc⟩ := hc hne
  refine ⟨b, o, ha, fun j hj => ?_⟩
  have h1 := hc j hj
  have hlt : b < w.heap.size := World.block_lt_of_cell? w ⟨b, o + j, none⟩ h1
  exact (hb.cell (p := ⟨b, o + j, none⟩) hlt).trans h1

theorem Reads.own {w : World} {B t : Nat} {k : IntKind} {v : Value} {zs : List Int} (h : w.ownsRow B t 1 v zs.length (zs.map (Value.int k))) (hl : zs.length ≤ 9223372036854775807) : Reads w k v zs := by
  rcases h.2 with ⟨rfl, hz⟩ | ⟨g, cap, cur, rfl, hB, hg, hn, hm, hs, ht⟩
  · have : zs = [] := by cases zs <;> simp_all
    subst this
    exact ⟨none, 0, rfl, by simp, fun h => absurd rfl h⟩
  · refine ⟨some ⟨g, 0, none⟩, cap, rfl, hl, fun _ => ⟨g, 0, rfl, fun j hj => ?_⟩⟩
    have hc := h.cells (g := g) rfl j (.int k (zs.getD j 0)) (by simp [hj])
    have e : (⟨g, 0, none⟩ : Addr).add j = ⟨g, 0 + j, none⟩ := by unfold Addr.add; split <;> simp_all
    rw [e] at hc
    exact hc

/-- 'append(out, x)' of one element of one cell onto a row of the call's own. -/
theorem wpList_append_new {P : Program} {ops : Array Oper} {rest : List Oper} {o : Oper} {a : Act} {Q : Exit → Act → World → Prop} (hgd : o.guard = none) (s x : Operand) (t : TypeId)
    (ho : o.op = .call { callee := .builtin .append, args := #[s, x], argTypes := #[t, t] })
    (base : Nat) (e : TypeId) (i : TypeInfo) (z : Value) (bytes : Nat) (ht : P.underlying t = some (.slice e)) (hi : P.info? e = some i) (hz : i.zero = some z)
    (hsize : i.size = 1) (hby : i.bytes = bytes) (hzs : z.cells.size = 1)
    (v : Value) (n : Nat) (xs : List Value) (wr : World) (e' : TypeId) (u : Value) (hs : a.eval s = v) (hown : wr.ownsRow base e 1 v n xs)
    (hx : a.eval x = .slice (some ⟨wr.heap.size, 0, none⟩) 1 1) (h1 : u.oneCell' = true)
    (h63 : n + 1 ≤ maxLen) (hbytes : (n + 1) * bytes ≤ 140737488355328) (hbase : base ≤ wr.heap.size)
    (h : ∀ v' w', w'.ownsRow base e 1 v' (n + 1) (xs ++ [u]) → wr.grownBy w' v.ownBlock → Below base wr w' → wpList P ops Q rest (a.put o.dst v') w') :
    wpList P ops Q (o :: rest) a (wr.alloc (.cells #[u] e')) := by
  refine wpList_append_own _ hgd s x t ho base e i z 1 bytes ht hi hz hsize hby hzs (by decide) v n xs hs (hown.alloc _) ⟨wr.heap.size, 0, none⟩ 1 1 [u] hx rfl ?_ ?_ h63 hbytes (by simp; omega) ?_
  · intro j u' hj
    match j, hj with
    | 0, hj => simp at hj; subst hj; simp [Addr.add]
  · intro u' hu; simp at hu; subst hu; exact h1
  · intro v' w' hown' hg _
    refine h v' w' hown' ?_ ?_
    · exact ⟨hg.os, hg.tape, hg.output, Nat.le_trans (by simp) hg.size, fun k hk hne => (hg.block k (by simp; omega) hne).trans (heap_alloc_old wr _ hk)⟩
    · exact ((Below.refl base wr).alloc hbase _).grown hg (by simp; omega) (fun q hq => (hown.lt q hq).1)

theorem bdrewN {B : Nat} {a w : World} (h : Below B a w) (n : Nat) : Below B a (w.drewN n) := ⟨h.os, h.tape, h.output, h.size, h.block⟩

theorem take_ne_of {xs ys : List Int} (k : Nat) (h : xs.getD k 0 ≠ ys.getD k 0) : decide (xs = ys) = false := by
  simp only [decide_eq_false_iff_not]; intro e; subst e; exact h rfl

theorem eq_of_all {xs ys : List Int} (hl : xs.length = ys.length) (h : ∀ j, j < xs.length → xs.getD j 0 = ys.getD j 0) : xs = ys := by
  apply List.ext_getElem hl
  intro i h1 h2
  have := h i h1
  simpa [h1, h2] using this

theorem ret_bool {a b : Bool} (h : a = b) : Ending.returned (.bool a) = .returned (.bool b) := by rw [h]
theorem ret_int {k : IntKind} {a b : Int} (h : a = b) : Ending.returned (.int k a) = .returned (.int k b) := by rw [h]

def EqPost (b : Bool) (w : World) : Ending → World → Prop := fun e w' => e = .returned (.bool b) ∧ ∃ q, w' = w.drewN q

set_option maxHeartbeats 1000000 in
set_option maxRecDepth 100000 in
/-- slices.Equal at []int. -/
theorem equal_int (v1 v2 : Value) (xs ys : List Int) (w : World) (h1 : Reads w .i64 v1 xs) (h2 : Reads w .i64 v2 ys) :
    Calls Try.prog 20 #[v1, v2] w (EqPost (decide (xs = ys)) w) := by
  obtain ⟨a1, c1, rfl, hl1, hc1⟩ := h1
  obtain ⟨a2, c2, rfl, hl2, hc2⟩ := h2
  by_cases hlen : xs.length = ys.length
  · by_cases hz : xs = []
    · subst hz
      have hy : ys = [] := by cases ys <;> simp_all
      subst hy
      go_enter Try.func20, Try.ntmps20
      go_wp2
      go_loopg [13] 0 (fun _ s13 wr => s13 = .int .i64 0 ∧ wr = w)
      case atStart => exact ⟨rfl, rfl⟩
      case round =>
        obtain ⟨rfl, rfl⟩ := hrel
        go_wp2
        go_ret
        exact ⟨rfl, 0, rfl⟩
    · have hy : ys ≠ [] := by intro e; subst e; simp at hlen; exact hz hlen
      obtain ⟨b1, o1, rfl, hd1⟩ := hc1 hz
      obtain ⟨b2, o2, rfl, hd2⟩ := hc2 hy
      clear hc1 hc2
      rw [← hlen] at hd2 hl2 ⊢
      generalize hn : xs.length = n at *
      have Hn := Lib.hid hn
      have Hl := Lib.hid hlen
      clear hn hlen hz hy
      have HC1 := Lib.hid hd1
      have HC2 := Lib.hid hd2
      clear hd1 hd2
      go_enter Try.func20, Try.ntmps20
      go_wp2
      go_loopg [13] n (fun g s13 wr => ∃ k q : Nat, k ≤ n ∧ n - k ≤ g ∧ s13 = .int .i64 k ∧ wr = w.drewN q ∧ ∀ j, j < k → xs.getD j 0 = ys.getD j 0)
      case atStart => exact ⟨0, 0, Nat.zero_le _, by omega, rfl, rfl, fun j hj => absurd hj (Nat.not_lt_zero _)⟩
      case round =>
        obtain ⟨k, q, hk, hg, rfl, rfl, heq⟩ := hrel
        have A := Lib.hid heq
        clear heq
        by_cases hlt : k < n
        · have g1 : w.cell? ⟨b1, o1 + k, none⟩ = some (.int .i64 (xs.getD k 0)) := HC1.out k (by omega)
          have g2 : w.cell? ⟨b2, o2 + k, none⟩ = some (.int .i64 (ys.getD k 0)) := HC2.out k (by omega)
          generalize hxk : xs.getD k 0 = x at g1
          generalize hyk : ys.getD k 0 = y at g2
          have B1 := Lib.hid hxk
          have B2 := Lib.hid hyk
          clear hxk hyk
          by_cases hxy : x = y
          · subst hxy
            go_wp2_with fail
            go_region
            go_wp2
            go_roundg (n - (k + 1))
            case measure => omega
            case rel =>
              refine ⟨k + 1, q + 1, by omega, by omega, by go_num, rfl, fun j hj => ?_⟩
              by_cases e : j = k
              · subst e
                rw [B1.out, B2.out]
              · exact A.out j (by omega)
          · go_wp2_with fail
            go_region
            go_wp2
            go_ret
            exact ⟨ret_bool (take_ne_of k (by rw [B1.out, B2.out]; exact hxy)).symm, q + 1, rfl⟩
        · have : k = n := by omega
          subst this
          go_wp2
          go_ret
          exact ⟨ret_bool (decide_eq_true (eq_of_all (xs := xs) (ys := ys) (Hn.out.trans Hl.out) (fun j hj => A.out j (by rw [Hn.out] at hj; exact hj)))).symm, q, rfl⟩
  · have hnm' : ¬ (xs.length : Int) = (ys.length : Int) := by omega
    have Hl := Lib.hid hlen
    clear hlen hc1 hc2
    go_enter Try.func20, Try.ntmps20
    go_wp2
    go_ret
    exact ⟨ret_bool (by simp; intro e; subst e; exact Hl.out rfl), 0, rfl⟩

end Go.Proofs.Ytclpkmplifcfjaa
