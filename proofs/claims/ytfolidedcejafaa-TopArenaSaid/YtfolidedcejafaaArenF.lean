/-
  The law's own map of contents; ContainsFunc with the law's two tests. Conditions: numbers in their bounds.
-/
import Derived.Test.YtfolidedcejafaaArenT
import Derived.Test.YtfolidedcejafaaEqualB
namespace Go.Proofs.Ytfolidedcejafaa
open Go.RowKit
set_option linter.unusedVariables false

/-- The map of contents: region o has octet o. -/
def Content (w : World) (mb : Nat) (lr : Int) (n : Nat) : Prop := ∃ D : DataW Unit, w.ownsMap Try.prog 3 (plainElem Try.prog 5) mb n D ∧ ∀ o : Int, 1 ≤ o → o ≤ lr → D.atKey (.int .i64 o) (.lit (.int .u8 0)) = .lit (.int .u8 (o % 256))
theorem Content.same {w w' : World} {mb n : Nat} {lr : Int} (h : Content w mb lr n) (hs : w'.heap[mb]? = w.heap[mb]?) : Content w' mb lr n := by
  obtain ⟨D, h1, h2⟩ := h
  exact ⟨D, ownsMap_same' h1 hs, h2⟩
where
  ownsMap_same' {w w' : World} {b n : Nat} {D : DataW Unit} (h : w.ownsMap Try.prog 3 (plainElem Try.prog 5) b n D) (hs : w'.heap[b]? = w.heap[b]?) : w'.ownsMap Try.prog 3 (plainElem Try.prog 5) b n D := by
    obtain ⟨es, clock, hb, rest⟩ := h
    exact ⟨es, clock, hs.trans hb, rest⟩
theorem Content.lt {w : World} {mb n : Nat} {lr : Int} (h : Content w mb lr n) : mb < w.heap.size := by
  obtain ⟨D, h1, _⟩ := h
  exact h1.lt

theorem Content.look {w : World} {mb n : Nat} {lr : Int} (h : Content w mb lr n) (o : Int) (h1 : 1 ≤ o) (h2 : o ≤ lr) (h3 : lr ≤ 1000000000000000000) :
    (Instr.lookup 36 (.map (some mb)) (.int .i64 o) false).run Try.prog w = .ok (.int .u8 (o % 256)) w := by
  obtain ⟨D, hm, hl⟩ := h
  have hwf : (Lit.int .i64 o).wf = true := WalkArith.wf_i64 (by omega)
  obtain ⟨c, hrun, hat, _⟩ := hm.lookup_int (Maps.int_keyed Try.underlying3) Try.underlying36 Try.underlying5 (zero_byte w) (Maps.keyOf_int_mk Try.underlying3 hwf)
  rw [hl o h1 h2] at hat
  simp only [DataW.lit.injEq, Lit.int.injEq, true_and] at hat
  rw [hrun, ← hat]

set_option maxRecDepth 100000 in
theorem zeroTest_any (w : World) : Calls Try.prog 17 #[.int .u8 0] w (fun e w' => e = .returned (.bool false) ∧ w = w') := by
  go_enter Try.func17, Try.ntmps17
  go_wp2_with fail
  go_ret
  exact ⟨rfl, rfl⟩

set_option maxRecDepth 100000 in
theorem noTest_any (mb B X n : Nat) (lr o : Int) (w : World) (hc : Content w mb lr n) (h1 : 1 ≤ o) (h2 : o ≤ lr) (h3 : lr ≤ 1000000000000000000) (hb : w.cell? ⟨B, 0, none⟩ = some (.map (some mb))) (hx : w.cell? ⟨X, 0, none⟩ = some (.int .i64 o)) :
    Calls Try.prog 49 #[.int .u8 (o % 256), .pointer (some ⟨B, 0, none⟩), .pointer (some ⟨X, 0, none⟩)] w (fun e w' => e = .returned (.bool false) ∧ w = w') := by
  have L := hc.look o h1 h2 h3
  generalize ho : o % 256 = z at *
  clear hc
  go_enter Try.func49, Try.ntmps49
  go_wp2_with fail
  go_ret
  exact ⟨rfl, rfl⟩

/-- A call that finds nothing. -/
def NonePost (w : World) : Ending → World → Prop := fun e w' => e = .returned (.int .i64 (-1)) ∧ w = w'

set_option maxHeartbeats 1000000 in
set_option maxRecDepth 100000 in
theorem idxZero_any (v : Value) (n : Nat) (w : World) (hr : Reads w .u8 v (zeros n)) :
    Calls Try.prog 45 #[v, .func (.func 17) #[] #[]] w (NonePost w) := by
  obtain ⟨a, cap, rfl, hl, hc⟩ := hr.open
  have hlen : (zeros n).length = n := by simp [zeros]
  rw [hlen] at hl hc ⊢
  have HC := Lib.hid hc
  clear hc hr
  go_enter Try.func45, Try.ntmps45
  go_wp2_with fail
  go_loop [5, 8] (fun _ i => ∃ k : Nat, k ≤ n ∧ i = .int .i64 k) (fun _ i => n - (intOf i).toNat)
  case atStart => exact ⟨0, Nat.zero_le _, rfl⟩
  case round =>
    obtain ⟨k, hk, rfl⟩ := hrel
    by_cases hlt : k < n
    · obtain ⟨b, o, rfl, g⟩ := HC.out k hlt
      have gz : (zeros n).getD k 0 = 0 := by simp [zeros, List.getD_eq_getElem?_getD, hlt]
      rw [gz] at g
      clear gz
      go_wp2_with fail
      refine (zeroTest_any w).mono ?_
      rintro e w' ⟨rfl, rfl⟩
      go_wp2_with fail
      go_round
      case rel => exact ⟨k + 1, by omega, by go_num⟩
      case measure => simp [intOf]; omega
    · obtain rfl : k = n := by omega
      clear hlt hk
      go_wp2_with fail
      go_ret
      exact ⟨rfl, rfl⟩

set_option maxHeartbeats 1000000 in
set_option maxRecDepth 100000 in
theorem idxNo_any (v : Value) (n : Nat) (mb B X N : Nat) (lr no : Int) (w : World) (hr : Reads w .u8 v (List.replicate n (no % 256))) (hco : Content w mb lr N) (h1 : 1 ≤ no) (h2 : no ≤ lr) (h3 : lr ≤ 1000000000000000000) (hb : w.cell? ⟨B, 0, none⟩ = some (.map (some mb))) (hx : w.cell? ⟨X, 0, none⟩ = some (.int .i64 no)) :
    Calls Try.prog 45 #[v, .func (.func 49) #[] #[.pointer (some ⟨B, 0, none⟩), .pointer (some ⟨X, 0, none⟩)]] w (NonePost w) := by
  obtain ⟨a, cap, rfl, hl, hc⟩ := hr.open
  have T := Lib.hid (noTest_any mb B X N lr no w hco h1 h2 h3 hb hx)
  rw [List.length_replicate] at hl hc ⊢
  have HC := Lib.hid hc
  clear hc hr hco h1 h2 h3 hb hx
  go_enter Try.func45, Try.ntmps45
  go_wp2_with fail
  go_loop [5, 8] (fun _ i => ∃ k : Nat, k ≤ n ∧ i = .int .i64 k) (fun _ i => n - (intOf i).toNat)
  case atStart => exact ⟨0, Nat.zero_le _, rfl⟩
  case round =>
    obtain ⟨k, hk, rfl⟩ := hrel
    by_cases hlt : k < n
    · obtain ⟨b, o, rfl, g⟩ := HC.out k hlt
      have gz : (List.replicate n (no % 256)).getD k 0 = no % 256 := by simp [List.getD_eq_getElem?_getD, hlt]
      rw [gz] at g
      clear gz
      generalize no % 256 = z at *
      go_wp2_with fail
      refine T.out.mono ?_
      rintro e w' ⟨rfl, rfl⟩
      go_wp2_with fail
      go_round
      case rel => exact ⟨k + 1, by omega, by go_num⟩
      case measure => simp [intOf]; omega
    · obtain rfl : k = n := by omega
      clear hlt hk
      go_wp2_with fail
      go_ret
      exact ⟨rfl, rfl⟩

def NoPost (w : World) : Ending → World → Prop := fun e w' => e = .returned (.bool false) ∧ w = w'
set_option maxRecDepth 100000 in
theorem hasZero_any (v : Value) (n : Nat) (w : World) (hr : Reads w .u8 v (zeros n)) :
    Calls Try.prog 16 #[v, .func (.func 17) #[] #[]] w (NoPost w) := by
  have T := Lib.hid (idxZero_any v n w hr)
  clear hr
  go_enter Try.func16, Try.ntmps16
  go_wp2_with fail
  refine T.out.mono ?_
  rintro e w' ⟨rfl, rfl⟩
  go_wp2_with fail
  go_ret
  exact ⟨rfl, rfl⟩
set_option maxRecDepth 100000 in
theorem hasNo_any (v : Value) (n : Nat) (mb B X N : Nat) (lr no : Int) (w : World) (hr : Reads w .u8 v (List.replicate n (no % 256))) (hco : Content w mb lr N) (h1 : 1 ≤ no) (h2 : no ≤ lr) (h3 : lr ≤ 1000000000000000000) (hb : w.cell? ⟨B, 0, none⟩ = some (.map (some mb))) (hx : w.cell? ⟨X, 0, none⟩ = some (.int .i64 no)) :
    Calls Try.prog 16 #[v, .func (.func 49) #[] #[.pointer (some ⟨B, 0, none⟩), .pointer (some ⟨X, 0, none⟩)]] w (NoPost w) := by
  have T := Lib.hid (idxNo_any v n mb B X N lr no w hr hco h1 h2 h3 hb hx)
  clear hr hco h1 h2 h3 hb hx
  go_enter Try.func16, Try.ntmps16
  go_wp2_with fail
  refine T.out.mono ?_
  rintro e w' ⟨rfl, rfl⟩
  go_wp2_with fail
  go_ret
  exact ⟨rfl, rfl⟩

set_option maxHeartbeats 1000000 in
set_option maxRecDepth 100000 in
/-- slices.Contains at []int. -/
theorem contains_any (v : Value) (zs : List Int) (x : Int) (w : World) (hr : Reads w .i64 v zs) :
    Calls Try.prog 39 #[v, .int .i64 x] w (fun e w' => (∃ k : Int, -1 ≤ k ∧ e = .returned (.int .i64 k)) ∧ w = w') := by
  obtain ⟨a, cap, rfl, hl, hc⟩ := hr.open
  have HC := Lib.hid hc
  clear hc hr
  go_enter Try.func39, Try.ntmps39
  go_wp2_with fail
  go_loop [5, 8] (fun _ i => ∃ k : Nat, k ≤ zs.length ∧ i = .int .i64 k) (fun _ i => zs.length - (intOf i).toNat)
  case atStart => exact ⟨0, Nat.zero_le _, rfl⟩
  case round =>
    obtain ⟨k, hk, rfl⟩ := hrel
    by_cases hlt : k < zs.length
    · obtain ⟨b, o, rfl, g⟩ := HC.out k hlt
      generalize zs.getD k 0 = z at *
      by_cases hxz : x = z
      · subst hxz
        go_wp2_with fail
        go_ret
        exact ⟨⟨k, by omega, rfl⟩, rfl⟩
      · go_wp2_with fail
        go_round
        case rel => exact ⟨k + 1, by omega, by go_num⟩
        case measure => simp [intOf]; omega
    · obtain rfl : k = zs.length := by omega
      clear hlt hk
      go_wp2_with fail
      go_ret
      exact ⟨⟨-1, by omega, rfl⟩, rfl⟩
set_option maxRecDepth 100000 in
theorem containsInt_any (v : Value) (zs : List Int) (x : Int) (w : World) (hr : Reads w .i64 v zs) :
    Calls Try.prog 9 #[v, .int .i64 x] w (fun e w' => (∃ b, e = .returned (.bool b)) ∧ w = w') := by
  have T := Lib.hid (contains_any v zs x w hr)
  obtain ⟨a, cap, rfl, hl, hc⟩ := hr
  clear hc
  go_enter Try.func9, Try.ntmps9
  go_wp2_with fail
  refine T.out.mono ?_
  rintro e w' ⟨⟨k, hk, rfl⟩, rfl⟩
  go_wp2_with fail
  go_ret
  exact ⟨⟨_, rfl⟩, rfl⟩

end Go.Proofs.Ytfolidedcejafaa
