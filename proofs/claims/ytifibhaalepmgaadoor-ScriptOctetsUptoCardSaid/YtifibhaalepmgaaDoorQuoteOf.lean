/-
  The reference's QuoteOf. No conditions.
-/
import Derived.Test.YtifibhaalepmgaaDoorQuote
import Derived.Deep.CutRange
import Derived.StillTailTactics
namespace Go.Proofs.YtifibhaalepmgaaDoor
open Go.RowKit
set_option linter.unusedVariables false

theorem bytes_eq {a b : ByteArray} (h : a.data.toList = b.data.toList) : a = b := by
  cases a; cases b; simpa using h

theorem and15 (c : UInt8) : bits .and .u8 (c.toNat : Int) 15 = (c.toNat : Int) % 16 := by
  have h : ∀ j : Fin 256, bits .and .u8 (j.val : Int) 15 = (j.val : Int) % 16 := by decide +kernel
  exact h ⟨c.toNat, c.toNat_lt⟩
theorem hexConv (k : Nat) (w : World) (h : k < 16) : (convert 5 9 (.int .u8 ((hexd k).toNat : Int))).run Tryd.prog w = .ok (.string ⟨#[hexd k]⟩) w := by
  have e : ∀ j : Fin 16, Utf8.encode ((hexd j.val).toNat : Int) = ⟨#[hexd j.val]⟩ := by decide +kernel
  rw [← e ⟨k, h⟩]
  simp [convert, run_underlying Tryd.underlying5, run_underlying Tryd.underlying9, Conv.intToString]
theorem still_conv {P : Program} {ops : Array Oper} {w : World} {Q : Act → Prop} {a : Act} {o : Oper} {rest : List Oper} (src dst : TypeId) (x : Operand) (n : Int) (r : ByteArray) (hg : o.guard = none) (ho : o.op = .convert src dst x)
    (hx : a.eval x = .int .u8 n) (hc : (convert src dst (.int .u8 n)).run P w = .ok (.string r) w) (h : wpStill P ops w Q rest (a.put o.dst (.string r))) : wpStill P ops w Q (o :: rest) a := by
  have hw : Region.wanted o (yielded ops a.tmps) = true := by simp [Region.wanted, hg]
  unfold wpStill
  rw [if_pos hw]
  unfold Oper.still execOp
  simp only [ho, Sem.run_bind, Sem.run_pure, hx, hc, Result.andThen_ok]
  exact ⟨rfl, h⟩

set_option maxHeartbeats 2000000 in
set_option maxRecDepth 100000 in
theorem quoteOf_any (v : Value) (bs : List UInt8) (w : World) (hr : Reads w .u8 v (ints bs)) (hlen : bs.length ≤ 10000000000) :
    Calls Tryd.prog 17 #[v] w (QuotePost bs w) := by
  obtain ⟨a, cap, rfl, hl, hc⟩ := hr.open
  rw [ints_len] at hl hc ⊢
  have HC := Lib.hid hc
  have N := Lib.hid (rfl : bs.length = bs.length)
  clear hc hr
  go_enter Tryd.func17, Tryd.ntmps17
  go_wp2_with fail
  refine (writeByte_any w.heap.size w.heap.size [] 34 34 _ rfl (IsB.new w (Nat.le_refl _)) (by simp) (by simp)).mono ?_
  rintro e w1 ⟨rfl, hb1, hbel1⟩
  go_wp2_with fail
  go_loopw [9] (fun i wr => ∃ k : Nat, k ≤ bs.length ∧ i = .int .i64 k ∧ IsB wr w.heap.size w.heap.size (34 :: (bs.take k).flatMap esc) ∧ Below w.heap.size w wr) (fun i _ => bs.length - (intOf i).toNat)
  case atStart =>
    refine ⟨0, Nat.zero_le _, rfl, hb1, ?_⟩
    exact Below.trans (by go_grown) hbel1
  case round =>
    obtain ⟨k, hk, rfl, hb, hbel⟩ := hrel
    have fl := flat_len (bs.take k)
    have tl : (bs.take k).length ≤ bs.length := List.length_take_le' k bs
    have hsz := hbel.size
    by_cases hlt : k < bs.length
    · obtain ⟨b, o, rfl, g0⟩ := HC.out k hlt
      have g := old_cell hbel g0
      rw [ints_at bs k hlt] at g
      have S := Lib.hid (take_esc bs k hlt)
      have hc1 := (bs.getD k 0).toNat_lt
      have EC : Hid (esc (bs.getD k 0) = esc (bs.getD k 0)) := Lib.hid rfl
      generalize bs.getD k 0 = c at *
      clear g0
      have hn : ∃ n : Int, n = (c.toNat : Int) := ⟨_, rfl⟩
      obtain ⟨n, hn⟩ := hn
      rw [← hn] at g
      have n0 : 0 ≤ n := by omega
      have n1 : n ≤ 255 := by omega
      have HN := Lib.hid hn
      generalize (bs.take k).flatMap esc = X at *
      have XL : X.length ≤ 40000000000 := by omega
      clear fl tl
      by_cases h1 : n = 34 ∨ n = 92
      · have E := Lib.hid (show esc c = [92, c] from by unfold esc; rw [if_pos (by omega)])
        clear hc1 hn
        rcases h1 with rfl | rfl
        all_goals
          go_wp2_with fail
          refine (writeByte_any w.heap.size w.heap.size _ 92 92 _ rfl hb (by simp; omega) hsz).mono ?_
          rintro e w2 ⟨rfl, hb2, hbel2⟩
          have bel2 := hbel.trans hbel2
          go_wp2_with fail
          refine (writeByte_any w.heap.size w.heap.size _ c _ _ HN.out hb2 (by simp; omega) bel2.size).mono ?_
          rintro e w3 ⟨rfl, hb3, hbel3⟩
          have bel3 := bel2.trans hbel3
          go_wp2_with fail
          go_roundw
          case rel => exact ⟨k + 1, by omega, by go_num, by rw [S.out, E.out]; simpa using hb3, bel3⟩
          case measure => simp [intOf]; omega
      · by_cases h2 : 32 ≤ n ∧ n ≤ 126
        · have E := Lib.hid (show esc c = [c] from by unfold esc; rw [if_neg (by omega), if_pos (by omega)])
          have d1 : (n == 34) = false := by simp; omega
          have d2 : (n == 92) = false := by simp; omega
          clear hc1 hn h1
          obtain ⟨n2, n3⟩ := h2
          go_wp2_with fail
          refine (writeByte_any w.heap.size w.heap.size _ c _ _ HN.out hb (by simp; omega) hsz).mono ?_
          rintro e w2 ⟨rfl, hb2, hbel2⟩
          have bel2 := hbel.trans hbel2
          go_wp2_with fail
          go_roundw
          case rel => exact ⟨k + 1, by omega, by go_num, by rw [S.out, E.out]; simpa using hb2, bel2⟩
          case measure => simp [intOf]; omega
        · have E := Lib.hid (show esc c = [92, 120, hexd (c.toNat / 16), hexd (c.toNat % 16)] from by unfold esc; rw [if_neg (by omega), if_neg (by omega)])
          have d1 : (n == 34) = false := by simp; omega
          have d2 : (n == 92) = false := by simp; omega
          clear hc1 hn h1
          rcases (show n < 32 ∨ (32 ≤ n ∧ 126 < n) from by omega) with h3 | ⟨h3, h4⟩
          all_goals
            clear h2
            go_wp2_with fail
            have hand : bits .and .u8 n 15 = n % 16 := by rw [HN.out]; exact and15 c
            have i1 : n / 16 < 16 := by omega
            have i2 : 0 ≤ n / 16 := by omega
            have i3 : n % 16 < 16 := by omega
            have i4 : 0 ≤ n % 16 := by omega
            refine wp_region_still_tail 10 (by kernel_rfl) (by kernel_rfl) ?_
            simp only [List.take_succ_cons, List.take_zero, List.drop_succ_cons, List.drop_zero]
            still_step
            still_step
            still_step
            refine still_conv 5 9 _ ((hexd (c.toNat / 16)).toNat : Int) ⟨#[hexd (c.toNat / 16)]⟩ rfl rfl (congrArg (Value.int .u8) (hexAt _ _ _ (by have := HN.out; omega))) (hexConv _ _ (by have := c.toNat_lt; omega)) ?_
            still_step
            still_step
            still_step
            still_step
            refine still_conv 5 9 _ ((hexd (c.toNat % 16)).toNat : Int) ⟨#[hexd (c.toNat % 16)]⟩ rfl rfl (congrArg (Value.int .u8) (hexAt _ _ _ (by have := HN.out; omega))) (hexConv _ _ (by have := c.toNat_lt; omega)) ?_
            still_step
            refine wpStill_nil ?_
            change wpList _ _ _ _ _ wr.drew
            have hbd : IsB wr.drew w.heap.size w.heap.size (34 :: X) := hb
            have bld := hbel.drew
            generalize wr.drew = W2 at *
            go_wp2_with fail
            refine (writeString_any w.heap.size w.heap.size (34 :: X) _ W2 hbd ?_ bld.size).mono ?_
            · have z2 : ({ data := #[92, 120] } : ByteArray).size = 2 := rfl
              have z1 : ∀ y : UInt8, ({ data := #[y] } : ByteArray).size = 1 := fun _ => rfl
              simp only [ByteArray.size_append, z1, z2, List.length_cons]
              omega
            rintro e w2 ⟨rfl, hb2', hbel2⟩
            have hb2 : IsB w2 w.heap.size w.heap.size (34 :: X ++ [92, 120, hexd (c.toNat / 16), hexd (c.toNat % 16)]) := by simpa using hb2'
            have bel2 := bld.trans hbel2
            clear hb2'
            go_wp2_with fail
            go_roundw
            case rel => exact ⟨k + 1, by omega, by go_num, by rw [S.out, E.out]; simpa using hb2, bel2⟩
            case measure => simp [intOf]; omega
    · have hkk : k = bs.length := by omega
      subst hkk
      rw [List.take_length] at hb fl
      have Q := Lib.hid (show quoteL bs = 34 :: bs.flatMap esc ++ [34] from rfl)
      generalize bs.flatMap esc = X at *
      go_wp2_with fail
      refine (string_any w.heap.size w.heap.size _ _ hb (by simp)).mono ?_
      rintro e w3 ⟨rfl, hbel3⟩
      have c1 : ¬ 9223372036854775807 < X.length + 1 + 1 := by omega
      go_wp2_with fail
      go_ret
      refine ⟨congrArg (fun b => Ending.returned (.string b)) (bytes_eq ?_), hbel.trans hbel3⟩
      rw [Q.out]
      simp

end Go.Proofs.YtifibhaalepmgaaDoor
