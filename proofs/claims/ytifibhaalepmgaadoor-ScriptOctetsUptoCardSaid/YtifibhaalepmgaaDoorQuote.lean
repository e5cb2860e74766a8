/-
  Quote: what it gives, for all bytes. No conditions but the length's.
-/
import Derived.Test.YtifibhaalepmgaaDoorQuoteP
import Derived.Test.YtifibhaalepmgaaDoorFair
namespace Go.Proofs.YtifibhaalepmgaaDoor
open Go.RowKit

def ints (bs : List UInt8) : List Int := bs.map fun b => (b.toNat : Int)
theorem ints_len (bs : List UInt8) : (ints bs).length = bs.length := by simp [ints]
theorem ints_at (bs : List UInt8) (k : Nat) (h : k < bs.length) : (ints bs).getD k 0 = ((bs.getD k 0).toNat : Int) := by simp [ints, List.getD_eq_getElem?_getD, h]

def hexB : ByteArray := ⟨#[48, 49, 50, 51, 52, 53, 54, 55, 56, 57, 97, 98, 99, 100, 101, 102]⟩
theorem hexAt (m k : Nat) (h : m < hexB.size) (hk : m = k) : ((hexB[m]'h).toNat : Int) = ((hexd k).toNat : Int) := by
  subst hk
  have e : hexd m = hexB.data[m]'h := by unfold hexd; rw [List.getD_eq_getElem?_getD, List.getElem?_eq_getElem (show m < hexs.length from h)]; rfl
  rw [e]
  rfl

def QuotePost (bs : List UInt8) (w : World) : Ending → World → Prop := fun e w' => e = .returned (.string ⟨(quoteL bs).toArray⟩) ∧ Below w.heap.size w w'

set_option maxHeartbeats 2000000 in
set_option maxRecDepth 100000 in
theorem quote_any (v : Value) (bs : List UInt8) (w : World) (hr : Reads w .u8 v (ints bs)) (hlen : bs.length ≤ 10000000000) :
    Calls Tryd.prog 16 #[v] w (QuotePost bs w) := by
  obtain ⟨a, cap, rfl, hl, hc⟩ := hr.open
  rw [ints_len] at hl hc ⊢
  have HC := Lib.hid hc
  have N := Lib.hid (rfl : bs.length = bs.length)
  clear hc hr
  go_enter Tryd.func16, Tryd.ntmps16
  go_wp2_with fail
  refine (writeByte_any w.heap.size w.heap.size [] 34 34 _ rfl (IsB.new w (Nat.le_refl _)) (by simp) (by simp)).mono ?_
  rintro e w1 ⟨rfl, hb1, hbel1⟩
  go_wp2_with fail
  go_loopw [9] (fun i wr => ∃ k : Nat, k ≤ bs.length ∧ i = .int .i64 k ∧ IsB wr w.heap.size w.heap.size (34 :: (bs.take k).flatMap esc) ∧ Below w.heap.size w wr) (fun i _ => bs.length - (intOf i).toNat)
  case atStart =>
    refine ⟨0, Nat.zero_le _, rfl, hb1, ?_⟩
    exact Below.trans (by go_grown) hbel1
  case round =>
    obtain ⟨k, hk, rfl, hb, hbel⟩ := hrel
    have fl := flat_len (bs.take k)
    have tl : (bs.take k).length ≤ bs.length := List.length_take_le' k bs
    have hsz := hbel.size
    by_cases hlt : k < bs.length
    · obtain ⟨b, o, rfl, g0⟩ := HC.out k hlt
      have g := old_cell hbel g0
      rw [ints_at bs k hlt] at g
      have S := Lib.hid (take_esc bs k hlt)
      have hc1 := (bs.getD k 0).toNat_lt
      have EC : Hid (esc (bs.getD k 0) = esc (bs.getD k 0)) := Lib.hid rfl
      generalize bs.getD k 0 = c at *
      clear g0
      have hn : ∃ n : Int, n = (c.toNat : Int) := ⟨_, rfl⟩
      obtain ⟨n, hn⟩ := hn
      rw [← hn] at g
      have n0 : 0 ≤ n := by omega
      have n1 : n ≤ 255 := by omega
      have HN := Lib.hid hn
      generalize (bs.take k).flatMap esc = X at *
      have XL : X.length ≤ 40000000000 := by omega
      clear fl tl
      by_cases h1 : n = 34 ∨ n = 92
      · have E := Lib.hid (show esc c = [92, c] from by unfold esc; rw [if_pos (by omega)])
        clear hc1 hn
        rcases h1 with rfl | rfl
        all_goals
          go_wp2_with fail
          refine (writeByte_any w.heap.size w.heap.size _ 92 92 _ rfl hb (by simp; omega) hsz).mono ?_
          rintro e w2 ⟨rfl, hb2, hbel2⟩
          have bel2 := hbel.trans hbel2
          go_wp2_with fail
          refine (writeByte_any w.heap.size w.heap.size _ c _ _ HN.out hb2 (by simp; omega) bel2.size).mono ?_
          rintro e w3 ⟨rfl, hb3, hbel3⟩
          have bel3 := bel2.trans hbel3
          go_wp2_with fail
          go_roundw
          case rel => exact ⟨k + 1, by omega, by go_num, by rw [S.out, E.out]; simpa using hb3, bel3⟩
          case measure => simp [intOf]; omega
      · by_cases h2 : 32 ≤ n ∧ n ≤ 126
        · have E := Lib.hid (show esc c = [c] from by unfold esc; rw [if_neg (by omega), if_pos (by omega)])
          have d1 : (n == 34) = false := by simp; omega
          have d2 : (n == 92) = false := by simp; omega
          clear hc1 hn h1
          obtain ⟨n2, n3⟩ := h2
          go_wp2_with fail
          refine (writeByte_any w.heap.size w.heap.size _ c _ _ HN.out hb (by simp; omega) hsz).mono ?_
          rintro e w2 ⟨rfl, hb2, hbel2⟩
          have bel2 := hbel.trans hbel2
          go_wp2_with fail
          go_roundw
          case rel => exact ⟨k + 1, by omega, by go_num, by rw [S.out, E.out]; simpa using hb2, bel2⟩
          case measure => simp [intOf]; omega
        · have E := Lib.hid (show esc c = [92, 120, hexd (c.toNat / 16), hexd (c.toNat % 16)] from by unfold esc; rw [if_neg (by omega), if_neg (by omega)])
          have d1 : (n == 34) = false := by simp; omega
          have d2 : (n == 92) = false := by simp; omega
          clear hc1 hn h1
          rcases (show n < 32 ∨ (32 ≤ n ∧ 126 < n) from by omega) with h3 | ⟨h3, h4⟩
          all_goals
            clear h2
            go_wp2_with fail
            refine (writeString_any w.heap.size w.heap.size _ ⟨#[92, 120]⟩ _ hb (show _ + 2 ≤ _ by simp; omega) hsz).mono ?_
            rintro e w2 ⟨rfl, hb2', hbel2⟩
            have hb2 : IsB w2 w.heap.size w.heap.size (34 :: X ++ [92, 120]) := hb2'
            have bel2 := hbel.trans hbel2
            clear hb2'
            go_wp2_with fail
            refine (writeByte_any w.heap.size w.heap.size _ (hexd (c.toNat / 16)) _ _ (hexAt _ _ _ (by have := HN.out; omega)) hb2 (by simp; omega) bel2.size).mono ?_
            rintro e w3 ⟨rfl, hb3, hbel3⟩
            have bel3 := bel2.trans hbel3
            go_wp2_with fail
            refine (writeByte_any w.heap.size w.heap.size _ (hexd (c.toNat % 16)) _ _ (hexAt _ _ _ (by have := HN.out; omega)) hb3 (by simp; omega) bel3.size).mono ?_
            rintro e w4 ⟨rfl, hb4, hbel4⟩
            have bel4 := bel3.trans hbel4
            go_wp2_with fail
            go_roundw
            case rel => exact ⟨k + 1, by omega, by go_num, by rw [S.out, E.out]; simpa using hb4, bel4⟩
            case measure => simp [intOf]; omega
    · have hkk : k = bs.length := by omega
      subst hkk
      rw [List.take_length] at hb fl
      have Q := Lib.hid (show quoteL bs = 34 :: bs.flatMap esc ++ [34] from rfl)
      generalize bs.flatMap esc = X at *
      go_wp2_with fail
      refine (writeByte_any w.heap.size w.heap.size _ 34 34 _ rfl hb (by simp; omega) hsz).mono ?_
      rintro e w2 ⟨rfl, hb2, hbel2⟩
      have bel2 := hbel.trans hbel2
      go_wp2_with fail
      refine (string_any w.heap.size w.heap.size _ _ hb2 (by simp)).mono ?_
      rintro e w3 ⟨rfl, hbel3⟩
      go_wp2_with fail
      go_ret
      exact ⟨by rw [Q.out]; rfl, bel2.trans hbel3⟩

end Go.Proofs.YtifibhaalepmgaaDoor
